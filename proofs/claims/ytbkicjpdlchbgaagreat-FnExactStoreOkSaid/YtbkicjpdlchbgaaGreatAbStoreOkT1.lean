import Derived.Test.YtbkicjpdlchbgaaGreatAbStoreOkG2
import Derived.Test.YtbkicjpdlchbgaaGreatAbK2
import Derived.Test.YtbkicjpdlchbgaaGreatAbF4
import Derived.Test.YtbkicjpdlchbgaaGreatAbS2
namespace Go.Proofs.YtbkicjpdlchbgaaGreat.Ab
open Go
set_option linter.unusedVariables false
set_option linter.unusedSimpArgs false
set_option linter.unnecessarySimpa false
section
section
theorem p3t (n:Int):IntKind.u8.wrap n=n % 256:=by
 simp[IntKind.wrap,IntKind.bits,IntKind.signed]
theorem u0c (a b:Nat):decide ((a:Int)<(b:Int))=decide (a<b):=by simp
theorem s5l {X R A:Type} (W:X→Option R) (n:Nat) (mk:A→Int→X) (res:Nat→A→R) (P:Nat→A→Prop)
 (hend:∀a,P n a→W (mk a (n:Int))=some (res n a))
 (hstep:∀(i:Nat) a,i<n→P i a→W (mk a (i:Int))=some (res i a)∨ ∃a',P (i+1) a' ∧res (i+1) a' =res i a∧W (mk a (i:Int))=W (mk a' ((i+1:Nat):Int))):
 ∀(i:Nat) a,i≤n→P i a→W (mk a (i:Int))=some (res i a):=by
 intro i a hi hP
 obtain⟨d,hd⟩:∃d,i+d=n:=⟨n - i,by omega⟩
 clear hi
 induction d generalizing i a with
 | zero=>
  have:i=n:=by omega
  subst this
  exact hend a hP
 | succ d ih=>
  rcases hstep i a (by omega) hP with h | ⟨a',h1,h2,h3⟩
  ·exact h
  ·rw[h3,ih (i+1) a' h1 (by omega),h2]
def p9z {E A R:Type} (f:Nat→E→A→A⊕R) (fin:A→R):Nat→List E→A→R
 | _, [],a=>fin a
 | i,x::l,a=>match f i x a with
  | .inl a' =>p9z f fin (i+1) l a'
  | .inr r=>r
theorem p9v {X R A E:Type} (W:X→Option R) (l:List E) (mk:A→Int→X) (f:Nat→E→A→A⊕R) (fin:A→R) (P:Nat→A→Prop)
 (hend:∀a,P l.length a→W (mk a (l.length:Int))=some (fin a))
 (hstep:∀(i:Nat) (h:i<l.length) a,P i a→match f i l[i] a with
  | .inl a' =>P (i+1) a' ∧W (mk a (i:Int))=W (mk a' ((i+1:Nat):Int))
  | .inr r=>W (mk a (i:Int))=some r) (a:A) (hP:P 0 a):W (mk a 0)=some (p9z f fin 0 l a):=by
 have key:=s5l W l.length mk (fun i a=>p9z f fin i (l.drop i) a) P (fun a h=>by
  rw[hend a h,List.drop_eq_nil_of_le (Nat.le_refl _)];rfl) (fun i a hi hP=>by
   have hs:=hstep i hi a hP
   have hd:l.drop i=l[i] ::l.drop (i+1):=List.drop_eq_getElem_cons hi
   rw[hd]
   simp only[p9z]
   cases hf:f i l[i] a with
   | inl a' =>
    rw[hf] at hs
    exact .inr ⟨a',hs.1,rfl,hs.2⟩
   | inr r=>
    rw[hf] at hs
    exact .inl hs) 0 a (Nat.zero_le _) hP
 exact key
def szr (b:Int) (w:Nat):Int:=if(w:Int)≤b then b - w else -1
theorem r1k {b:Int} {w:Nat} (h:(w:Int)≤b):szr b w=b - w:=if_pos h
theorem p4l {b:Int} {w:Nat} (h: ¬(w:Int)≤b):szr b w= -1:=if_neg h
theorem p7q {b:Int} {v w:Nat} (h:(v:Int)≤b):szr (b - v) w=szr b (v+w):=by
 unfold szr
 by_cases h2:(w:Int)≤b - v
 ·rw[if_pos h2,if_pos (by omega)];omega
 ·rw[if_neg h2,if_neg (by omega)]
def Ty.wt:(t:Ty)→t.den→Nat
 | .int _,_=>0
 | .bool,_=>0
 | .str,s=>s.size
 | .sl e,l=>l.length+(l.map e.wt).sum
 | .pair a b,x=>a.wt x.1+b.wt x.2
theorem t5m {b:Int} {v w:Nat} {F:Option Int} {K:Int→Option Int} (hF:F=some (szr b v)) (hK:(v:Int)≤b→K (b - v)=some (szr (b - v) w)):
 (F.bind fun y=>bif decide (y<0) then some (-1) else K y)=some (szr b (v+w)):=by
 subst hF
 by_cases h:(v:Int)≤b
 ·rw[r1k h]
  have:decide (b - (v:Int)<0)=false:=by simp;omega
  simp only[zOb,this,cond_false]
  rw[hK h,p7q h]
 ·rw[p4l h,p4l (b:=b) (w:=v+w) (by omega)]
  rfl
theorem q18 {X R E:Type} (W:X→Option R) (l:List E) (mk:Int→X) (p:E→Bool) (yes no:R) (hend:W (mk (l.length:Int))=some no)
 (hstep:∀(i:Nat) (h:i<l.length),W (mk (i:Int))=bif p l[i] then some yes else W (mk ((i+1:Nat):Int))):W (mk 0)=some (bif l.any p then yes else no):=by
 have:=p9v W l (fun(_:Unit) i=>mk i) (fun _ x _=>if p x then .inr yes else .inl ()) (fun _=>no) (fun _ _=>True) (fun _ _=>hend) (fun i h a _=>by
  have hs:=hstep i h
  cases hp:p l[i] with
  | true=>simp only[hp,cond_true] at hs;simp only[if_true];exact hs
  | false=>simp only[hp,cond_false] at hs;simp only[Bool.false_eq_true,if_false];exact⟨trivial,hs⟩) () trivial
 rw[this]
 congr 1
 have key:∀(l:List E) (i:Nat),p9z (fun _ x (_:Unit)=>if p x then .inr yes else .inl ()) (fun _=>no) i l ()=bif l.any p then yes else no:=by
  intro l
  induction l with
  | nil=>intro i;rfl
  | cons x l ih=>
   intro i
   simp only[p9z,List.any_cons]
   cases hp:p x with
   | true=>simp
   | false=>simp only[Bool.false_eq_true,if_false,Bool.false_or];exact ih _
 exact key l 0
theorem t1s {X R E A:Type} (W:X→Option R) (l:List E) (mk:A→Int→X) (f:A→E→A) (fin:A→R) (P:Nat→A→Prop)
 (hend:∀a,P l.length a→W (mk a (l.length:Int))=some (fin a))
 (hstep:∀(i:Nat) (h:i<l.length) a,P i a→P (i+1) (f a l[i])∧W (mk a (i:Int))=W (mk (f a l[i]) ((i+1:Nat):Int))) (a:A) (hP:P 0 a):W (mk a 0)=some (fin (l.foldl f a)):=by
 have:=p9v W l mk (fun _ x a=> .inl (f a x)) fin P hend (fun i h a hp=>hstep i h a hp) a hP
 rw[this]
 congr 1
 have key:∀(l:List E) (i:Nat) (a:A),p9z (fun _ x a=>(.inl (f a x):A⊕R)) fin i l a=fin (l.foldl f a):=by
  intro l
  induction l with
  | nil=>intro i a;rfl
  | cons x l ih=>intro i a;simp only[p9z,List.foldl_cons];exact ih _ _
 exact key l 0 a
theorem s22 {X R E B:Type} (W:X→Option R) (l:List E) (mk:List B→Int→X) (p:E→Bool) (g:E→B) (fin:List B→R) (hl:l.length≤1099511627776)
 (hend:∀a:List B,a.length≤l.length→W (mk a (l.length:Int))=some (fin a))
 (hstep:∀(i:Nat) (h:i<l.length) (a:List B),a.length≤i→W (mk a (i:Int))=bif p l[i] then W (mk (a++ [g l[i]]) ((i+1:Nat):Int)) else W (mk a ((i+1:Nat):Int))):W (mk [] 0)=some (fin ((l.filter p).map g)):=by
 have:=t1s W l mk (fun a x=>if p x then a++ [g x] else a) fin (fun i a=>a.length≤i) hend (fun i h a hp=>by
  have hs:=hstep i h a hp
  cases hc:p l[i] with
  | true=>
   simp only[hc,cond_true] at hs
   simp only[if_true]
   exact⟨by simp;omega,hs⟩
  | false=>
   simp only[hc,cond_false] at hs
   simp only[Bool.false_eq_true,if_false]
   exact⟨by omega,hs⟩) [] (Nat.le_refl 0)
 rw[this]
 congr 1
 have key:∀(l:List E) (a:List B),l.foldl (fun a x=>if p x then a++ [g x] else a) a=a++(l.filter p).map g:=by
  intro l
  induction l with
  | nil=>intro a;simp
  | cons x l ih=>
   intro a
   simp only[List.foldl_cons,ih,List.filter_cons]
   cases hp:p x<;>simp
 rw[key];simp
end
section
theorem q7r (b:ByteArray):b.toList=toS b:=by rw[ByteArray.toList_eq];rfl
theorem o07 {a b:ByteArray} (h:toS a=toS b):a=b:=by rw[←y8p a,h,y8p]
theorem r93:∀(x y:List UInt8),Op.bytesLess x y=decide (x<y)
 | x, [] =>by simp[Op.bytesLess]
 | [],y::ys=>by simp[Op.bytesLess]
 | x::xs,y::ys=>by
  rw[Op.bytesLess,r93 xs ys,Bool.eq_iff_iff]
  simp[List.cons_lt_cons_iff]
theorem p7l {a b:ByteArray} :y3c a b=true↔toS a<toS b:=by
 unfold y3c
 rw[q7r,q7r,r93]
 simp
theorem o35 {a b:ByteArray} :y3c a b=false↔ ¬toS a<toS b:=by
 rw[←p7l];simp
theorem o2u (x:List UInt8): ¬x<x:=List.lt_irrefl x
theorem o2v {x y z:List UInt8} (h:x<y) (k:y<z):x<z:=List.lt_trans h k
theorem o2w (x y:List UInt8):x<y∨x=y∨y<x:=by
 rcases List.le_total x y with h | h
 ·rcases List.le_iff_lt_or_eq.mp h with h | h
  ·exact .inl h
  ·exact .inr (.inl h)
 ·rcases List.le_iff_lt_or_eq.mp h with h | h
  ·exact .inr (.inr h)
  ·exact .inr (.inl h.symm)
theorem u79 (a:ByteArray):y3c a a=false:=o35.mpr (o2u _)
theorem r7h {a b c:ByteArray} (h:y3c a b=true) (k:y3c b c=true):y3c a c=true:=p7l.mpr (o2v (p7l.mp h) (p7l.mp k))
theorem r8t (a b:ByteArray):y3c a b=true∨a=b∨y3c b a=true:=by
 rcases o2w (toS a) (toS b) with h | h | h
 ·exact .inl (p7l.mpr h)
 ·exact .inr (.inl (o07 h))
 ·exact .inr (.inr (p7l.mpr h))
theorem r2f {a b:ByteArray} (h:y3c a b=true):y3c b a=false:=by
 cases k:y3c b a with
 | false=>rfl
 | true=>exact absurd (r7h h k) (by rw[u79];exact Bool.false_ne_true)
theorem p3i {a b:ByteArray} :z7o a b=false↔a≠b:=by
 rw[←Bool.not_eq_true,y7f]
theorem q7p (a b:ByteArray):z7o a b=z7o b a:=by
 rw[Bool.eq_iff_iff,y7f,y7f]
 exact⟨Eq.symm,Eq.symm⟩
theorem p65 {a b:ByteArray} :(!(y3c a b || z7o a b))=y3c b a:=by
 rcases r8t a b with h | h | h
 ·rw[h,r2f h];rfl
 ·subst h;rw[u79,y6l];rfl
 ·rw[r2f h,h]
  have:z7o a b=false:=p3i.mpr (fun e=>by subst e;rw[u79] at h;cases h)
  rw[this];rfl
def Asc (l:List ByteArray):Prop:=l.Pairwise fun a b=>y3c a b=true
theorem Asc.ext:∀ {l m:List ByteArray},Asc l→Asc m→(∀x,x∈l↔x∈m)→l=m
 | [], [],_,_,_=>rfl
 | [],y::m,_,_,h=>by have:=(h y).mpr (by simp);simp at this
 | x::l, [],_,_,h=>by have:=(h x).mp (by simp);simp at this
 | x::l,y::m,hl,hm,h=>by
  have hl' :=List.pairwise_cons.mp hl
  have hm' :=List.pairwise_cons.mp hm
  have hxy:x=y:=by
   rcases List.mem_cons.mp ((h x).mp (by simp)) with e | e
   ·exact e
   ·rcases List.mem_cons.mp ((h y).mpr (by simp)) with e' | e'
    ·exact e'.symm
    ·have:=r7h (hm'.1 x e) (hl'.1 y e')
     rw[u79] at this;cases this
  subst hxy
  congr 1
  refine Asc.ext hl'.2 hm'.2 fun z=> ?_
  constructor
  ·intro hz
   rcases List.mem_cons.mp ((h z).mp (by simp[hz])) with e | e
   ·subst e;have:=hl'.1 z hz;rw[u79] at this;cases this
   ·exact e
  ·intro hz
   rcases List.mem_cons.mp ((h z).mpr (by simp[hz])) with e | e
   ·subst e;have:=hm'.1 z hz;rw[u79] at this;cases this
   ·exact e
theorem Asc.filter {l:List ByteArray} (h:Asc l) (p:ByteArray→Bool):Asc (l.filter p):=List.Pairwise.filter p h
def p56 (k:ByteArray) (l:List ByteArray):List ByteArray:=l.filter (fun x=>y3c x k)++ [k] ++l.filter (fun x=> !(y3c x k || z7o x k))
theorem p8r {k x:ByteArray} {l:List ByteArray} :x∈p56 k l↔x=k∨x∈l:=by
 simp only[p56,List.mem_append,List.mem_filter,List.mem_singleton,p65]
 constructor
 ·rintro((h | h) | h)
  ·exact .inr h.1
  ·exact .inl h
  ·exact .inr h.1
 ·rintro(h | h)
  ·exact .inl (.inr h)
  ·rcases r8t x k with e | e | e
   ·exact .inl (.inl ⟨h,e⟩)
   ·exact .inl (.inr e)
   ·exact .inr ⟨h,e⟩
theorem p8m {k:ByteArray} {l:List ByteArray} (h:Asc l):Asc (p56 k l):=by
 unfold Asc p56
 rw[List.pairwise_append,List.pairwise_append]
 refine⟨⟨h.filter _,by simp,fun a ha b hb=> ?_⟩,h.filter _,fun a ha b hb=> ?_⟩
 ·simp only[List.mem_singleton] at hb
  subst hb
  exact(List.mem_filter.mp ha).2
 ·have hb:=(List.mem_filter.mp hb).2
  rw[p65] at hb
  rcases List.mem_append.mp ha with ha | ha
  ·exact r7h (List.mem_filter.mp ha).2 hb
  ·simp only[List.mem_singleton] at ha
   subst ha
   exact hb
theorem p63 {l:List ByteArray} :∀ {a:List ByteArray},Asc a→Asc (l.foldl (fun a k=>p56 k a) a)∧ ∀x,x∈l.foldl (fun a k=>p56 k a) a↔x∈l∨x∈a:=by
 induction l with
 | nil=>intro a h;exact⟨h,fun x=>by simp⟩
 | cons k l ih=>
  intro a h
  obtain⟨h1,h2⟩:=ih (p8m (k:=k) h)
  refine⟨h1,fun x=> ?_⟩
  rw[List.foldl_cons,h2,p8r,List.mem_cons]
  constructor
  ·rintro(q | q | q)
   ·exact .inl (.inr q)
   ·exact .inl (.inl q)
   ·exact .inr q
  ·rintro((q | q) | q)
   ·exact .inr (.inl q)
   ·exact .inl q
   ·exact .inr (.inr q)
theorem r94 (d:Array (List UInt8)) (hs:∀i j:Nat,i≤j→j<d.size→d[i]! ≤d[j]!):∀m,m≤d.size→(Lib.compactUpTo d m).Pairwise (·< ·)∧(∀x,x∈Lib.compactUpTo d m↔ ∃i,i<m∧d[i]! =x)
 | 0,_=>by simp[Lib.compactUpTo]
 | m+1,hm=>by
  obtain⟨h1,h2⟩:=r94 d hs m (by omega)
  rw[Lib.compactUpTo_succ]
  by_cases hk:Lib.keeps d m=true
  ·rw[if_pos hk]
   constructor
   ·rw[List.pairwise_append]
    refine⟨h1,by simp,fun a ha b hb=> ?_⟩
    simp only[List.mem_singleton] at hb
    subst hb
    obtain⟨i,hi,rfl⟩:=(h2 a).mp ha
    unfold Lib.keeps at hk
    have hk:=of_decide_eq_true hk
    rcases hk with hk | hk
    ·omega
    ·have l1:=hs i (m - 1) (by omega) (by omega)
     have l2:=hs (m - 1) m (by omega) (by omega)
     rcases List.le_iff_lt_or_eq.mp l2 with l2 | l2
     ·rcases List.le_iff_lt_or_eq.mp l1 with l1 | l1
      ·exact o2v l1 l2
      ·rw[l1];exact l2
     ·exact absurd l2.symm hk
   ·intro x
    simp only[List.mem_append,List.mem_singleton,h2]
    constructor
    ·rintro(⟨i,hi,rfl⟩ | rfl)
     ·exact⟨i,by omega,rfl⟩
     ·exact⟨m,by omega,rfl⟩
    ·rintro⟨i,hi,rfl⟩
     rcases Nat.lt_or_ge i m with q | q
     ·exact .inl ⟨i,q,rfl⟩
     ·exact .inr (by rw[show i=m by omega])
  ·rw[if_neg hk,List.append_nil]
   refine⟨h1,fun x=> ?_⟩
   rw[h2]
   unfold Lib.keeps at hk
   simp only[decide_eq_true_eq,not_or,ne_eq,Decidable.not_not] at hk
   constructor
   ·rintro⟨i,hi,rfl⟩;exact⟨i,by omega,rfl⟩
   ·rintro⟨i,hi,rfl⟩
    rcases Nat.lt_or_ge i m with q | q
    ·exact⟨i,q,rfl⟩
    ·have:i=m:=by omega
     subst this
     exact⟨i - 1,by omega,hk.2.symm⟩
def q1f (l:List ByteArray):List ByteArray:=y6r (y4i l)
theorem p5i (l:List ByteArray):Asc (q1f l)∧ ∀x,x∈q1f l↔x∈l:=by
 obtain⟨d,hd⟩:∃d,d=(l.map toS).mergeSort fun x y=>decide (x≤y):=⟨_,rfl⟩
 have hk:q1f l=(Lib.compact d).map unS:=by
  unfold q1f y6r y4i
  rw[←hd,List.map_map]
  have:(toS ∘unS)=id:=by funext x;rfl
  rw[this,List.map_id]
 have hsort:d.Pairwise (·≤ ·):=by
  rw[hd]
  have:=List.pairwise_mergeSort (le:=fun(x y:List UInt8)=>decide (x≤y)) (fun a b c h1 h2=>by
   simp only[decide_eq_true_eq] at h1 h2 ⊢
   exact List.le_trans h1 h2) (fun a b=>by
   simp only[Bool.or_eq_true,decide_eq_true_eq]
   exact List.le_total a b) (l.map toS)
  exact this.imp (fun h=>by simpa using h)
 have hmem:∀x,x∈d↔x∈l.map toS:=fun x=>by rw[hd];exact(List.mergeSort_perm _ _).mem_iff
 have hs:∀i j:Nat,i≤j→j<d.toArray.size→d.toArray[i]! ≤d.toArray[j]! :=fun i j hij hj=>by
  have hj' :j<d.length:=by simpa using hj
  have hi' :i<d.length:=by omega
  rw[getElem!_pos _ i (by simpa using hi'),getElem!_pos _ j hj]
  simp only[List.getElem_toArray]
  rcases Nat.lt_or_ge i j with q | q
  ·exact List.pairwise_iff_getElem.mp hsort i j hi' hj' q
  ·have:i=j:=by omega
   subst this
   exact List.le_refl _
 obtain⟨h1,h2⟩:=r94 d.toArray hs d.length (by simp)
 rw[hk]
 constructor
 ·unfold Asc
  rw[List.pairwise_map]
  exact h1.imp (fun h=>p7l.mpr h)
 ·intro x
  rw[List.mem_map]
  constructor
  ·rintro⟨y,hy,rfl⟩
   obtain⟨i,hi,rfl⟩:=(h2 y).mp hy
   rw[getElem!_pos _ i (by simpa using hi)]
   have:d[i] ∈l.map toS:=(hmem _).mp (List.getElem_mem hi)
   obtain⟨z,hz,e⟩:=List.mem_map.mp this
   simp only[List.getElem_toArray]
   rw[←e,y8p]
   exact hz
  ·intro hx
   have:toS x∈d:=(hmem _).mpr (List.mem_map.mpr ⟨x,hx,rfl⟩)
   obtain⟨i,hi,e⟩:=List.mem_iff_getElem.mp this
   refine⟨toS x,(h2 _).mpr ⟨i,hi,?_⟩,y8p x⟩
   rw[getElem!_pos _ i (by simpa using hi)]
   simpa using e
theorem p13 (l:List ByteArray):(y4i l).length=l.length:=by simp[y4i]
theorem o0q (l:List ByteArray) (p:ByteArray→Bool):(l.filter p).foldl (fun a k=>p56 k a) [] =(q1f l).filter p:=by
 obtain⟨h1,h2⟩:=p63 (l:=l.filter p) (a:= []) List.Pairwise.nil
 obtain⟨k1,k2⟩:=p5i l
 refine Asc.ext h1 (k1.filter p) fun x=> ?_
 rw[h2,List.mem_filter,List.mem_filter,k2]
 simp
end
section
def u0l:Nat:=1099511627776
theorem p5c {α β:Type} {l:List α} {z:β} {i:Nat} {f:α→β} (h:i<l.length):
 ((l.map f).take i++List.replicate (l.length - i) z).set i (f l[i])=(l.map f).take (i+1)++List.replicate (l.length - (i+1)) z:=by
 have h1:((l.map f).take i).length=i:=by simp;omega
 rw[List.set_append_right _ _ (by omega),h1,Nat.sub_self]
 have:l.length - i=(l.length - (i+1))+1:=by omega
 rw[this,List.replicate_succ,List.set_cons_zero,List.take_add_one]
 simp[h]
theorem Q.copy {T T' :Ty} {S:Type} {q:T.den→Option T'.den} {g:T.den→T'.den} {W:List T.den×List T'.den×Int→Option (List T'.den⊕S)}
 (hW:∀x,W x=(bif (decide (x.2.2<(x.1.length:Int))) then(bif (y4q x.2.2 x.1.length) then((q (rdL T x.1 (x.2.2).toNat)).bind fun(y1:T'.den)=>
  (bif (y4q x.2.2 x.2.1.length) then(W (x.1,((x.2.1.set (x.2.2).toNat y1),(IntKind.i64.wrap (x.2.2+(1:Int)))))) else none)) else none) else(some (.inl x.2.1))))
 (l:List T.den) (hl:l.length≤1099511627776) (hq:∀x∈l,q x=some (g x)) (z:T'.den):W (l,(List.replicate ((l.length:Int)).toNat z,(0:Int)))=some (.inl (l.map g)):=by
 have:=s5l W l.length (fun(_:Unit) i=>(l,(l.map g).take i.toNat++List.replicate (l.length - i.toNat) z,i)) (fun _ _=> .inl (l.map g)) (fun _ _=>True)
  (fun a _=>by
   rw[hW]
   simp only[u0c,Nat.lt_irrefl,decide_false,cond_false,zTn]
   have h2:(l.map g).take l.length=l.map g:=List.take_of_length_le (by simp)
   simp[h2])
  (fun i a h _=> .inr ⟨(),trivial,rfl,by
   rw[hW]
   have h2:y4q (i:Int) ((l.map g).take i++List.replicate (l.length - i) z).length=true:=y7t (by simp;omega)
   simp only[u0c,h,decide_true,cond_true,y7t h,zTn,y8k h,hq _ (List.getElem_mem h),zOb,h2]
   rw[y7l (by omega),p5c h]⟩) 0 () (by omega) trivial
 simpa using this
theorem Q.copy0 {T:Ty} {S:Type} {W:List T.den×List T.den×Int→Option (List T.den⊕S)}
 (hW:∀x,W x=(bif (decide (x.2.2<(x.1.length:Int))) then(bif (y4q x.2.2 x.1.length) then(bif (y4q x.2.2 x.2.1.length) then(W (x.1,((x.2.1.set (x.2.2).toNat (rdL T x.1 (x.2.2).toNat)),(IntKind.i64.wrap (x.2.2+(1:Int)))))) else none) else none) else(some (.inl x.2.1))))
 (l:List T.den) (hl:l.length≤1099511627776) (z:T.den):W (l,(List.replicate ((l.length:Int)).toNat z,(0:Int)))=some (.inl l):=by
 have:=Q.copy (W:=W) (q:=fun x=>some x) (g:=fun x=>x) (fun x=>hW x) l hl (fun _ _=>rfl) z
 simpa using this
theorem Q.same {T:Ty} {S:Type} {q:T.den×T.den→Option Bool} {W:List T.den×List T.den×Int→Option (Unit⊕Bool)}
 (hW:∀x,W x=(bif (decide (x.2.2<(x.1.length:Int))) then(bif (y4q x.2.2 x.1.length) then(bif (y4q x.2.2 x.2.1.length) then
  ((q ((rdL T x.1 (x.2.2).toNat),(rdL T x.2.1 (x.2.2).toNat))).bind fun(y1:Bool)=>(bif (!y1) then(some (.inr false)) else(W (x.1,(x.2.1,(IntKind.i64.wrap (x.2.2+(1:Int)))))))) else none) else none) else(some (.inl ()))))
 (l:List T.den) (hl:l.length≤1099511627776) (hq:∀x∈l,q (x,x)=some true):W (l,(l,(0:Int)))=some (.inl ()):=
 s5l W l.length (fun(_:Unit) i=>(l,l,i)) (fun _ _=> .inl ()) (fun _ _=>True)
  (fun a _=>by
   rw[hW]
   simp only[u0c,Nat.lt_irrefl,decide_false,cond_false])
  (fun i a h _=> .inr ⟨(),trivial,rfl,by
   rw[hW]
   simp only[u0c,h,decide_true,cond_true,y7t h,zTn,y8k h,hq _ (List.getElem_mem h),zOb,Bool.not_true,cond_false]
   rw[y7l (by omega)]⟩) 0 () (by omega) trivial
theorem Q.size {T:Ty} {q:T.den×Int→Option Int} {W:List T.den×Int×Int→Option (Int⊕Int)}
 (hW:∀x,W x=(bif (decide (x.2.2<(x.1.length:Int))) then(bif (y4q x.2.2 x.1.length) then((q ((rdL T x.1 (x.2.2).toNat),x.2.1)).bind fun(y1:Int)=>
  (bif (decide (y1<(0:Int))) then(some (.inr (-1:Int))) else(W (x.1,(y1,(IntKind.i64.wrap (x.2.2+(1:Int)))))))) else none) else(some (.inl x.2.1))))
 (l:List T.den) (hl:l.length≤1099511627776) (hq:∀x∈l,∀c:Int,0≤c→c≤1048576→ ∃y,q (x,c)=some y∧if(T.wt x:Int)≤c then y=c - T.wt x else y<0) (b:Int) (hb:0≤b) (hb2:b≤1048576):
 ((W (l,(b,(0:Int)))).bind fun r=>match r with
  | .inl o=>some o
  | .inr z=>some z)=some (szr b (l.map T.wt).sum):=by
 have key:=s5l W l.length (fun(c:Int) i=>(l,c,i)) (fun i c=>if(((l.drop i).map T.wt).sum:Int)≤c then .inl (c - ((l.drop i).map T.wt).sum) else .inr (-1)) (fun _ c=>0≤c∧c≤1048576)
  (fun c hc=>by
   rw[hW]
   simp only[u0c,Nat.lt_irrefl,decide_false,cond_false,List.drop_length,List.map_nil,List.sum_nil]
   rw[if_pos (by simpa using hc.1)]
   simp)
  (fun i c h hc=>by
   have hd:l.drop i=l[i] ::l.drop (i+1):=List.drop_eq_getElem_cons h
   obtain⟨y,hy,hy2⟩:=hq _ (List.getElem_mem h) c hc.1 hc.2
   rw[hW,hd]
   simp only[u0c,h,decide_true,cond_true,y7t h,zTn,y8k h,hy,zOb,List.map_cons,List.sum_cons]
   by_cases hw:(T.wt l[i] :Int)≤c
   ·right
    rw[if_pos hw] at hy2
    subst hy2
    refine⟨c - T.wt l[i],⟨by omega,by omega⟩,?_,?_⟩
    ·by_cases h2:(((l.drop (i+1)).map T.wt).sum:Int)≤c - T.wt l[i]
     ·rw[if_pos h2,if_pos (by omega)];congr 1;omega
     ·rw[if_neg h2,if_neg (by omega)]
    ·have:decide (c - (T.wt l[i] :Int)<0)=false:=by simp;omega
     rw[this,cond_false,y7l (by omega)]
   ·left
    rw[if_neg hw] at hy2
    have:decide (y<0)=true:=by simp;omega
    rw[this,if_neg (by omega)]
    rfl) 0 b (by omega) ⟨hb,hb2⟩
 have key:W (l,b,0)=_:=key
 rw[key]
 simp only[List.drop_zero,zOb]
 unfold szr
 by_cases h:((l.map T.wt).sum:Int)≤b
 ·rw[if_pos h,if_pos h]
 ·rw[if_neg h,if_neg h]
theorem t5n {b:Int} {v w:Nat} {K:Option Int} (hK:(v:Int)≤b→K=some (szr (b - v) w)):(bif decide (b - (v:Int)<0) then some (-1) else K)=some (szr b (v+w)):=by
 by_cases h:(v:Int)≤b
 ·have:decide (b - (v:Int)<0)=false:=by simp;omega
  rw[this,cond_false,hK h,p7q h]
 ·have:decide (b - (v:Int)<0)=true:=by simp;omega
  rw[this,p4l (b:=b) (w:=v+w) (by omega)]
  rfl
theorem r7k {b:Int} {w:Nat} :if(w:Int)≤b then szr b w=b - w else szr b w<0:=by
 unfold szr
 split<;>rename_i h<;>simp[h]
theorem o05 {b:Int} {w:Nat} {F:Option Int} {K:Int→Option Bool} (hF:F=some (szr b w)) (hK:(w:Int)≤b→K (b - w)=some true):
 (F.bind fun y=>bif decide (y<0) then some true else K y)=some true:=by
 subst hF
 by_cases h:(w:Int)≤b
 ·rw[r1k h]
  have:decide (b - (w:Int)<0)=false:=by simp;omega
  simp only[zOb,this,cond_false]
  exact hK h
 ·rw[p4l h]
  rfl
theorem t8e {α:Type} {f:α→Nat} {l:List α} {x:α} (h:x∈l):f x≤(l.map f).sum:=by
 induction l with
 | nil=>cases h
 | cons y l ih=>
  simp only[List.map_cons,List.sum_cons]
  rcases List.mem_cons.mp h with rfl | h
  ·omega
  ·have:=ih h;omega
theorem r2a {T:Ty} {l:List T.den} (h:(Ty.sl T).fine l) {x:T.den} (hx:x∈l):T.fine x:=by
 obtain⟨i,hi,rfl⟩:=List.getElem_of_mem hx
 exact h.2 i hi
abbrev u1z:Ty:=(.pair .str .str)
abbrev u01:Ty:=(.pair .str (.pair .str .bool))
abbrev u0b:Ty:=(.pair .str (.pair .str (.pair .bool (.int .i64))))
abbrev p8c:Ty:=(.pair .str .str)
abbrev o6x:Ty:=(.pair .str .str)
abbrev s5i:Ty:=(.pair (.int .i64) .str)
abbrev q8c:Ty:=(.pair (.sl .str) (.sl s5i))
abbrev u0o:Ty:=(.pair (.int .i64) (.pair (.int .i64) (.pair (.int .i64) (.pair (.int .i64) (.pair (.sl u1z) (.pair (.sl u01) (.pair .bool .str)))))))
abbrev q43:Ty:=(.pair (.sl u0b) (.pair (.sl u0o) (.pair (.sl u0o) (.pair (.int .i64) (.int .i64)))))
abbrev o4t:Ty:=(.pair (.int .i64) (.pair u0o (.pair .str (.pair .bool q43))))
abbrev s5m:Ty:=(.pair q43 (.sl u0o))
abbrev r90:Ty:=(.pair s5m q8c)
end
section
theorem p5v (l:List (Ty.str).den) (b:Int) (hf:(Ty.sl Ty.str).fine l) (hb:0≤b) (hb2:b≤1048576):t7v (l,b)=some (szr b ((Ty.sl Ty.str).wt l)):=by
 have hl:l.length≤9223372036854775807:=by have:=hf.1;simp only[maxLen] at this;exact this
 rw[q07];unfold s6t;simp only
 rw[y4y (n:=b - (l.length:Int)) (by omega) (by omega)]
 have hw:(Ty.sl Ty.str).wt l=l.length+(l.map (Ty.str).wt).sum:=rfl
 rw[hw];refine t5n (fun c=> ?_)
 exact Q.size (T:=Ty.str) (q:=(fun x=>some (IntKind.i64.wrap (x.2 - (x.1.size:Int))))) (W:=u9m) (fun x=>r7s x) l (by omega) (fun x hx c h1 h2=>⟨_,rfl,by have:=r2a hf hx;simp only[Ty.fine,maxLen] at this;simp only[Ty.wt];rw[y4y (by omega) (by omega)];by_cases hc:((ByteArray.size x:Nat):Int)≤c<;>simp only[hc,if_true,if_false] <;>omega⟩) (b - (l.length:Int)) (by omega) (by omega)
theorem p5x (l:List (Ty.str).den) (hx:(Ty.sl Ty.str).wt l≤1099511627776):t7w l=some l:=by
 have hw:(Ty.sl Ty.str).wt l=l.length+(l.map (Ty.str).wt).sum:=rfl
 rw[hw] at hx;rw[q09];unfold s6v
 have h1:(decide (0≤(l.length:Int))&&decide ((l.length:Int)≤1099511627776))=true:=by simp;omega
 have h2:u54 (l,(List.replicate ((l.length:Int)).toNat (Ty.str).zero),(0:Int))=some (.inl l):=Q.copy0 (T:=Ty.str) (W:=u54) (fun x=>r7t x) l (by omega) _
 simp only[h1,cond_true,h2,zOb]
theorem p49 (l:List (Ty.str).den) (hx:(Ty.sl Ty.str).wt l≤1099511627776):t7u (l,l)=some true:=by
 have hw:(Ty.sl Ty.str).wt l=l.length+(l.map (Ty.str).wt).sum:=rfl
 rw[hw] at hx;rw[q05];unfold s6r;simp only
 have h2:u53 (l,l,(0:Int))=some (.inl ()):=Q.same (T:=Ty.str) (S:=Unit) (q:=fun x=>some (z7o x.1 x.2)) (W:=u53) (fun x=>r7r x) l (by omega) (fun x _=>by simp[y6l])
 simp only[decide_true,Bool.not_true,cond_false,h2,zOb]
theorem p9d (x:(u1z).den) (b:Int) (hf:(u1z).fine x) (hb:0≤b) (hb2:b≤1048576):t6x (x,b)=some (szr b ((u1z).wt x)):=by
 obtain⟨hf0,hf1⟩:=hf
 have hs0:x.1.size≤9223372036854775807:=by have:=hf0;simp only[Ty.fine,maxLen] at this;exact this
 have hs1:x.2.size≤9223372036854775807:=by have:=hf1;simp only[Ty.fine,maxLen] at this;exact this
 have hw:(u1z).wt x=(x.1.size+(x.2.size+0)):=by simp only[Ty.wt] <;>omega
 rw[hw,q5s];unfold r3i;simp only
 rw[y4y (n:=b - (x.1.size:Int)) (by omega) (by omega)]
 refine t5n (fun c0=> ?_)
 rw[y4y (n:=b - ((x.1.size:Nat):Int) - (x.2.size:Int)) (by omega) (by omega)]
 refine t5n (fun c1=> ?_)
 rw[r1k (by omega)];simp
theorem p7o (l:List (u1z).den) (b:Int) (hf:(Ty.sl u1z).fine l) (hb:0≤b) (hb2:b≤1048576):t9z (l,b)=some (szr b ((Ty.sl u1z).wt l)):=by
 have hl:l.length≤9223372036854775807:=by have:=hf.1;simp only[maxLen] at this;exact this
 rw[q27];unfold s9r;simp only
 rw[y4y (n:=b - (l.length:Int)) (by omega) (by omega)]
 have hw:(Ty.sl u1z).wt l=l.length+(l.map (u1z).wt).sum:=rfl
 rw[hw];refine t5n (fun c=> ?_)
 exact Q.size (T:=u1z) (q:=t6x) (W:=t1a) (fun x=>r82 x) l (by omega) (fun x hx c h1 h2=>⟨_,p9d x c (r2a hf hx) h1 h2,r7k⟩) (b - (l.length:Int)) (by omega) (by omega)
theorem p9h (x:(u1z).den) (hx:(u1z).wt x≤1099511627776):t6z x=some x:=by
 rw[q5v];rfl
theorem p7t (l:List (u1z).den) (hx:(Ty.sl u1z).wt l≤1099511627776):t92 l=some l:=by
 have hw:(Ty.sl u1z).wt l=l.length+(l.map (u1z).wt).sum:=rfl
 rw[hw] at hx;rw[q3a];unfold s9u
 have h1:(decide (0≤(l.length:Int))&&decide ((l.length:Int)≤1099511627776))=true:=by simp;omega
 have h2:u6q (l,(List.replicate ((l.length:Int)).toNat (u1z).zero),(0:Int))=some (.inl (l.map fun x=>x)):=Q.copy (T:=u1z) (T' :=u1z) (q:=t6z) (W:=u6q) (fun x=>r84 x) l (by omega) (fun x hm=>p9h x (by have:=t8e (f:=(u1z).wt) hm;omega)) _
 rw[List.map_id'] at h2
 simp only[h1,cond_true,h2,zOb]
theorem p8h (x:(u1z).den) (hx:(u1z).wt x≤1099511627776):t6v (x,x)=some true:=by
 simp only[Ty.wt] at hx
 rw[q5p];unfold r3f;simp only
 simp only[zOb,y6l,decide_true,beq_self_eq_true,Bool.not_true,cond_false]
theorem p60 (l:List (u1z).den) (hx:(Ty.sl u1z).wt l≤1099511627776):t9w (l,l)=some true:=by
 have hw:(Ty.sl u1z).wt l=l.length+(l.map (u1z).wt).sum:=rfl
 rw[hw] at hx;rw[q24];unfold s9o;simp only
 have h2:u6o (l,l,(0:Int))=some (.inl ()):=Q.same (T:=u1z) (S:=Unit) (q:=t6v) (W:=u6o) (fun x=>r80 x) l (by omega) (fun x hm=>p8h x (by have:=t8e (f:=(u1z).wt) hm;omega))
 simp only[decide_true,Bool.not_true,cond_false,h2,zOb]
theorem p9f (x:(u01).den) (b:Int) (hf:(u01).fine x) (hb:0≤b) (hb2:b≤1048576):t6y (x,b)=some (szr b ((u01).wt x)):=by
 obtain⟨hf0,hf1,hf2⟩:=hf
 have hs0:x.1.size≤9223372036854775807:=by have:=hf0;simp only[Ty.fine,maxLen] at this;exact this
 have hs1:x.2.1.size≤9223372036854775807:=by have:=hf1;simp only[Ty.fine,maxLen] at this;exact this
 have hw:(u01).wt x=(x.1.size+(x.2.1.size+0)):=by simp only[Ty.wt] <;>omega
 rw[hw,q5u];unfold r3k;simp only
 rw[y4y (n:=b - (x.1.size:Int)) (by omega) (by omega)]
 refine t5n (fun c0=> ?_)
 rw[y4y (n:=b - ((x.1.size:Nat):Int) - (x.2.1.size:Int)) (by omega) (by omega)]
 refine t5n (fun c1=> ?_)
 rw[r1k (by omega)];simp
theorem p7p (l:List (u01).den) (b:Int) (hf:(Ty.sl u01).fine l) (hb:0≤b) (hb2:b≤1048576):t90 (l,b)=some (szr b ((Ty.sl u01).wt l)):=by
 have hl:l.length≤9223372036854775807:=by have:=hf.1;simp only[maxLen] at this;exact this
 rw[q28];unfold s9s;simp only
 rw[y4y (n:=b - (l.length:Int)) (by omega) (by omega)]
 have hw:(Ty.sl u01).wt l=l.length+(l.map (u01).wt).sum:=rfl
 rw[hw];refine t5n (fun c=> ?_)
 exact Q.size (T:=u01) (q:=t6y) (W:=t1b) (fun x=>r83 x) l (by omega) (fun x hx c h1 h2=>⟨_,p9f x c (r2a hf hx) h1 h2,r7k⟩) (b - (l.length:Int)) (by omega) (by omega)
theorem p9j (x:(u01).den) (hx:(u01).wt x≤1099511627776):t60 x=some x:=by
 rw[q5x];rfl
theorem p7u (l:List (u01).den) (hx:(Ty.sl u01).wt l≤1099511627776):t93 l=some l:=by
 have hw:(Ty.sl u01).wt l=l.length+(l.map (u01).wt).sum:=rfl
 rw[hw] at hx;rw[q3b];unfold s9v
 have h1:(decide (0≤(l.length:Int))&&decide ((l.length:Int)≤1099511627776))=true:=by simp;omega
 have h2:u6r (l,(List.replicate ((l.length:Int)).toNat (u01).zero),(0:Int))=some (.inl (l.map fun x=>x)):=Q.copy (T:=u01) (T' :=u01) (q:=t60) (W:=u6r) (fun x=>r85 x) l (by omega) (fun x hm=>p9j x (by have:=t8e (f:=(u01).wt) hm;omega)) _
 rw[List.map_id'] at h2
 simp only[h1,cond_true,h2,zOb]
theorem p8j (x:(u01).den) (hx:(u01).wt x≤1099511627776):t6w (x,x)=some true:=by
 simp only[Ty.wt] at hx
 rw[q5r];unfold r3h;simp only
 simp only[zOb,y6l,decide_true,beq_self_eq_true,Bool.not_true,cond_false]
theorem p61 (l:List (u01).den) (hx:(Ty.sl u01).wt l≤1099511627776):t9x (l,l)=some true:=by
 have hw:(Ty.sl u01).wt l=l.length+(l.map (u01).wt).sum:=rfl
 rw[hw] at hx;rw[q25];unfold s9p;simp only
 have h2:u6p (l,l,(0:Int))=some (.inl ()):=Q.same (T:=u01) (S:=Unit) (q:=t6w) (W:=u6p) (fun x=>r81 x) l (by omega) (fun x hm=>p8j x (by have:=t8e (f:=(u01).wt) hm;omega))
 simp only[decide_true,Bool.not_true,cond_false,h2,zOb]
theorem p5w (x:(u0b).den) (b:Int) (hf:(u0b).fine x) (hb:0≤b) (hb2:b≤1048576):t3t (x,b)=some (szr b ((u0b).wt x)):=by
 obtain⟨hf0,hf1,hf2,hf3⟩:=hf
 have hs0:x.1.size≤9223372036854775807:=by have:=hf0;simp only[Ty.fine,maxLen] at this;exact this
 have hs1:x.2.1.size≤9223372036854775807:=by have:=hf1;simp only[Ty.fine,maxLen] at this;exact this
 have hw:(u0b).wt x=(x.1.size+(x.2.1.size+0)):=by simp only[Ty.wt] <;>omega
 rw[hw,q08];unfold s6u;simp only
 rw[y4y (n:=b - (x.1.size:Int)) (by omega) (by omega)]
 refine t5n (fun c0=> ?_)
 rw[y4y (n:=b - ((x.1.size:Nat):Int) - (x.2.1.size:Int)) (by omega) (by omega)]
 refine t5n (fun c1=> ?_)
 rw[r1k (by omega)];simp
theorem p3k (l:List (u0b).den) (b:Int) (hf:(Ty.sl u0b).fine l) (hb:0≤b) (hb2:b≤1048576):t5z (l,b)=some (szr b ((Ty.sl u0b).wt l)):=by
 have hl:l.length≤9223372036854775807:=by have:=hf.1;simp only[maxLen] at this;exact this
 rw[r8f];unfold s3d;simp only
 rw[y4y (n:=b - (l.length:Int)) (by omega) (by omega)]
 have hw:(Ty.sl u0b).wt l=l.length+(l.map (u0b).wt).sum:=rfl
 rw[hw];refine t5n (fun c=> ?_)
 exact Q.size (T:=u0b) (q:=t3t) (W:=u7w) (fun x=>r5c x) l (by omega) (fun x hx c h1 h2=>⟨_,p5w x c (r2a hf hx) h1 h2,r7k⟩) (b - (l.length:Int)) (by omega) (by omega)
theorem p5y (x:(u0b).den) (hx:(u0b).wt x≤1099511627776):t3u x=some x:=by
 rw[q1a];rfl
theorem p3o (l:List (u0b).den) (hx:(Ty.sl u0b).wt l≤1099511627776):t52 l=some l:=by
 have hw:(Ty.sl u0b).wt l=l.length+(l.map (u0b).wt).sum:=rfl
 rw[hw] at hx;rw[r8g];unfold s3e
 have h1:(decide (0≤(l.length:Int))&&decide ((l.length:Int)≤1099511627776))=true:=by simp;omega
 have h2:u5h (l,(List.replicate ((l.length:Int)).toNat (u0b).zero),(0:Int))=some (.inl (l.map fun x=>x)):=Q.copy (T:=u0b) (T' :=u0b) (q:=t3u) (W:=u5h) (fun x=>r5d x) l (by omega) (fun x hm=>p5y x (by have:=t8e (f:=(u0b).wt) hm;omega)) _
 rw[List.map_id'] at h2
 simp only[h1,cond_true,h2,zOb]
theorem p5a (x:(u0b).den) (hx:(u0b).wt x≤1099511627776):t3s (x,x)=some true:=by
 simp only[Ty.wt] at hx
 rw[q06];unfold s6s;simp only
 simp only[zOb,y6l,decide_true,beq_self_eq_true,Bool.not_true,cond_false]
theorem p21 (l:List (u0b).den) (hx:(Ty.sl u0b).wt l≤1099511627776):t5y (l,l)=some true:=by
 have hw:(Ty.sl u0b).wt l=l.length+(l.map (u0b).wt).sum:=rfl
 rw[hw] at hx;rw[r8e];unfold s3c;simp only
 have h2:u5g (l,l,(0:Int))=some (.inl ()):=Q.same (T:=u0b) (S:=Unit) (q:=t3s) (W:=u5g) (fun x=>r5b x) l (by omega) (fun x hm=>p5a x (by have:=t8e (f:=(u0b).wt) hm;omega))
 simp only[decide_true,Bool.not_true,cond_false,h2,zOb]
theorem o21 (x:(s5i).den) (b:Int) (hf:(s5i).fine x) (hb:0≤b) (hb2:b≤1048576):s1n (x,b)=some (szr b ((s5i).wt x)):=by
 obtain⟨hf0,hf1⟩:=hf
 have hs1:x.2.size≤9223372036854775807:=by have:=hf1;simp only[Ty.fine,maxLen] at this;exact this
 have hw:(s5i).wt x=(x.2.size+0):=by simp only[Ty.wt] <;>omega
 rw[hw,p03];unfold r9q;simp only
 rw[y4y (n:=b - (x.2.size:Int)) (by omega) (by omega)]
 refine t5n (fun c1=> ?_)
 rw[r1k (by omega)];simp
theorem o04 (l:List (s5i).den) (b:Int) (hf:(Ty.sl s5i).fine l) (hb:0≤b) (hb2:b≤1048576):s51 (l,b)=some (szr b ((Ty.sl s5i).wt l)):=by
 have hl:l.length≤9223372036854775807:=by have:=hf.1;simp only[maxLen] at this;exact this
 rw[q82];unfold r55;simp only
 rw[y4y (n:=b - (l.length:Int)) (by omega) (by omega)]
 have hw:(Ty.sl s5i).wt l=l.length+(l.map (s5i).wt).sum:=rfl
 rw[hw];refine t5n (fun c=> ?_)
 exact Q.size (T:=s5i) (q:=s1n) (W:=t4u) (fun x=>q4q x) l (by omega) (fun x hx c h1 h2=>⟨_,o21 x c (r2a hf hx) h1 h2,r7k⟩) (b - (l.length:Int)) (by omega) (by omega)
theorem o23 (x:(s5i).den) (hx:(s5i).wt x≤1099511627776):s1p x=some x:=by
 rw[p05];rfl
theorem o1a (l:List (s5i).den) (hx:(Ty.sl s5i).wt l≤1099511627776):s54 l=some l:=by
 have hw:(Ty.sl s5i).wt l=l.length+(l.map (s5i).wt).sum:=rfl
 rw[hw] at hx;rw[q86];unfold r59
 have h1:(decide (0≤(l.length:Int))&&decide ((l.length:Int)≤1099511627776))=true:=by simp;omega
 have h2:u91 (l,(List.replicate ((l.length:Int)).toNat (s5i).zero),(0:Int))=some (.inl (l.map fun x=>x)):=Q.copy (T:=s5i) (T' :=s5i) (q:=s1p) (W:=u91) (fun x=>q4s x) l (by omega) (fun x hm=>o23 x (by have:=t8e (f:=(s5i).wt) hm;omega)) _
 rw[List.map_id'] at h2
 simp only[h1,cond_true,h2,zOb]
theorem o2l (x:(s5i).den) (hx:(s5i).wt x≤1099511627776):s1l (x,x)=some true:=by
 simp only[Ty.wt] at hx
 rw[p01];unfold r9o;simp only
 simp only[zOb,y6l,decide_true,beq_self_eq_true,Bool.not_true,cond_false]
theorem o0o (l:List (s5i).den) (hx:(Ty.sl s5i).wt l≤1099511627776):s5y (l,l)=some true:=by
 have hw:(Ty.sl s5i).wt l=l.length+(l.map (s5i).wt).sum:=rfl
 rw[hw] at hx;rw[q8y];unfold r51;simp only
 have h2:u9z (l,l,(0:Int))=some (.inl ()):=Q.same (T:=s5i) (S:=Unit) (q:=s1l) (W:=u9z) (fun x=>q4o x) l (by omega) (fun x hm=>o2l x (by have:=t8e (f:=(s5i).wt) hm;omega))
 simp only[decide_true,Bool.not_true,cond_false,h2,zOb]
theorem o03 (x:(q8c).den) (b:Int) (hf:(q8c).fine x) (hb:0≤b) (hb2:b≤1048576):s50 (x,b)=some (szr b ((q8c).wt x)):=by
 obtain⟨hf0,hf1⟩:=hf
 have hw:(q8c).wt x=((Ty.sl Ty.str).wt x.1+((Ty.sl s5i).wt x.2+0)):=by simp only[Ty.wt] <;>omega
 rw[hw,q81];unfold r54;simp only
 refine t5m (p5v _ _ hf0 (by omega) (by omega)) (fun c0=> ?_)
 refine t5m (o04 _ _ hf1 (by omega) (by omega)) (fun c1=> ?_)
 rw[r1k (by omega)];simp
theorem o09 (x:(q8c).den) (hx:(q8c).wt x≤1099511627776):s53 x=some x:=by
 simp only[Ty.wt] at hx
 rw[q85];unfold r58
 simp only[p5x x.1 (by simp only[Ty.wt];omega),o1a x.2 (by simp only[Ty.wt];omega),zOb]
theorem o0n (x:(q8c).den) (hx:(q8c).wt x≤1099511627776):s5x (x,x)=some true:=by
 simp only[Ty.wt] at hx
 rw[q8x];unfold r50;simp only
 simp only[p49 x.1 (by simp only[Ty.wt];omega),o0o x.2 (by simp only[Ty.wt];omega),zOb,y6l,decide_true,beq_self_eq_true,Bool.not_true,cond_false]
theorem o22 (x:(u0o).den) (b:Int) (hf:(u0o).fine x) (hb:0≤b) (hb2:b≤1048576):s1o (x,b)=some (szr b ((u0o).wt x)):=by
 obtain⟨hf0,hf1,hf2,hf3,hf4,hf5,hf6,hf7⟩:=hf
 have hs7:x.2.2.2.2.2.2.2.size≤9223372036854775807:=by have:=hf7;simp only[Ty.fine,maxLen] at this;exact this
 have hw:(u0o).wt x=((Ty.sl u1z).wt x.2.2.2.2.1+((Ty.sl u01).wt x.2.2.2.2.2.1+(x.2.2.2.2.2.2.2.size+0))):=by simp only[Ty.wt] <;>omega
 rw[hw,p04];unfold r9r;simp only
 refine t5m (p7o _ _ hf4 (by omega) (by omega)) (fun c4=> ?_)
 refine t5m (p7p _ _ hf5 (by omega) (by omega)) (fun c5=> ?_)
 rw[y4y (n:=b - (((Ty.sl u1z).wt x.2.2.2.2.1:Nat):Int) - (((Ty.sl u01).wt x.2.2.2.2.2.1:Nat):Int) - (x.2.2.2.2.2.2.2.size:Int)) (by omega) (by omega)]
 refine t5n (fun c7=> ?_)
 rw[r1k (by omega)];simp
theorem p3j (l:List (u0o).den) (b:Int) (hf:(Ty.sl u0o).fine l) (hb:0≤b) (hb2:b≤1048576):t5f (l,b)=some (szr b ((Ty.sl u0o).wt l)):=by
 have hl:l.length≤9223372036854775807:=by have:=hf.1;simp only[maxLen] at this;exact this
 rw[q83];unfold r56;simp only
 rw[y4y (n:=b - (l.length:Int)) (by omega) (by omega)]
 have hw:(Ty.sl u0o).wt l=l.length+(l.map (u0o).wt).sum:=rfl
 rw[hw];refine t5n (fun c=> ?_)
 exact Q.size (T:=u0o) (q:=s1o) (W:=t4v) (fun x=>q4r x) l (by omega) (fun x hx c h1 h2=>⟨_,o22 x c (r2a hf hx) h1 h2,r7k⟩) (b - (l.length:Int)) (by omega) (by omega)
theorem o24 (x:(u0o).den) (hx:(u0o).wt x≤1099511627776):s1q x=some x:=by
 simp only[Ty.wt] at hx
 rw[p06];unfold r9s
 simp only[p7t x.2.2.2.2.1 (by simp only[Ty.wt];omega),p7u x.2.2.2.2.2.1 (by simp only[Ty.wt];omega),zOb]
theorem p3n (l:List (u0o).den) (hx:(Ty.sl u0o).wt l≤1099511627776):t5g l=some l:=by
 have hw:(Ty.sl u0o).wt l=l.length+(l.map (u0o).wt).sum:=rfl
 rw[hw] at hx;rw[q87];unfold r6a
 have h1:(decide (0≤(l.length:Int))&&decide ((l.length:Int)≤1099511627776))=true:=by simp;omega
 have h2:u92 (l,(List.replicate ((l.length:Int)).toNat (u0o).zero),(0:Int))=some (.inl (l.map fun x=>x)):=Q.copy (T:=u0o) (T' :=u0o) (q:=s1q) (W:=u92) (fun x=>q4t x) l (by omega) (fun x hm=>o24 x (by have:=t8e (f:=(u0o).wt) hm;omega)) _
 rw[List.map_id'] at h2
 simp only[h1,cond_true,h2,zOb]
theorem o2m (x:(u0o).den) (hx:(u0o).wt x≤1099511627776):s1m (x,x)=some true:=by
 simp only[Ty.wt] at hx
 rw[p02];unfold r9p;simp only
 simp only[p60 x.2.2.2.2.1 (by simp only[Ty.wt];omega),p61 x.2.2.2.2.2.1 (by simp only[Ty.wt];omega),zOb,y6l,decide_true,beq_self_eq_true,Bool.not_true,cond_false]
theorem p20 (l:List (u0o).den) (hx:(Ty.sl u0o).wt l≤1099511627776):t5e (l,l)=some true:=by
 have hw:(Ty.sl u0o).wt l=l.length+(l.map (u0o).wt).sum:=rfl
 rw[hw] at hx;rw[q8z];unfold r52;simp only
 have h2:u90 (l,l,(0:Int))=some (.inl ()):=Q.same (T:=u0o) (S:=Unit) (q:=s1m) (W:=u90) (fun x=>q4p x) l (by omega) (fun x hm=>o2m x (by have:=t8e (f:=(u0o).wt) hm;omega))
 simp only[decide_true,Bool.not_true,cond_false,h2,zOb]
theorem o02 (x:(q43).den) (b:Int) (hf:(q43).fine x) (hb:0≤b) (hb2:b≤1048576):s5z (x,b)=some (szr b ((q43).wt x)):=by
 obtain⟨hf0,hf1,hf2,hf3,hf4⟩:=hf
 have hw:(q43).wt x=((Ty.sl u0b).wt x.1+((Ty.sl u0o).wt x.2.1+((Ty.sl u0o).wt x.2.2.1+0))):=by simp only[Ty.wt] <;>omega
 rw[hw,q80];unfold r53;simp only
 refine t5m (p3k _ _ hf0 (by omega) (by omega)) (fun c0=> ?_)
 refine t5m (p3j _ _ hf1 (by omega) (by omega)) (fun c1=> ?_)
 refine t5m (p3j _ _ hf2 (by omega) (by omega)) (fun c2=> ?_)
 rw[r1k (by omega)];simp
theorem o08 (x:(q43).den) (hx:(q43).wt x≤1099511627776):s52 x=some x:=by
 simp only[Ty.wt] at hx
 rw[q84];unfold r57
 simp only[p3o x.1 (by simp only[Ty.wt];omega),p3n x.2.1 (by simp only[Ty.wt];omega),p3n x.2.2.1 (by simp only[Ty.wt];omega),zOb]
theorem o0m (x:(q43).den) (hx:(q43).wt x≤1099511627776):s5w (x,x)=some true:=by
 simp only[Ty.wt] at hx
 rw[q8w];unfold r5z;simp only
 simp only[p21 x.1 (by simp only[Ty.wt];omega),p20 x.2.1 (by simp only[Ty.wt];omega),p20 x.2.2.1 (by simp only[Ty.wt];omega),zOb,y6l,decide_true,beq_self_eq_true,Bool.not_true,cond_false]
theorem p7n (x:(s5m).den) (b:Int) (hf:(s5m).fine x) (hb:0≤b) (hb2:b≤1048576):t9y (x,b)=some (szr b ((s5m).wt x)):=by
 obtain⟨hf0,hf1⟩:=hf
 have hw:(s5m).wt x=(q43.wt x.1+((Ty.sl u0o).wt x.2+0)):=by simp only[Ty.wt] <;>omega
 rw[hw,q26];unfold s9q;simp only
 refine t5m (o02 _ _ hf0 (by omega) (by omega)) (fun c0=> ?_)
 refine t5m (p3j _ _ hf1 (by omega) (by omega)) (fun c1=> ?_)
 rw[r1k (by omega)];simp
theorem p7s (x:(s5m).den) (hx:(s5m).wt x≤1099511627776):t91 x=some x:=by
 simp only[Ty.wt] at hx
 rw[q29];unfold s9t
 simp only[o08 x.1 (by simp only[Ty.wt];omega),p3n x.2 (by simp only[Ty.wt];omega),zOb]
theorem p6z (x:(s5m).den) (hx:(s5m).wt x≤1099511627776):t9v (x,x)=some true:=by
 simp only[Ty.wt] at hx
 rw[q23];unfold s9n;simp only
 simp only[o0m x.1 (by simp only[Ty.wt];omega),p20 x.2 (by simp only[Ty.wt];omega),zOb,y6l,decide_true,beq_self_eq_true,Bool.not_true,cond_false]
theorem p9e (x:(r90).den) (b:Int) (hf:(r90).fine x) (hb:0≤b) (hb2:b≤1048576):s2k (x,b)=some (szr b ((r90).wt x)):=by
 obtain⟨hf0,hf1⟩:=hf
 have hw:(r90).wt x=(s5m.wt x.1+(q8c.wt x.2+0)):=by simp only[Ty.wt] <;>omega
 rw[hw,q5t];unfold r3j;simp only
 refine t5m (p7n _ _ hf0 (by omega) (by omega)) (fun c0=> ?_)
 refine t5m (o03 _ _ hf1 (by omega) (by omega)) (fun c1=> ?_)
 rw[r1k (by omega)];simp
theorem p9i (x:(r90).den) (hx:(r90).wt x≤1099511627776):t2d x=some x:=by
 simp only[Ty.wt] at hx
 rw[q5w];unfold r3l
 simp only[p7s x.1 (by simp only[Ty.wt];omega),o09 x.2 (by simp only[Ty.wt];omega),zOb]
theorem p8i (x:(r90).den) (hx:(r90).wt x≤1099511627776):s2j (x,x)=some true:=by
 simp only[Ty.wt] at hx
 rw[q5q];unfold r3g;simp only
 simp only[p6z x.1 (by simp only[Ty.wt];omega),o0n x.2 (by simp only[Ty.wt];omega),zOb,y6l,decide_true,beq_self_eq_true,Bool.not_true,cond_false]
end
section
abbrev u0i:=Int×Int×Int×Int×List (ByteArray×ByteArray)×List (ByteArray×ByteArray×Bool)×Bool×ByteArray
theorem u1w {n:Nat} (h:n≤1099511627776):Nat.ble n z7w=true:=Nat.ble_eq_true_of_le h
def inR (r:ByteArray×ByteArray) (k:ByteArray):Bool:= !y3c k r.1&&(y3c k r.2 || z7o k r.2)
theorem r9b (r:ByteArray×ByteArray) (k:ByteArray):t61 (r,k)=some (inR r k):=by
 rw[q51];unfold r3p inR;cases y3c k r.1<;>rfl
theorem r9a (r:ByteArray×ByteArray) (k:ByteArray):t6p (r,k)=some (inR r k):=by
 rw[q48];unfold r2z inR;cases y3c k r.1<;>rfl
def r1m (r:List u1z.den) (w:List u01.den):Bool:=r.any fun x=>w.any fun y=>inR x y.1
def p1o (a b:List u01.den):Bool:=a.any fun x=>b.any fun y=>z7o x.1 y.1
end
section
theorem q19 {X R A:Type} (W:X→Option R) (n:Nat) (mk:A→Int→X) (v:Nat→A) (r:R) (hend:W (mk (v n) (n:Int))=some r)
 (hstep:∀i,i<n→W (mk (v i) (i:Int))=W (mk (v (i+1)) ((i+1:Nat):Int))):W (mk (v 0) 0)=some r:=by
 have:=s5l W n (fun(_:Unit) i=>mk (v i.toNat) i) (fun _ _=>r) (fun _ _=>True) (fun _ _=>by simpa using hend) (fun i a hi _=> .inr ⟨(),trivial,rfl,by
  have h:=hstep i hi
  have e:((i:Int)+1).toNat=i+1:=by omega
  simp only[zTn]
  exact h⟩) 0 () (Nat.zero_le _) trivial
 simpa using this
theorem p31 {α:Type} (p:α→Bool):∀(l a:List α),l.foldl (fun a x=>if p x=true then a++ [x] else a) a=a++l.filter p
 | [],a=>by simp
 | x::l,a=>by
  rw[List.foldl_cons,p31 p l]
  cases hc:p x<;>simp[hc]
abbrev u14:=ByteArray×ByteArray×Bool×Int
def emp:ByteArray:=⟨#[]⟩
def p0s (l:List u14) (k:ByteArray) (snap out:Int) (i:Nat):Int:=
 if z7o (rdL u0b l i).1 k=true∧(rdL u0b l i).2.2.2≤snap∧(out<0∨(rdL u0b l i).2.2.2 >(rdL u0b l out.toNat).2.2.2) then(i:Int) else out
def r6o (l:List u14) (k:ByteArray) (snap:Int):Nat→Int
 | 0=> -1
 | n+1=>p0s l k snap (r6o l k snap n) n
def t39 (l:List u14) (k:ByteArray) (snap:Int):Int:=r6o l k snap l.length
theorem r6p (l:List u14) (k:ByteArray) (snap:Int):∀n,-1≤r6o l k snap n∧r6o l k snap n<(n:Int)
 | 0=>by simp[r6o]
 | n+1=>by
  have:=r6p l k snap n
  simp only[r6o,p0s]
  split<;>omega
theorem q7d (l:List u14) (k:ByteArray) (snap:Int): -1≤t39 l k snap∧t39 l k snap<(l.length:Int):=r6p l k snap l.length
theorem q31 (l:List u14) (k:ByteArray) (snap:Int) (hl:l.length≤1099511627776):s1u (l,k,snap)=some (t39 l k snap):=by
 have L:=q19 t17 l.length (fun a i=>(l,k,snap,a,i)) (fun i=>r6o l k snap i) (.inl (t39 l k snap))
  (by rw[r4w];simp only[t6g,u0c,Nat.lt_irrefl,decide_false,cond_false];rfl)
  (fun i hi=>by
   have hr:=r6p l k snap i
   rw[r4w]
   simp only[t6g,u0c,hi,decide_true,cond_true,y7t hi,zTn,r6o,p0s]
   rw[y7l (by omega)]
   cases h1:z7o (rdL u0b l i).1 k with
   | false=>simp[h1]
   | true=>
    by_cases h2:(rdL u0b l i).2.2.2≤snap
    ·by_cases h3:r6o l k snap i<0
     ·simp[h1,h2,h3]
     ·have hg:y4q (r6o l k snap i) l.length=true:=y7s.mpr ⟨by omega,by omega⟩
      by_cases h4:(rdL u0b l i).2.2.2 >(rdL u0b l (r6o l k snap i).toNat).2.2.2
      ·simp[h1,h2,h3,h4,hg]
      ·simp[h1,h2,h3,h4,hg]
    ·simp[h1,h2])
 have L:t17 (l,k,snap,-1,0)=_:=L
 rw[p1d];unfold r9z
 simp only[L,zOb]
theorem q30 (l:List u14) (k:ByteArray) (snap:Int) (hl:l.length≤1099511627776):t8l (l,k,snap)=some (t39 l k snap):=by
 have L:=q19 u9y l.length (fun a i=>(l,k,snap,a,l,(l.length:Int),i)) (fun i=>r6o l k snap i) (.inl (t39 l k snap))
  (by rw[r1v];simp only[t4k,u0c,Nat.lt_irrefl,decide_false,cond_false];rfl)
  (fun i hi=>by
   have hr:=r6p l k snap i
   rw[r1v]
   simp only[t4k,u0c,hi,decide_true,cond_true,y7t hi,zTn,r6o,p0s]
   rw[y7l (by omega)]
   cases h1:z7o (rdL u0b l i).1 k with
   | false=>simp[h1]
   | true=>
    by_cases h2:(rdL u0b l i).2.2.2≤snap
    ·by_cases h3:r6o l k snap i<0
     ·simp[h1,h2,h3]
     ·have hg:y4q (r6o l k snap i) l.length=true:=y7s.mpr ⟨by omega,by omega⟩
      by_cases h4:(rdL u0b l i).2.2.2 >(rdL u0b l (r6o l k snap i).toNat).2.2.2
      ·simp[h1,h2,h3,h4,hg]
      ·simp[h1,h2,h3,h4,hg]
    ·simp[h1,h2])
 have L:u9y (l,k,snap,-1,l,(l.length:Int),0)=_:=L
 rw[q8u];unfold r5x
 simp only[L,zOb]
def r1i (l:List u14) (k:ByteArray) (snap:Int):ByteArray×Bool:=
 if t39 l k snap<0∨(rdL u0b l (t39 l k snap).toNat).2.2.1=true then(emp,false) else((rdL u0b l (t39 l k snap).toNat).2.1,true)
theorem p10 (l:List u14) (k:ByteArray) (snap:Int) (y:Int) (hy:y=t39 l k snap):
 (((bif decide (y<0) then some true else(bif y4q y l.length then some (rdL u0b l y.toNat).2.2.1 else none)):Option Bool).bind fun j2=>(bif j2 then some ((⟨#[]⟩:ByteArray),false) else(bif y4q y l.length then some ((rdL u0b l y.toNat).2.1,true) else none)))=some (r1i l k snap):=by
 subst hy
 have hr:=q7d l k snap
 unfold r1i
 by_cases h:t39 l k snap<0
 ·simp[h,emp]
 ·have hg:y4q (t39 l k snap) l.length=true:=y7s.mpr ⟨by omega,by omega⟩
  cases h2:(rdL u0b l (t39 l k snap).toNat).2.2.1<;>simp[h,hg,h2,emp]
theorem p2u (l:List u14) (k:ByteArray) (snap:Int) (hl:l.length≤1099511627776):s58 (l,k,snap)=some (r1i l k snap):=by
 rw[q9e];unfold r6h
 simp only[q31 l k snap hl,zOb]
 exact p10 l k snap _ rfl
theorem p2t (l:List u14) (k:ByteArray) (snap:Int) (hl:l.length≤1099511627776):s5u (l,k,snap)=some (r1i l k snap):=by
 rw[q8q];unfold r5r
 simp only[q30 l k snap hl,zOb]
 exact p10 l k snap _ rfl
theorem p6l (l:List u14) (hl:l.length≤1099511627775):s5v l=some (q1f (l.map fun v=>v.1)):=by
 have L:=s22 t4t l (fun a i=>(a,l,(l.length:Int),i)) (fun _=>true) (fun v=>v.1) (fun a=> .inl a) (by omega)
  (fun a _=>by rw[r1u];simp only[t4j,u0c,Nat.lt_irrefl,decide_false,cond_false])
  (fun i hi a ha=>by
   rw[r1u];simp only[t4j,u0c,hi,decide_true,cond_true,y7t hi,zTn,y8k (t:=u0b) hi,List.length_singleton,u1w (show a.length+1≤1099511627776 by omega)]
   rw[y7l (by omega)])
 have hf:l.filter (fun _=>true)=l:=by simp
 rw[hf] at L
 have h1:y7a (l.map fun v=>v.1)=some (y4i (l.map fun v=>v.1)):=by
  unfold y7a;rw[List.length_map,u1w (by omega)];rfl
 have h2:y0m (y4i (l.map fun v=>v.1))=some (q1f (l.map fun v=>v.1)):=by
  unfold y0m;rw[p13,List.length_map,u1w (by omega)];rfl
 rw[q8t];unfold r5w
 simp only[L,zOb,t85,t7g]
 simp only[h1,h2,zOb]
theorem q3z (l:List ByteArray):(q1f l).length≤l.length:=by
 have:=z6h (y4i l)
 rw[p13] at this
 exact this
theorem p26 (k:ByteArray) (r:ByteArray×ByteArray) (l:List u14) (j:Int) (out:List ByteArray) (ho:out.length≤1099511627775):
 u8t (l,r,out,j,k, [],0)=some (.inl (l,r,out,j,k,out.filter fun x=>y3c x k)):=by
 have L:=s22 u8t out (fun a i=>(l,r,out,j,k,a,i)) (fun x=>y3c x k) (fun x=>x) (fun a=> .inl (l,r,out,j,k,a)) (by omega)
  (fun a _=>by rw[s8k];simp only[t28,u0c,Nat.lt_irrefl,decide_false,cond_false])
  (fun i hi a ha=>by
   rw[s8k];simp only[t28,u0c,hi,decide_true,cond_true,y7t hi,zTn,y8k (t:=Ty.str) hi,List.length_singleton,u1w (show a.length+1≤1099511627776 by omega)]
   rw[y7l (by omega)])
 rw[List.map_id'] at L
 exact L
theorem p1l (k:ByteArray) (r:ByteArray×ByteArray) (l:List u14) (j:Int) (out a0:List ByteArray) (ho:out.length+a0.length≤1099511627775):
 u6x (l,r,out,j,k,a0,0)=some (.inl (l,r,j,a0++out.filter fun x=> !(y3c x k || z7o x k))):=by
 have L:=t1s u6x out (fun a i=>(l,r,out,j,k,a,i)) (fun a x=>if(!(y3c x k || z7o x k))=true then a++ [x] else a) (fun a=> .inl (l,r,j,a)) (fun i a=>a.length≤a0.length+i)
  (fun a _=>by rw[s5c];simp only[t0z,u0c,Nat.lt_irrefl,decide_false,cond_false])
  (fun i hi a ha=>by
   rw[s5c];simp only[t0z,u0c,hi,decide_true,cond_true,y7t hi,zTn,y8k (t:=Ty.str) hi,List.length_singleton,u1w (show a.length+1≤1099511627776 by omega)]
   rw[y7l (by omega)]
   cases hc:(!(y3c out[i] k || z7o out[i] k)) with
   | true=>simp;omega
   | false=>simp;omega) a0 (by simp)
 rw[p31 (fun x=> !(y3c x k || z7o x k))] at L
 exact L
theorem p8n (k:ByteArray) (l:List ByteArray):(p56 k l).length≤l.length+1:=by
 unfold p56
 have h:(fun x=> !(y3c x k || z7o x k))=fun x=>y3c k x:=by funext x;exact p65
 rw[h]
 have:(l.filter fun x=>y3c x k).length+(l.filter fun x=>y3c k x).length≤l.length:=by
  induction l with
  | nil=>simp
  | cons x l ih=>
   simp only[List.filter_cons]
   cases h1:y3c x k with
   | true=>rw[r2f h1];simp;omega
   | false=>cases h2:y3c k x<;>simp<;>omega
 simp
 omega
theorem p6m (l:List u14) (r:ByteArray×ByteArray) (hl:l.length≤500000000000):s2t (l,r)=some ((q1f (l.map fun v=>v.1)).filter fun k=>inR r k):=by
 have L:=t1s t3k l (fun a i=>(l,r,a,i)) (fun a v=>if inR r v.1=true then p56 v.1 a else a) (fun a=> .inl a) (fun i a=>a.length≤i)
  (fun a _=>by rw[s8j];simp only[t27,u0c,Nat.lt_irrefl,decide_false,cond_false])
  (fun i hi a ha=>by
   rw[s8j];simp only[t27,u0c,hi,decide_true,cond_true,y7t hi,zTn,y8k (t:=u0b) hi,r9b,zOb]
   cases hc:inR r l[i].1 with
   | false=>
    simp only[Bool.not_false,cond_true,Bool.false_eq_true,if_false]
    rw[y7l (by omega)]
    exact⟨by omega,rfl⟩
   | true=>
    have hlow:(a.filter fun x=>y3c x l[i].1).length≤a.length:=List.length_filter_le _ _
    simp only[Bool.not_true,cond_false,if_true,p26 l[i].1 r l (i:Int) a (by omega),zOb,List.length_singleton,u1w (show(a.filter fun x=>y3c x l[i].1).length+1≤1099511627776 by omega),cond_true,
     p1l l[i].1 r l (i:Int) a (a.filter (fun x=>y3c x l[i].1)++ [l[i].1]) (by simp;omega)]
    rw[y7l (by omega)]
    exact⟨Nat.le_trans (p8n _ _) (by omega),rfl⟩) [] (by simp)
 rw[q6f];unfold r34
 simp only[L,zOb]
 have hfold:∀(m:List u14) (a:List ByteArray),m.foldl (fun a v=>if inR r v.1=true then p56 v.1 a else a) a=((m.map fun v=>v.1).filter fun k=>inR r k).foldl (fun a k=>p56 k a) a:=by
  intro m
  induction m with
  | nil=>intro a;rfl
  | cons x m ih=>
   intro a
   rw[List.foldl_cons,ih]
   cases hc:inR r x.1<;>simp[hc]
 rw[hfold,o0q]
def r4q (l:List u14) (r:ByteArray×ByteArray) (snap:Int):List (ByteArray×ByteArray):=
 ((q1f (l.map fun v=>v.1)).filter fun k=>(r1i l k snap).2&&inR r k).map fun k=>(k,(r1i l k snap).1)
theorem q12 (l:List u14) (r:ByteArray×ByteArray) (snap:Int) (hl:l.length≤500000000000):u4c (l,r,snap)=some (r4q l r snap):=by
 obtain⟨ks,hks⟩:∃ks,ks=(q1f (l.map fun v=>v.1)).filter fun k=>inR r k:=⟨_,rfl⟩
 have hkl:ks.length≤l.length:=by
  rw[hks]
  refine Nat.le_trans (List.length_filter_le _ _) (Nat.le_trans (q3z _) (by simp))
 have L:=s22 t4y ks (fun a i=>(l,snap,a,ks,i)) (fun k=>(r1i l k snap).2) (fun k=>(k,(r1i l k snap).1)) (fun a=> .inl a) (by omega)
  (fun a _=>by rw[r1z];simp only[t4o,u0c,Nat.lt_irrefl,decide_false,cond_false])
  (fun i hi a ha=>by
   rw[r1z];simp only[t4o,u0c,hi,decide_true,cond_true,y7t hi,zTn,y8k (t:=Ty.str) hi,p2u l _ snap (show l.length≤1099511627776 by omega),zOb,List.length_singleton,u1w (show a.length+1≤1099511627776 by omega)]
   rw[y7l (by omega)])
 rw[q9c];unfold r6f
 simp only[p6m l r hl,zOb]
 rw[←hks]
 simp only[L,zOb]
 rw[hks,List.filter_filter]
 rfl
theorem q11 (l:List u14) (r:ByteArray×ByteArray) (snap:Int) (hl:l.length≤500000000000):t8k (l,r,snap)=some (r4q l r snap):=by
 obtain⟨ks,hks⟩:∃ks,ks=q1f (l.map fun v=>v.1):=⟨_,rfl⟩
 have hkl:ks.length≤l.length:=by
  rw[hks]
  refine Nat.le_trans (q3z _) (by simp)
 have L:=s22 t4s ks (fun a i=>(l,snap,r,a,ks,(ks.length:Int),i)) (fun k=>(r1i l k snap).2&&inR r k) (fun k=>(k,(r1i l k snap).1)) (fun a=> .inl a) (by omega)
  (fun a _=>by rw[r1t];simp only[t4i,u0c,Nat.lt_irrefl,decide_false,cond_false])
  (fun i hi a ha=>by
   rw[r1t];simp only[t4i,u0c,hi,decide_true,cond_true,y7t hi,zTn,y8k (t:=Ty.str) hi,p2t l _ snap (show l.length≤1099511627776 by omega),r9a,zOb,List.length_singleton,u1w (show a.length+1≤1099511627776 by omega)]
   rw[y7l (by omega)]
   cases (r1i l ks[i] snap).2<;>rfl)
 rw[q8o];unfold r5p
 simp only[p6l l (show l.length≤1099511627775 by omega),zOb]
 rw[←hks]
 simp only[L,zOb]
 rw[hks]
 rfl
theorem q7l (l:List u14) (r:ByteArray×ByteArray) (snap:Int):(r4q l r snap).length≤l.length:=by
 unfold r4q
 rw[List.length_map]
 refine Nat.le_trans (List.length_filter_le _ _) (Nat.le_trans (q3z _) (by simp))
end
section
theorem r2h {E:Type} (p:E→Bool):∀(l:List E),(l.takeWhile p).length≤l.length∧(∀(i:Nat) (h:i<l.length),i<(l.takeWhile p).length→p l[i] =true)∧
 (∀(h:(l.takeWhile p).length<l.length),p l[(l.takeWhile p).length] =false)∧l.takeWhile p=l.take (l.takeWhile p).length∧l.dropWhile p=l.drop (l.takeWhile p).length
 | [] =>⟨Nat.le_refl _,fun i h=>absurd h (Nat.not_lt_zero i),fun h=>absurd h (Nat.not_lt_zero _),rfl,rfl⟩
 | x::l=>by
  obtain⟨h1,h2,h3,h4,h5⟩:=r2h p l
  cases hp:p x with
  | false=>
   simp only[List.takeWhile_cons,hp,List.dropWhile_cons,Bool.false_eq_true,if_false,List.length_nil]
   exact⟨Nat.zero_le _,fun i _ h=>absurd h (Nat.not_lt_zero i),fun _=>hp,rfl,rfl⟩
  | true=>
   simp only[List.takeWhile_cons,hp,List.dropWhile_cons,if_true,List.length_cons]
   refine⟨by omega,fun i h k=> ?_,fun h=> ?_,?_,?_⟩
   ·cases i with
    | zero=>exact hp
    | succ i=>simpa using h2 i (by simpa using h) (by omega)
   ·simpa using h3 (by omega)
   ·rw[List.take_succ_cons,←h4]
   ·rw[List.drop_succ_cons,←h5]
theorem o2g {X R E:Type} (W:X→Option R) (l:List E) (mk:List E→Int→X) (p:E→Bool) (fin:List E→Int→R)
 (hend:W (mk l (l.length:Int))=some (fin l (l.length:Int)))
 (hstep:∀(i:Nat) (h:i<l.length),W (mk (l.take i) (i:Int))=bif p l[i] then W (mk (l.take (i+1)) ((i+1:Nat):Int)) else some (fin (l.take i) (i:Int))):
 W (mk [] 0)=some (fin (l.takeWhile p) ((l.takeWhile p).length:Int)):=by
 obtain⟨h1,h2,h3,h4,_⟩:=r2h p l
 have:=s5l W (l.takeWhile p).length (fun(a:List E) i=>mk a i) (fun _ _=>fin (l.takeWhile p) ((l.takeWhile p).length:Int)) (fun i a=>a=l.take i)
  (fun a ha=>by
   rw[ha]
   by_cases hk:(l.takeWhile p).length<l.length
   ·rw[hstep _ hk,h3 hk,cond_false,←h4]
   ·have e:(l.takeWhile p).length=l.length:=by omega
    have e2:l.takeWhile p=l:=by rw[h4,e];exact List.take_length
    rw[e2,List.take_length]
    exact hend)
  (fun i a hi ha=> .inr ⟨_,rfl,rfl,by rw[ha,hstep i (by omega),h2 i (by omega) hi,cond_true]⟩) 0 [] (Nat.zero_le _) (by simp)
 exact this
theorem o0j {X R E:Type} (W:X→Option R) (l:List E) (mk:Int→X) (p:E→Bool) (yes:Int→R) (no:R)
 (hend:W (mk (l.length:Int))=some no)
 (hstep:∀(i:Nat) (h:i<l.length),W (mk (i:Int))=bif p l[i] then W (mk ((i+1:Nat):Int)) else some (yes (i:Int))):
 W (mk 0)=some (if(l.takeWhile p).length<l.length then yes ((l.takeWhile p).length:Int) else no):=by
 obtain⟨h1,h2,h3,_,_⟩:=r2h p l
 have:=s5l W (l.takeWhile p).length (fun(_:Unit) i=>mk i) (fun _ _=>if(l.takeWhile p).length<l.length then yes ((l.takeWhile p).length:Int) else no) (fun _ _=>True)
  (fun a _=>by
   by_cases hk:(l.takeWhile p).length<l.length
   ·rw[hstep _ hk,h3 hk,cond_false,if_pos hk]
   ·have e:(l.takeWhile p).length=l.length:=by omega
    rw[if_neg hk,e]
    exact hend)
  (fun i a hi _=> .inr ⟨(),trivial,rfl,by rw[hstep i (by omega),h2 i (by omega) hi,cond_true]⟩) 0 () (Nat.zero_le _) trivial
 exact this
def u6c (v y:u14):Bool:=y3c y.1 v.1 || (z7o y.1 v.1&&decide (y.2.2.2≤v.2.2.2))
def p4f (l:List u14) (v:u14):List u14:=l.takeWhile (u6c v)++ [v] ++l.dropWhile (u6c v)
def t4e (l:List u14) (ws:List u01.den) (cs:Int):List u14:=ws.foldl (fun l w=>p4f l (w.1,w.2.1,w.2.2,cs)) l
theorem q9r (l:List u14) (v:u14):(p4f l v).length=l.length+1:=by
 have:l.length=(l.takeWhile (u6c v)).length+(l.dropWhile (u6c v)).length:=by rw[←List.length_append,List.takeWhile_append_dropWhile]
 simp[p4f]
 omega
theorem q36:∀(ws:List u01.den) (l:List u14) (cs:Int),(t4e l ws cs).length=l.length+ws.length
 | [],l,cs=>rfl
 | w::ws,l,cs=>by
  have:=q36 ws (p4f l (w.1,w.2.1,w.2.2,cs)) cs
  unfold t4e at this ⊢
  rw[List.foldl_cons,this,q9r]
  simp
  omega
theorem o0x (l:List u14) (v:u14):p4f l v=l.take (l.takeWhile (u6c v)).length++ [v] ++l.drop (l.takeWhile (u6c v)).length:=by
 obtain⟨_,_,_,h4,h5⟩:=r2h (u6c v) l
 unfold p4f
 rw[←h4,←h5]
theorem q6q (a b:ByteArray):t14 (a,b)=some (if y3c a b then -1 else if z7o a b then 0 else 1):=by
 have ns:∀x,u9r x=some false:=fun x=>by
  rw[r6x];unfold s0v
  have:z7o x x=true:=by simp[z7o]
  rw[this];rfl
 rw[r2k];unfold t7z
 simp only[ns,zOb,cond_false]
 cases y3c a b<;>cases z7o a b<;>rfl
theorem p6c (a b:Int):t5u (a,b)=some (if a<b then -1 else if a >b then 1 else 0):=by
 have ns:∀x,t47 x=some false:=fun x=>by
  rw[q2k];unfold s85
  simp
 rw[r75];unfold s23
 simp only[ns,zOb,cond_false]
 by_cases h:a<b
 ·simp[h]
 ·by_cases h2:a >b<;>simp[h,h2]
theorem o0h (y v:u14):t15 (y,v)=some (!u6c v y):=by
 rw[r2l];unfold t70
 rw[t7f];unfold u94
 simp only[q6q,zOb]
 unfold u6c
 cases h1:y3c y.1 v.1 with
 | true=>simp
 | false=>
  cases h2:z7o y.1 v.1 with
  | false=>simp
  | true=>
   simp only[Bool.false_eq_true,if_false,if_true,decide_true,Bool.not_true,cond_false,p6c,zOb,Bool.false_or,Bool.true_and]
   by_cases h3:y.2.2.2<v.2.2.2
   ·have:y.2.2.2≤v.2.2.2:=by omega
    simp[h3,this]
   ·by_cases h4:y.2.2.2 >v.2.2.2
    ·have: ¬y.2.2.2≤v.2.2.2:=by omega
     simp[h3,h4,this]
    ·have:y.2.2.2≤v.2.2.2:=by omega
     simp[h3,h4,this]
theorem p6k (l:List u14) (v:u14) (hl:l.length≤1099511627775):u1j (l,v)=some (if(l.takeWhile (u6c v)).length<l.length then((l.takeWhile (u6c v)).length:Int) else -1):=by
 have L:=o0j u0q l (fun i=>(l,v,(l.length:Int),i)) (u6c v) (fun i=> .inr i) (.inl ())
  (by rw[u17];simp only[u0p,u0c,Nat.lt_irrefl,decide_false,cond_false])
  (fun i hi=>by
   rw[u17]
   simp only[u0p,u0c,hi,decide_true,cond_true,y7t hi,zTn,y8k (t:=u0b) hi,o0h,zOb]
   rw[y7l (by omega)]
   cases u6c v l[i] <;>rfl)
 rw[u5l];unfold u2b
 simp only[L,zOb]
 by_cases h:(l.takeWhile (u6c v)).length<l.length
 ·simp only[if_pos h]
 ·simp only[if_neg h]
theorem q6s (l:List u14) (v:u14) (k:Nat) (hk:k≤l.length) (hl:l.length≤1099511627775):u23 (l,(k:Int), [v])=some (l.take k++ [v] ++l.drop k):=by
 rw[t8i]
 unfold y2q
 have h1:decide ((0:Int)≤(k:Int))=true:=by simp
 have h2:decide ((k:Int)≤(l.length:Int))=true:=by simpa using hk
 simp only[h1,h2,u1w (show l.length+1≤1099511627776 by omega),Bool.true_and,List.length_singleton,zTn]
 rfl
theorem q0l (l:List u14) (ws:List u01.den) (cs:Int) (hl:l.length+ws.length≤1000000000000):u9s (l,ws,cs)=some (t4e l ws cs):=by
 have L:=t1s u6i ws (fun a i=>(cs,a,ws,(ws.length:Int),i)) (fun l w=>p4f l (w.1,w.2.1,w.2.2,cs)) (fun a=> .inl a) (fun i a=>a.length=l.length+i)
  (fun a _=>by rw[t8b];simp only[u6f,u0c,Nat.lt_irrefl,decide_false,cond_false])
  (fun i hi a ha=>by
   have hal:a.length≤1099511627775:=by omega
   rw[t8b]
   simp only[u6f,u0c,hi,decide_true,cond_true,y7t hi,zTn,y8k (t:=u01) hi,p6k a _ hal,zOb]
   refine⟨by rw[q9r];omega,?_⟩
   obtain⟨t1,_⟩:=r2h (u6c (ws[i].1,ws[i].2.1,ws[i].2.2,cs)) a
   rw[o0x,y7l (by omega)]
   by_cases hk:(a.takeWhile (u6c (ws[i].1,ws[i].2.1,ws[i].2.2,cs))).length<a.length
   ·rw[if_pos hk]
    have:decide (((a.takeWhile (u6c (ws[i].1,ws[i].2.1,ws[i].2.2,cs))).length:Int)<0)=false:=by simp
    simp only[this,cond_false,q6s a _ _ t1 hal,zOb]
   ·rw[if_neg hk]
    have e:(a.takeWhile (u6c (ws[i].1,ws[i].2.1,ws[i].2.2,cs))).length=a.length:=by omega
    have:decide ((-1:Int)<0)=true:=by decide
    simp only[this,cond_true,q6s a _ _ (Nat.le_refl _) hal,zOb]
    rw[e]) l (by simp)
 rw[r6y];unfold s0w
 simp only[u1w (show l.length≤1099511627776 by omega),cond_true,L,zOb]
 rfl
theorem p8b (ws:List u01.den) (cs:Int) (l:List u14) (j:Int) (v:u14) (hl:l.length≤1000000000000):
 u4z (ws,cs,l,j,v, [],0)=some (.inl (ws,cs,l,j,v,l.takeWhile (u6c v),((l.takeWhile (u6c v)).length:Int))):=
 o2g u4z l (fun a i=>(ws,cs,l,j,v,a,i)) (u6c v) (fun a i=> .inl (ws,cs,l,j,v,a,i))
  (by rw[t8d];simp only[u6h,u0c,Nat.lt_irrefl,decide_false,cond_false,zOb])
  (fun i hi=>by
   rw[t8d]
   have hb:((l.take i).length+ [l[i]].length)≤1099511627776:=by simp;omega
   simp only[u6h,u0c,hi,decide_true,cond_true,y7t hi,zTn,y8k (t:=u0b) hi,u1w hb]
   rw[y7l (by omega),List.take_succ_eq_append_getElem hi]
   unfold u6c
   cases h1:y3c l[i].1 v.1 with
   | true=>simp
   | false=>
    cases h2:z7o l[i].1 v.1 with
    | false=>simp
    | true=>
     by_cases h3:l[i].2.2.2≤v.2.2.2<;>simp[h3])
theorem q0m (l:List u14) (ws:List u01.den) (cs:Int) (hl:l.length+ws.length≤1000000000000):u9t (l,ws,cs)=some (t4e l ws cs):=by
 have L:=t1s u6j ws (fun a i=>(ws,cs,a,i)) (fun l w=>p4f l (w.1,w.2.1,w.2.2,cs)) (fun a=> .inl a) (fun i a=>a.length=l.length+i)
  (fun a _=>by rw[t8c];simp only[u6g,u0c,Nat.lt_irrefl,decide_false,cond_false])
  (fun i hi a ha=>by
   have hal:a.length≤1000000000000:=by omega
   rw[t8c]
   simp only[u6g,u0c,hi,decide_true,cond_true,y7t hi,zTn,y8k (t:=u01) hi,p8b ws cs a _ _ hal,zOb]
   obtain⟨v,hv⟩:∃v:u14,v=(ws[i].1,ws[i].2.1,ws[i].2.2,cs):=⟨_,rfl⟩
   rw[←hv]
   obtain⟨t1,_,_,t4,t5⟩:=r2h (u6c v) a
   refine⟨by rw[q9r];omega,?_⟩
   have g1:decide ((0:Int)≤((a.takeWhile (u6c v)).length:Int))=true:=by simp
   have g2:decide (((a.takeWhile (u6c v)).length:Int)≤(a.length:Int))=true:=by simpa using t1
   have g3:decide ((a.length:Int)≤(a.length:Int))=true:=by simp
   have b1:(a.takeWhile (u6c v)).length+ [v].length≤1099511627776:=by simp;omega
   have b2:(a.takeWhile (u6c v)++ [v]).length+(a.drop (a.takeWhile (u6c v)).length).length≤1099511627776:=by simp;omega
   simp only[g1,g2,g3,Bool.true_and,u1w b1,cond_true,List.take_length,u1w b2]
   rw[y7l (by omega),←t5]
   rfl) l (by simp)
 rw[r64];unfold s00
 simp only[List.length_nil,Nat.zero_add,List.nil_append,u1w (show l.length≤1099511627776 by omega),cond_true,L,zOb]
 rfl
end
section
abbrev PrT:=ByteArray×ByteArray
theorem p1s {a b:List PrT} (h:a.length=b.length):(bif (a.zip b).any (fun p=> !(z7o p.1.1 p.2.1&&(z7o p.1.2 p.2.2&&true))) then false else true)=decide (a=b):=by
 induction a generalizing b with
 | nil=>
  cases b with
  | nil=>rfl
  | cons _ _=>simp at h
 | cons x a ih=>
  cases b with
  | nil=>simp at h
  | cons y b=>
   have ih:=ih (b:=b) (by simpa using h)
   simp only[List.zip_cons_cons,List.any_cons]
   by_cases h1:x.1=y.1
   ·by_cases h2:x.2=y.2
    ·have hxy:x=y:=Prod.ext h1 h2
     subst hxy
     rw[y6l,y6l]
     simp only[Bool.and_self,Bool.not_true,Bool.false_or,ih]
     simp
    ·have:=p3i.mpr h2
     rw[this]
     have hne: ¬(x::a=y::b):=fun e=>h2 (by injection e with e;rw[e])
     simp[hne]
   ·have:=p3i.mpr h1
    rw[this]
    have hne: ¬(x::a=y::b):=fun e=>h1 (by injection e with e;rw[e])
    simp[hne]
theorem p42 (a b:List PrT) (ha:a.length≤1099511627776):u65 (a,b)=some (decide (a=b)):=by
 rw[q3o];unfold s99
 by_cases h:a.length=b.length
 ·have hz:(a.zip b).length=a.length:=by simp[h]
  have L:=q18 t1g (a.zip b) (fun i=>(a,b,i)) (fun p=> !(z7o p.1.1 p.2.1&&(z7o p.1.2 p.2.2&&true))) (.inr false) (.inl ())
   (by rw[s5d,hz];simp only[t00,u0c,Nat.lt_irrefl,decide_false,cond_false])
   (fun i hi=>by
    have hi1:i<a.length:=by omega
    have hi2:i<b.length:=by omega
    rw[s5d];simp only[t00,u0c,hi1,decide_true,cond_true,y7t hi1,y7t hi2,zTn,y8k (t:=p8c) hi1,y8k (t:=p8c) hi2,List.getElem_zip]
    rw[y7l (by omega)])
  have e1:decide ((a.length:Int)=(b.length:Int))=true:=by simp[h]
  simp only[e1,Bool.not_true,cond_false,L,zOb]
  rw[←p1s h]
  cases (a.zip b).any fun p=> !(z7o p.1.1 p.2.1&&(z7o p.1.2 p.2.2&&true))<;>rfl
 ·have e1:decide ((a.length:Int)=(b.length:Int))=false:=by simp;omega
  have e2:decide (a=b)=false:=by
   rw[decide_eq_false_iff_not];intro e;exact h (by rw[e])
  rw[e1,e2];rfl
theorem p41 (a b:List PrT) (ha:a.length≤1099511627776):u63 (a,b)=some (decide (a=b)):=by
 rw[s3n];unfold t37
 by_cases h:a.length=b.length
 ·have hz:(a.zip b).length=a.length:=by simp[h]
  have L:=q18 u34 (a.zip b) (fun i=>(a,b,(a.length:Int),i)) (fun p=> !(z7o p.1.1 p.2.1&&(z7o p.1.2 p.2.2&&true))) (.inr false) (.inl ())
   (by rw[t1z,hz];simp only[u33,u0c,Nat.lt_irrefl,decide_false,cond_false])
   (fun i hi=>by
    have hi1:i<a.length:=by omega
    have hi2:i<b.length:=by omega
    rw[t1z];simp only[u33,u0c,hi1,decide_true,cond_true,y7t hi1,y7t hi2,zTn,y8k (t:=p8c) hi1,y8k (t:=p8c) hi2,List.getElem_zip]
    rw[y7l (by omega)])
  have e1:decide ((a.length:Int)=(b.length:Int))=true:=by simp[h]
  simp only[e1,Bool.not_true,cond_false,L,zOb]
  rw[←p1s h]
  cases (a.zip b).any fun p=> !(z7o p.1.1 p.2.1&&(z7o p.1.2 p.2.2&&true))<;>rfl
 ·have e1:decide ((a.length:Int)=(b.length:Int))=false:=by simp;omega
  have e2:decide (a=b)=false:=by
   rw[decide_eq_false_iff_not];intro e;exact h (by rw[e])
  rw[e1,e2];rfl
end
section
theorem p0l (r:List u1z.den) (w:List u01.den) (hr:r.length≤u0l) (hw:w.length≤u0l):s2q (r,w)=some (r1m r w):=by
 unfold u0l at hr hw
 have inner:∀(i:Nat) (hi:i<r.length),u8p (r,w,(i:Int),0)=some (bif w.any (fun y=>inR r[i] y.1) then .inr true else .inl (r,w,(i:Int))):=fun i hi=>
  q18 u8p w (fun j=>(r,w,(i:Int),j)) (fun y=>inR r[i] y.1) _ _ (by
   rw[s8g];simp only[t24,u0c,Nat.lt_irrefl,decide_false,cond_false]) (fun j hj=>by
   rw[s8g];simp only[t24,u0c,hj,decide_true,cond_true,y7t hi,y7t hj,zTn,y8k hi,y8k hj,r9b,zOb]
   rw[y7l (by omega)])
 have outer:=q18 t3j r (fun i=>(r,w,i)) (fun x=>w.any fun y=>inR x y.1) (.inr true) (.inl ()) (by
  rw[s8f];simp only[t23,u0c,Nat.lt_irrefl,decide_false,cond_false]) (fun i hi=>by
  rw[s8f];simp only[t23,u0c,hi,decide_true,cond_true,inner i hi,zOb]
  have ws:=y7l (i:=i) (by omega)
  cases w.any fun y=>inR r[i] y.1<;>simp only[cond_true,cond_false,ws])
 rw[q6a];unfold r3y
 simp only[outer,zOb]
 unfold r1m
 cases r.any fun x=>w.any fun y=>inR x y.1<;>rfl
theorem p0k (r:List u1z.den) (w:List u01.den) (hr:r.length≤u0l) (hw:w.length≤u0l):s2f (r,w)=some (r1m r w):=by
 unfold u0l at hr hw
 have inner:∀(i:Nat) (hi:i<r.length),u8h (w,r[i],r,(r.length:Int),(i:Int),w,(w.length:Int),0)=some (bif w.any (fun y=>inR r[i] y.1) then .inr true else .inl (w,r,(r.length:Int),(i:Int))):=fun i hi=>
  q18 u8h w (fun j=>(w,r[i],r,(r.length:Int),(i:Int),w,(w.length:Int),j)) (fun y=>inR r[i] y.1) _ _ (by
   rw[s72];simp only[t2r,u0c,Nat.lt_irrefl,decide_false,cond_false]) (fun j hj=>by
   rw[s72];simp only[t2r,u0c,hj,decide_true,cond_true,y7t hi,y7t hj,zTn,y8k hi,y8k hj,r9a,zOb]
   rw[y7l (by omega)])
 have outer:=q18 t3e r (fun i=>(w,r,(r.length:Int),i)) (fun x=>w.any fun y=>inR x y.1) (.inr true) (.inl ()) (by
  rw[s71];simp only[t2q,u0c,Nat.lt_irrefl,decide_false,cond_false]) (fun i hi=>by
  rw[s71];simp only[t2q,u0c,hi,decide_true,cond_true,y7t hi,zTn,y8k hi,inner i hi,zOb]
  have ws:=y7l (i:=i) (by omega)
  cases w.any fun y=>inR r[i] y.1<;>simp only[cond_true,cond_false,ws])
 rw[q5h];unfold r28
 simp only[outer,zOb]
 unfold r1m
 cases r.any fun x=>w.any fun y=>inR x y.1<;>rfl
def r92 (a b:u0o.den):Bool:=
 decide (a.2.1=3)&&decide (b.2.1=3)&& !decide (a.1=b.1)&&
 (decide (a.2.2.2.1≤b.2.2.1)&&r1m b.2.2.2.2.1 a.2.2.2.2.2.1 || decide (a.2.2.2.1<b.2.2.2.1)&&p1o a.2.2.2.2.2.1 b.2.2.2.2.2.1 || decide (b.2.2.2.1 >a.2.2.1)&&r1m a.2.2.2.2.1 b.2.2.2.2.2.1)
theorem q3x (a:u0o.den):t5c a=some (decide (a.2.1=3)):=by
 rw[r60];rfl
end
section
def o6z (l:List u0o.den) (j i:Nat):Bool:=r92 (rdL u0o l j) (rdL u0o l i)
def o2x (l:List u0o.den) (t:List Nat) (i:Nat):Bool:= !t.contains i&& !(List.range l.length).any (fun j=> !decide (j=i)&&(!t.contains j&&o6z l j i))
def p8z (l:List u0o.den) (t:List Nat):Option Nat:=(List.range l.length).find? (o2x l t)
def o2y (l:List u0o.den):Nat→List Nat→Option (List Nat)
 | 0,t=>some t
 | k+1,t=>match p8z l t with
  | none=>none
  | some i=>o2y l k (t++ [i])
def o4x (l:List u0o.den):Option (List Nat):=o2y l l.length []
section
variable {l:List u0o.den} (hw:∀x∈l,u0o.wt x≤u0l) (hl:l.length≤1048576)
include hw hl
end
end
section
def o40 (l:List u0o.den):Nat:=(l.map fun t=>t.2.2.2.2.2.1.length).sum
section
variable {l:List u0o.den} (hw:∀x∈l,u0o.wt x≤u0l) (hl:l.length+o40 l≤1048576) (hr:∀x∈l,x.2.2.2.2.1.length≤1048576)
include hl
include hr
include hw
end
end
section
abbrev Src:=List Int×Int×Int
def Src.ok (s:Src):Prop:=s.1.length≤1048576∧0≤s.2.1∧s.2.1≤(s.1.length:Int)
def KD (l:List u01.den):Prop:=l.Pairwise fun a b=>a.1≠b.1
def smallTx (t:u0o.den):Prop:=t.2.2.2.2.1.length≤3∧(∀r∈t.2.2.2.2.1,r.1.size≤2∧r.2.size≤2)∧t.2.2.2.2.2.1.length≤3∧(∀r∈t.2.2.2.2.2.1,r.1.size≤2∧r.2.1.size≤3)∧t.2.2.2.2.2.2.2.size≤16
theorem p4k {α:Type} {l:List α} {f:α→Nat} {k:Nat} (h:∀x∈l,f x≤k):(l.map f).sum≤l.length*k:=by
 induction l with
 | nil=>simp
 | cons x l ih=>
  have h1:=h x (List.mem_cons_self ..)
  have h2:=ih (fun y hy=>h y (List.mem_cons_of_mem _ hy))
  simp only[List.map_cons,List.sum_cons,List.length_cons,Nat.succ_mul]
  omega
theorem smallTx.wt {t:u0o.den} (h:smallTx t):u0o.wt t≤u0l:=by
 obtain⟨h1,h2,h3,h4,h5⟩:=h
 have a1:=p4k (l:=t.2.2.2.2.1) (f:=(Ty.pair .str .str).wt) (k:=4) (fun x hx=>by have:=h2 x hx;simp only[Ty.wt];omega)
 have a2:=p4k (l:=t.2.2.2.2.2.1) (f:=(Ty.pair .str (.pair .str .bool)).wt) (k:=5) (fun x hx=>by have:=h4 x hx;simp only[Ty.wt];omega)
 have hw:u0o.wt t=0+(0+(0+(0+((t.2.2.2.2.1.length+(t.2.2.2.2.1.map (Ty.pair .str .str).wt).sum)+((t.2.2.2.2.2.1.length+(t.2.2.2.2.2.1.map (Ty.pair .str (.pair .str .bool)).wt).sum)+(0+t.2.2.2.2.2.2.2.size)))))):=rfl
 rw[hw]
 unfold u0l
 omega
def tId (t:u0o.den):Int:=t.1
def tSt (t:u0o.den):Int:=t.2.1
def o4y (t:u0o.den):Int:=t.2.2.1
def tCs (t:u0o.den):Int:=t.2.2.2.1
def o2j (t:u0o.den):Prop:=tSt t=3∧o4y t<tCs t∧KD t.2.2.2.2.2.1
def o2s (l:List u0o.den):Prop:=(∀t∈l,o2j t)∧l.Pairwise fun a b=>tId a≠tId b∧tCs a<tCs b
end
section
def PAsc (m:List PrT):Prop:=m.Pairwise fun a b=>y3c a.1 b.1=true
theorem PAsc.ext:∀ {l m:List PrT},PAsc l→PAsc m→(∀x,x∈l↔x∈m)→l=m
 | [], [],_,_,_=>rfl
 | [],y::m,_,_,h=>by have:=(h y).mpr (by simp);simp at this
 | x::l, [],_,_,h=>by have:=(h x).mp (by simp);simp at this
 | x::l,y::m,hl,hm,h=>by
  have hl' :=List.pairwise_cons.mp hl
  have hm' :=List.pairwise_cons.mp hm
  have hxy:x=y:=by
   rcases List.mem_cons.mp ((h x).mp (by simp)) with e | e
   ·exact e
   ·rcases List.mem_cons.mp ((h y).mpr (by simp)) with e' | e'
    ·exact e'.symm
    ·have:=r7h (hm'.1 x e) (hl'.1 y e')
     rw[u79] at this;cases this
  subst hxy
  congr 1
  refine PAsc.ext hl'.2 hm'.2 fun z=> ?_
  constructor
  ·intro hz
   rcases List.mem_cons.mp ((h z).mp (by simp[hz])) with e | e
   ·subst e;have:=hl'.1 z hz;rw[u79] at this;cases this
   ·exact e
  ·intro hz
   rcases List.mem_cons.mp ((h z).mpr (by simp[hz])) with e | e
   ·subst e;have:=hm'.1 z hz;rw[u79] at this;cases this
   ·exact e
theorem p8s {l:List u14} {v x:u14} :x∈p4f l v↔x=v∨x∈l:=by
 unfold p4f
 conv=>rhs;rw[←List.takeWhile_append_dropWhile (p:=u6c v) (l:=l)]
 simp only[List.mem_append,List.mem_singleton]
 constructor
 ·rintro((h | h) | h)
  ·exact .inr (.inl h)
  ·exact .inl h
  ·exact .inr (.inr h)
 ·rintro(h | h | h)
  ·exact .inl (.inr h)
  ·exact .inl (.inl h)
  ·exact .inr h
theorem t7i {x:u14} :∀(ws:List u01.den) (l:List u14) (cs:Int),x∈t4e l ws cs↔x∈l∨ ∃w∈ws,x=(w.1,w.2.1,w.2.2,cs)
 | [],l,cs=>by simp[t4e]
 | w::ws,l,cs=>by
  have e:t4e l (w::ws) cs=t4e (p4f l (w.1,w.2.1,w.2.2,cs)) ws cs:=rfl
  rw[e,t7i ws,p8s]
  constructor
  ·rintro((h | h) | ⟨y,hy,h⟩)
   ·exact .inr ⟨w,by simp,h⟩
   ·exact .inl h
   ·exact .inr ⟨y,by simp[hy],h⟩
  ·rintro(h | ⟨y,hy,h⟩)
   ·exact .inl (.inr h)
   ·rcases List.mem_cons.mp hy with rfl | hy
    ·exact .inl (.inl h)
    ·exact .inr ⟨y,hy,h⟩
def vCs (x:u14):Int:=x.2.2.2
theorem q61 (l:List u14) (k:ByteArray) (snap:Int):∀n,n≤l.length→
 (r6o l k snap n<0→ ∀(i:Nat) (h:i<l.length),i<n→ ¬(l[i].1=k∧vCs l[i] ≤snap))∧
 (∀a:Nat,r6o l k snap n=(a:Int)→ ∃h:a<l.length,l[a].1=k∧vCs l[a] ≤snap∧ ∀(i:Nat) (h:i<l.length),i<n→l[i].1=k→vCs l[i] ≤snap→vCs l[i] ≤vCs l[a])
 | 0,_=>⟨fun _ i _ h=>absurd h (Nat.not_lt_zero i),fun a e=>by simp only[r6o] at e;omega⟩
 | n+1,hn=>by
  obtain⟨h1,h2⟩:=q61 l k snap n (by omega)
  have hlt:n<l.length:=by omega
  have hr:=r6p l k snap n
  simp only[r6o,p0s,y8k (t:=u0b) hlt]
  by_cases hc:z7o l[n].1 k=true∧l[n].2.2.2≤snap∧(r6o l k snap n<0∨l[n].2.2.2 >(rdL u0b l (r6o l k snap n).toNat).2.2.2)
  ·rw[if_pos hc]
   obtain⟨c1,c2,c3⟩:=hc
   have c1:l[n].1=k:=y7f.mp c1
   refine⟨fun h=>by omega,fun a e=> ?_⟩
   have e:n=a:=by omega
   subst e
   refine⟨hlt,c1,c2,fun i hi hin hk hs=> ?_⟩
   by_cases q:i=n
   ·subst q;exact Int.le_refl _
   ·rcases Int.lt_or_le (r6o l k snap n) 0 with z | z
    ·exact absurd ⟨hk,hs⟩ (h1 z i hi (by omega))
    ·obtain⟨b,hb⟩:∃b:Nat,r6o l k snap n=(b:Int):=⟨(r6o l k snap n).toNat,by omega⟩
     obtain⟨hbl,_,_,g3⟩:=h2 b hb
     rcases c3 with c3 | c3
     ·omega
     ·rw[hb,zTn,y8k (t:=u0b) hbl] at c3
      have h5:=g3 i hi (by omega) hk hs
      have c3:vCs l[n] >vCs l[b] :=c3
      omega
  ·rw[if_neg hc]
   have hc' :l[n].1=k→vCs l[n] ≤snap→ ∃b:Nat,r6o l k snap n=(b:Int)∧ ∃h:b<l.length,vCs l[n] ≤vCs l[b] :=fun c1 c2=>by
    rcases Int.lt_or_le (r6o l k snap n) 0 with z | z
    ·exact absurd ⟨y7f.mpr c1,c2, .inl z⟩ hc
    ·obtain⟨b,hb⟩:∃b:Nat,r6o l k snap n=(b:Int):=⟨(r6o l k snap n).toNat,by omega⟩
     obtain⟨hbl,_⟩:=h2 b hb
     refine⟨b,hb,hbl,Int.not_lt.mp fun z2=>hc ⟨y7f.mpr c1,c2, .inr ?_⟩⟩
     rw[hb,zTn,y8k (t:=u0b) hbl]
     exact z2
   refine⟨fun h i hi hin=> ?_,fun a e=> ?_⟩
   ·by_cases q:i=n
    ·subst q
     rintro⟨z1,z2⟩
     obtain⟨b,hb,_⟩:=hc' z1 z2
     omega
    ·exact h1 h i hi (by omega)
   ·obtain⟨ha,g1,g2,g3⟩:=h2 a e
    refine⟨ha,g1,g2,fun i hi hin hk hs=> ?_⟩
    by_cases q:i=n
    ·subst q
     obtain⟨b,hb,hbl,g4⟩:=hc' hk hs
     have e:b=a:=by omega
     subst e
     exact g4
    ·exact g3 i hi (by omega) hk hs
end
section
theorem twl {E:Type} (p:E→Bool):∀(l:List E),(l.takeWhile p).length≤l.length∧(∀(i:Nat) (h:i<l.length),i<(l.takeWhile p).length→p l[i] =true)∧
 (∀(h:(l.takeWhile p).length<l.length),p l[(l.takeWhile p).length] =false)
 | [] =>⟨Nat.le_refl _,fun i h=>absurd h (Nat.not_lt_zero i),fun h=>absurd h (Nat.not_lt_zero _)⟩
 | x::l=>by
  obtain⟨h1,h2,h3⟩:=twl p l
  cases hp:p x with
  | false=>
   simp only[List.takeWhile_cons,hp,Bool.false_eq_true,if_false,List.length_nil]
   exact⟨Nat.zero_le _,fun i _ h=>absurd h (Nat.not_lt_zero i),fun _=>hp⟩
  | true=>
   simp only[List.takeWhile_cons,hp,if_true,List.length_cons]
   refine⟨by omega,fun i h k=> ?_,fun h=> ?_⟩
   ·cases i with
    | zero=>exact hp
    | succ i=>simpa using h2 i (by simpa using h) (by omega)
   ·simpa using h3 (by omega)
def u1n {E:Type} (p:E→Bool) (l:List E):Nat:=(l.takeWhile fun x=> !p x).length
theorem r2b {E:Type} (p:E→Bool) (l:List E):u1n p l≤l.length:=(twl _ l).1
theorem t5t {E:Type} {p:E→Bool} {l:List E} {i:Nat} (h:i<l.length) (hi:i<u1n p l):p l[i] =false:=by
 have:=(twl (fun x=> !p x) l).2.1 i h hi
 simpa using this
theorem t86 {E:Type} {p:E→Bool} {l:List E} (h:u1n p l<l.length):p l[u1n p l] =true:=by
 unfold u1n at h ⊢
 have:=(twl (fun x=> !p x) l).2.2 h
 simpa using this
theorem q3t {E:Type} (p:E→Bool) (l:List E):decide (u1n p l<l.length)=l.any p:=by
 cases hc:l.any p with
 | true=>
  obtain⟨x,hx,hp⟩:=List.any_eq_true.mp hc
  obtain⟨i,hi,rfl⟩:=List.getElem_of_mem hx
  have: ¬i<u1n p l:=fun q=>by rw[t5t hi q] at hp;cases hp
  simp only[decide_eq_true_eq]
  omega
 | false=>
  simp only[decide_eq_false_iff_not]
  intro h
  have:=t86 h
  have:=List.any_eq_false.mp hc _ (List.getElem_mem h)
  contradiction
theorem Q.first {T:Ty} {c:Type} {q:T.den×c→Option Bool} {p:T.den→Bool} {W:List T.den×c×Int×Int→Option (Unit⊕Int)}
 (hW:∀x,W x=(bif (decide (x.2.2.2<x.2.2.1)) then(bif (y4q x.2.2.2 x.1.length) then((q ((rdL T x.1 (x.2.2.2).toNat),x.2.1)).bind fun(y1:Bool)=>(bif y1 then(some (.inr x.2.2.2)) else(W (x.1,(x.2.1,(x.2.2.1,(IntKind.i64.wrap (x.2.2.2+(1:Int))))))))) else none) else(some (.inl ()))))
 (l:List T.den) (k:c) (hl:l.length≤1099511627776) (hq:∀x∈l,q (x,k)=some (p x)):
 W (l,k,(l.length:Int),0)=some (if u1n p l<l.length then .inr ((u1n p l:Nat):Int) else .inl ()):=by
 have hle:=r2b p l
 have:=s5l W (u1n p l) (fun(_:Unit) i=>(l,k,(l.length:Int),i)) (fun _ _=>if u1n p l<l.length then .inr ((u1n p l:Nat):Int) else .inl ()) (fun _ _=>True)
  (fun a _=>by
   rw[hW]
   by_cases hk:u1n p l<l.length
   ·simp only[u0c,hk,decide_true,cond_true,y7t hk,zTn,y8k hk,hq _ (List.getElem_mem hk),t86 hk,zOb,if_true]
   ·simp only[u0c,hk,decide_false,cond_false,if_false])
  (fun i a hi _=> .inr ⟨(),trivial,rfl,by
   have hil:i<l.length:=by omega
   rw[hW]
   simp only[u0c,hil,decide_true,cond_true,y7t hil,zTn,y8k hil,hq _ (List.getElem_mem hil),t5t hil hi,zOb,cond_false]
   rw[y7l (by omega)]⟩) 0 () (Nat.zero_le _) trivial
 exact this
theorem Q.delete {T:Ty} {c R:Type} {q:T.den×c→Option Bool} {p:T.den→Bool} {W:List T.den×c×Int×Int→Option ((List T.den×Int)⊕R)}
 (hW:∀x,W x=(bif (decide (x.2.2.2<(x.1.length:Int))) then(bif (y4q x.2.2.2 x.1.length) then((q ((rdL T x.1 (x.2.2.2).toNat),x.2.1)).bind fun(y2:Bool)=>(bif (!y2) then(bif (y4q x.2.2.1 x.1.length) then(W ((x.1.set (x.2.2.1).toNat (rdL T x.1 (x.2.2.2).toNat)),(x.2.1,((IntKind.i64.wrap (x.2.2.1+(1:Int))),(IntKind.i64.wrap (x.2.2.2+(1:Int))))))) else none) else(W (x.1,(x.2.1,(x.2.2.1,(IntKind.i64.wrap (x.2.2.2+(1:Int))))))))) else none) else(some (.inl (x.1,x.2.2.1)))))
 (l:List T.den) (k:c) (hl:l.length≤1099511627776) (hq:∀x∈l,q (x,k)=some (p x)) (hf:u1n p l<l.length):
 ∃a:List T.den,W (l,k,((u1n p l:Nat):Int),((u1n p l+1:Nat):Int))=some (.inl (a,((l.filter fun x=> !p x).length:Int)))∧a.length=l.length∧a.take (l.filter fun x=> !p x).length=l.filter fun x=> !p x:=by
 have key:∀(d j:Nat) (a:List T.den),j+d=l.length→a.length=l.length→a.drop j=l.drop j→((l.take j).filter fun x=> !p x).length≤j→((l.take j).filter fun x=> !p x).length<l.length→a.take ((l.take j).filter fun x=> !p x).length=(l.take j).filter (fun x=> !p x)→
  ((l.take j).filter fun x=> !p x).length<j→
  ∃a' :List T.den,W (a,k,(((l.take j).filter fun x=> !p x).length:Int),(j:Int))=some (.inl (a',((l.filter fun x=> !p x).length:Int)))∧a'.length=l.length∧a'.take (l.filter fun x=> !p x).length=l.filter fun x=> !p x:=by
  intro d
  induction d with
  | zero=>
   intro j a hj ha h1 h2 h3 h4 h5
   have e:j=l.length:=by omega
   subst e
   rw[List.take_length] at h4 ⊢
   rw[hW]
   simp only[ha,u0c,Nat.lt_irrefl,decide_false,cond_false]
   exact⟨a,rfl,ha,h4⟩
  | succ d ih=>
   intro j a hj ha h1 h2 h3 h4 h5
   have hjl:j<l.length:=by omega
   have hja:j<a.length:=by omega
   have haj:a[j] =l[j] :=by
    have e1:=List.drop_eq_getElem_cons hja
    have e2:=List.drop_eq_getElem_cons hjl
    rw[h1,e2] at e1
    injection e1 with e1 _
    exact e1.symm
   have hs:l.take (j+1)=l.take j++ [l[j]] :=List.take_succ_eq_append_getElem hjl
   have hd:a.drop (j+1)=l.drop (j+1):=by
    have:=congrArg List.tail h1
    simpa using this
   rw[hW]
   simp only[u0c,hja,decide_true,cond_true,y7t hja,zTn,y8k hja,haj,hq _ (List.getElem_mem hjl),zOb]
   rw[y7l (i:=j) (by omega)]
   cases hp:p l[j] with
   | true=>
    simp only[Bool.not_true,cond_false]
    have e:(l.take (j+1)).filter (fun x=> !p x)=(l.take j).filter fun x=> !p x:=by rw[hs,List.filter_append,List.filter_cons];simp only[hp,Bool.not_true,Bool.false_eq_true,if_false,List.filter_nil,List.append_nil]
    have:=ih (j+1) a (by omega) ha hd (by rw[e];omega) (by rw[e];exact h3) (by rw[e];exact h4) (by rw[e];omega)
    rwa [e] at this
   | false=>
    have e:(l.take (j+1)).filter (fun x=> !p x)=(l.take j).filter (fun x=> !p x)++ [l[j]] :=by rw[hs,List.filter_append,List.filter_cons];simp only[hp,Bool.not_false,if_true,List.filter_nil]
    have el:((l.take (j+1)).filter fun x=> !p x).length=((l.take j).filter fun x=> !p x).length+1:=by rw[e];simp
    have hia:((l.take j).filter fun x=> !p x).length<a.length:=by omega
    simp only[Bool.not_false,cond_true,y7t hia]
    rw[y7l (i:=((l.take j).filter fun x=> !p x).length) (by omega)]
    have:=ih (j+1) (a.set ((l.take j).filter fun x=> !p x).length l[j]) (by omega) (by simpa using ha) (by
     rw[List.drop_set_of_lt (by omega)]
     exact hd) (by rw[el];omega) (by rw[el];omega) (by
     rw[el,List.take_succ_eq_append_getElem (by simpa using hia),e]
     congr 1
     ·rw[List.take_set_of_le (Nat.le_refl _)]
      exact h4
     ·simp) (by rw[el];omega)
    rwa [el] at this
 have hk:=r2b p l
 have e:(l.take (u1n p l+1)).filter (fun x=> !p x)=l.take (u1n p l):=by
  rw[List.take_succ_eq_append_getElem hf,List.filter_append]
  have h1:(l.take (u1n p l)).filter (fun x=> !p x)=l.take (u1n p l):=by
   rw[List.filter_eq_self]
   intro x hx
   obtain⟨i,hi,rfl⟩:=List.getElem_of_mem hx
   have hi' :i<u1n p l:=by have:=hi;rw[List.length_take] at this;omega
   rw[List.getElem_take,t5t (by omega) hi']
   rfl
  rw[h1]
  simp[t86 hf]
 have el:((l.take (u1n p l+1)).filter fun x=> !p x).length=u1n p l:=by rw[e,List.length_take];omega
 have:=key (l.length - (u1n p l+1)) (u1n p l+1) l (by omega) rfl rfl (by rw[el];omega) (by rw[el];exact hf) (by rw[el,e]) (by rw[el];omega)
 rwa [el] at this
end
section
def q35 (x y:u0i):Bool:=decide (x.2.1=3)&&decide (x.2.2.2.1≤y.2.2.1)
def r4a (a b:u0i):Bool:= !decide (a.1=b.1)&&(!q35 a b&& !q35 b a)
def ahead (a b:u0i):Bool:=r4a a b&&r1m a.2.2.2.2.1 b.2.2.2.2.2.1
def q34 (t:u0i) (l:List u0i):Bool:=l.any fun x=>decide (x.2.1=3)&&ahead t x
theorem p2k (a b:u0i):s55 (a,b)=some (r4a a b):=by
 rw[q89];unfold r6c r4a q35
 by_cases h1:a.1=b.1
 ·simp[h1]
 ·by_cases h2:a.2.1=3<;>by_cases h3:a.2.2.2.1≤b.2.2.1<;>by_cases h4:b.2.1=3<;>by_cases h5:b.2.2.2.1≤a.2.2.1<;>simp[h1,h2,h3,h4,h5]
theorem p2j (a b:u0i):s5r (a,b)=some (r4a a b):=by
 rw[q8l];unfold r5m
 simp only[q2n,s88]
 unfold r4a q35
 by_cases h1:a.1=b.1
 ·simp[h1]
 ·by_cases h2:a.2.1=3<;>by_cases h3:a.2.2.2.1≤b.2.2.1<;>by_cases h4:b.2.1=3<;>by_cases h5:b.2.2.2.1≤a.2.2.1<;>simp[h1,h2,h3,h4,h5]
theorem q6p (a b:u0i) (ha:a.2.2.2.2.1.length≤u0l) (hb:b.2.2.2.2.2.1.length≤u0l):s1r (a,b)=some (ahead a b):=by
 rw[p07];unfold r9t ahead
 have h1:=p2k a b
 have h2:=p0l _ _ ha hb
 simp only[h2,zOb]
 rw[h1]
 cases r4a a b<;>rfl
theorem q6o (a b:u0i) (ha:a.2.2.2.2.1.length≤u0l) (hb:b.2.2.2.2.2.1.length≤u0l):s1j (a,b)=some (ahead a b):=by
 rw[p0v];unfold r9i ahead
 have h1:=p2j a b
 have h2:=p0k _ _ ha hb
 simp only[h2,zOb]
 rw[h1]
 cases r4a a b<;>rfl
end
section
def q93 (t:u0i):Prop:=t.2.2.2.2.1.length≤1048576∧t.2.2.2.2.2.1.length≤1048576
def p62 (l:List u0i):Prop:=l.length≤4194304∧ ∀t∈l,q93 t
theorem p1e {n:Nat} (h:n≤1048576):n≤u0l:=by unfold u0l;omega
theorem q6u (t:u0i) (l:List u0i) (ht:q93 t) (hl:p62 l):s1s (t,l)=some (q34 t l):=by
 obtain⟨l1,l2⟩:=hl
 have L:=q18 t6k l (fun i=>(l,t,i)) (fun x=>decide (x.2.1=3)&&ahead t x) (.inr true) (.inl ())
  (by rw[r4u];simp only[t6e,u0c,Nat.lt_irrefl,decide_false,cond_false])
  (fun i hi=>by
   have h1:=q6p t l[i] (p1e ht.1) (p1e (l2 _ (List.getElem_mem hi)).2)
   rw[r4u]
   simp only[t6e,u0c,hi,decide_true,cond_true,y7t hi,zTn,y8k (t:=u0o) hi,h1,zOb]
   rw[y7l (by omega)]
   cases decide (l[i].2.1=3)<;>cases ahead t l[i] <;>rfl)
 rw[p1a];unfold r9w q34
 simp only[L,zOb]
 cases l.any fun x=>decide (x.2.1=3)&&ahead t x<;>rfl
theorem q6t (t:u0i) (l:List u0i) (ht:q93 t) (hl:p62 l):s1k (t,l)=some (q34 t l):=by
 obtain⟨l1,l2⟩:=hl
 have hq:∀x∈l,t6q (x,t)=some (decide (x.2.1=3)&&ahead t x):=fun x hx=>by
  have h1:=q6o t x (p1e ht.1) (p1e (l2 x hx).2)
  rw[q49];unfold r20
  simp only[r60,r5v,zOb,h1]
  cases decide (x.2.1=3)<;>rfl
 have L:=Q.first (T:=u0o) (c:=u0i) (W:=u1h) (q:=t6q) (p:=fun x:u0i=>decide (x.2.1=3)&&ahead t x) (fun x=>u82 x) l t (by omega) hq
 rw[p0y];unfold r9l q34
 simp only[s3l,t35,u71,u3i,u9w,u39,L,zOb]
 rw[←q3t]
 by_cases h:u1n (fun x:u0i=>decide (x.2.1=3)&&ahead t x) l<l.length
 ·simp[h]
 ·simp[h]
theorem t7a (t:u0i) (h:q93 t):u3e t=some t:=by
 rw[q6g];unfold r35
 simp only[List.length_nil,Nat.zero_add,List.nil_append,u1w (show t.2.2.2.2.1.length≤1099511627776 by have:=h.1;omega),u1w (show t.2.2.2.2.2.1.length≤1099511627776 by have:=h.2;omega),cond_true]
theorem q1x (t:u0i) (h:q93 t):t2c t=some t:=by
 rw[q5n];unfold r3e
 simp only[u1w (show t.2.2.2.2.1.length≤1099511627776 by have:=h.1;omega),u1w (show t.2.2.2.2.2.1.length≤1099511627776 by have:=h.2;omega),cond_true]
theorem q1w (l:List u0i) (h:p62 l):t68 l=some l:=by
 have L:=s22 t3l l (fun a i=>(l,a,i)) (fun _=>true) (fun x=>x) (fun a=> .inl a) (by have:=h.1;omega)
  (fun a _=>by rw[s8l];simp only[t29,u0c,Nat.lt_irrefl,decide_false,cond_false])
  (fun i hi a ha=>by
   have h1:=t7a l[i] (h.2 _ (List.getElem_mem hi))
   have:=h.1
   rw[s8l]
   simp only[t29,u0c,hi,decide_true,cond_true,y7t hi,zTn,y8k (t:=u0o) hi,h1,zOb,List.length_singleton,u1w (show a.length+1≤1099511627776 by omega)]
   rw[y7l (by omega)])
 rw[q6i];unfold r37
 simp only[L,zOb]
 simp
theorem q1v (l:List u0i) (h:p62 l):t49 l=some l:=by
 have L:=s22 t08 l (fun a i=>(a,l,(l.length:Int),i)) (fun _=>true) (fun x=>x) (fun a=> .inl a) (by have:=h.1;omega)
  (fun a _=>by rw[s4z];simp only[t0m,u0c,Nat.lt_irrefl,decide_false,cond_false])
  (fun i hi a ha=>by
   have h1:=q1x l[i] (h.2 _ (List.getElem_mem hi))
   have:=h.1
   rw[s4z]
   simp only[t0m,u0c,hi,decide_true,cond_true,y7t hi,zTn,y8k (t:=u0o) hi,h1,zOb,List.length_singleton,u1w (show a.length+1≤1099511627776 by omega)]
   rw[y7l (by omega)])
 rw[q2z];unfold s9j
 simp only[L,zOb]
 simp
abbrev u0j:=List u14×List u0i×List u0i×Int×Int
def p1f (b:u0j):Prop:=b.1.length≤4194304∧p62 b.2.1∧p62 b.2.2.1
theorem t8p (b:u0j) (h:p1f b):u3f b=some b:=by
 have h1:=q1w b.2.1 h.2.1
 have h2:=q1w b.2.2.1 h.2.2
 rw[q6h];unfold r36
 simp only[List.length_nil,Nat.zero_add,List.nil_append,u1w (show b.1.length≤1099511627776 by have:=h.1;omega),cond_true,h1,h2,zOb]
theorem t8o (b:u0j) (h:p1f b):u1o b=some b:=by
 have h1:=q1v b.2.1 h.2.1
 have h2:=q1v b.2.2.1 h.2.2
 rw[q2y];unfold s9i
 simp only[u1w (show b.1.length≤1099511627776 by have:=h.1;omega),cond_true,h1,h2,zOb]
end
section
def t45 (b:u0j) (open_:List u0i):Int:=open_.foldl (fun m t=>if t.2.2.1<m then t.2.2.1 else m) b.2.2.2.1
theorem p2q (b:u0j) (o:List u0i) (h:o.length≤4194304):t99 (b,o)=some (t45 b o):=by
 have L:=t1s t1c o (fun a i=>(o,a,i)) (fun(m:Int) t=>if t.2.2.1<m then t.2.2.1 else m) (fun a=> .inl a) (fun _ _=>True)
  (fun a _=>by rw[s43];simp only[t0q,u0c,Nat.lt_irrefl,decide_false,cond_false])
  (fun i hi a _=>by
   refine⟨trivial,?_⟩
   rw[s43]
   simp only[t0q,u0c,hi,decide_true,cond_true,y7t hi,zTn,y8k (t:=u0o) hi]
   rw[y7l (by omega)]
   by_cases hc:o[i].2.2.1<a
   ·simp only[hc,decide_true,cond_true,if_true]
   ·simp only[hc,decide_false,cond_false,if_false]) b.2.2.2.1 trivial
 rw[q3h];unfold s91
 simp only[L,zOb]
 rfl
theorem p2p (b:u0j) (o:List u0i) (h:o.length≤4194304):t9o (b,o)=some (t45 b o):=by
 have L:=t1s t03 o (fun a i=>(a,o,(o.length:Int),i)) (fun(m:Int) t=>if t.2.2.1<m then t.2.2.1 else m) (fun a=> .inl a) (fun _ _=>True)
  (fun a _=>by rw[s4t];simp only[t0g,u0c,Nat.lt_irrefl,decide_false,cond_false])
  (fun i hi a _=>by
   refine⟨trivial,?_⟩
   rw[s4t]
   simp only[t0g,u0c,hi,decide_true,cond_true,y7t hi,zTn,y8k (t:=u0o) hi]
   rw[y7l (by omega)]
   have e:y8i a o[i].2.2.1=if o[i].2.2.1<a then o[i].2.2.1 else a:=by
    unfold y8i
    split<;>rfl
   rw[e]) b.2.2.2.1 trivial
 rw[q2r];unfold s9c
 simp only[L,zOb]
 rfl
def u0v (b:u0j) (n:ByteArray):Int:=if u1n (fun x:u0i=>z7o x.2.2.2.2.2.2.2 n) b.2.2.1<b.2.2.1.length then((u1n (fun x:u0i=>z7o x.2.2.2.2.2.2.2 n) b.2.2.1:Nat):Int) else -1
theorem r9e (b:u0j) (n:ByteArray) (h:b.2.2.1.length≤4194304):t6t (b,n)=some (u0v b n):=by
 have hq:∀x∈b.2.2.1,t3p (x,n)=some (z7o x.2.2.2.2.2.2.2 n):=fun x _=>by
  rw[q0w];unfold s6j;rfl
 have L:=Q.first (T:=u0o) (c:=ByteArray) (W:=u06) (q:=t3p) (p:=fun x:u0i=>z7o x.2.2.2.2.2.2.2 n) (fun x=>u7d x) b.2.2.1 n (by omega) hq
 rw[q5d];unfold r24 u0v
 simp only[u8x,u3v,L,zOb]
 by_cases hk:u1n (fun x:u0i=>z7o x.2.2.2.2.2.2.2 n) b.2.2.1<b.2.2.1.length
 ·simp only[if_pos hk,zOb]
 ·simp only[if_neg hk,zOb]
theorem r9f (b:u0j) (n:ByteArray) (h:b.2.2.1.length≤4194304):t65 (b,n)=some (u0v b n):=by
 have L:=s5l u8o (u1n (fun x:u0i=>z7o x.2.2.2.2.2.2.2 n) b.2.2.1) (fun(_:Unit) i=>(n,b,i)) (fun _ _=>if u1n (fun x:u0i=>z7o x.2.2.2.2.2.2.2 n) b.2.2.1<b.2.2.1.length then .inr ((u1n (fun x:u0i=>z7o x.2.2.2.2.2.2.2 n) b.2.2.1:Nat):Int) else .inl ()) (fun _ _=>True)
  (fun a _=>by
   have hle:=r2b (fun x:u0i=>z7o x.2.2.2.2.2.2.2 n) b.2.2.1
   rw[s8d]
   by_cases hk:u1n (fun x:u0i=>z7o x.2.2.2.2.2.2.2 n) b.2.2.1<b.2.2.1.length
   ·have hy:=t86 hk
    simp only[u8d,u0c,hk,decide_true,cond_true,y7t hk,zTn,y8k (t:=u0o) hk,hy,if_true]
   ·simp only[u8d,u0c,hk,decide_false,cond_false,if_false])
  (fun i a hi _=> .inr ⟨(),trivial,rfl,by
   have hle:=r2b (fun x:u0i=>z7o x.2.2.2.2.2.2.2 n) b.2.2.1
   have hil:i<b.2.2.1.length:=by omega
   have hn:=t5t hil hi
   rw[s8d]
   simp only[u8d,u0c,hil,decide_true,cond_true,y7t hil,zTn,y8k (t:=u0o) hil,hn,cond_false]
   rw[y7l (by omega)]⟩) 0 () (Nat.zero_le _) trivial
 have L:u8o (n,b,0)=_:=L
 rw[q56];unfold r3u u0v
 simp only[L,zOb]
 by_cases hk:u1n (fun x:u0i=>z7o x.2.2.2.2.2.2.2 n) b.2.2.1<b.2.2.1.length
 ·simp only[if_pos hk]
 ·simp only[if_neg hk]
end
section
def q6l (l:List u14) (snap:Int) (i:Nat):Bool:=decide ((rdL u0b l i).2.2.2 >snap) || decide (t39 l (rdL u0b l i).1 snap=(i:Int))
def trA (l:List u14) (snap:Int):Nat→List u14
 | 0=> []
 | n+1=>if q6l l snap n=true then trA l snap n++ [rdL u0b l n] else trA l snap n
theorem r8x (l:List u14) (snap:Int):∀n,(trA l snap n).length≤n
 | 0=>Nat.le_refl _
 | n+1=>by
  have:=r8x l snap n
  simp only[trA]
  split
  ·simp;omega
  ·omega
def p75 (l:List u14) (k:ByteArray):Nat:=(l.filter fun v=>z7o v.1 k).length
def p5h (l:List u14) (snap:Int) (v:u14):Bool:= !v.2.2.1 || (decide (v.2.2.2 >snap) || decide ((p75 l v.1:Int) >1))
def u2x (l:List u14) (snap:Int):List u14:=(trA l snap l.length).filter (p5h (trA l snap l.length) snap)
theorem p50 (l:List u14) (snap:Int) (hl:l.length≤8388608):u8q (l,snap, [],0)=some (.inl (snap,trA l snap l.length)):=
 q19 u8q l.length (fun a i=>(l,snap,a,i)) (fun i=>trA l snap i) (.inl (snap,trA l snap l.length))
  (by rw[s8h];simp only[t25,u0c,Nat.lt_irrefl,decide_false,cond_false])
  (fun i hi=>by
   have hL:=q31 l (rdL u0b l i).1 snap (by omega)
   have hn:=r8x l snap i
   rw[s8h]
   simp only[t25,u0c,hi,decide_true,cond_true,y7t hi,zTn,hL,zOb,List.length_singleton,u1w (show(trA l snap i).length+1≤1099511627776 by omega)]
   rw[y7l (by omega)]
   simp only[trA,q6l]
   by_cases h1:(rdL u0b l i).2.2.2 >snap
   ·simp[h1]
   ·by_cases h2:t39 l (rdL u0b l i).1 snap=(i:Int)<;>simp[h1,h2])
theorem p5z (l:List u14) (snap:Int) (hl:l.length≤8388608):u8i (l,snap, [],l,(l.length:Int),0)=some (.inl (snap,trA l snap l.length)):=
 q19 u8i l.length (fun a i=>(l,snap,a,l,(l.length:Int),i)) (fun i=>trA l snap i) (.inl (snap,trA l snap l.length))
  (by rw[s73];simp only[t2s,u0c,Nat.lt_irrefl,decide_false,cond_false])
  (fun i hi=>by
   have hL:=q30 l (rdL u0b l i).1 snap (by omega)
   have hn:=r8x l snap i
   rw[s73]
   simp only[t2s,u0c,hi,decide_true,cond_true,y7t hi,zTn,hL,zOb,List.length_singleton,u1w (show(trA l snap i).length+1≤1099511627776 by omega)]
   rw[y7l (by omega)]
   simp only[trA,q6l]
   by_cases h1:(rdL u0b l i).2.2.2 >snap
   ·simp[h1]
   ·by_cases h2:t39 l (rdL u0b l i).1 snap=(i:Int)<;>simp[h1,h2])
end
section
theorem q2f (k:ByteArray):∀(l:List u14) (a:Nat),l.foldl (fun(a:Nat) v=>if z7o v.1 k=true then a+1 else a) a=a+p75 l k
 | [],a=>by simp[p75]
 | x::l,a=>by
  rw[List.foldl_cons,q2f k l]
  unfold p75
  cases hc:z7o x.1 k with
  | true=>simp[List.filter_cons,hc];omega
  | false=>simp[List.filter_cons,hc]
theorem p52 (s out:List u14) (snap:Int) (i:Nat) (hi:i<s.length) (hl:s.length≤8388608):
 u6v (snap,s,out,(i:Int),0,0)=some (.inl (snap,s,out,(i:Int),(p75 s s[i].1:Int))):=by
 have L:=t1s u6v s (fun(a:Nat) j=>(snap,s,out,(i:Int),(a:Int),j)) (fun(a:Nat) v=>if z7o v.1 s[i].1=true then a+1 else a) (fun a=> .inl (snap,s,out,(i:Int),(a:Int))) (fun j a=>a≤j)
  (fun a _=>by rw[s49];simp only[t0w,u0c,Nat.lt_irrefl,decide_false,cond_false])
  (fun j hj a ha=>by
   rw[s49]
   simp only[t0w,u0c,hj,decide_true,cond_true,y7t hj,y7t hi,zTn,y8k (t:=u0b) hj,y8k (t:=u0b) hi]
   rw[y7l (i:=j) (by omega),y7l (i:=a) (by omega)]
   cases z7o s[j].1 s[i].1 with
   | true=>simp only[cond_true,if_true];exact⟨by omega,trivial⟩
   | false=>simp only[cond_false,Bool.false_eq_true,if_false];exact⟨by omega,trivial⟩) 0 (Nat.zero_le _)
 rw[q2f,Nat.zero_add] at L
 exact L
theorem p51 (s:List u14) (k:ByteArray) (hl:s.length≤8388608):t7s (k,s)=some (p75 s k:Int):=by
 have L:=t1s u52 s (fun(a:Nat) j=>(k,(a:Int),s,(s.length:Int),j)) (fun(a:Nat) v=>if z7o v.1 k=true then a+1 else a) (fun a=> .inl (a:Int)) (fun j a=>a≤j)
  (fun a _=>by rw[s10];simp only[u9c,u0c,Nat.lt_irrefl,decide_false,cond_false])
  (fun j hj a ha=>by
   rw[s10]
   simp only[u9c,u0c,hj,decide_true,cond_true,y7t hj,zTn,y8k (t:=u0b) hj]
   rw[y7l (i:=j) (by omega),y7l (i:=a) (by omega)]
   cases z7o s[j].1 k with
   | true=>simp only[cond_true,if_true];exact⟨by omega,trivial⟩
   | false=>simp only[cond_false,Bool.false_eq_true,if_false];exact⟨by omega,trivial⟩) 0 (Nat.zero_le _)
 rw[q2f,Nat.zero_add] at L
 have L:u52 (k,0,s,(s.length:Int),0)=_:=L
 rw[q0z];unfold s6l
 simp only[L,zOb]
theorem p0n (l:List u14) (snap:Int) (hl:l.length≤8388608):s2r (l,snap)=some (u2x l snap):=by
 have hs:(trA l snap l.length).length≤8388608:=Nat.le_trans (r8x _ _ _) hl
 obtain⟨s,hse⟩:∃s,s=trA l snap l.length:=⟨_,rfl⟩
 rw[←hse] at hs
 have L:=s22 t1e s (fun a i=>(snap,s,a,i)) (p5h s snap) (fun v=>v) (fun a=> .inl a) (by omega)
  (fun a _=>by rw[s48];simp only[t0v,u0c,Nat.lt_irrefl,decide_false,cond_false])
  (fun i hi a ha=>by
   rw[s48]
   simp only[t0v,u0c,hi,decide_true,cond_true,p52 s a snap i hi hs,zOb,y7t hi,zTn,y8k (t:=u0b) hi,List.length_singleton,u1w (show a.length+1≤1099511627776 by omega)]
   rw[y7l (by omega)]
   unfold p5h
   cases h1:s[i].2.2.1 with
   | false=>simp
   | true=>
    by_cases h2:s[i].2.2.2 >snap
    ·simp[h2]
    ·by_cases h3:(p75 s s[i].1:Int) >1<;>simp[h2,h3])
 rw[List.map_id'] at L
 have hA:=p50 l snap hl
 rw[←hse] at hA
 rw[q6b];unfold r3z u2x
 rw[←hse]
 simp only[hA,L,zOb]
theorem p0m (l:List u14) (snap:Int) (hl:l.length≤8388608):s2g (l,snap)=some (u2x l snap):=by
 have hs:(trA l snap l.length).length≤8388608:=Nat.le_trans (r8x _ _ _) hl
 obtain⟨s,hse⟩:∃s,s=trA l snap l.length:=⟨_,rfl⟩
 rw[←hse] at hs
 have L:=s22 t06 s (fun a i=>(snap,s,a,s,(s.length:Int),i)) (p5h s snap) (fun v=>v) (fun a=> .inl a) (by omega)
  (fun a _=>by rw[s4w];simp only[t0j,u0c,Nat.lt_irrefl,decide_false,cond_false])
  (fun i hi a ha=>by
   rw[s4w]
   simp only[t0j,u0c,hi,decide_true,cond_true,p51 s _ hs,zOb,y7t hi,zTn,y8k (t:=u0b) hi,List.length_singleton,u1w (show a.length+1≤1099511627776 by omega)]
   rw[y7l (by omega)]
   unfold p5h
   cases h1:s[i].2.2.1 with
   | false=>simp
   | true=>
    by_cases h2:s[i].2.2.2 >snap
    ·simp[h2]
    ·by_cases h3:(p75 s s[i].1:Int) >1<;>simp[h2,h3])
 rw[List.map_id'] at L
 have hA:=p5z l snap hl
 rw[←hse] at hA
 rw[q5i];unfold r29 u2x
 rw[←hse]
 simp only[hA,L,zOb]
theorem p3q (l:List u14) (snap:Int):(u2x l snap).length≤l.length:=Nat.le_trans (List.length_filter_le _ _) (r8x _ _ _)
end
section
theorem p94 {E:Type} {r:E→E→Prop} (hi:∀x,¬r x x) (ha:∀x y,r x y→ ¬r y x):∀ {l m:List E},l.Pairwise r→m.Pairwise r→(∀x,x∈l↔x∈m)→l=m
 | [], [],_,_,_=>rfl
 | [],y::m,_,_,h=>by have:=(h y).mpr (by simp);simp at this
 | x::l, [],_,_,h=>by have:=(h x).mp (by simp);simp at this
 | x::l,y::m,hl,hm,h=>by
  have hl' :=List.pairwise_cons.mp hl
  have hm' :=List.pairwise_cons.mp hm
  have hxy:x=y:=by
   rcases List.mem_cons.mp ((h x).mp (by simp)) with e | e
   ·exact e
   ·rcases List.mem_cons.mp ((h y).mpr (by simp)) with e' | e'
    ·exact e'.symm
    ·exact absurd (hm'.1 x e) (ha _ _ (hl'.1 y e'))
  subst hxy
  congr 1
  refine p94 hi ha hl'.2 hm'.2 fun z=> ?_
  constructor
  ·intro hz
   rcases List.mem_cons.mp ((h z).mp (by simp[hz])) with e | e
   ·subst e;exact absurd (hl'.1 z hz) (hi z)
   ·exact e
  ·intro hz
   rcases List.mem_cons.mp ((h z).mpr (by simp[hz])) with e | e
   ·subst e;exact absurd (hm'.1 z hz) (hi z)
   ·exact e
def vLt (a b:u14):Prop:=y3c a.1 b.1=true∨(a.1=b.1∧vCs a<vCs b)
def VAsc (l:List u14):Prop:=l.Pairwise vLt
theorem p3r (a:u14): ¬vLt a a:=fun h=>by
 rcases h with h | h
 ·rw[u79] at h;cases h
 ·omega
theorem p9n (a b:u14) (h:vLt a b): ¬vLt b a:=fun k=>by
 rcases h with h | ⟨h,h'⟩<;>rcases k with k | ⟨k,k'⟩
 ·rw[r2f h] at k;cases k
 ·rw[k,u79] at h;cases h
 ·rw[h,u79] at k;cases k
 ·omega
theorem o1b (a b:u14) (h: ¬(a.1=b.1∧vCs a=vCs b)):vLt a b∨vLt b a:=by
 rcases r8t a.1 b.1 with c | c | c
 ·exact .inl (.inl c)
 ·rcases Int.lt_trichotomy (vCs a) (vCs b) with d | d | d
  ·exact .inl (.inr ⟨c,d⟩)
  ·exact absurd ⟨c,d⟩ h
  ·exact .inr (.inr ⟨c.symm,d⟩)
 ·exact .inr (.inl c)
theorem VAsc.ext {l m:List u14} (h:VAsc l) (k:VAsc m) (e:∀x,x∈l↔x∈m):l=m:=p94 p3r p9n h k e
theorem VAsc.uni:∀ {l:List u14},VAsc l→ ∀x∈l,∀y∈l,x.1=y.1→vCs x=vCs y→x=y
 | [],_,x,hx=>by cases hx
 | z::l,h,x,hx=>fun y hy e1 e2=>by
  have h' :=List.pairwise_cons.mp h
  have no:∀a b:u14,a.1=b.1→vCs a=vCs b→ ¬vLt a b:=fun a b e1 e2 k=>by
   rcases k with k | k
   ·rw[e1,u79] at k;cases k
   ·omega
  rcases List.mem_cons.mp hx with rfl | hx' <;>rcases List.mem_cons.mp hy with rfl | hy'
  ·rfl
  ·exact absurd (h'.1 y hy') (no _ _ e1 e2)
  ·exact absurd (h'.1 x hx') (no _ _ e1.symm e2.symm)
  ·exact VAsc.uni h'.2 x hx' y hy' e1 e2
def p8p (l:List u14) (s:Int) (x:u14):Prop:=vCs x≤s∧ ∀y∈l,y.1=x.1→vCs y≤s→vCs y≤vCs x
theorem q7c {l:List u14} (hA:VAsc l) {s:Int} {i:Nat} (h:i<l.length):t39 l l[i].1 s=(i:Int)↔p8p l s l[i] :=by
 obtain⟨h1,h2⟩:=q61 l l[i].1 s l.length (Nat.le_refl _)
 constructor
 ·intro e
  obtain⟨_,g1,g2,g3⟩:=h2 i e
  refine⟨g2,fun y hy e1 e2=> ?_⟩
  obtain⟨j,hj,rfl⟩:=List.getElem_of_mem hy
  exact g3 j hj hj e1 e2
 ·rintro⟨g2,g3⟩
  have hr:=q7d l l[i].1 s
  rcases Int.lt_or_le (t39 l l[i].1 s) 0 with z | z
  ·exact absurd ⟨rfl,g2⟩ (h1 z i h h)
  ·obtain⟨b,hb⟩:∃b:Nat,t39 l l[i].1 s=(b:Int):=⟨(t39 l l[i].1 s).toNat,by omega⟩
   obtain⟨hbl,k1,k2,k3⟩:=h2 b hb
   have m1:=g3 l[b] (List.getElem_mem hbl) k1 k2
   have m2:=k3 i h h rfl g2
   have e:=VAsc.uni hA l[b] (List.getElem_mem hbl) l[i] (List.getElem_mem h) k1 (by omega)
   have hp:l.Nodup:=hA.imp fun h e=>by subst e;exact p3r _ h
   have:b=i:=(List.getElem_inj hp).mp e
   rw[hb,this]
theorem p3p (l:List u14) (s:Int):∀n,n≤l.length→(trA l s n).Sublist (l.take n)
 | 0,_=>by simp[trA]
 | n+1,h=>by
  have ih:=p3p l s n (by omega)
  have hn:n<l.length:=by omega
  rw[List.take_succ_eq_append_getElem hn]
  simp only[trA]
  split
  ·rw[y8k (t:=u0b) hn]
   exact ih.append (List.Sublist.refl _)
  ·exact ih.trans (List.sublist_append_left _ _)
theorem u8a (l:List u14) (s:Int):(u2x l s).Sublist l:=by
 have h:=p3p l s l.length (Nat.le_refl _)
 rw[List.take_length] at h
 exact List.filter_sublist.trans h
theorem t6a {l:List u14} (h:VAsc l) (s:Int):VAsc (u2x l s):=h.sublist (u8a l s)
theorem p1p {l:List u14} {s:Int} {x:u14} :∀n,n≤l.length→(x∈trA l s n↔ ∃(i:Nat) (h:i<l.length),i<n∧l[i] =x∧q6l l s i=true)
 | 0,_=>by simp[trA]
 | n+1,h=>by
  have ih:=p1p (x:=x) (s:=s) n (Nat.le_of_succ_le h)
  have hn:n<l.length:=by omega
  have split:(∃(i:Nat) (h:i<l.length),i<n+1∧l[i] =x∧q6l l s i=true)↔(∃(i:Nat) (h:i<l.length),i<n∧l[i] =x∧q6l l s i=true)∨(l[n] =x∧q6l l s n=true):=by
   constructor
   ·rintro⟨i,hi,h1,h2⟩
    by_cases e:i=n
    ·subst e;exact .inr h2
    ·exact .inl ⟨i,hi,by omega,h2⟩
   ·rintro(⟨i,hi,h1,h2⟩ | h2)
    ·exact⟨i,hi,by omega,h2⟩
    ·exact⟨n,hn,by omega,h2⟩
  rw[split,←ih]
  simp only[trA]
  by_cases c:q6l l s n=true
  ·rw[if_pos c,y8k (t:=u0b) hn,List.mem_append,List.mem_singleton]
   simp only[c,and_true]
   exact or_congr Iff.rfl eq_comm
  ·rw[if_neg c]
   simp[c]
theorem q9n {l:List u14} (hA:VAsc l) {s:Int} {x:u14} :x∈trA l s l.length↔x∈l∧(vCs x >s∨p8p l s x):=by
 rw[p1p _ (Nat.le_refl _)]
 constructor
 ·rintro⟨i,hi,_,rfl,k⟩
  refine⟨List.getElem_mem hi,?_⟩
  unfold q6l at k
  rw[y8k (t:=u0b) hi,Bool.or_eq_true,decide_eq_true_eq,decide_eq_true_eq] at k
  rcases k with k | k
  ·exact .inl k
  ·exact .inr ((q7c hA hi).mp k)
 ·rintro⟨hx,k⟩
  obtain⟨i,hi,rfl⟩:=List.getElem_of_mem hx
  refine⟨i,hi,hi,rfl,?_⟩
  unfold q6l
  rw[y8k (t:=u0b) hi,Bool.or_eq_true,decide_eq_true_eq,decide_eq_true_eq]
  rcases k with k | k
  ·exact .inl k
  ·exact .inr ((q7c hA hi).mpr k)
theorem p53 {E:Type} :∀ {l:List E},l.Nodup→1<l.length→ ∀x,∃y∈l,y≠x
 | [],_,h,_=>by simp at h
 | [_],_,h,_=>by simp at h
 | a::b::l,hn,_,x=>by
  by_cases e:a=x
  ·subst e
   refine⟨b,by simp,fun e=> ?_⟩
   subst e
   simp at hn
  ·exact⟨a,by simp,e⟩
theorem p5m {E:Type} {l:List E} {x y:E} (hx:x∈l) (hy:y∈l) (h:x≠y):1<l.length:=by
 match l,hx,hy with
 | [a],hx,hy=>rw[List.mem_singleton] at hx hy;exact absurd (hx.trans hy.symm) h
 | a::b::l,_,_=>simp
theorem u75 {l:List u14} (hA:VAsc l) {s:Int} {x:u14} :x∈u2x l s↔x∈l∧(vCs x >s∨(p8p l s x∧(x.2.2.1=false∨ ∃y∈l,y.1=x.1∧vCs y >s))):=by
 unfold u2x
 rw[List.mem_filter,q9n hA]
 unfold p5h
 rw[Bool.or_eq_true,Bool.or_eq_true,decide_eq_true_eq,decide_eq_true_eq,Bool.not_eq_true']
 have hs:VAsc (trA l s l.length):=by
  have h:=p3p l s l.length (Nat.le_refl _)
  rw[List.take_length] at h
  exact hA.sublist h
 constructor
 ·rintro⟨⟨hx,h1⟩,h2⟩
  refine⟨hx,?_⟩
  by_cases c:vCs x >s
  ·exact .inl c
  ·rcases h1 with h1 | h1
   ·exact absurd h1 c
   ·refine .inr ⟨h1,?_⟩
    rcases h2 with h2 | h2 | h2
    ·exact .inl h2
    ·exact absurd h2 c
    ·have hn:((trA l s l.length).filter fun v=>z7o v.1 x.1).Nodup:=(hs.filter _).imp fun h e=>by subst e;exact p3r _ h
     have hl:1<((trA l s l.length).filter fun v=>z7o v.1 x.1).length:=by unfold p75 at h2;omega
     obtain⟨y,hy,hne⟩:=p53 hn hl x
     rw[List.mem_filter,q9n hA] at hy
     obtain⟨⟨hyl,hy1⟩,hy2⟩:=hy
     have hk:=y7f.mp hy2
     refine .inr ⟨y,hyl,hk,?_⟩
     rcases hy1 with hy1 | hy1
     ·exact hy1
     ·have a1:=h1.2 y hyl hk hy1.1
      have a2:=hy1.2 x hx hk.symm h1.1
      exact absurd (VAsc.uni hA y hyl x hx hk (by omega)) hne
 ·rintro⟨hx,h1⟩
  rcases h1 with h1 | ⟨h1,h2⟩
  ·exact⟨⟨hx, .inl h1⟩, .inr (.inl h1)⟩
  ·refine⟨⟨hx, .inr h1⟩,?_⟩
   rcases h2 with h2 | ⟨y,hy,hk,hc⟩
   ·exact .inl h2
   ·refine .inr (.inr ?_)
    have m1:x∈(trA l s l.length).filter fun v=>z7o v.1 x.1:=by rw[List.mem_filter,q9n hA];exact⟨⟨hx, .inr h1⟩,y7f.mpr rfl⟩
    have m2:y∈(trA l s l.length).filter fun v=>z7o v.1 x.1:=by rw[List.mem_filter,q9n hA];exact⟨⟨hy, .inl hc⟩,y7f.mpr hk⟩
    have:=p5m m1 m2 (fun e=>by have:=h1.1;subst e;omega)
    unfold p75
    omega
theorem q4l {l:List u14} (hA:VAsc l) {a b:Int} (hab:a≤b):u2x (u2x l a) b=u2x l b:=by
 have hT:=t6a hA a
 refine(t6a hT b).ext (t6a hA b) fun x=> ?_
 refine Iff.trans (u75 hT) (Iff.trans ?_ (u75 hA).symm)
 have hsub:∀y,y∈u2x l a→y∈l:=fun y hy=>(u8a l a).subset hy
 have hup:∀y,y∈l→vCs y >a→y∈u2x l a:=fun y hy h=>(u75 hA).mpr ⟨hy, .inl h⟩
 constructor
 ·rintro⟨hx,h⟩
  have hxl:=hsub x hx
  refine⟨hxl,?_⟩
  rcases h with h | ⟨h1,h2⟩
  ·exact .inl h
  ·right
   have hL:p8p l b x:=by
    refine⟨h1.1,fun y hy e1 e2=> ?_⟩
    by_cases c:vCs y >a
    ·exact h1.2 y (hup y hy c) e1 e2
    ·by_cases c2:vCs x >a
     ·omega
     ·rcases(u75 hA).mp hx with ⟨_,h3 | ⟨h3,_⟩⟩
      ·exact absurd h3 c2
      ·exact h3.2 y hy e1 (by omega)
   refine⟨hL,?_⟩
   rcases h2 with h2 | ⟨y,hy,e1,e2⟩
   ·exact .inl h2
   ·exact .inr ⟨y,hsub y hy,e1,e2⟩
 ·rintro⟨hxl,h⟩
  rcases h with h | ⟨h1,h2⟩
  ·exact⟨hup x hxl (by omega), .inl h⟩
  ·have hx:x∈u2x l a:=by
    by_cases c:vCs x >a
    ·exact hup x hxl c
    ·refine(u75 hA).mpr ⟨hxl, .inr ⟨⟨by omega,fun y hy e1 e2=>h1.2 y hy e1 (by omega)⟩,?_⟩⟩
     rcases h2 with h2 | ⟨y,hy,e1,e2⟩
     ·exact .inl h2
     ·exact .inr ⟨y,hy,e1,by omega⟩
   refine⟨hx, .inr ⟨⟨h1.1,fun y hy=>h1.2 y (hsub y hy)⟩,?_⟩⟩
   rcases h2 with h2 | ⟨y,hy,e1,e2⟩
   ·exact .inl h2
   ·exact .inr ⟨y,hup y hy (by omega),e1,e2⟩
theorem q0c {l:List u14} (hA:VAsc l) {s:Int} (hs:∀x∈l,vCs x≤s) {x:u14} :x∈u2x l s↔x∈l∧x.2.2.1=false∧ ∀y∈l,y.1=x.1→vCs y≤vCs x:=by
 rw[u75 hA]
 constructor
 ·rintro⟨hx,h⟩
  refine⟨hx,?_⟩
  rcases h with h | ⟨h1,h2 | ⟨y,hy,_,h2⟩⟩
  ·have:=hs x hx;omega
  ·exact⟨h2,fun y hy e=>h1.2 y hy e (hs y hy)⟩
  ·have:=hs y hy;omega
 ·rintro⟨hx,h1,h2⟩
  exact⟨hx, .inr ⟨⟨hs x hx,fun y hy e _=>h2 y hy e⟩, .inl h1⟩⟩
theorem r8r {l:List u14} (hA:VAsc l) {a:Int} {x:u14} :(x∈u2x l a∧x.2.2.1=false∧ ∀y∈u2x l a,y.1=x.1→vCs y≤vCs x)↔(x∈l∧x.2.2.1=false∧ ∀y∈l,y.1=x.1→vCs y≤vCs x):=by
 constructor
 ·rintro⟨hx,h1,h2⟩
  have hxl:=(u8a l a).subset hx
  refine⟨hxl,h1,fun y hy e=> ?_⟩
  by_cases c:vCs y >a
  ·exact h2 y ((u75 hA).mpr ⟨hy, .inl c⟩) e
  ·rcases(u75 hA).mp hx with ⟨_,h3 | ⟨h3,_⟩⟩
   ·omega
   ·exact h3.2 y hy e (by omega)
 ·rintro⟨hx,h1,h2⟩
  refine⟨(u75 hA).mpr ⟨hx,?_⟩,h1,fun y hy=>h2 y ((u8a l a).subset hy)⟩
  by_cases c:vCs x >a
  ·exact .inl c
  ·exact .inr ⟨⟨by omega,fun y hy e _=>h2 y hy e⟩, .inl h1⟩
theorem p80 {l:List u14} (hA:VAsc l) {v:u14} (hn:∀x∈l,¬(x.1=v.1∧vCs x=vCs v)):VAsc (p4f l v):=by
 have le_iff:∀x:u14,u6c v x=true↔(vLt x v∨(x.1=v.1∧vCs x=vCs v)):=fun x=>by
  unfold u6c vLt
  rw[Bool.or_eq_true,Bool.and_eq_true,decide_eq_true_eq]
  constructor
  ·rintro(h | ⟨h1,h2⟩)
   ·exact .inl (.inl h)
   ·have h1:=y7f.mp h1
    have h2:vCs x≤vCs v:=h2
    rcases Int.lt_or_eq_of_le h2 with h2 | h2
    ·exact .inl (.inr ⟨h1,h2⟩)
    ·exact .inr ⟨h1,h2⟩
  ·rintro((h | ⟨h1,h2⟩) | ⟨h1,h2⟩)
   ·exact .inl h
   ·exact .inr ⟨y7f.mpr h1,Int.le_of_lt h2⟩
   ·exact .inr ⟨y7f.mpr h1,Int.le_of_eq h2⟩
 have tr:∀ {a b c:u14},vLt a b→vLt b c→vLt a c:=fun {a b c} h k=>by
  rcases h with h | ⟨h,h'⟩<;>rcases k with k | ⟨k,k'⟩
  ·exact .inl (r7h h k)
  ·exact .inl (k ▸ h)
  ·exact .inl (h ▸ k)
  ·exact .inr ⟨h.trans k,by omega⟩
 unfold p4f VAsc
 have hsplit:l.takeWhile (u6c v)++l.dropWhile (u6c v)=l:=List.takeWhile_append_dropWhile
 have hA' :(l.takeWhile (u6c v)++l.dropWhile (u6c v)).Pairwise vLt:=by rw[hsplit];exact hA
 obtain⟨p1,p2,p3⟩:=List.pairwise_append.mp hA'
 have lo:∀x∈l.takeWhile (u6c v),vLt x v:=fun x hx=>by
  have h1:u6c v x=true:=by
   have:=List.all_takeWhile (p:=u6c v) (l:=l)
   exact List.all_eq_true.mp this x hx
  have h2:x∈l:=(List.takeWhile_sublist _).subset hx
  rcases(le_iff x).mp h1 with h | h
  ·exact h
  ·exact absurd h (hn x h2)
 have hi:∀x∈l.dropWhile (u6c v),vLt v x:=by
  intro x hx
  match hd:l.dropWhile (u6c v),hx,p2 with
  | [],hx,_=>cases hx
  | y::r,hx,p2=>
   have hy:u6c v y=false:=by
    have:=List.head?_dropWhile_not (u6c v) l
    rw[hd] at this
    simpa using this
   have hyl:y∈l:=(List.dropWhile_sublist (p:=u6c v)).subset (by rw[hd];simp)
   have hvy:vLt v y:=by
    rcases o1b y v (hn y hyl) with h | h
    ·rw[(le_iff y).mpr (.inl h)] at hy;cases hy
    ·exact h
   rcases List.mem_cons.mp hx with rfl | hx
   ·exact hvy
   ·exact tr hvy ((List.pairwise_cons.mp p2).1 x hx)
 rw[List.append_assoc,List.pairwise_append]
 refine⟨p1,?_,?_⟩
 ·rw[List.singleton_append,List.pairwise_cons]
  exact⟨hi,p2⟩
 ·intro x hx y hy
  rcases List.mem_append.mp hy with hy | hy
  ·rw[List.mem_singleton] at hy;subst hy;exact lo x hx
  ·exact p3 x hx y hy
theorem r7b {cs:Int} :∀(ws:List u01.den) {l:List u14},VAsc l→KD ws→(∀x∈l,∀w∈ws,¬(x.1=w.1∧vCs x=cs))→VAsc (t4e l ws cs)
 | [],l,h,_,_=>h
 | w::ws,l,h,hk,hn=>by
  have hk' :=List.pairwise_cons.mp hk
  have e:t4e l (w::ws) cs=t4e (p4f l (w.1,w.2.1,w.2.2,cs)) ws cs:=rfl
  rw[e]
  refine r7b ws (p80 h fun x hx=>hn x hx w (by simp)) hk'.2 fun x hx z hz=> ?_
  rcases p8s.mp hx with rfl | hx
  ·exact fun q=>hk'.1 z hz q.1
  ·exact hn x hx z (by simp[hz])
theorem p9k {l:List u14} (hA:VAsc l) {ws:List u01.den} (hk:KD ws) {a c:Int} (hl:∀x∈l,vCs x<c):
 u2x (t4e (u2x l a) ws c) c=u2x (t4e l ws c) c:=by
 have hT:=t6a hA a
 have hlT:∀x∈u2x l a,vCs x<c:=fun x hx=>hl x ((u8a l a).subset hx)
 have P1:VAsc (t4e (u2x l a) ws c):=r7b ws hT hk fun x hx w _ q=>by have:=hlT x hx;omega
 have P2:VAsc (t4e l ws c):=r7b ws hA hk fun x hx w _ q=>by have:=hl x hx;omega
 have t1:∀x∈t4e (u2x l a) ws c,vCs x≤c:=fun x hx=>by
  rcases(t7i ws _ c).mp hx with h | ⟨w,_,rfl⟩
  ·have:=hlT x h;omega
  ·exact Int.le_refl _
 have t2:∀x∈t4e l ws c,vCs x≤c:=fun x hx=>by
  rcases(t7i ws _ c).mp hx with h | ⟨w,_,rfl⟩
  ·have:=hl x h;omega
  ·exact Int.le_refl _
 have key:∀(m:List u14),(∀x∈m,vCs x<c)→ ∀x,(x∈t4e m ws c∧x.2.2.1=false∧ ∀y∈t4e m ws c,y.1=x.1→vCs y≤vCs x)↔
  ((∃w∈ws,x=(w.1,w.2.1,w.2.2,c))∧x.2.2.1=false)∨((∀w∈ws,w.1≠x.1)∧x∈m∧x.2.2.1=false∧ ∀y∈m,y.1=x.1→vCs y≤vCs x):=by
  intro m hm x
  have mp:=fun y=>t7i (x:=y) ws m c
  constructor
  ·rintro⟨h1,h2,h3⟩
   rcases(mp x).mp h1 with h | h
   ·refine .inr ⟨fun w hw e=> ?_,h,h2,fun y hy e=>h3 y ((mp y).mpr (.inl hy)) e⟩
    have q:c≤vCs x:=h3 (w.1,w.2.1,w.2.2,c) ((mp _).mpr (.inr ⟨w,hw,rfl⟩)) e
    have:=hm x h
    omega
   ·exact .inl ⟨h,h2⟩
  ·rintro(⟨h1,h2⟩ | ⟨h1,h2,h3,h4⟩)
   ·refine⟨(mp x).mpr (.inr h1),h2,fun y hy _=> ?_⟩
    obtain⟨w,hw,rfl⟩:=h1
    show vCs y≤c
    rcases(mp y).mp hy with h | ⟨w,_,rfl⟩
    ·have:=hm y h;omega
    ·exact Int.le_refl _
   ·refine⟨(mp x).mpr (.inl h2),h3,fun y hy e=> ?_⟩
    rcases(mp y).mp hy with h | ⟨w,hw,rfl⟩
    ·exact h4 y h e
    ·exact absurd e (h1 w hw)
 refine(t6a P1 c).ext (t6a P2 c) fun x=> ?_
 rw[q0c P1 t1,q0c P2 t2,key _ hlT,key _ hl,r8r hA]
end
section
abbrev q6v:=ByteArray×ByteArray
abbrev WrT:=ByteArray×ByteArray×Bool
abbrev s5h:=u0j×List u0i
def inB (x lo hi:Int):Bool:=decide (lo≤x)&&decide (x≤hi)
theorem r8p {x lo hi:Int} :inB x lo hi=true↔lo≤x∧x≤hi:=by simp[inB]
def t2a (s:ByteArray):Bool:=s.data.toList.all (fun b=>decide (97≤b.toNat)&&decide (b.toNat≤122))&&(decide (1≤s.size)&&decide (s.size≤3))
def t30 (r:q6v):Bool:=t2a r.1&&(t2a r.2&&(y3c r.1 r.2 || z7o r.1 r.2))
def u8c (w:WrT):Bool:=t2a w.1&&(decide (w.2.1.size≤12)&&(!w.2.2 || decide (w.2.1.size=0)))
def q44 (t:Ty) (lt:t.den→t.den→Bool) (l:List t.den):Bool:=(List.range l.length).all fun i=>decide (i=0) || lt (rdL t l (i - 1)) (rdL t l i)
def t1r (l:List WrT):Bool:=l.all u8c&&(q44 u01 (fun a b=>y3c a.1 b.1) l&&decide (l.length≤8))
def u49 (t:u0i):Bool:=
 inB t.1 1 9999&&(inB t.2.1 1 3&&(inB t.2.2.1 0 9999&&(decide (t.2.2.2.2.1.length≤8)&&(t1r t.2.2.2.2.2.1&&(t.2.2.2.2.1.all t30&&
 ((if t.2.1=3 then inB t.2.2.2.1 (t.2.2.1+1) 9999 else decide (t.2.2.2.1=0))&&((if t.2.1=2 then t2a t.2.2.2.2.2.2.2 else decide (t.2.2.2.2.2.2.2.size=0))&&(!decide (t.2.1=1) || !t.2.2.2.2.2.2.1))))))))
def r5a (v:u14):Bool:=t2a v.1&&(decide (v.2.1.size≤12)&&((!v.2.2.1 || decide (v.2.1.size=0))&&inB v.2.2.2 1 9999))
def s1x (a b:u14):Bool:=y3c a.1 b.1 || (z7o a.1 b.1&&decide (a.2.2.2<b.2.2.2))
def u5y (l:List u14):Bool:=l.all r5a&&(q44 u0b s1x l&&decide (l.length≤120))
def r45 (l:List Int) (below:Int):Bool:=decide (∀x∈l,x<below)&&decide l.Nodup
def p4d (c:Int) (l:List u0i):Bool:=decide (l.length≤12)&&(l.all (fun t=>u49 t&&(decide (t.2.1=3)&&decide (t.2.2.2.1≤c)))&&q44 u0o (fun a b=>decide (a.2.2.2.1<b.2.2.2.1)) l)
def q9x (c:Int) (l:List u0i):Bool:=decide (l.length≤3)&&(l.all (fun t=>u49 t&&(decide (t.2.1=2)&&decide (t.2.2.1≤c)))&&q44 u0o (fun a b=>y3c a.2.2.2.2.2.2.2 b.2.2.2.2.2.2.2) l)
def p4a (c:Int) (l:List u0i):Bool:=decide (l.length≤4)&&(l.all (fun t=>u49 t&&(decide (t.2.1=1)&&decide (t.2.2.1≤c)))&&q44 u0o (fun a b=>decide (a.1<b.1)) l)
def u6a (l:List u0i):List Int:=l.map fun t=>t.1
def u5m (b:u0j):Bool:=u5y b.1&&(b.1.all (fun v=>decide (v.2.2.2≤b.2.2.2.1))&&(inB b.2.2.2.1 0 9999&&(inB b.2.2.2.2 1 9999&&(p4d b.2.2.2.1 b.2.1&&(q9x b.2.2.2.1 b.2.2.1&&r45 (u6a (b.2.1++b.2.2.1)) b.2.2.2.2)))))
def q9k (e:s5h):Bool:=u5m e.1&&(p4a e.1.2.2.2.1 e.2&&r45 (u6a (e.1.2.1++e.1.2.2.1++e.2)) e.1.2.2.2.2)
theorem q8e {t:Ty} {lt:t.den→t.den→Bool} (tr:∀a b c,lt a b=true→lt b c=true→lt a c=true) {l:List t.den} :q44 t lt l=true↔l.Pairwise fun a b=>lt a b=true:=by
 unfold q44
 rw[List.all_eq_true]
 constructor
 ·intro h
  have step:∀(i:Nat) (hi:i+1<l.length),lt l[i] l[i+1] =true:=fun i hi=>by
   have:=h (i+1) (List.mem_range.mpr hi)
   rw[Bool.or_eq_true,decide_eq_true_eq] at this
   rcases this with q | q
   ·omega
   ·rw[Nat.add_sub_cancel,y8k (show i<l.length by omega),y8k hi] at q
    exact q
  rw[List.pairwise_iff_getElem]
  intro i j hi hj hij
  obtain⟨d,rfl⟩:∃d,j=i+1+d:=⟨j - (i+1),by omega⟩
  clear hij
  induction d with
  | zero=>exact step i hj
  | succ d ih=>exact tr _ _ _ (ih (by omega)) (step (i+1+d) hj)
 ·intro h i hi
  have hi:=List.mem_range.mp hi
  rw[Bool.or_eq_true,decide_eq_true_eq]
  by_cases e:i=0
  ·exact .inl e
  ·refine .inr ?_
   rw[y8k (show i - 1<l.length by omega),y8k hi]
   exact List.pairwise_iff_getElem.mp h (i - 1) i (by omega) hi (by omega)
theorem u5u {s:ByteArray} (h:t2a s=true):1≤s.size∧s.size≤3:=by
 unfold t2a at h
 simp only[Bool.and_eq_true,decide_eq_true_eq] at h
 exact h.2
structure TxnR (t:u0i):Prop where
 id:1≤t.1∧t.1≤9999
 st:1≤t.2.1∧t.2.1≤3
 snap:0≤t.2.2.1∧t.2.2.1≤9999
 rlen:t.2.2.2.2.1.length≤8
 ws:t1r t.2.2.2.2.2.1=true
 rs:∀r∈t.2.2.2.2.1,t30 r=true
 done:t.2.1=3→t.2.2.1+1≤t.2.2.2.1∧t.2.2.2.1≤9999
 nocs:t.2.1≠3→t.2.2.2.1=0
 name:t.2.1=2→t2a t.2.2.2.2.2.2.2=true
 noname:t.2.1≠2→t.2.2.2.2.2.2.2.size=0
 out:t.2.1=1→t.2.2.2.2.2.2.1=false
theorem r7l {t:u0i} :u49 t=true↔TxnR t:=by
 unfold u49
 simp only[Bool.and_eq_true,Bool.or_eq_true,r8p,decide_eq_true_eq,List.all_eq_true,Bool.not_eq_true',decide_eq_false_iff_not]
 constructor
 ·rintro⟨h1,h2,h3,h4,h5,h6,h7,h8,h9⟩
  refine⟨h1,h2,h3,h4,h5,h6,fun e=> ?_,fun e=> ?_,fun e=> ?_,fun e=> ?_,fun e=> ?_⟩
  ·rw[if_pos e,r8p] at h7;exact h7
  ·rw[if_neg e,decide_eq_true_eq] at h7;exact h7
  ·rw[if_pos e] at h8;exact h8
  ·rw[if_neg e,decide_eq_true_eq] at h8;exact h8
  ·rcases h9 with h9 | h9
   ·exact absurd e h9
   ·exact h9
 ·intro h
  refine⟨h.id,h.st,h.snap,h.rlen,h.ws,h.rs,?_,?_,?_⟩
  ·split
   ·rename_i e;rw[r8p];exact h.done e
   ·rename_i e;rw[decide_eq_true_eq];exact h.nocs e
  ·split
   ·rename_i e;exact h.name e
   ·rename_i e;rw[decide_eq_true_eq];exact h.noname e
  ·by_cases e:t.2.1=1
   ·exact .inr (h.out e)
   ·exact .inl e
theorem p96 {l:List WrT} :t1r l=true↔(∀w∈l,u8c w=true)∧(l.Pairwise fun a b=>y3c a.1 b.1=true)∧l.length≤8:=by
 unfold t1r
 rw[Bool.and_eq_true,Bool.and_eq_true,decide_eq_true_eq,List.all_eq_true,q8e (t:=u01) (lt:=fun a b=>y3c a.1 b.1) (fun a b c h k=>r7h h k)]
theorem p2c {l:List WrT} (h:t1r l=true):KD l:=
 (p96.mp h).2.1.imp fun {a b} q e=>by rw[e,u79] at q;cases q
theorem p54 {a b:u14} :s1x a b=true↔vLt a b:=by
 unfold s1x vLt vCs
 rw[Bool.or_eq_true,Bool.and_eq_true,decide_eq_true_eq,y7f]
theorem o28 {a b c:u14} (h:vLt a b) (k:vLt b c):vLt a c:=by
 rcases h with h | ⟨h,h'⟩<;>rcases k with k | ⟨k,k'⟩
 ·exact .inl (r7h h k)
 ·exact .inl (k ▸ h)
 ·exact .inl (h ▸ k)
 ·exact .inr ⟨h.trans k,by omega⟩
theorem p76 {l:List u14} :u5y l=true↔(∀v∈l,r5a v=true)∧VAsc l∧l.length≤120:=by
 unfold u5y
 rw[Bool.and_eq_true,Bool.and_eq_true,decide_eq_true_eq,List.all_eq_true,q8e (t:=u0b) (lt:=s1x) (fun a b c h k=>p54.mpr (o28 (p54.mp h) (p54.mp k)))]
 unfold VAsc
 simp only[p54]
theorem r0m {l:List Int} {n:Int} :r45 l n=true↔(∀x∈l,x<n)∧l.Nodup:=by
 unfold r45;rw[Bool.and_eq_true,decide_eq_true_eq,decide_eq_true_eq]
structure BaseR (b:u0j):Prop where
 vs:u5y b.1=true
 vcs:∀v∈b.1,v.2.2.2≤b.2.2.2.1
 cs:0≤b.2.2.2.1∧b.2.2.2.1≤9999
 next:1≤b.2.2.2.2∧b.2.2.2.2≤9999
 plen:b.2.1.length≤12
 past:∀t∈b.2.1,TxnR t∧t.2.1=3∧t.2.2.2.1≤b.2.2.2.1
 pasc:b.2.1.Pairwise fun x y=>x.2.2.2.1<y.2.2.2.1
 rlen:b.2.2.1.length≤3
 ready:∀t∈b.2.2.1,TxnR t∧t.2.1=2∧t.2.2.1≤b.2.2.2.1
 rasc:b.2.2.1.Pairwise fun x y=>y3c x.2.2.2.2.2.2.2 y.2.2.2.2.2.2.2=true
 below:∀x∈u6a (b.2.1++b.2.2.1),x<b.2.2.2.2
 nodup:(u6a (b.2.1++b.2.2.1)).Nodup
theorem o4v {l:List u0i} {f:u0i→Int} :q44 u0o (fun a b=>decide (f a<f b)) l=true↔l.Pairwise fun x y=>f x<f y:=by
 rw[q8e (t:=u0o) (lt:=fun a b=>decide (f a<f b)) (fun a b c h k=>by simp only[decide_eq_true_eq] at*;omega)]
 simp only[decide_eq_true_eq]
theorem o6y {l:List u0i} :q44 u0o (fun a b=>y3c a.2.2.2.2.2.2.2 b.2.2.2.2.2.2.2) l=true↔l.Pairwise fun x y=>y3c x.2.2.2.2.2.2.2 y.2.2.2.2.2.2.2=true:=
 q8e (t:=u0o) (lt:=fun a b=>y3c a.2.2.2.2.2.2.2 b.2.2.2.2.2.2.2) (fun a b c h k=>r7h h k)
theorem q62 {b:u0j} :u5m b=true↔BaseR b:=by
 unfold u5m p4d q9x
 simp only[Bool.and_eq_true,r8p,decide_eq_true_eq,List.all_eq_true,r7l,r0m,o6y]
 rw[o4v (f:=fun t=>t.2.2.2.1)]
 constructor
 ·rintro⟨h1,h2,h3,h4,⟨h5,h6,h7⟩,⟨h8,h9,h10⟩,h11,h12⟩
  exact⟨h1,h2,h3,h4,h5,h6,h7,h8,h9,h10,h11,h12⟩
 ·intro h
  exact⟨h.vs,h.vcs,h.cs,h.next,⟨h.plen,h.past,h.pasc⟩,⟨h.rlen,h.ready,h.rasc⟩,h.below,h.nodup⟩
structure EngR (e:s5h):Prop where
 base:BaseR e.1
 olen:e.2.length≤4
 open_:∀t∈e.2,TxnR t∧t.2.1=1∧t.2.2.1≤e.1.2.2.2.1
 oasc:e.2.Pairwise fun x y=>x.1<y.1
 below:∀x∈u6a (e.1.2.1++e.1.2.2.1++e.2),x<e.1.2.2.2.2
 nodup:(u6a (e.1.2.1++e.1.2.2.1++e.2)).Nodup
theorem o2k {e:s5h} :q9k e=true↔EngR e:=by
 unfold q9k p4a
 simp only[Bool.and_eq_true,decide_eq_true_eq,List.all_eq_true,r7l,r0m,q62]
 rw[o4v (f:=fun t=>t.1)]
 constructor
 ·rintro⟨h1,⟨h2,h3,h4⟩,h5,h6⟩
  exact⟨h1,h2,h3,h4,h5,h6⟩
 ·intro h
  exact⟨h.base,⟨h.olen,h.open_,h.oasc⟩,h.below,h.nodup⟩
end
section
theorem u4j (l:List Int):(y7g l).size=l.length:=by
 simp[y7g,ByteArray.size]
theorem p30 {s:ByteArray} {i:Nat} (h:i<s.size):s.data.toList.getD i 0=s.data.toList[i]'(by simpa using h):=by
 rw[List.getD_eq_getElem?_getD,List.getElem?_eq_getElem (by simpa using h)]
 rfl
theorem o4z (n m:Nat):Int.tdiv (n:Int) (m:Int)=((n / m:Nat):Int):=(Int.ofNat_tdiv n m).symm
theorem p7r (n m:Nat):Int.tmod (n:Int) (m:Int)=((n % m:Nat):Int):=(Int.ofNat_tmod n m).symm
theorem p9q {n:Nat} (h:n<256):IntKind.u8.wrap (n:Int)=(n:Int):=by
 simp[IntKind.wrap,IntKind.bits,IntKind.signed]
 omega
end
section
abbrev u0k:=List ByteArray×List (Int×ByteArray)
theorem p6x:(⟨#[]⟩:ByteArray)=emp:=rfl
def r47 (a b c:Int):Bool:=decide (b≤a)&&decide (a≤c)
theorem t7p (a b c:Int):u1e (a,b,c)=some (r47 a b c):=by
 rw[q8v];unfold r5y r47
 simp only[ge_iff_le]
 cases decide (b≤a)<;>rfl
theorem s5q (a b c:Int):u03 (a,b,c)=some (r47 a b c):=by
 rw[p1c];unfold r9y r47
 simp only[ge_iff_le]
 cases decide (b≤a)<;>rfl
theorem r6w {d:u0k} :d.1.length≤q8c.wt d:=by simp only[Ty.wt];omega
theorem r6v {d:u0k} :d.2.length≤q8c.wt d:=by simp only[Ty.wt];omega
theorem p9a {d:u0k} {s:ByteArray} (h:s∈d.1):s.size≤q8c.wt d:=by
 have h1:q8c.wt d=(d.1.length+(d.1.map Ty.str.wt).sum)+(d.2.length+(d.2.map s5i.wt).sum):=rfl
 have h2:=t8e (f:=Ty.str.wt) h
 have h3:Ty.str.wt s=s.size:=rfl
 omega
theorem p83 {d:u0k} {p:Int×ByteArray} (h:p∈d.2):p.2.size≤q8c.wt d:=by
 have h1:q8c.wt d=(d.1.length+(d.1.map Ty.str.wt).sum)+(d.2.length+(d.2.map s5i.wt).sum):=rfl
 have h2:=t8e (f:=s5i.wt) h
 have h3:s5i.wt p=0+p.2.size:=rfl
 omega
def u88 (c:List (Int×ByteArray)) (at_:Int):Option ByteArray:=c.foldl (fun t p=>if p.1=at_ then some p.2 else t) none
def u0h (d:u0k) (at_:Int):ByteArray×Bool:=if 0≤at_∧at_<d.1.length then((u88 d.2 at_).getD (rdL Ty.str d.1 at_.toNat),true) else(emp,false)
theorem r05 (c:List (Int×ByteArray)) (p:Int×ByteArray) (at_:Int):u88 (c++ [p]) at_=if p.1=at_ then some p.2 else u88 c at_:=by
 simp[u88,List.foldl_append]
theorem r48 {c:List (Int×ByteArray)} {at_:Int} {s:ByteArray} (h:u88 c at_=some s):∃p∈c,p.2=s:=by
 have key:∀(c:List (Int×ByteArray)) (z:Option ByteArray),c.foldl (fun t p=>if p.1=at_ then some p.2 else t) z=some s→z=some s∨ ∃p∈c,p.2=s:=by
  intro c
  induction c with
  | nil=>intro z h;exact .inl h
  | cons p c ih=>
   intro z h
   rw[List.foldl_cons] at h
   rcases ih _ h with h | ⟨q,hq,h⟩
   ·split at h
    ·exact .inr ⟨p,by simp,by simpa using h⟩
    ·exact .inl h
   ·exact .inr ⟨q,by simp[hq],h⟩
 rcases key c none h with h | h
 ·cases h
 ·exact h
theorem r1e (d:u0k) (at_:Int):(u0h d at_).1.size≤q8c.wt d:=by
 unfold u0h
 split
 ·rename_i h
  cases hl:u88 d.2 at_ with
  | none=>
   simp only[Option.getD_none]
   have hi:at_.toNat<d.1.length:=by omega
   rw[y8k (t:=Ty.str) hi]
   exact p9a (List.getElem_mem hi)
  | some s=>
   simp only[Option.getD_some]
   obtain⟨p,hp,rfl⟩:=r48 hl
   exact p83 hp
 ·show 0≤_;omega
theorem p5e (c:List (Int×ByteArray)) (at_:Int) (z:ByteArray):c.foldl (fun t p=>if p.1=at_ then p.2 else t) z=(u88 c at_).getD z:=by
 have key:∀(c:List (Int×ByteArray)) (o:Option ByteArray) (z:ByteArray),c.foldl (fun t p=>if p.1=at_ then p.2 else t) (o.getD z)=(c.foldl (fun t p=>if p.1=at_ then some p.2 else t) o).getD z:=by
  intro c
  induction c with
  | nil=>intro o z;rfl
  | cons p c ih=>
   intro o z
   simp only[List.foldl_cons]
   by_cases h:p.1=at_
   ·simp only[h,if_true];exact ih (some p.2) z
   ·simp only[h,if_false];exact ih o z
 exact key c none z
theorem p34 (d:u0k) (at_:Int) (hd:d.1.length≤u0l):r47 at_ 0 (IntKind.i64.wrap ((d.1.length:Int) - 1))=decide (0≤at_∧at_<d.1.length):=by
 unfold u0l at hd
 rw[y4y (by omega) (by omega)]
 unfold r47
 by_cases h:0≤at_∧at_<d.1.length
 ·rw[decide_eq_true h,decide_eq_true h.1,decide_eq_true (by omega)];rfl
 ·rw[decide_eq_false h]
  by_cases h0:0≤at_
  ·rw[decide_eq_true h0,decide_eq_false (by omega)];rfl
  ·rw[decide_eq_false h0];rfl
theorem s8v (d:u0k) (at_:Int) (hd:q8c.wt d≤u0l):t1j (d,at_)=some (u0h d at_):=by
 have h1:d.1.length≤u0l:=Nat.le_trans r6w hd
 have h2:d.2.length≤u0l:=Nat.le_trans r6v hd
 rw[r77];unfold s25
 simp only[t7p,p34 d at_ h1,zOb]
 unfold u0h
 unfold u0l at h1 h2
 by_cases h:0≤at_∧at_<d.1.length
 ·have hg:y4q at_ d.1.length=true:=by simp[y4q,h]
  have L:=t1s u7t d.2 (fun t i=>(at_,t,d.2,(d.2.length:Int),i)) (fun t p=>if p.1=at_ then p.2 else t) (fun t=> .inl t) (fun _ _=>True)
   (fun a _=>by rw[s0i];simp only[u7m,u0c,Nat.lt_irrefl,decide_false,cond_false])
   (fun i hi a _=>⟨trivial,by
    rw[s0i];simp only[u7m,u0c,hi,decide_true,cond_true,y7t hi,zTn,y8k (t:=s5i) hi]
    rw[y7l (by omega)]
    by_cases hp:(d.2[i]).1=at_
    ·simp only[hp,decide_true,cond_true,if_true]
    ·simp only[hp,decide_false,cond_false,if_false]⟩) (rdL Ty.str d.1 at_.toNat) trivial
  simp only[h,and_self,decide_true,Bool.not_true,cond_false,hg,cond_true,L,zOb,if_true,p5e]
 ·simp only[h,decide_false,Bool.not_false,cond_true,if_false];rfl
theorem s8w (d:u0k) (at_:Int) (hd:q8c.wt d≤u0l):t1m (d,at_)=some (u0h d at_):=by
 have h1:d.1.length≤u0l:=Nat.le_trans r6w hd
 have h2:d.2.length≤u0l:=Nat.le_trans r6v hd
 rw[r8i];unfold s3g
 simp only[s5q,p34 d at_ h1,zOb]
 unfold u0h
 unfold u0l at h1 h2
 by_cases h:0≤at_∧at_<d.1.length
 ·have hg:y4q at_ d.1.length=true:=by simp[y4q,h]
  have L:∀n:Nat,n≤d.2.length→u7x (at_,d,(n:Int) - 1)=some (match u88 (d.2.take n) at_ with
   | some s=> .inr (s,true)
   | none=> .inl (at_,d)):=by
   intro n
   induction n with
   | zero=>
    intro _
    rw[s0m];simp only[u7q]
    rfl
   | succ n ih=>
    intro hn
    have hlt:n<d.2.length:=by omega
    rw[s0m];simp only[u7q]
    have e0:((n+1:Nat):Int) - 1=(n:Int):=by simp
    have e1:decide ((n:Int)≥0)=true:=by simp
    simp only[e0,e1,cond_true,y7t hlt,zTn,y8k (t:=s5i) hlt]
    rw[List.take_succ_eq_append_getElem hlt,r05]
    by_cases hp:(d.2[n]).1=at_
    ·simp only[hp,decide_true,cond_true,if_true]
    ·simp only[hp,decide_false,cond_false,if_false]
     rw[y4y (by omega) (by omega)]
     exact ih (by omega)
  have L:=L d.2.length (Nat.le_refl _)
  rw[List.take_length] at L
  have wl:IntKind.i64.wrap ((d.2.length:Int) - 1)=(d.2.length:Int) - 1:=y4y (by omega) (by omega)
  simp only[h,and_self,decide_true,Bool.not_true,cond_false,if_true]
  rw[wl,L]
  cases u88 d.2 at_ with
  | none=>simp only[zOb,hg,cond_true,Option.getD_none]
  | some s=>rfl
 ·simp only[h,decide_false,Bool.not_false,cond_true,if_false];rfl
def r2r (d:u0k) (from_:Int):Nat→Nat→ByteArray→ByteArray×Bool
 | 0,_,acc=>(acc,true)
 | m+1,i,acc=>if(u0h d (from_+(i:Int))).2 then r2r d from_ m (i+1) (acc++(u0h d (from_+(i:Int))).1) else(emp,false)
def u6b (d:u0k) (from_ n:Int):ByteArray×Bool:=if 0≤n∧n≤100 then r2r d from_ n.toNat 0 emp else(emp,false)
theorem u5t (s:ByteArray):(z7t s).length=s.size:=by simp[z7t]
theorem t38 (a b:ByteArray):z7t (a++b)=z7t a++z7t b:=by simp[z7t,ByteArray.data_append]
theorem t32 (s:ByteArray):y7g (z7t s)=s:=by
 cases s with
 | mk d=>
  unfold y7g z7t
  simp only[List.map_map]
  have:(d.toList.map ((fun n=>UInt8.ofNat n.toNat) ∘fun b=>(b.toNat:Int)))=d.toList:=by
   conv=>rhs;rw[←List.map_id d.toList]
   apply List.map_congr_left
   intro b _
   simp
  rw[this]
theorem s2a {a b c:Int} :r47 a b c=decide (b≤a∧a≤c):=by
 unfold r47
 by_cases h:b≤a<;>by_cases g:a≤c<;>simp[h,g]
theorem q13 (d:u0k) (from_ n:Int) (hd:q8c.wt d≤1073741824) (h1: -4611686018427387904≤from_) (h2:from_≤4611686018427387904):t5w (d,from_,n)=some (u6b d from_ n):=by
 have hb:q8c.wt d≤u0l:=by unfold u0l;omega
 rw[r8a];unfold s28 u6b
 simp only[t7p,s2a,zOb]
 by_cases h:0≤n∧n≤100
 ·obtain⟨m,rfl⟩:∃m:Nat,n=m:=⟨n.toNat,by omega⟩
  have L:=s5l (fun x=>(u7u x).bind fun r=>match r with
   | .inl o=>some (y7g o,true)
   | .inr z=>some z) m (fun(a:ByteArray) i=>(from_,(m:Int),d,z7t a,i)) (fun i a=>r2r d from_ (m - i) i a) (fun i a=>a.size≤i*1073741824)
   (fun a _=>by
    rw[s0j];simp only[u7n,u0c,Nat.lt_irrefl,decide_false,cond_false,zOb,t32,Nat.sub_self,r2r])
   (fun i a hi ha=>by
    have e:m - i=(m - (i+1))+1:=by omega
    have hs:=r1e d (from_+(i:Int))
    rw[s0j];simp only[u7n,u0c,hi,decide_true,cond_true]
    rw[y4y (n:=from_+(i:Int)) (by omega) (by omega),s8v d _ hb,e]
    simp only[zOb,r2r]
    cases hr:(u0h d (from_+(i:Int))).2 with
    | false=>left;rfl
    | true=>
     right
     refine⟨a++(u0h d (from_+(i:Int))).1,by rw[ByteArray.size_append];omega,by simp,?_⟩
     simp only[Bool.not_true,cond_false,u5t,u1w (show a.size+(u0h d (from_+(i:Int))).1.size≤1099511627776 by omega),cond_true,t38]
     rw[y7l (by omega)]) 0 emp (by omega) (by show 0≤_;omega)
  rw[decide_eq_true h,if_pos h,Bool.not_true,cond_false]
  exact L
 ·rw[decide_eq_false h,if_neg h];rfl
theorem q14 (d:u0k) (from_ n:Int) (hd:q8c.wt d≤1073741824) (h1: -4611686018427387904≤from_) (h2:from_≤4611686018427387904):t55 (d,from_,n)=some (u6b d from_ n):=by
 have hb:q8c.wt d≤u0l:=by unfold u0l;omega
 rw[r8k];unfold s3i u6b
 simp only[s5q,s2a,zOb]
 by_cases h:0≤n∧n≤100
 ·obtain⟨m,rfl⟩:∃m:Nat,n=m:=⟨n.toNat,by omega⟩
  have L:=s5l (fun x=>(u7y x).bind fun r=>match r with
   | .inl o=>some (o,true)
   | .inr z=>some z) m (fun(a:ByteArray) i=>(from_,(m:Int),d,a,i)) (fun i a=>r2r d from_ (m - i) i a) (fun i a=>a.size≤i*1073741824∧(i=0∨0≤from_))
   (fun a _=>by
    rw[s0n];simp only[u7r,u0c,Nat.lt_irrefl,decide_false,cond_false,zOb,Nat.sub_self,r2r])
   (fun i a hi ha=>by
    have e:m - i=(m - (i+1))+1:=by omega
    have hs:=r1e d (from_+(i:Int))
    rw[s0n];simp only[u7r,u0c,hi,decide_true,cond_true]
    rw[e]
    simp only[r2r]
    by_cases hf:from_<0∨from_ >(d.1.length:Int)
    ·left
     have hno:(u0h d (from_+(i:Int))).2=false:=by
      unfold u0h
      rw[if_neg (by omega)]
     rw[hno]
     by_cases hf1:from_<0
     ·rw[decide_eq_true hf1];rfl
     ·have hf2:from_ >(d.1.length:Int):=by omega
      rw[decide_eq_false hf1,decide_eq_true hf2];rfl
    ·have hf1: ¬from_<0:=by omega
     have hf2: ¬from_ >(d.1.length:Int):=by omega
     rw[decide_eq_false hf1,decide_eq_false hf2]
     simp only[cond_false,zOb]
     rw[y4y (n:=from_+(i:Int)) (by omega) (by omega),s8w d _ hb]
     simp only[zOb]
     cases hr:(u0h d (from_+(i:Int))).2 with
     | false=>left;rfl
     | true=>
      right
      refine⟨a++(u0h d (from_+(i:Int))).1,⟨by rw[ByteArray.size_append];omega,by omega⟩,by simp,?_⟩
      simp only[Bool.not_true,cond_false,decide_eq_true (show a.size+(u0h d (from_+(i:Int))).1.size≤140737488355328 by omega),cond_true]
      rw[y7l (by omega)]) 0 emp (by omega) ⟨by show 0≤_;omega, .inl rfl⟩
  rw[decide_eq_true h,if_pos h,Bool.not_true,cond_false]
  exact L
 ·rw[decide_eq_false h,if_neg h];rfl
end
section
theorem p6v (v:Nat):(bif decide ((v:Int)<97) then some true else some (decide ((v:Int) >122)))=some (!(decide (97≤v)&&decide (v≤122))):=by
 have e1:decide ((v:Int)<97)= !decide (97≤v):=by by_cases h:97≤v<;>simp[h] <;>omega
 have e2:decide ((v:Int) >122)= !decide (v≤122):=by by_cases h:v≤122<;>simp[h] <;>omega
 rw[e1,e2]
 cases decide (97≤v)<;>cases decide (v≤122)<;>rfl
theorem r2i (a b c:Int):u1e (a,b,c)=some (inB a b c):=t7p a b c
theorem s3p (a b c:Int):u03 (a,b,c)=some (inB a b c):=s5q a b c
theorem u8e {X R:Type} (W:X→Option R) (n:Nat) (mk:Int→X) (ok:Nat→Bool) (yes no:R) (hend:W (mk (n:Int))=some yes)
 (hstep:∀(i:Nat),i<n→W (mk (i:Int))=bif ok i then W (mk ((i+1:Nat):Int)) else some no):W (mk 0)=some (bif (List.range n).all ok then yes else no):=by
 have key:∀d i:Nat,i+d=n→W (mk (i:Int))=some (bif (List.range d).all (fun j=>ok (i+j)) then yes else no):=by
  intro d
  induction d with
  | zero=>intro i hi;have:i=n:=by omega
          subst this;simpa using hend
  | succ d ih=>
   intro i hi
   rw[hstep i (by omega),ih (i+1) (by omega),List.range_succ_eq_map,List.all_cons,List.all_map,Nat.add_zero]
   have e:((fun j=>ok (i+j)) ∘Nat.succ)=fun j=>ok (i+1+j):=by funext j;simp only[Function.comp];congr 1;omega
   rw[e]
   cases ok i<;>rfl
 have:=key n 0 (by omega)
 simpa using this
theorem t41 {t:Ty} (l:List t.den) (f:t.den→Bool):((List.range l.length).all fun i=>f (rdL t l i))=l.all f:=by
 rw[Bool.eq_iff_iff,List.all_eq_true,List.all_eq_true]
 constructor
 ·intro h x hx
  obtain⟨i,hi,rfl⟩:=List.getElem_of_mem hx
  have:=h i (List.mem_range.mpr hi)
  rwa [y8k hi] at this
 ·intro h i hi
  rw[y8k (List.mem_range.mp hi)]
  exact h _ (List.getElem_mem _)
theorem p6s {α:Type} (l:List α) (f g:α→Bool):(l.all fun i=>f i&&g i)=(l.all f&&l.all g):=by
 induction l with
 | nil=>rfl
 | cons x l ih=>simp only[List.all_cons,ih];cases f x<;>cases g x<;>simp
theorem s19 {t:Ty} (l:List t.den) (f:t.den→Bool) (lt:t.den→t.den→Bool):
 ((List.range l.length).all fun i=>f (rdL t l i)&&(decide (i=0) || lt (rdL t l (i - 1)) (rdL t l i)))=(l.all f&&q44 t lt l):=by
 rw[p6s (List.range l.length) (fun i=>f (rdL t l i)) (fun i=>decide (i=0) || lt (rdL t l (i - 1)) (rdL t l i)),t41]
 rfl
theorem t6n (i:Nat):decide ((i:Int) >0)= !decide (i=0):=by by_cases h:i=0<;>simp[h] <;>omega
theorem t2j {i:Nat} (h:i<4611686018427387904) (h0:i≠0):IntKind.i64.wrap ((i:Int) - (1:Int))=((i - 1:Nat):Int):=by
 rw[y4y (by omega) (by omega)];omega
theorem q9m (s:ByteArray) {i:Nat} (h:i<s.size):s.data.toList.getD i 0=s.data.toList[i]'h:=by
 rw[List.getD_eq_getElem?_getD,List.getElem?_eq_getElem h];rfl
theorem t8q (s:ByteArray) (hs:s.size≤u0l):u7g s=some (t2a s):=by
 have hb:u0l=1099511627776:=rfl
 have L:=u8e t6h s.size (fun i=>(s,i)) (fun i=>(fun b:UInt8=>decide (97≤b.toNat)&&decide (b.toNat≤122)) (s.data.toList.getD i 0)) (.inl s) (.inr false)
  (by rw[r4r];simp only[t6b,u0c,Nat.lt_irrefl,decide_false,cond_false])
  (fun i hi=>by
   rw[r4r];simp only[t6b,u0c,hi,decide_true,cond_true,y7t hi,zTn,y7l (show i<4611686018427387904 by omega)]
   rw[p6v];simp only[zOb]
   cases (decide (97≤(s.data.toList.getD i 0).toNat)&&decide ((s.data.toList.getD i 0).toNat≤122))<;>rfl)
 have hA:((List.range s.size).all fun i=>(fun b:UInt8=>decide (97≤b.toNat)&&decide (b.toNat≤122)) (s.data.toList.getD i 0))=s.data.toList.all (fun b=>decide (97≤b.toNat)&&decide (b.toNat≤122)):=by
  rw[Bool.eq_iff_iff,List.all_eq_true,List.all_eq_true]
  constructor
  ·intro h x hx
   obtain⟨i,hi,rfl⟩:=List.getElem_of_mem hx
   have:=h i (List.mem_range.mpr hi)
   rwa [q9m s hi] at this
  ·intro h i hi
   rw[q9m s (List.mem_range.mp hi)]
   exact h _ (List.getElem_mem _)
 rw[hA] at L
 rw[p0w];unfold r9j
 simp only[L,zOb]
 unfold t2a
 cases s.data.toList.all (fun b=>decide (97≤b.toNat)&&decide (b.toNat≤122))
 ·rfl
 ·simp only[cond_true,r2i,zOb,Bool.true_and]
  unfold inB
  congr 1
  have e1:decide ((1:Int)≤(s.size:Int))=decide (1≤s.size):=by simp;omega
  have e2:decide ((s.size:Int)≤3)=decide (s.size≤3):=by simp;omega
  rw[e1,e2]
theorem t8r (s:ByteArray) (hs:s.size≤u0l):u7i s=some (t2a s):=by
 have hb:u0l=1099511627776:=rfl
 have L:=u8e t6j s.size (fun i=>(s,i)) (fun i=>(fun b:UInt8=>decide (97≤b.toNat)&&decide (b.toNat≤122)) (s.data.toList.getD i 0)) (.inl s) (.inr false)
  (by rw[r4t];simp only[t6d,u0c,Nat.lt_irrefl,decide_false,cond_false])
  (fun i hi=>by
   rw[r4t];simp only[t6d,u0c,hi,decide_true,cond_true,y7t hi,zTn,y7l (show i<4611686018427387904 by omega)]
   rw[p6v];simp only[zOb]
   cases (decide (97≤(s.data.toList.getD i 0).toNat)&&decide ((s.data.toList.getD i 0).toNat≤122))<;>rfl)
 have hA:((List.range s.size).all fun i=>(fun b:UInt8=>decide (97≤b.toNat)&&decide (b.toNat≤122)) (s.data.toList.getD i 0))=s.data.toList.all (fun b=>decide (97≤b.toNat)&&decide (b.toNat≤122)):=by
  rw[Bool.eq_iff_iff,List.all_eq_true,List.all_eq_true]
  constructor
  ·intro h x hx
   obtain⟨i,hi,rfl⟩:=List.getElem_of_mem hx
   have:=h i (List.mem_range.mpr hi)
   rwa [q9m s hi] at this
  ·intro h i hi
   rw[q9m s (List.mem_range.mp hi)]
   exact h _ (List.getElem_mem _)
 rw[hA] at L
 rw[p08];unfold r9u
 simp only[L,zOb]
 unfold t2a
 cases s.data.toList.all (fun b=>decide (97≤b.toNat)&&decide (b.toNat≤122))
 ·rfl
 ·simp only[cond_true,s3p,zOb,Bool.true_and]
  unfold inB
  congr 1
  have e1:decide ((1:Int)≤(s.size:Int))=decide (1≤s.size):=by simp;omega
  have e2:decide ((s.size:Int)≤3)=decide (s.size≤3):=by simp;omega
  rw[e1,e2]
theorem p0b (r:q6v) (h1:r.1.size≤u0l) (h2:r.2.size≤u0l):s2c r=some (t30 r):=by
 rw[q5b];unfold r22 t30
 simp only[t8q _ h1,t8q _ h2,zOb]
 cases t2a r.1<;>cases t2a r.2<;>rfl
theorem p0c (r:q6v) (h1:r.1.size≤u0l) (h2:r.2.size≤u0l):s2n r=some (t30 r):=by
 rw[q53];unfold r3r t30
 simp only[t8r _ h1,t8r _ h2,zOb]
 cases t2a r.1<;>cases t2a r.2<;>rfl
theorem t1i (s:ByteArray):z7o s (⟨#[]⟩:ByteArray)=decide (s.size=0):=by
 rw[Bool.eq_iff_iff,y7f,decide_eq_true_eq]
 constructor
 ·intro h;subst h;rfl
 ·intro h;exact ByteArray.ext (Array.eq_empty_of_size_eq_zero h)
theorem o6e (s:ByteArray):decide ((s.size:Int)≤12)=decide (s.size≤12):=by simp;omega
theorem p0p (w:WrT) (h1:w.1.size≤u0l):s2h w=some (u8c w):=by
 rw[q5l];unfold r3c u8c
 simp only[t8q _ h1,zOb,t1i,o6e]
 cases t2a w.1<;>cases decide (w.2.1.size≤12)<;>cases w.2.2<;>rfl
theorem p0q (w:WrT) (h1:w.1.size≤u0l):s2s w=some (u8c w):=by
 rw[q6d];unfold r31 u8c
 simp only[t8r _ h1,zOb,t1i,o6e]
 cases t2a w.1<;>cases decide (w.2.1.size≤12)<;>cases w.2.2<;>rfl
theorem q7u {l:List WrT} {w:WrT} (h:w∈l):w.1.size≤(Ty.sl u01).wt l∧w.2.1.size≤(Ty.sl u01).wt l:=by
 have h1:(Ty.sl u01).wt l=l.length+(l.map u01.wt).sum:=rfl
 have h2:=t8e (f:=u01.wt) h
 have h3:u01.wt w=w.1.size+(w.2.1.size+0):=rfl
 omega
theorem q7g {l:List q6v} {w:q6v} (h:w∈l):w.1.size≤(Ty.sl u1z).wt l∧w.2.size≤(Ty.sl u1z).wt l:=by
 have h1:(Ty.sl u1z).wt l=l.length+(l.map u1z.wt).sum:=rfl
 have h2:=t8e (f:=u1z.wt) h
 have h3:u1z.wt w=w.1.size+w.2.size:=rfl
 omega
theorem t1x {t:Ty} (l:List t.den):l.length≤(Ty.sl t).wt l:=by
 have h1:(Ty.sl t).wt l=l.length+(l.map t.wt).sum:=rfl
 omega
theorem le8 (n:Nat):decide ((n:Int)≤8)=decide (n≤8):=by simp;omega
theorem gt8 (n:Nat):decide ((n:Int) >8)= !decide (n≤8):=by by_cases h:n≤8<;>simp[h] <;>omega
theorem q8a (l:List WrT) (hl:(Ty.sl u01).wt l≤u0l):t9r l=some (t1r l):=by
 have hb:u0l=1099511627776:=rfl
 have hn:=t1x (t:=u01) l
 have L:=u8e t07 l.length (fun i=>(l,l,(l.length:Int),i)) (fun i=>u8c (rdL u01 l i)&&(decide (i=0) || (fun a b:WrT=>y3c a.1 b.1) (rdL u01 l (i - 1)) (rdL u01 l i))) (.inl l) (.inr false)
  (by rw[s4y];simp only[t0l,u0c,Nat.lt_irrefl,decide_false,cond_false])
  (fun i hi=>by
   have hm:rdL u01 l i∈l:=by rw[y8k hi];exact List.getElem_mem hi
   rw[s4y];simp only[t0l,u0c,hi,decide_true,cond_true,y7t hi,zTn,y7l (show i<4611686018427387904 by omega),p0p _ (Nat.le_trans (q7u hm).1 hl),zOb,t6n]
   by_cases h0:i=0
   ·subst h0;simp only[decide_true,Bool.not_true,cond_false,Bool.true_or,Bool.and_true]
    cases u8c (rdL u01 l 0)<;>rfl
   ·simp only[h0,decide_false,Bool.not_false,cond_true,Bool.false_or,t2j (show i<4611686018427387904 by omega) h0,y7t (show i - 1<l.length by omega),zTn]
    cases u8c (rdL u01 l i)
    ·rfl
    ·simp only[Bool.not_true,cond_false,zOb,Bool.true_and]
     cases y3c (rdL u01 l (i - 1)).1 (rdL u01 l i).1<;>rfl)
 rw[s19 (t:=u01) l u8c (fun a b=>y3c a.1 b.1)] at L
 rw[q2x];unfold s9h
 simp only[L,zOb]
 unfold t1r
 cases l.all u8c
 ·rfl
 ·cases q44 u01 (fun a b=>y3c a.1 b.1) l
  ·rfl
  ·simp only[Bool.true_and,cond_true]
   rw[le8]
theorem q8b (l:List WrT) (hl:(Ty.sl u01).wt l≤u0l):s0d l=some (t1r l):=by
 have hb:u0l=1099511627776:=rfl
 have hn:=t1x (t:=u01) l
 have L:=u8e t1f l.length (fun i=>(l,i)) (fun i=>u8c (rdL u01 l i)&&(decide (i=0) || (fun a b:WrT=>y3c a.1 b.1) (rdL u01 l (i - 1)) (rdL u01 l i))) (.inl l) (.inr false)
  (by rw[s5b];simp only[t0y,u0c,Nat.lt_irrefl,decide_false,cond_false])
  (fun i hi=>by
   have hm:rdL u01 l i∈l:=by rw[y8k hi];exact List.getElem_mem hi
   rw[s5b];simp only[t0y,u0c,hi,decide_true,cond_true,y7t hi,zTn,y7l (show i<4611686018427387904 by omega),p0q _ (Nat.le_trans (q7u hm).1 hl),zOb,t6n]
   by_cases h0:i=0
   ·subst h0;simp only[decide_true,Bool.not_true,cond_false,Bool.true_or,Bool.and_true]
    cases u8c (rdL u01 l 0)<;>rfl
   ·simp only[h0,decide_false,Bool.not_false,cond_true,Bool.false_or,t2j (show i<4611686018427387904 by omega) h0,y7t (show i - 1<l.length by omega),zTn]
    cases u8c (rdL u01 l i)
    ·rfl
    ·simp only[Bool.not_true,cond_false,zOb,Bool.true_and]
     cases y3c (rdL u01 l (i - 1)).1 (rdL u01 l i).1<;>rfl)
 rw[s19 (t:=u01) l u8c (fun a b=>y3c a.1 b.1)] at L
 rw[q3n];unfold s98
 simp only[L,zOb]
 unfold t1r
 cases l.all u8c
 ·rfl
 ·cases q44 u01 (fun a b=>y3c a.1 b.1) l
  ·rfl
  ·simp only[Bool.true_and,cond_true]
   rw[le8]
theorem p4o (t:u0i):u0o.wt t=0+(0+(0+(0+((Ty.sl u1z).wt t.2.2.2.2.1+((Ty.sl u01).wt t.2.2.2.2.2.1+(0+t.2.2.2.2.2.2.2.size)))))):=rfl
theorem t8s (t:u0i) (ht:u0o.wt t≤u0l):u56 t=some (u49 t):=by
 have hb:u0l=1099511627776:=rfl
 have hw:=p4o t
 have hn:=t1x (t:=u1z) t.2.2.2.2.1
 have L:=u8e t6i t.2.2.2.2.1.length (fun i=>(t,t.2.2.2.2.1,(t.2.2.2.2.1.length:Int),i)) (fun i=>t30 (rdL u1z t.2.2.2.2.1 i)) (.inl t) (.inr false)
  (by rw[r4s];simp only[t6c,u0c,Nat.lt_irrefl,decide_false,cond_false])
  (fun i hi=>by
   have hm:rdL u1z t.2.2.2.2.1 i∈t.2.2.2.2.1:=by rw[y8k hi];exact List.getElem_mem hi
   have hz:=q7g hm
   rw[r4s];simp only[t6c,u0c,hi,decide_true,cond_true,y7t hi,zTn,y7l (show i<4611686018427387904 by omega),p0b (rdL u1z t.2.2.2.2.1 i) (Nat.le_trans hz.1 (by omega)) (Nat.le_trans hz.2 (by omega)),zOb]
   cases t30 (rdL u1z t.2.2.2.2.1 i)<;>rfl)
 rw[t41 (t:=u1z) t.2.2.2.2.1 t30] at L
 rw[p00];unfold r9n
 have k1:=q8a t.2.2.2.2.2.1 (by omega)
 have k2:=t8q t.2.2.2.2.2.2.2 (by omega)
 simp only[L,zOb]
 unfold u49
 cases t.2.2.2.2.1.all t30
 ·simp only[cond_false,Bool.false_and,Bool.and_false]
 ·simp only[cond_true,r2i,k1,k2,zOb,t1i,gt8,Bool.true_and]
  cases h3:inB t.2.2.1 0 9999
  ·cases inB t.1 1 9999<;>cases inB t.2.1 1 3<;>simp
  ·have h3' :=r8p.mp h3
   rw[y4y (n:=t.2.2.1+1) (by omega) (by omega)]
   cases inB t.1 1 9999<;>cases inB t.2.1 1 3<;>cases decide (t.2.2.2.2.1.length≤8)<;>cases t1r t.2.2.2.2.2.1<;>simp
   generalize inB t.2.2.2.1 (t.2.2.1+1) 9999=b1
   generalize t2a t.2.2.2.2.2.2.2=b2
   by_cases e3:t.2.1=3
   ·cases t.2.2.2.2.2.2.1<;>cases b1<;>simp[e3]
   ·by_cases e2:t.2.1=2
    ·cases t.2.2.2.2.2.2.1<;>cases b2<;>by_cases e5:t.2.2.2.1=0<;>simp[e2,e5]
    ·by_cases e1:t.2.1=1<;>cases t.2.2.2.2.2.2.1<;>by_cases e5:t.2.2.2.1=0<;>simp[e1,e2,e3,e5]
theorem t8t (t:u0i) (ht:u0o.wt t≤u0l):u7j t=some (u49 t):=by
 have hb:u0l=1099511627776:=rfl
 have hw:=p4o t
 have hn:=t1x (t:=u1z) t.2.2.2.2.1
 have L:=u8e t6l t.2.2.2.2.1.length (fun i=>(t,i)) (fun i=>t30 (rdL u1z t.2.2.2.2.1 i)) (.inl t) (.inr false)
  (by rw[r4v];simp only[t6f,u0c,Nat.lt_irrefl,decide_false,cond_false])
  (fun i hi=>by
   have hm:rdL u1z t.2.2.2.2.1 i∈t.2.2.2.2.1:=by rw[y8k hi];exact List.getElem_mem hi
   have hz:=q7g hm
   rw[r4v];simp only[t6f,u0c,hi,decide_true,cond_true,y7t hi,zTn,y7l (show i<4611686018427387904 by omega),p0c (rdL u1z t.2.2.2.2.1 i) (Nat.le_trans hz.1 (by omega)) (Nat.le_trans hz.2 (by omega)),zOb]
   cases t30 (rdL u1z t.2.2.2.2.1 i)<;>rfl)
 rw[t41 (t:=u1z) t.2.2.2.2.1 t30] at L
 rw[p1b];unfold r9x
 have k1:=q8b t.2.2.2.2.2.1 (by omega)
 have k2:=t8r t.2.2.2.2.2.2.2 (by omega)
 simp only[L,s3p,k1,k2,zOb,t1i,gt8]
 unfold u49
 cases t.2.2.2.2.1.all t30
 ·cases inB t.1 1 9999<;>cases inB t.2.1 1 3<;>cases inB t.2.2.1 0 9999<;>cases decide (t.2.2.2.2.1.length≤8)<;>cases t1r t.2.2.2.2.2.1<;>simp
 ·simp only[cond_true,Bool.true_and,s3p,k2,zOb,t1i]
  cases h3:inB t.2.2.1 0 9999
  ·cases inB t.1 1 9999<;>cases inB t.2.1 1 3<;>simp
  ·have h3' :=r8p.mp h3
   rw[y4y (n:=t.2.2.1+1) (by omega) (by omega)]
   cases inB t.1 1 9999<;>cases inB t.2.1 1 3<;>cases decide (t.2.2.2.2.1.length≤8)<;>cases t1r t.2.2.2.2.2.1<;>try rfl
   generalize decide (t.2.2.2.2.2.2.2.size=0)=b4
   generalize inB t.2.2.2.1 (t.2.2.1+1) 9999=b1
   generalize t2a t.2.2.2.2.2.2.2=b2
   by_cases e3:t.2.1=3
   ·cases t.2.2.2.2.2.2.1<;>cases b1<;>cases b4<;>simp[e3]
   ·by_cases e2:t.2.1=2
    ·cases t.2.2.2.2.2.2.1<;>cases b2<;>by_cases e5:t.2.2.2.1=0<;>simp[e2,e5]
    ·by_cases e1:t.2.1=1<;>cases t.2.2.2.2.2.2.1<;>cases b4<;>by_cases e5:t.2.2.2.1=0<;>simp[e1,e2,e3,e5]
end
section
section
variable {l:List u0o.den} (hl:o2s l) {u:List Nat} (ho:o4x l=some u)
include hl
include ho
def pre (l:List u0o.den) (u:List Nat) (a:Nat):List u0o.den:=(u.take a).map fun i=>rdL u0o l i
end
end
section
def o6f (w:u01.den):Prop:=w.1.size≤4∧w.2.1.size≤13
def midTx (n:Nat) (t:u0o.den):Prop:=t.2.2.2.2.1.length≤n∧(∀r∈t.2.2.2.2.1,r.1.size≤2∧r.2.size≤2)∧t.2.2.2.2.2.1.length≤n∧(∀r∈t.2.2.2.2.2.1,o6f r)∧t.2.2.2.2.2.2.2.size≤16
theorem midTx.wt {n:Nat} (hn:n≤1000000) {t:u0o.den} (h:midTx n t):u0o.wt t≤u0l:=by
 obtain⟨h1,h2,h3,h4,h5⟩:=h
 have a1:=p4k (l:=t.2.2.2.2.1) (f:=(Ty.pair .str .str).wt) (k:=4) (fun x hx=>by have:=h2 x hx;simp only[Ty.wt];omega)
 have a2:=p4k (l:=t.2.2.2.2.2.1) (f:=(Ty.pair .str (.pair .str .bool)).wt) (k:=17) (fun x hx=>by have:=h4 x hx;unfold o6f at this;simp only[Ty.wt];omega)
 have hw:u0o.wt t=0+(0+(0+(0+((t.2.2.2.2.1.length+(t.2.2.2.2.1.map (Ty.pair .str .str).wt).sum)+((t.2.2.2.2.2.1.length+(t.2.2.2.2.2.1.map (Ty.pair .str (.pair .str .bool)).wt).sum)+(0+t.2.2.2.2.2.2.2.size)))))):=rfl
 rw[hw]
 unfold u0l
 omega
end
end
end Go.Proofs.YtbkicjpdlchbgaaGreat.Ab
