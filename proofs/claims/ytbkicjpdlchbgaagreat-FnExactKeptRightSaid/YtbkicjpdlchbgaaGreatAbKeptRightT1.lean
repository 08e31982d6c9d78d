import Derived.Test.YtbkicjpdlchbgaaGreatAbKeptRightG2
import Derived.Test.YtbkicjpdlchbgaaGreatAbK2
import Derived.Test.YtbkicjpdlchbgaaGreatAbF4
import Derived.Test.YtbkicjpdlchbgaaGreatAbS2
namespace Go.Proofs.YtbkicjpdlchbgaaGreat.Ab
open Go
set_option linter.unusedVariables false
set_option linter.unusedSimpArgs false
set_option linter.unnecessarySimpa false
section
section
theorem p8x (n:Int):IntKind.u8.wrap n=n % 256:=by
 simp[IntKind.wrap,IntKind.bits,IntKind.signed]
theorem u0b (a b:Nat):decide ((a:Int)<(b:Int))=decide (a<b):=by simp
theorem s4v {X R A:Type} (W:X→Option R) (n:Nat) (mk:A→Int→X) (res:Nat→A→R) (P:Nat→A→Prop)
 (hend:∀a,P n a→W (mk a (n:Int))=some (res n a))
 (hstep:∀(i:Nat) a,i<n→P i a→W (mk a (i:Int))=some (res i a)∨ ∃a',P (i+1) a' ∧res (i+1) a' =res i a∧W (mk a (i:Int))=W (mk a' ((i+1:Nat):Int))):
 ∀(i:Nat) a,i≤n→P i a→W (mk a (i:Int))=some (res i a):=by
 intro i a hi hP
 obtain⟨d,hd⟩:∃d,i+d=n:=⟨n - i,by omega⟩
 clear hi
 induction d generalizing i a with
 | zero=>
  have:i=n:=by omega
  subst this
  exact hend a hP
 | succ d ih=>
  rcases hstep i a (by omega) hP with h | ⟨a',h1,h2,h3⟩
  ·exact h
  ·rw[h3,ih (i+1) a' h1 (by omega),h2]
def p7i {E A R:Type} (f:Nat→E→A→A⊕R) (fin:A→R):Nat→List E→A→R
 | _, [],a=>fin a
 | i,x::l,a=>match f i x a with
  | .inl a' =>p7i f fin (i+1) l a'
  | .inr r=>r
theorem p7b {X R A E:Type} (W:X→Option R) (l:List E) (mk:A→Int→X) (f:Nat→E→A→A⊕R) (fin:A→R) (P:Nat→A→Prop)
 (hend:∀a,P l.length a→W (mk a (l.length:Int))=some (fin a))
 (hstep:∀(i:Nat) (h:i<l.length) a,P i a→match f i l[i] a with
  | .inl a' =>P (i+1) a' ∧W (mk a (i:Int))=W (mk a' ((i+1:Nat):Int))
  | .inr r=>W (mk a (i:Int))=some r) (a:A) (hP:P 0 a):W (mk a 0)=some (p7i f fin 0 l a):=by
 have key:=s4v W l.length mk (fun i a=>p7i f fin i (l.drop i) a) P (fun a h=>by
  rw[hend a h,List.drop_eq_nil_of_le (Nat.le_refl _)];rfl) (fun i a hi hP=>by
   have hs:=hstep i hi a hP
   have hd:l.drop i=l[i] ::l.drop (i+1):=List.drop_eq_getElem_cons hi
   rw[hd]
   simp only[p7i]
   cases hf:f i l[i] a with
   | inl a' =>
    rw[hf] at hs
    exact .inr ⟨a',hs.1,rfl,hs.2⟩
   | inr r=>
    rw[hf] at hs
    exact .inl hs) 0 a (Nat.zero_le _) hP
 exact key
def szr (b:Int) (w:Nat):Int:=if(w:Int)≤b then b - w else -1
theorem s32 {b:Int} {w:Nat} (h:(w:Int)≤b):szr b w=b - w:=if_pos h
theorem p2q {b:Int} {w:Nat} (h: ¬(w:Int)≤b):szr b w= -1:=if_neg h
theorem p5h {b:Int} {v w:Nat} (h:(v:Int)≤b):szr (b - v) w=szr b (v+w):=by
 unfold szr
 by_cases h2:(w:Int)≤b - v
 ·rw[if_pos h2,if_pos (by omega)];omega
 ·rw[if_neg h2,if_neg (by omega)]
def Ty.wt:(t:Ty)→t.den→Nat
 | .int _,_=>0
 | .bool,_=>0
 | .str,s=>s.size
 | .sl e,l=>l.length+(l.map e.wt).sum
 | .pair a b,x=>a.wt x.1+b.wt x.2
theorem u7p {b:Int} {v w:Nat} {F:Option Int} {K:Int→Option Int} (hF:F=some (szr b v)) (hK:(v:Int)≤b→K (b - v)=some (szr (b - v) w)):
 (F.bind fun y=>bif decide (y<0) then some (-1) else K y)=some (szr b (v+w)):=by
 subst hF
 by_cases h:(v:Int)≤b
 ·rw[s32 h]
  have:decide (b - (v:Int)<0)=false:=by simp;omega
  simp only[zOb,this,cond_false]
  rw[hK h,p5h h]
 ·rw[p2q h,p2q (b:=b) (w:=v+w) (by omega)]
  rfl
theorem q02 {X R E:Type} (W:X→Option R) (l:List E) (mk:Int→X) (p:E→Bool) (yes no:R) (hend:W (mk (l.length:Int))=some no)
 (hstep:∀(i:Nat) (h:i<l.length),W (mk (i:Int))=bif p l[i] then some yes else W (mk ((i+1:Nat):Int))):W (mk 0)=some (bif l.any p then yes else no):=by
 have:=p7b W l (fun(_:Unit) i=>mk i) (fun _ x _=>if p x then .inr yes else .inl ()) (fun _=>no) (fun _ _=>True) (fun _ _=>hend) (fun i h a _=>by
  have hs:=hstep i h
  cases hp:p l[i] with
  | true=>simp only[hp,cond_true] at hs;simp only[if_true];exact hs
  | false=>simp only[hp,cond_false] at hs;simp only[Bool.false_eq_true,if_false];exact⟨trivial,hs⟩) () trivial
 rw[this]
 congr 1
 have key:∀(l:List E) (i:Nat),p7i (fun _ x (_:Unit)=>if p x then .inr yes else .inl ()) (fun _=>no) i l ()=bif l.any p then yes else no:=by
  intro l
  induction l with
  | nil=>intro i;rfl
  | cons x l ih=>
   intro i
   simp only[p7i,List.any_cons]
   cases hp:p x with
   | true=>simp
   | false=>simp only[Bool.false_eq_true,if_false,Bool.false_or];exact ih _
 exact key l 0
theorem t06 {X R E A:Type} (W:X→Option R) (l:List E) (mk:A→Int→X) (f:A→E→A) (fin:A→R) (P:Nat→A→Prop)
 (hend:∀a,P l.length a→W (mk a (l.length:Int))=some (fin a))
 (hstep:∀(i:Nat) (h:i<l.length) a,P i a→P (i+1) (f a l[i])∧W (mk a (i:Int))=W (mk (f a l[i]) ((i+1:Nat):Int))) (a:A) (hP:P 0 a):W (mk a 0)=some (fin (l.foldl f a)):=by
 have:=p7b W l mk (fun _ x a=> .inl (f a x)) fin P hend (fun i h a hp=>hstep i h a hp) a hP
 rw[this]
 congr 1
 have key:∀(l:List E) (i:Nat) (a:A),p7i (fun _ x a=>(.inl (f a x):A⊕R)) fin i l a=fin (l.foldl f a):=by
  intro l
  induction l with
  | nil=>intro i a;rfl
  | cons x l ih=>intro i a;simp only[p7i,List.foldl_cons];exact ih _ _
 exact key l 0 a
theorem s2a {X R E B:Type} (W:X→Option R) (l:List E) (mk:List B→Int→X) (p:E→Bool) (g:E→B) (fin:List B→R) (hl:l.length≤1099511627776)
 (hend:∀a:List B,a.length≤l.length→W (mk a (l.length:Int))=some (fin a))
 (hstep:∀(i:Nat) (h:i<l.length) (a:List B),a.length≤i→W (mk a (i:Int))=bif p l[i] then W (mk (a++ [g l[i]]) ((i+1:Nat):Int)) else W (mk a ((i+1:Nat):Int))):W (mk [] 0)=some (fin ((l.filter p).map g)):=by
 have:=t06 W l mk (fun a x=>if p x then a++ [g x] else a) fin (fun i a=>a.length≤i) hend (fun i h a hp=>by
  have hs:=hstep i h a hp
  cases hc:p l[i] with
  | true=>
   simp only[hc,cond_true] at hs
   simp only[if_true]
   exact⟨by simp;omega,hs⟩
  | false=>
   simp only[hc,cond_false] at hs
   simp only[Bool.false_eq_true,if_false]
   exact⟨by omega,hs⟩) [] (Nat.le_refl 0)
 rw[this]
 congr 1
 have key:∀(l:List E) (a:List B),l.foldl (fun a x=>if p x then a++ [g x] else a) a=a++(l.filter p).map g:=by
  intro l
  induction l with
  | nil=>intro a;simp
  | cons x l ih=>
   intro a
   simp only[List.foldl_cons,ih,List.filter_cons]
   cases hp:p x<;>simp
 rw[key];simp
end
section
theorem q6b (b:ByteArray):b.toList=toS b:=by rw[ByteArray.toList_eq];rfl
theorem p8q {a b:ByteArray} (h:toS a=toS b):a=b:=by rw[←y8p a,h,y8p]
theorem r80:∀(x y:List UInt8),Op.bytesLess x y=decide (x<y)
 | x, [] =>by simp[Op.bytesLess]
 | [],y::ys=>by simp[Op.bytesLess]
 | x::xs,y::ys=>by
  rw[Op.bytesLess,r80 xs ys,Bool.eq_iff_iff]
  simp[List.cons_lt_cons_iff]
theorem p5c {a b:ByteArray} :y3c a b=true↔toS a<toS b:=by
 unfold y3c
 rw[q6b,q6b,r80]
 simp
theorem o1n {a b:ByteArray} :y3c a b=false↔ ¬toS a<toS b:=by
 rw[←p5c];simp
theorem o0d (x:List UInt8): ¬x<x:=List.lt_irrefl x
theorem o0e {x y z:List UInt8} (h:x<y) (k:y<z):x<z:=List.lt_trans h k
theorem o0f (x y:List UInt8):x<y∨x=y∨y<x:=by
 rcases List.le_total x y with h | h
 ·rcases List.le_iff_lt_or_eq.mp h with h | h
  ·exact .inl h
  ·exact .inr (.inl h)
 ·rcases List.le_iff_lt_or_eq.mp h with h | h
  ·exact .inr (.inr h)
  ·exact .inr (.inl h.symm)
theorem t9m (a:ByteArray):y3c a a=false:=o1n.mpr (o0d _)
theorem q56 {a b c:ByteArray} (h:y3c a b=true) (k:y3c b c=true):y3c a c=true:=p5c.mpr (o0e (p5c.mp h) (p5c.mp k))
theorem q8j (a b:ByteArray):y3c a b=true∨a=b∨y3c b a=true:=by
 rcases o0f (toS a) (toS b) with h | h | h
 ·exact .inl (p5c.mpr h)
 ·exact .inr (.inl (p8q h))
 ·exact .inr (.inr (p5c.mpr h))
theorem r6l {a b:ByteArray} (h:y3c a b=true):y3c b a=false:=by
 cases k:y3c b a with
 | false=>rfl
 | true=>exact absurd (q56 h k) (by rw[t9m];exact Bool.false_ne_true)
theorem p1u {a b:ByteArray} :z7o a b=false↔a≠b:=by
 rw[←Bool.not_eq_true,y7f]
theorem p4w {a b:ByteArray} :(!(y3c a b || z7o a b))=y3c b a:=by
 rcases q8j a b with h | h | h
 ·rw[h,r6l h];rfl
 ·subst h;rw[t9m,y6l];rfl
 ·rw[r6l h,h]
  have:z7o a b=false:=p1u.mpr (fun e=>by subst e;rw[t9m] at h;cases h)
  rw[this];rfl
def Asc (l:List ByteArray):Prop:=l.Pairwise fun a b=>y3c a b=true
theorem Asc.ext:∀ {l m:List ByteArray},Asc l→Asc m→(∀x,x∈l↔x∈m)→l=m
 | [], [],_,_,_=>rfl
 | [],y::m,_,_,h=>by have:=(h y).mpr (by simp);simp at this
 | x::l, [],_,_,h=>by have:=(h x).mp (by simp);simp at this
 | x::l,y::m,hl,hm,h=>by
  have hl' :=List.pairwise_cons.mp hl
  have hm' :=List.pairwise_cons.mp hm
  have hxy:x=y:=by
   rcases List.mem_cons.mp ((h x).mp (by simp)) with e | e
   ·exact e
   ·rcases List.mem_cons.mp ((h y).mpr (by simp)) with e' | e'
    ·exact e'.symm
    ·have:=q56 (hm'.1 x e) (hl'.1 y e')
     rw[t9m] at this;cases this
  subst hxy
  congr 1
  refine Asc.ext hl'.2 hm'.2 fun z=> ?_
  constructor
  ·intro hz
   rcases List.mem_cons.mp ((h z).mp (by simp[hz])) with e | e
   ·subst e;have:=hl'.1 z hz;rw[t9m] at this;cases this
   ·exact e
  ·intro hz
   rcases List.mem_cons.mp ((h z).mpr (by simp[hz])) with e | e
   ·subst e;have:=hm'.1 z hz;rw[t9m] at this;cases this
   ·exact e
theorem Asc.filter {l:List ByteArray} (h:Asc l) (p:ByteArray→Bool):Asc (l.filter p):=List.Pairwise.filter p h
def p3v (k:ByteArray) (l:List ByteArray):List ByteArray:=l.filter (fun x=>y3c x k)++ [k] ++l.filter (fun x=> !(y3c x k || z7o x k))
theorem p6g {k x:ByteArray} {l:List ByteArray} :x∈p3v k l↔x=k∨x∈l:=by
 simp only[p3v,List.mem_append,List.mem_filter,List.mem_singleton,p4w]
 constructor
 ·rintro((h | h) | h)
  ·exact .inr h.1
  ·exact .inl h
  ·exact .inr h.1
 ·rintro(h | h)
  ·exact .inl (.inr h)
  ·rcases q8j x k with e | e | e
   ·exact .inl (.inl ⟨h,e⟩)
   ·exact .inl (.inr e)
   ·exact .inr ⟨h,e⟩
theorem p6b {k:ByteArray} {l:List ByteArray} (h:Asc l):Asc (p3v k l):=by
 unfold Asc p3v
 rw[List.pairwise_append,List.pairwise_append]
 refine⟨⟨h.filter _,by simp,fun a ha b hb=> ?_⟩,h.filter _,fun a ha b hb=> ?_⟩
 ·simp only[List.mem_singleton] at hb
  subst hb
  exact(List.mem_filter.mp ha).2
 ·have hb:=(List.mem_filter.mp hb).2
  rw[p4w] at hb
  rcases List.mem_append.mp ha with ha | ha
  ·exact q56 (List.mem_filter.mp ha).2 hb
  ·simp only[List.mem_singleton] at ha
   subst ha
   exact hb
theorem p4u {l:List ByteArray} :∀ {a:List ByteArray},Asc a→Asc (l.foldl (fun a k=>p3v k a) a)∧ ∀x,x∈l.foldl (fun a k=>p3v k a) a↔x∈l∨x∈a:=by
 induction l with
 | nil=>intro a h;exact⟨h,fun x=>by simp⟩
 | cons k l ih=>
  intro a h
  obtain⟨h1,h2⟩:=ih (p6b (k:=k) h)
  refine⟨h1,fun x=> ?_⟩
  rw[List.foldl_cons,h2,p6g,List.mem_cons]
  constructor
  ·rintro(q | q | q)
   ·exact .inl (.inr q)
   ·exact .inl (.inl q)
   ·exact .inr q
  ·rintro((q | q) | q)
   ·exact .inr (.inl q)
   ·exact .inl q
   ·exact .inr (.inr q)
theorem r81 (d:Array (List UInt8)) (hs:∀i j:Nat,i≤j→j<d.size→d[i]! ≤d[j]!):∀m,m≤d.size→(Lib.compactUpTo d m).Pairwise (·< ·)∧(∀x,x∈Lib.compactUpTo d m↔ ∃i,i<m∧d[i]! =x)
 | 0,_=>by simp[Lib.compactUpTo]
 | m+1,hm=>by
  obtain⟨h1,h2⟩:=r81 d hs m (by omega)
  rw[Lib.compactUpTo_succ]
  by_cases hk:Lib.keeps d m=true
  ·rw[if_pos hk]
   constructor
   ·rw[List.pairwise_append]
    refine⟨h1,by simp,fun a ha b hb=> ?_⟩
    simp only[List.mem_singleton] at hb
    subst hb
    obtain⟨i,hi,rfl⟩:=(h2 a).mp ha
    unfold Lib.keeps at hk
    have hk:=of_decide_eq_true hk
    rcases hk with hk | hk
    ·omega
    ·have l1:=hs i (m - 1) (by omega) (by omega)
     have l2:=hs (m - 1) m (by omega) (by omega)
     rcases List.le_iff_lt_or_eq.mp l2 with l2 | l2
     ·rcases List.le_iff_lt_or_eq.mp l1 with l1 | l1
      ·exact o0e l1 l2
      ·rw[l1];exact l2
     ·exact absurd l2.symm hk
   ·intro x
    simp only[List.mem_append,List.mem_singleton,h2]
    constructor
    ·rintro(⟨i,hi,rfl⟩ | rfl)
     ·exact⟨i,by omega,rfl⟩
     ·exact⟨m,by omega,rfl⟩
    ·rintro⟨i,hi,rfl⟩
     rcases Nat.lt_or_ge i m with q | q
     ·exact .inl ⟨i,q,rfl⟩
     ·exact .inr (by rw[show i=m by omega])
  ·rw[if_neg hk,List.append_nil]
   refine⟨h1,fun x=> ?_⟩
   rw[h2]
   unfold Lib.keeps at hk
   simp only[decide_eq_true_eq,not_or,ne_eq,Decidable.not_not] at hk
   constructor
   ·rintro⟨i,hi,rfl⟩;exact⟨i,by omega,rfl⟩
   ·rintro⟨i,hi,rfl⟩
    rcases Nat.lt_or_ge i m with q | q
    ·exact⟨i,q,rfl⟩
    ·have:i=m:=by omega
     subst this
     exact⟨i - 1,by omega,hk.2.symm⟩
def q0d (l:List ByteArray):List ByteArray:=y6r (y4i l)
theorem p3g (l:List ByteArray):Asc (q0d l)∧ ∀x,x∈q0d l↔x∈l:=by
 obtain⟨d,hd⟩:∃d,d=(l.map toS).mergeSort fun x y=>decide (x≤y):=⟨_,rfl⟩
 have hk:q0d l=(Lib.compact d).map unS:=by
  unfold q0d y6r y4i
  rw[←hd,List.map_map]
  have:(toS ∘unS)=id:=by funext x;rfl
  rw[this,List.map_id]
 have hsort:d.Pairwise (·≤ ·):=by
  rw[hd]
  have:=List.pairwise_mergeSort (le:=fun(x y:List UInt8)=>decide (x≤y)) (fun a b c h1 h2=>by
   simp only[decide_eq_true_eq] at h1 h2 ⊢
   exact List.le_trans h1 h2) (fun a b=>by
   simp only[Bool.or_eq_true,decide_eq_true_eq]
   exact List.le_total a b) (l.map toS)
  exact this.imp (fun h=>by simpa using h)
 have hmem:∀x,x∈d↔x∈l.map toS:=fun x=>by rw[hd];exact(List.mergeSort_perm _ _).mem_iff
 have hs:∀i j:Nat,i≤j→j<d.toArray.size→d.toArray[i]! ≤d.toArray[j]! :=fun i j hij hj=>by
  have hj' :j<d.length:=by simpa using hj
  have hi' :i<d.length:=by omega
  rw[getElem!_pos _ i (by simpa using hi'),getElem!_pos _ j hj]
  simp only[List.getElem_toArray]
  rcases Nat.lt_or_ge i j with q | q
  ·exact List.pairwise_iff_getElem.mp hsort i j hi' hj' q
  ·have:i=j:=by omega
   subst this
   exact List.le_refl _
 obtain⟨h1,h2⟩:=r81 d.toArray hs d.length (by simp)
 rw[hk]
 constructor
 ·unfold Asc
  rw[List.pairwise_map]
  exact h1.imp (fun h=>p5c.mpr h)
 ·intro x
  rw[List.mem_map]
  constructor
  ·rintro⟨y,hy,rfl⟩
   obtain⟨i,hi,rfl⟩:=(h2 y).mp hy
   rw[getElem!_pos _ i (by simpa using hi)]
   have:d[i] ∈l.map toS:=(hmem _).mp (List.getElem_mem hi)
   obtain⟨z,hz,e⟩:=List.mem_map.mp this
   simp only[List.getElem_toArray]
   rw[←e,y8p]
   exact hz
  ·intro hx
   have:toS x∈d:=(hmem _).mpr (List.mem_map.mpr ⟨x,hx,rfl⟩)
   obtain⟨i,hi,e⟩:=List.mem_iff_getElem.mp this
   refine⟨toS x,(h2 _).mpr ⟨i,hi,?_⟩,y8p x⟩
   rw[getElem!_pos _ i (by simpa using hi)]
   simpa using e
theorem p0o (l:List ByteArray):(y4i l).length=l.length:=by simp[y4i]
theorem p79 (l:List ByteArray) (p:ByteArray→Bool):(l.filter p).foldl (fun a k=>p3v k a) [] =(q0d l).filter p:=by
 obtain⟨h1,h2⟩:=p4u (l:=l.filter p) (a:= []) List.Pairwise.nil
 obtain⟨k1,k2⟩:=p3g l
 refine Asc.ext h1 (k1.filter p) fun x=> ?_
 rw[h2,List.mem_filter,List.mem_filter,k2]
 simp
end
section
def u0g:Nat:=1099511627776
theorem p3c {α β:Type} {l:List α} {z:β} {i:Nat} {f:α→β} (h:i<l.length):
 ((l.map f).take i++List.replicate (l.length - i) z).set i (f l[i])=(l.map f).take (i+1)++List.replicate (l.length - (i+1)) z:=by
 have h1:((l.map f).take i).length=i:=by simp;omega
 rw[List.set_append_right _ _ (by omega),h1,Nat.sub_self]
 have:l.length - i=(l.length - (i+1))+1:=by omega
 rw[this,List.replicate_succ,List.set_cons_zero,List.take_add_one]
 simp[h]
theorem Q.copy {T T' :Ty} {S:Type} {q:T.den→Option T'.den} {g:T.den→T'.den} {W:List T.den×List T'.den×Int→Option (List T'.den⊕S)}
 (hW:∀x,W x=(bif (decide (x.2.2<(x.1.length:Int))) then(bif (y4q x.2.2 x.1.length) then((q (rdL T x.1 (x.2.2).toNat)).bind fun(y1:T'.den)=>
  (bif (y4q x.2.2 x.2.1.length) then(W (x.1,((x.2.1.set (x.2.2).toNat y1),(IntKind.i64.wrap (x.2.2+(1:Int)))))) else none)) else none) else(some (.inl x.2.1))))
 (l:List T.den) (hl:l.length≤1099511627776) (hq:∀x∈l,q x=some (g x)) (z:T'.den):W (l,(List.replicate ((l.length:Int)).toNat z,(0:Int)))=some (.inl (l.map g)):=by
 have:=s4v W l.length (fun(_:Unit) i=>(l,(l.map g).take i.toNat++List.replicate (l.length - i.toNat) z,i)) (fun _ _=> .inl (l.map g)) (fun _ _=>True)
  (fun a _=>by
   rw[hW]
   simp only[u0b,Nat.lt_irrefl,decide_false,cond_false,zTn]
   have h2:(l.map g).take l.length=l.map g:=List.take_of_length_le (by simp)
   simp[h2])
  (fun i a h _=> .inr ⟨(),trivial,rfl,by
   rw[hW]
   have h2:y4q (i:Int) ((l.map g).take i++List.replicate (l.length - i) z).length=true:=y7t (by simp;omega)
   simp only[u0b,h,decide_true,cond_true,y7t h,zTn,y8k h,hq _ (List.getElem_mem h),zOb,h2]
   rw[y7l (by omega),p3c h]⟩) 0 () (by omega) trivial
 simpa using this
theorem Q.copy0 {T:Ty} {S:Type} {W:List T.den×List T.den×Int→Option (List T.den⊕S)}
 (hW:∀x,W x=(bif (decide (x.2.2<(x.1.length:Int))) then(bif (y4q x.2.2 x.1.length) then(bif (y4q x.2.2 x.2.1.length) then(W (x.1,((x.2.1.set (x.2.2).toNat (rdL T x.1 (x.2.2).toNat)),(IntKind.i64.wrap (x.2.2+(1:Int)))))) else none) else none) else(some (.inl x.2.1))))
 (l:List T.den) (hl:l.length≤1099511627776) (z:T.den):W (l,(List.replicate ((l.length:Int)).toNat z,(0:Int)))=some (.inl l):=by
 have:=Q.copy (W:=W) (q:=fun x=>some x) (g:=fun x=>x) (fun x=>hW x) l hl (fun _ _=>rfl) z
 simpa using this
theorem Q.same {T:Ty} {S:Type} {q:T.den×T.den→Option Bool} {W:List T.den×List T.den×Int→Option (Unit⊕Bool)}
 (hW:∀x,W x=(bif (decide (x.2.2<(x.1.length:Int))) then(bif (y4q x.2.2 x.1.length) then(bif (y4q x.2.2 x.2.1.length) then
  ((q ((rdL T x.1 (x.2.2).toNat),(rdL T x.2.1 (x.2.2).toNat))).bind fun(y1:Bool)=>(bif (!y1) then(some (.inr false)) else(W (x.1,(x.2.1,(IntKind.i64.wrap (x.2.2+(1:Int)))))))) else none) else none) else(some (.inl ()))))
 (l:List T.den) (hl:l.length≤1099511627776) (hq:∀x∈l,q (x,x)=some true):W (l,(l,(0:Int)))=some (.inl ()):=
 s4v W l.length (fun(_:Unit) i=>(l,l,i)) (fun _ _=> .inl ()) (fun _ _=>True)
  (fun a _=>by
   rw[hW]
   simp only[u0b,Nat.lt_irrefl,decide_false,cond_false])
  (fun i a h _=> .inr ⟨(),trivial,rfl,by
   rw[hW]
   simp only[u0b,h,decide_true,cond_true,y7t h,zTn,y8k h,hq _ (List.getElem_mem h),zOb,Bool.not_true,cond_false]
   rw[y7l (by omega)]⟩) 0 () (by omega) trivial
theorem Q.size {T:Ty} {q:T.den×Int→Option Int} {W:List T.den×Int×Int→Option (Int⊕Int)}
 (hW:∀x,W x=(bif (decide (x.2.2<(x.1.length:Int))) then(bif (y4q x.2.2 x.1.length) then((q ((rdL T x.1 (x.2.2).toNat),x.2.1)).bind fun(y1:Int)=>
  (bif (decide (y1<(0:Int))) then(some (.inr (-1:Int))) else(W (x.1,(y1,(IntKind.i64.wrap (x.2.2+(1:Int)))))))) else none) else(some (.inl x.2.1))))
 (l:List T.den) (hl:l.length≤1099511627776) (hq:∀x∈l,∀c:Int,0≤c→c≤1048576→ ∃y,q (x,c)=some y∧if(T.wt x:Int)≤c then y=c - T.wt x else y<0) (b:Int) (hb:0≤b) (hb2:b≤1048576):
 ((W (l,(b,(0:Int)))).bind fun r=>match r with
  | .inl o=>some o
  | .inr z=>some z)=some (szr b (l.map T.wt).sum):=by
 have key:=s4v W l.length (fun(c:Int) i=>(l,c,i)) (fun i c=>if(((l.drop i).map T.wt).sum:Int)≤c then .inl (c - ((l.drop i).map T.wt).sum) else .inr (-1)) (fun _ c=>0≤c∧c≤1048576)
  (fun c hc=>by
   rw[hW]
   simp only[u0b,Nat.lt_irrefl,decide_false,cond_false,List.drop_length,List.map_nil,List.sum_nil]
   rw[if_pos (by simpa using hc.1)]
   simp)
  (fun i c h hc=>by
   have hd:l.drop i=l[i] ::l.drop (i+1):=List.drop_eq_getElem_cons h
   obtain⟨y,hy,hy2⟩:=hq _ (List.getElem_mem h) c hc.1 hc.2
   rw[hW,hd]
   simp only[u0b,h,decide_true,cond_true,y7t h,zTn,y8k h,hy,zOb,List.map_cons,List.sum_cons]
   by_cases hw:(T.wt l[i] :Int)≤c
   ·right
    rw[if_pos hw] at hy2
    subst hy2
    refine⟨c - T.wt l[i],⟨by omega,by omega⟩,?_,?_⟩
    ·by_cases h2:(((l.drop (i+1)).map T.wt).sum:Int)≤c - T.wt l[i]
     ·rw[if_pos h2,if_pos (by omega)];congr 1;omega
     ·rw[if_neg h2,if_neg (by omega)]
    ·have:decide (c - (T.wt l[i] :Int)<0)=false:=by simp;omega
     rw[this,cond_false,y7l (by omega)]
   ·left
    rw[if_neg hw] at hy2
    have:decide (y<0)=true:=by simp;omega
    rw[this,if_neg (by omega)]
    rfl) 0 b (by omega) ⟨hb,hb2⟩
 have key:W (l,b,0)=_:=key
 rw[key]
 simp only[List.drop_zero,zOb]
 unfold szr
 by_cases h:((l.map T.wt).sum:Int)≤b
 ·rw[if_pos h,if_pos h]
 ·rw[if_neg h,if_neg h]
theorem t3i {b:Int} {v w:Nat} {K:Option Int} (hK:(v:Int)≤b→K=some (szr (b - v) w)):(bif decide (b - (v:Int)<0) then some (-1) else K)=some (szr b (v+w)):=by
 by_cases h:(v:Int)≤b
 ·have:decide (b - (v:Int)<0)=false:=by simp;omega
  rw[this,cond_false,hK h,p5h h]
 ·have:decide (b - (v:Int)<0)=true:=by simp;omega
  rw[this,p2q (b:=b) (w:=v+w) (by omega)]
  rfl
theorem r6p {b:Int} {w:Nat} :if(w:Int)≤b then szr b w=b - w else szr b w<0:=by
 unfold szr
 split<;>rename_i h<;>simp[h]
theorem p8o {b:Int} {w:Nat} {F:Option Int} {K:Int→Option Bool} (hF:F=some (szr b w)) (hK:(w:Int)≤b→K (b - w)=some true):
 (F.bind fun y=>bif decide (y<0) then some true else K y)=some true:=by
 subst hF
 by_cases h:(w:Int)≤b
 ·rw[s32 h]
  have:decide (b - (w:Int)<0)=false:=by simp;omega
  simp only[zOb,this,cond_false]
  exact hK h
 ·rw[p2q h]
  rfl
theorem t7n {α:Type} {f:α→Nat} {l:List α} {x:α} (h:x∈l):f x≤(l.map f).sum:=by
 induction l with
 | nil=>cases h
 | cons y l ih=>
  simp only[List.map_cons,List.sum_cons]
  rcases List.mem_cons.mp h with rfl | h
  ·omega
  ·have:=ih h;omega
theorem r1f {T:Ty} {l:List T.den} (h:(Ty.sl T).fine l) {x:T.den} (hx:x∈l):T.fine x:=by
 obtain⟨i,hi,rfl⟩:=List.getElem_of_mem hx
 exact h.2 i hi
abbrev u1u:Ty:=(.pair .str .str)
abbrev u0w:Ty:=(.pair .str (.pair .str .bool))
abbrev u0c:Ty:=(.pair .str (.pair .str (.pair .bool (.int .i64))))
abbrev p52:Ty:=(.pair .str .str)
abbrev o4z:Ty:=(.pair .str .str)
abbrev s4x:Ty:=(.pair (.int .i64) .str)
abbrev q6y:Ty:=(.pair (.sl .str) (.sl s4x))
abbrev u0k:Ty:=(.pair (.int .i64) (.pair (.int .i64) (.pair (.int .i64) (.pair (.int .i64) (.pair (.sl u1u) (.pair (.sl u0w) (.pair .bool .str)))))))
abbrev q3r:Ty:=(.pair (.sl u0c) (.pair (.sl u0k) (.pair (.sl u0k) (.pair (.int .i64) (.int .i64)))))
abbrev o2l:Ty:=(.pair (.int .i64) (.pair u0k (.pair .str (.pair .bool q3r))))
abbrev s4w:Ty:=(.pair q3r (.sl u0k))
abbrev r5z:Ty:=(.pair s4w q6y)
abbrev r8w:Ty:=(.pair r5z (.pair (.sl u0k) (.pair (.sl (.int .i64)) (.sl .str))))
end
section
theorem p8m (l:List ((Ty.int .i64)).den) (b:Int) (hf:(Ty.sl (Ty.int .i64)).fine l) (hb:0≤b) (hb2:b≤1048576):s5h (l,b)=some (szr b ((Ty.sl (Ty.int .i64)).wt l)):=by
 have hl:l.length≤9223372036854775807:=by have:=hf.1;simp only[maxLen] at this;exact this
 rw[q7m];unfold r5f;simp only
 rw[y4y (n:=b - (l.length:Int)) (by omega) (by omega)]
 have hw:(Ty.sl (Ty.int .i64)).wt l=l.length+(l.map ((Ty.int .i64)).wt).sum:=rfl
 rw[hw];refine t3i (fun c=> ?_)
 have h0:(l.map (Ty.int .i64).wt).sum=0:=by clear hf hl hw c;induction l with
  | nil=>rfl
  | cons x l ih=>rw[List.map_cons,List.sum_cons,ih];rfl
 rw[h0,s32 (by omega)];simp
theorem p8t (l:List ((Ty.int .i64)).den) (hx:(Ty.sl (Ty.int .i64)).wt l≤1099511627776):s5l l=some l:=by
 have hw:(Ty.sl (Ty.int .i64)).wt l=l.length+(l.map ((Ty.int .i64)).wt).sum:=rfl
 rw[hw] at hx;rw[q7r];unfold r5k
 have h1:(decide (0≤(l.length:Int))&&decide ((l.length:Int)≤1099511627776))=true:=by simp;omega
 have h2:u9g (l,(List.replicate ((l.length:Int)).toNat ((Ty.int .i64)).zero),(0:Int))=some (.inl l):=Q.copy0 (T:=(Ty.int .i64)) (W:=u9g) (fun x=>q3e x) l (by omega) _
 simp only[h1,cond_true,h2,zOb]
theorem p75 (l:List ((Ty.int .i64)).den) (hx:(Ty.sl (Ty.int .i64)).wt l≤1099511627776):s5d (l,l)=some true:=by
 have hw:(Ty.sl (Ty.int .i64)).wt l=l.length+(l.map ((Ty.int .i64)).wt).sum:=rfl
 rw[hw] at hx;rw[q7h];unfold r5a;simp only
 have h2:u9d (l,l,(0:Int))=some (.inl ()):=Q.same (T:=(Ty.int .i64)) (S:=Unit) (q:=fun x=>some (decide (x.1=x.2))) (W:=u9d) (fun x=>q29 x) l (by omega) (fun x _=>by simp[y6l])
 simp only[decide_true,Bool.not_true,cond_false,h2,zOb]
theorem q6a (l:List (Ty.str).den) (b:Int) (hf:(Ty.sl Ty.str).fine l) (hb:0≤b) (hb2:b≤1048576):t29 (l,b)=some (szr b ((Ty.sl Ty.str).wt l)):=by
 have hl:l.length≤9223372036854775807:=by have:=hf.1;simp only[maxLen] at this;exact this
 rw[r93];unfold s6b;simp only
 rw[y4y (n:=b - (l.length:Int)) (by omega) (by omega)]
 have hw:(Ty.sl Ty.str).wt l=l.length+(l.map (Ty.str).wt).sum:=rfl
 rw[hw];refine t3i (fun c=> ?_)
 exact Q.size (T:=Ty.str) (q:=(fun x=>some (IntKind.i64.wrap (x.2 - (x.1.size:Int))))) (W:=u81) (fun x=>r6x x) l (by omega) (fun x hx c h1 h2=>⟨_,rfl,by have:=r1f hf hx;simp only[Ty.fine,maxLen] at this;simp only[Ty.wt];rw[y4y (by omega) (by omega)];by_cases hc:((ByteArray.size x:Nat):Int)≤c<;>simp only[hc,if_true,if_false] <;>omega⟩) (b - (l.length:Int)) (by omega) (by omega)
theorem q6c (l:List (Ty.str).den) (hx:(Ty.sl Ty.str).wt l≤1099511627776):t3b l=some l:=by
 have hw:(Ty.sl Ty.str).wt l=l.length+(l.map (Ty.str).wt).sum:=rfl
 rw[hw] at hx;rw[r95];unfold s6d
 have h1:(decide (0≤(l.length:Int))&&decide ((l.length:Int)≤1099511627776))=true:=by simp;omega
 have h2:u5m (l,(List.replicate ((l.length:Int)).toNat (Ty.str).zero),(0:Int))=some (.inl l):=Q.copy0 (T:=Ty.str) (W:=u5m) (fun x=>r6y x) l (by omega) _
 simp only[h1,cond_true,h2,zOb]
theorem q5w (l:List (Ty.str).den) (hx:(Ty.sl Ty.str).wt l≤1099511627776):t27 (l,l)=some true:=by
 have hw:(Ty.sl Ty.str).wt l=l.length+(l.map (Ty.str).wt).sum:=rfl
 rw[hw] at hx;rw[r91];unfold s59;simp only
 have h2:u5l (l,l,(0:Int))=some (.inl ()):=Q.same (T:=Ty.str) (S:=Unit) (q:=fun x=>some (z7o x.1 x.2)) (W:=u5l) (fun x=>r6w x) l (by omega) (fun x _=>by simp[y6l])
 simp only[decide_true,Bool.not_true,cond_false,h2,zOb]
theorem p6x (x:(u1u).den) (b:Int) (hf:(u1u).fine x) (hb:0≤b) (hb2:b≤1048576):t57 (x,b)=some (szr b ((u1u).wt x)):=by
 obtain⟨hf0,hf1⟩:=hf
 have hs0:x.1.size≤9223372036854775807:=by have:=hf0;simp only[Ty.fine,maxLen] at this;exact this
 have hs1:x.2.size≤9223372036854775807:=by have:=hf1;simp only[Ty.fine,maxLen] at this;exact this
 have hw:(u1u).wt x=(x.1.size+(x.2.size+0)):=by simp only[Ty.wt] <;>omega
 rw[hw,q4h];unfold r2p;simp only
 rw[y4y (n:=b - (x.1.size:Int)) (by omega) (by omega)]
 refine t3i (fun c0=> ?_)
 rw[y4y (n:=b - ((x.1.size:Nat):Int) - (x.2.size:Int)) (by omega) (by omega)]
 refine t3i (fun c1=> ?_)
 rw[s32 (by omega)];simp
theorem p5f (l:List (u1u).den) (b:Int) (hf:(Ty.sl u1u).fine l) (hb:0≤b) (hb2:b≤1048576):t88 (l,b)=some (szr b ((Ty.sl u1u).wt l)):=by
 have hl:l.length≤9223372036854775807:=by have:=hf.1;simp only[maxLen] at this;exact this
 rw[q1y];unfold s9d;simp only
 rw[y4y (n:=b - (l.length:Int)) (by omega) (by omega)]
 have hw:(Ty.sl u1u).wt l=l.length+(l.map (u1u).wt).sum:=rfl
 rw[hw];refine t3i (fun c=> ?_)
 exact Q.size (T:=u1u) (q:=t57) (W:=t0o) (fun x=>r7y x) l (by omega) (fun x hx c h1 h2=>⟨_,p6x x c (r1f hf hx) h1 h2,r6p⟩) (b - (l.length:Int)) (by omega) (by omega)
theorem p61 (x:(u1u).den) (hx:(u1u).wt x≤1099511627776):t59 x=some x:=by
 rw[q4l];rfl
theorem p5j (l:List (u1u).den) (hx:(Ty.sl u1u).wt l≤1099511627776):t9b l=some l:=by
 have hw:(Ty.sl u1u).wt l=l.length+(l.map (u1u).wt).sum:=rfl
 rw[hw] at hx;rw[q11];unfold s9g
 have h1:(decide (0≤(l.length:Int))&&decide ((l.length:Int)≤1099511627776))=true:=by simp;omega
 have h2:u57 (l,(List.replicate ((l.length:Int)).toNat (u1u).zero),(0:Int))=some (.inl (l.map fun x=>x)):=Q.copy (T:=u1u) (T' :=u1u) (q:=t59) (W:=u57) (fun x=>r70 x) l (by omega) (fun x hm=>p61 x (by have:=t7n (f:=(u1u).wt) hm;omega)) _
 rw[List.map_id'] at h2
 simp only[h1,cond_true,h2,zOb]
theorem p56 (x:(u1u).den) (hx:(u1u).wt x≤1099511627776):t55 (x,x)=some true:=by
 simp only[Ty.wt] at hx
 rw[q4d];unfold r2l;simp only
 simp only[zOb,y6l,decide_true,beq_self_eq_true,Bool.not_true,cond_false]
theorem p4r (l:List (u1u).den) (hx:(Ty.sl u1u).wt l≤1099511627776):t85 (l,l)=some true:=by
 have hw:(Ty.sl u1u).wt l=l.length+(l.map (u1u).wt).sum:=rfl
 rw[hw] at hx;rw[q1v];unfold s9a;simp only
 have h2:u55 (l,l,(0:Int))=some (.inl ()):=Q.same (T:=u1u) (S:=Unit) (q:=t55) (W:=u55) (fun x=>r7w x) l (by omega) (fun x hm=>p56 x (by have:=t7n (f:=(u1u).wt) hm;omega))
 simp only[decide_true,Bool.not_true,cond_false,h2,zOb]
theorem p60 (x:(u0w).den) (b:Int) (hf:(u0w).fine x) (hb:0≤b) (hb2:b≤1048576):t58 (x,b)=some (szr b ((u0w).wt x)):=by
 obtain⟨hf0,hf1,hf2⟩:=hf
 have hs0:x.1.size≤9223372036854775807:=by have:=hf0;simp only[Ty.fine,maxLen] at this;exact this
 have hs1:x.2.1.size≤9223372036854775807:=by have:=hf1;simp only[Ty.fine,maxLen] at this;exact this
 have hw:(u0w).wt x=(x.1.size+(x.2.1.size+0)):=by simp only[Ty.wt] <;>omega
 rw[hw,q4k];unfold r2s;simp only
 rw[y4y (n:=b - (x.1.size:Int)) (by omega) (by omega)]
 refine t3i (fun c0=> ?_)
 rw[y4y (n:=b - ((x.1.size:Nat):Int) - (x.2.1.size:Int)) (by omega) (by omega)]
 refine t3i (fun c1=> ?_)
 rw[s32 (by omega)];simp
theorem p5g (l:List (u0w).den) (b:Int) (hf:(Ty.sl u0w).fine l) (hb:0≤b) (hb2:b≤1048576):t89 (l,b)=some (szr b ((Ty.sl u0w).wt l)):=by
 have hl:l.length≤9223372036854775807:=by have:=hf.1;simp only[maxLen] at this;exact this
 rw[q1z];unfold s9e;simp only
 rw[y4y (n:=b - (l.length:Int)) (by omega) (by omega)]
 have hw:(Ty.sl u0w).wt l=l.length+(l.map (u0w).wt).sum:=rfl
 rw[hw];refine t3i (fun c=> ?_)
 exact Q.size (T:=u0w) (q:=t58) (W:=t0p) (fun x=>r7z x) l (by omega) (fun x hx c h1 h2=>⟨_,p60 x c (r1f hf hx) h1 h2,r6p⟩) (b - (l.length:Int)) (by omega) (by omega)
theorem p64 (x:(u0w).den) (hx:(u0w).wt x≤1099511627776):t6a x=some x:=by
 rw[q4o];rfl
theorem p5k (l:List (u0w).den) (hx:(Ty.sl u0w).wt l≤1099511627776):t9c l=some l:=by
 have hw:(Ty.sl u0w).wt l=l.length+(l.map (u0w).wt).sum:=rfl
 rw[hw] at hx;rw[q12];unfold s9h
 have h1:(decide (0≤(l.length:Int))&&decide ((l.length:Int)≤1099511627776))=true:=by simp;omega
 have h2:u58 (l,(List.replicate ((l.length:Int)).toNat (u0w).zero),(0:Int))=some (.inl (l.map fun x=>x)):=Q.copy (T:=u0w) (T' :=u0w) (q:=t6a) (W:=u58) (fun x=>r71 x) l (by omega) (fun x hm=>p64 x (by have:=t7n (f:=(u0w).wt) hm;omega)) _
 rw[List.map_id'] at h2
 simp only[h1,cond_true,h2,zOb]
theorem p59 (x:(u0w).den) (hx:(u0w).wt x≤1099511627776):t56 (x,x)=some true:=by
 simp only[Ty.wt] at hx
 rw[q4g];unfold r2o;simp only
 simp only[zOb,y6l,decide_true,beq_self_eq_true,Bool.not_true,cond_false]
theorem p4s (l:List (u0w).den) (hx:(Ty.sl u0w).wt l≤1099511627776):t86 (l,l)=some true:=by
 have hw:(Ty.sl u0w).wt l=l.length+(l.map (u0w).wt).sum:=rfl
 rw[hw] at hx;rw[q1w];unfold s9b;simp only
 have h2:u56 (l,l,(0:Int))=some (.inl ()):=Q.same (T:=u0w) (S:=Unit) (q:=t56) (W:=u56) (fun x=>r7x x) l (by omega) (fun x hm=>p59 x (by have:=t7n (f:=(u0w).wt) hm;omega))
 simp only[decide_true,Bool.not_true,cond_false,h2,zOb]
theorem p3m (x:(u0c).den) (b:Int) (hf:(u0c).fine x) (hb:0≤b) (hb2:b≤1048576):t3a (x,b)=some (szr b ((u0c).wt x)):=by
 obtain⟨hf0,hf1,hf2,hf3⟩:=hf
 have hs0:x.1.size≤9223372036854775807:=by have:=hf0;simp only[Ty.fine,maxLen] at this;exact this
 have hs1:x.2.1.size≤9223372036854775807:=by have:=hf1;simp only[Ty.fine,maxLen] at this;exact this
 have hw:(u0c).wt x=(x.1.size+(x.2.1.size+0)):=by simp only[Ty.wt] <;>omega
 rw[hw,r94];unfold s6c;simp only
 rw[y4y (n:=b - (x.1.size:Int)) (by omega) (by omega)]
 refine t3i (fun c0=> ?_)
 rw[y4y (n:=b - ((x.1.size:Nat):Int) - (x.2.1.size:Int)) (by omega) (by omega)]
 refine t3i (fun c1=> ?_)
 rw[s32 (by omega)];simp
theorem p1v (l:List (u0c).den) (b:Int) (hf:(Ty.sl u0c).fine l) (hb:0≤b) (hb2:b≤1048576):t5c (l,b)=some (szr b ((Ty.sl u0c).wt l)):=by
 have hl:l.length≤9223372036854775807:=by have:=hf.1;simp only[maxLen] at this;exact this
 rw[r7j];unfold s2l;simp only
 rw[y4y (n:=b - (l.length:Int)) (by omega) (by omega)]
 have hw:(Ty.sl u0c).wt l=l.length+(l.map (u0c).wt).sum:=rfl
 rw[hw];refine t3i (fun c=> ?_)
 exact Q.size (T:=u0c) (q:=t3a) (W:=u7e) (fun x=>r4j x) l (by omega) (fun x hx c h1 h2=>⟨_,p3m x c (r1f hf hx) h1 h2,r6p⟩) (b - (l.length:Int)) (by omega) (by omega)
theorem p3n (x:(u0c).den) (hx:(u0c).wt x≤1099511627776):t3c x=some x:=by
 rw[r96];rfl
theorem p1x (l:List (u0c).den) (hx:(Ty.sl u0c).wt l≤1099511627776):t5d l=some l:=by
 have hw:(Ty.sl u0c).wt l=l.length+(l.map (u0c).wt).sum:=rfl
 rw[hw] at hx;rw[r7k];unfold s2m
 have h1:(decide (0≤(l.length:Int))&&decide ((l.length:Int)≤1099511627776))=true:=by simp;omega
 have h2:u44 (l,(List.replicate ((l.length:Int)).toNat (u0c).zero),(0:Int))=some (.inl (l.map fun x=>x)):=Q.copy (T:=u0c) (T' :=u0c) (q:=t3c) (W:=u44) (fun x=>r4k x) l (by omega) (fun x hm=>p3n x (by have:=t7n (f:=(u0c).wt) hm;omega)) _
 rw[List.map_id'] at h2
 simp only[h1,cond_true,h2,zOb]
theorem p3b (x:(u0c).den) (hx:(u0c).wt x≤1099511627776):t28 (x,x)=some true:=by
 simp only[Ty.wt] at hx
 rw[r92];unfold s6a;simp only
 simp only[zOb,y6l,decide_true,beq_self_eq_true,Bool.not_true,cond_false]
theorem p1i (l:List (u0c).den) (hx:(Ty.sl u0c).wt l≤1099511627776):t5b (l,l)=some true:=by
 have hw:(Ty.sl u0c).wt l=l.length+(l.map (u0c).wt).sum:=rfl
 rw[hw] at hx;rw[r7i];unfold s2k;simp only
 have h2:u43 (l,l,(0:Int))=some (.inl ()):=Q.same (T:=u0c) (S:=Unit) (q:=t28) (W:=u43) (fun x=>r4i x) l (by omega) (fun x hm=>p3b x (by have:=t7n (f:=(u0c).wt) hm;omega))
 simp only[decide_true,Bool.not_true,cond_false,h2,zOb]
theorem o0k (x:(s4x).den) (b:Int) (hf:(s4x).fine x) (hb:0≤b) (hb2:b≤1048576):s0r (x,b)=some (szr b ((s4x).wt x)):=by
 obtain⟨hf0,hf1⟩:=hf
 have hs1:x.2.size≤9223372036854775807:=by have:=hf1;simp only[Ty.fine,maxLen] at this;exact this
 have hw:(s4x).wt x=(x.2.size+0):=by simp only[Ty.wt] <;>omega
 rw[hw,q9r];unfold r8m;simp only
 rw[y4y (n:=b - (x.2.size:Int)) (by omega) (by omega)]
 refine t3i (fun c1=> ?_)
 rw[s32 (by omega)];simp
theorem p8n (l:List (s4x).den) (b:Int) (hf:(Ty.sl s4x).fine l) (hb:0≤b) (hb2:b≤1048576):s5i (l,b)=some (szr b ((Ty.sl s4x).wt l)):=by
 have hl:l.length≤9223372036854775807:=by have:=hf.1;simp only[maxLen] at this;exact this
 rw[q7n];unfold r5g;simp only
 rw[y4y (n:=b - (l.length:Int)) (by omega) (by omega)]
 have hw:(Ty.sl s4x).wt l=l.length+(l.map (s4x).wt).sum:=rfl
 rw[hw];refine t3i (fun c=> ?_)
 exact Q.size (T:=s4x) (q:=s0r) (W:=t36) (fun x=>q3c x) l (by omega) (fun x hx c h1 h2=>⟨_,o0k x c (r1f hf hx) h1 h2,r6p⟩) (b - (l.length:Int)) (by omega) (by omega)
theorem o0n (x:(s4x).den) (hx:(s4x).wt x≤1099511627776):s0t x=some x:=by
 rw[q9t];rfl
theorem p8u (l:List (s4x).den) (hx:(Ty.sl s4x).wt l≤1099511627776):s5m l=some l:=by
 have hw:(Ty.sl s4x).wt l=l.length+(l.map (s4x).wt).sum:=rfl
 rw[hw] at hx;rw[q7s];unfold r5l
 have h1:(decide (0≤(l.length:Int))&&decide ((l.length:Int)≤1099511627776))=true:=by simp;omega
 have h2:u9h (l,(List.replicate ((l.length:Int)).toNat (s4x).zero),(0:Int))=some (.inl (l.map fun x=>x)):=Q.copy (T:=s4x) (T' :=s4x) (q:=s0t) (W:=u9h) (fun x=>q3f x) l (by omega) (fun x hm=>o0n x (by have:=t7n (f:=(s4x).wt) hm;omega)) _
 rw[List.map_id'] at h2
 simp only[h1,cond_true,h2,zOb]
theorem p94 (x:(s4x).den) (hx:(s4x).wt x≤1099511627776):s0p (x,x)=some true:=by
 simp only[Ty.wt] at hx
 rw[q9p];unfold r8k;simp only
 simp only[zOb,y6l,decide_true,beq_self_eq_true,Bool.not_true,cond_false]
theorem p76 (l:List (s4x).den) (hx:(Ty.sl s4x).wt l≤1099511627776):s5e (l,l)=some true:=by
 have hw:(Ty.sl s4x).wt l=l.length+(l.map (s4x).wt).sum:=rfl
 rw[hw] at hx;rw[q7i];unfold r5b;simp only
 have h2:u9e (l,l,(0:Int))=some (.inl ()):=Q.same (T:=s4x) (S:=Unit) (q:=s0p) (W:=u9e) (fun x=>q3a x) l (by omega) (fun x hm=>p94 x (by have:=t7n (f:=(s4x).wt) hm;omega))
 simp only[decide_true,Bool.not_true,cond_false,h2,zOb]
theorem p8l (x:(q6y).den) (b:Int) (hf:(q6y).fine x) (hb:0≤b) (hb2:b≤1048576):s5g (x,b)=some (szr b ((q6y).wt x)):=by
 obtain⟨hf0,hf1⟩:=hf
 have hw:(q6y).wt x=((Ty.sl Ty.str).wt x.1+((Ty.sl s4x).wt x.2+0)):=by simp only[Ty.wt] <;>omega
 rw[hw,q7l];unfold r5e;simp only
 refine u7p (q6a _ _ hf0 (by omega) (by omega)) (fun c0=> ?_)
 refine u7p (p8n _ _ hf1 (by omega) (by omega)) (fun c1=> ?_)
 rw[s32 (by omega)];simp
theorem p8s (x:(q6y).den) (hx:(q6y).wt x≤1099511627776):s5k x=some x:=by
 simp only[Ty.wt] at hx
 rw[q7q];unfold r5j
 simp only[q6c x.1 (by simp only[Ty.wt];omega),p8u x.2 (by simp only[Ty.wt];omega),zOb]
theorem p74 (x:(q6y).den) (hx:(q6y).wt x≤1099511627776):s5c (x,x)=some true:=by
 simp only[Ty.wt] at hx
 rw[q7g];unfold r49;simp only
 simp only[q5w x.1 (by simp only[Ty.wt];omega),p76 x.2 (by simp only[Ty.wt];omega),zOb,y6l,decide_true,beq_self_eq_true,Bool.not_true,cond_false]
theorem o0l (x:(u0k).den) (b:Int) (hf:(u0k).fine x) (hb:0≤b) (hb2:b≤1048576):s0s (x,b)=some (szr b ((u0k).wt x)):=by
 obtain⟨hf0,hf1,hf2,hf3,hf4,hf5,hf6,hf7⟩:=hf
 have hs7:x.2.2.2.2.2.2.2.size≤9223372036854775807:=by have:=hf7;simp only[Ty.fine,maxLen] at this;exact this
 have hw:(u0k).wt x=((Ty.sl u1u).wt x.2.2.2.2.1+((Ty.sl u0w).wt x.2.2.2.2.2.1+(x.2.2.2.2.2.2.2.size+0))):=by simp only[Ty.wt] <;>omega
 rw[hw,q9s];unfold r8n;simp only
 refine u7p (p5f _ _ hf4 (by omega) (by omega)) (fun c4=> ?_)
 refine u7p (p5g _ _ hf5 (by omega) (by omega)) (fun c5=> ?_)
 rw[y4y (n:=b - (((Ty.sl u1u).wt x.2.2.2.2.1:Nat):Int) - (((Ty.sl u0w).wt x.2.2.2.2.2.1:Nat):Int) - (x.2.2.2.2.2.2.2.size:Int)) (by omega) (by omega)]
 refine t3i (fun c7=> ?_)
 rw[s32 (by omega)];simp
theorem q8k (l:List (u0k).den) (b:Int) (hf:(Ty.sl u0k).fine l) (hb:0≤b) (hb2:b≤1048576):t01 (l,b)=some (szr b ((Ty.sl u0k).wt l)):=by
 have hl:l.length≤9223372036854775807:=by have:=hf.1;simp only[maxLen] at this;exact this
 rw[q7o];unfold r5h;simp only
 rw[y4y (n:=b - (l.length:Int)) (by omega) (by omega)]
 have hw:(Ty.sl u0k).wt l=l.length+(l.map (u0k).wt).sum:=rfl
 rw[hw];refine t3i (fun c=> ?_)
 exact Q.size (T:=u0k) (q:=s0s) (W:=t37) (fun x=>q3d x) l (by omega) (fun x hx c h1 h2=>⟨_,o0l x c (r1f hf hx) h1 h2,r6p⟩) (b - (l.length:Int)) (by omega) (by omega)
theorem o0o (x:(u0k).den) (hx:(u0k).wt x≤1099511627776):s0u x=some x:=by
 simp only[Ty.wt] at hx
 rw[q9u];unfold r8o
 simp only[p5j x.2.2.2.2.1 (by simp only[Ty.wt];omega),p5k x.2.2.2.2.2.1 (by simp only[Ty.wt];omega),zOb]
theorem q8l (l:List (u0k).den) (hx:(Ty.sl u0k).wt l≤1099511627776):t02 l=some l:=by
 have hw:(Ty.sl u0k).wt l=l.length+(l.map (u0k).wt).sum:=rfl
 rw[hw] at hx;rw[q7t];unfold r5m
 have h1:(decide (0≤(l.length:Int))&&decide ((l.length:Int)≤1099511627776))=true:=by simp;omega
 have h2:u9i (l,(List.replicate ((l.length:Int)).toNat (u0k).zero),(0:Int))=some (.inl (l.map fun x=>x)):=Q.copy (T:=u0k) (T' :=u0k) (q:=s0u) (W:=u9i) (fun x=>q3g x) l (by omega) (fun x hm=>o0o x (by have:=t7n (f:=(u0k).wt) hm;omega)) _
 rw[List.map_id'] at h2
 simp only[h1,cond_true,h2,zOb]
theorem p95 (x:(u0k).den) (hx:(u0k).wt x≤1099511627776):s0q (x,x)=some true:=by
 simp only[Ty.wt] at hx
 rw[q9q];unfold r8l;simp only
 simp only[p4r x.2.2.2.2.1 (by simp only[Ty.wt];omega),p4s x.2.2.2.2.2.1 (by simp only[Ty.wt];omega),zOb,y6l,decide_true,beq_self_eq_true,Bool.not_true,cond_false]
theorem q77 (l:List (u0k).den) (hx:(Ty.sl u0k).wt l≤1099511627776):t00 (l,l)=some true:=by
 have hw:(Ty.sl u0k).wt l=l.length+(l.map (u0k).wt).sum:=rfl
 rw[hw] at hx;rw[q7j];unfold r5c;simp only
 have h2:u9f (l,l,(0:Int))=some (.inl ()):=Q.same (T:=u0k) (S:=Unit) (q:=s0q) (W:=u9f) (fun x=>q3b x) l (by omega) (fun x hm=>p95 x (by have:=t7n (f:=(u0k).wt) hm;omega))
 simp only[decide_true,Bool.not_true,cond_false,h2,zOb]
theorem p8k (x:(q3r).den) (b:Int) (hf:(q3r).fine x) (hb:0≤b) (hb2:b≤1048576):s5f (x,b)=some (szr b ((q3r).wt x)):=by
 obtain⟨hf0,hf1,hf2,hf3,hf4⟩:=hf
 have hw:(q3r).wt x=((Ty.sl u0c).wt x.1+((Ty.sl u0k).wt x.2.1+((Ty.sl u0k).wt x.2.2.1+0))):=by simp only[Ty.wt] <;>omega
 rw[hw,q7k];unfold r5d;simp only
 refine u7p (p1v _ _ hf0 (by omega) (by omega)) (fun c0=> ?_)
 refine u7p (q8k _ _ hf1 (by omega) (by omega)) (fun c1=> ?_)
 refine u7p (q8k _ _ hf2 (by omega) (by omega)) (fun c2=> ?_)
 rw[s32 (by omega)];simp
theorem p8r (x:(q3r).den) (hx:(q3r).wt x≤1099511627776):s5j x=some x:=by
 simp only[Ty.wt] at hx
 rw[q7p];unfold r5i
 simp only[p1x x.1 (by simp only[Ty.wt];omega),q8l x.2.1 (by simp only[Ty.wt];omega),q8l x.2.2.1 (by simp only[Ty.wt];omega),zOb]
theorem p73 (x:(q3r).den) (hx:(q3r).wt x≤1099511627776):s5b (x,x)=some true:=by
 simp only[Ty.wt] at hx
 rw[q7f];unfold r48;simp only
 simp only[p1i x.1 (by simp only[Ty.wt];omega),q77 x.2.1 (by simp only[Ty.wt];omega),q77 x.2.2.1 (by simp only[Ty.wt];omega),zOb,y6l,decide_true,beq_self_eq_true,Bool.not_true,cond_false]
theorem p5e (x:(s4w).den) (b:Int) (hf:(s4w).fine x) (hb:0≤b) (hb2:b≤1048576):t87 (x,b)=some (szr b ((s4w).wt x)):=by
 obtain⟨hf0,hf1⟩:=hf
 have hw:(s4w).wt x=(q3r.wt x.1+((Ty.sl u0k).wt x.2+0)):=by simp only[Ty.wt] <;>omega
 rw[hw,q1x];unfold s9c;simp only
 refine u7p (p8k _ _ hf0 (by omega) (by omega)) (fun c0=> ?_)
 refine u7p (q8k _ _ hf1 (by omega) (by omega)) (fun c1=> ?_)
 rw[s32 (by omega)];simp
theorem p5i (x:(s4w).den) (hx:(s4w).wt x≤1099511627776):t9a x=some x:=by
 simp only[Ty.wt] at hx
 rw[q10];unfold s9f
 simp only[p8r x.1 (by simp only[Ty.wt];omega),q8l x.2 (by simp only[Ty.wt];omega),zOb]
theorem p4q (x:(s4w).den) (hx:(s4w).wt x≤1099511627776):t84 (x,x)=some true:=by
 simp only[Ty.wt] at hx
 rw[q1u];unfold s89;simp only
 simp only[p73 x.1 (by simp only[Ty.wt];omega),q77 x.2 (by simp only[Ty.wt];omega),zOb,y6l,decide_true,beq_self_eq_true,Bool.not_true,cond_false]
theorem p6y (x:(r5z).den) (b:Int) (hf:(r5z).fine x) (hb:0≤b) (hb2:b≤1048576):s1p (x,b)=some (szr b ((r5z).wt x)):=by
 obtain⟨hf0,hf1⟩:=hf
 have hw:(r5z).wt x=(s4w.wt x.1+(q6y.wt x.2+0)):=by simp only[Ty.wt] <;>omega
 rw[hw,q4i];unfold r2q;simp only
 refine u7p (p5e _ _ hf0 (by omega) (by omega)) (fun c0=> ?_)
 refine u7p (p8l _ _ hf1 (by omega) (by omega)) (fun c1=> ?_)
 rw[s32 (by omega)];simp
theorem p62 (x:(r5z).den) (hx:(r5z).wt x≤1099511627776):s1r x=some x:=by
 simp only[Ty.wt] at hx
 rw[q4m];unfold r2t
 simp only[p5i x.1 (by simp only[Ty.wt];omega),p8s x.2 (by simp only[Ty.wt];omega),zOb]
theorem p57 (x:(r5z).den) (hx:(r5z).wt x≤1099511627776):s1n (x,x)=some true:=by
 simp only[Ty.wt] at hx
 rw[q4e];unfold r2m;simp only
 simp only[p4q x.1 (by simp only[Ty.wt];omega),p74 x.2 (by simp only[Ty.wt];omega),zOb,y6l,decide_true,beq_self_eq_true,Bool.not_true,cond_false]
theorem p6z (x:(r8w).den) (b:Int) (hf:(r8w).fine x) (hb:0≤b) (hb2:b≤1048576):s1q (x,b)=some (szr b ((r8w).wt x)):=by
 obtain⟨hf0,hf1,hf2,hf3⟩:=hf
 have hw:(r8w).wt x=(r5z.wt x.1+((Ty.sl u0k).wt x.2.1+((Ty.sl (Ty.int .i64)).wt x.2.2.1+((Ty.sl Ty.str).wt x.2.2.2+0)))):=by simp only[Ty.wt] <;>omega
 rw[hw,q4j];unfold r2r;simp only
 refine u7p (p6y _ _ hf0 (by omega) (by omega)) (fun c0=> ?_)
 refine u7p (q8k _ _ hf1 (by omega) (by omega)) (fun c1=> ?_)
 refine u7p (p8m _ _ hf2 (by omega) (by omega)) (fun c2=> ?_)
 refine u7p (q6a _ _ hf3 (by omega) (by omega)) (fun c3=> ?_)
 rw[s32 (by omega)];simp
theorem p63 (x:(r8w).den) (hx:(r8w).wt x≤1099511627776):t1q x=some x:=by
 simp only[Ty.wt] at hx
 rw[q4n];unfold r2u
 simp only[p62 x.1 (by simp only[Ty.wt];omega),q8l x.2.1 (by simp only[Ty.wt];omega),p8t x.2.2.1 (by simp only[Ty.wt];omega),q6c x.2.2.2 (by simp only[Ty.wt];omega),zOb]
theorem p58 (x:(r8w).den) (hx:(r8w).wt x≤1099511627776):s1o (x,x)=some true:=by
 simp only[Ty.wt] at hx
 rw[q4f];unfold r2n;simp only
 simp only[p57 x.1 (by simp only[Ty.wt];omega),q77 x.2.1 (by simp only[Ty.wt];omega),p75 x.2.2.1 (by simp only[Ty.wt];omega),q5w x.2.2.2 (by simp only[Ty.wt];omega),zOb,y6l,decide_true,beq_self_eq_true,Bool.not_true,cond_false]
end
section
abbrev u0f:=Int×Int×Int×Int×List (ByteArray×ByteArray)×List (ByteArray×ByteArray×Bool)×Bool×ByteArray
theorem u1d {n:Nat} (h:n≤1099511627776):Nat.ble n z7w=true:=Nat.ble_eq_true_of_le h
def inR (r:ByteArray×ByteArray) (k:ByteArray):Bool:= !y3c k r.1&&(y3c k r.2 || z7o k r.2)
theorem r77 (r:ByteArray×ByteArray) (k:ByteArray):t6b (r,k)=some (inR r k):=by
 rw[q4s];unfold r2y inR;cases y3c k r.1<;>rfl
theorem r76 (r:ByteArray×ByteArray) (k:ByteArray):t5x (r,k)=some (inR r k):=by
 rw[q3w];unfold r1z inR;cases y3c k r.1<;>rfl
def r4g (r:List u1u.den) (w:List u0w.den):Bool:=r.any fun x=>w.any fun y=>inR x y.1
def p40 (a b:List u0w.den):Bool:=a.any fun x=>b.any fun y=>z7o x.1 y.1
end
section
theorem q03 {X R A:Type} (W:X→Option R) (n:Nat) (mk:A→Int→X) (v:Nat→A) (r:R) (hend:W (mk (v n) (n:Int))=some r)
 (hstep:∀i,i<n→W (mk (v i) (i:Int))=W (mk (v (i+1)) ((i+1:Nat):Int))):W (mk (v 0) 0)=some r:=by
 have:=s4v W n (fun(_:Unit) i=>mk (v i.toNat) i) (fun _ _=>r) (fun _ _=>True) (fun _ _=>by simpa using hend) (fun i a hi _=> .inr ⟨(),trivial,rfl,by
  have h:=hstep i hi
  have e:((i:Int)+1).toNat=i+1:=by omega
  simp only[zTn]
  exact h⟩) 0 () (Nat.zero_le _) trivial
 simpa using this
theorem p2a {α:Type} (p:α→Bool):∀(l a:List α),l.foldl (fun a x=>if p x=true then a++ [x] else a) a=a++l.filter p
 | [],a=>by simp
 | x::l,a=>by
  rw[List.foldl_cons,p2a p l]
  cases hc:p x<;>simp[hc]
abbrev u3g:=ByteArray×ByteArray×Bool×Int
def emp:ByteArray:=⟨#[]⟩
def p15 (l:List u3g) (k:ByteArray) (snap out:Int) (i:Nat):Int:=
 if z7o (rdL u0c l i).1 k=true∧(rdL u0c l i).2.2.2≤snap∧(out<0∨(rdL u0c l i).2.2.2 >(rdL u0c l out.toNat).2.2.2) then(i:Int) else out
def p0u (l:List u3g) (k:ByteArray) (snap:Int):Nat→Int
 | 0=> -1
 | n+1=>p15 l k snap (p0u l k snap n) n
def t7g (l:List u3g) (k:ByteArray) (snap:Int):Int:=p0u l k snap l.length
theorem q0l (l:List u3g) (k:ByteArray) (snap:Int):∀n,-1≤p0u l k snap n∧p0u l k snap n<(n:Int)
 | 0=>by simp[p0u]
 | n+1=>by
  have:=q0l l k snap n
  simp only[p0u,p15]
  split<;>omega
theorem p3h (l:List u3g) (k:ByteArray) (snap:Int): -1≤t7g l k snap∧t7g l k snap<(l.length:Int):=q0l l k snap l.length
theorem q2r (l:List u3g) (k:ByteArray) (snap:Int) (hl:l.length≤1099511627776):s0z (l,k,snap)=some (t7g l k snap):=by
 have L:=q03 t1k l.length (fun a i=>(l,k,snap,a,i)) (fun i=>p0u l k snap i) (.inl (t7g l k snap))
  (by rw[r34];simp only[t5o,u0b,Nat.lt_irrefl,decide_false,cond_false];rfl)
  (fun i hi=>by
   have hr:=q0l l k snap i
   rw[r34]
   simp only[t5o,u0b,hi,decide_true,cond_true,y7t hi,zTn,p0u,p15]
   rw[y7l (by omega)]
   cases h1:z7o (rdL u0c l i).1 k with
   | false=>simp[h1]
   | true=>
    by_cases h2:(rdL u0c l i).2.2.2≤snap
    ·by_cases h3:p0u l k snap i<0
     ·simp[h1,h2,h3]
     ·have hg:y4q (p0u l k snap i) l.length=true:=y7s.mpr ⟨by omega,by omega⟩
      by_cases h4:(rdL u0c l i).2.2.2 >(rdL u0c l (p0u l k snap i).toNat).2.2.2
      ·simp[h1,h2,h3,h4,hg]
      ·simp[h1,h2,h3,h4,hg]
    ·simp[h1,h2])
 have L:t1k (l,k,snap,-1,0)=_:=L
 rw[q91];unfold r8v
 simp only[L,zOb]
theorem q2q (l:List u3g) (k:ByteArray) (snap:Int) (hl:l.length≤1099511627776):t7v (l,k,snap)=some (t7g l k snap):=by
 have L:=q03 u9c l.length (fun a i=>(l,k,snap,a,l,(l.length:Int),i)) (fun i=>p0u l k snap i) (.inl (t7g l k snap))
  (by rw[r07];simp only[t3v,u0b,Nat.lt_irrefl,decide_false,cond_false];rfl)
  (fun i hi=>by
   have hr:=q0l l k snap i
   rw[r07]
   simp only[t3v,u0b,hi,decide_true,cond_true,y7t hi,zTn,p0u,p15]
   rw[y7l (by omega)]
   cases h1:z7o (rdL u0c l i).1 k with
   | false=>simp[h1]
   | true=>
    by_cases h2:(rdL u0c l i).2.2.2≤snap
    ·by_cases h3:p0u l k snap i<0
     ·simp[h1,h2,h3]
     ·have hg:y4q (p0u l k snap i) l.length=true:=y7s.mpr ⟨by omega,by omega⟩
      by_cases h4:(rdL u0c l i).2.2.2 >(rdL u0c l (p0u l k snap i).toNat).2.2.2
      ·simp[h1,h2,h3,h4,hg]
      ·simp[h1,h2,h3,h4,hg]
    ·simp[h1,h2])
 have L:u9c (l,k,snap,-1,l,(l.length:Int),0)=_:=L
 rw[q7d];unfold r46
 simp only[L,zOb]
def r0v (l:List u3g) (k:ByteArray) (snap:Int):ByteArray×Bool:=
 if t7g l k snap<0∨(rdL u0c l (t7g l k snap).toNat).2.2.1=true then(emp,false) else((rdL u0c l (t7g l k snap).toNat).2.1,true)
theorem p0m (l:List u3g) (k:ByteArray) (snap:Int) (y:Int) (hy:y=t7g l k snap):
 (((bif decide (y<0) then some true else(bif y4q y l.length then some (rdL u0c l y.toNat).2.2.1 else none)):Option Bool).bind fun j2=>(bif j2 then some ((⟨#[]⟩:ByteArray),false) else(bif y4q y l.length then some ((rdL u0c l y.toNat).2.1,true) else none)))=some (r0v l k snap):=by
 subst hy
 have hr:=p3h l k snap
 unfold r0v
 by_cases h:t7g l k snap<0
 ·simp[h,emp]
 ·have hg:y4q (t7g l k snap) l.length=true:=y7s.mpr ⟨by omega,by omega⟩
  cases h2:(rdL u0c l (t7g l k snap).toNat).2.2.1<;>simp[h,hg,h2,emp]
theorem p1d (l:List u3g) (k:ByteArray) (snap:Int) (hl:l.length≤1099511627776):s5q (l,k,snap)=some (r0v l k snap):=by
 rw[q70];unfold r5t
 simp only[q2r l k snap hl,zOb]
 exact p0m l k snap _ rfl
theorem p1c (l:List u3g) (k:ByteArray) (snap:Int) (hl:l.length≤1099511627776):s49 (l,k,snap)=some (r0v l k snap):=by
 rw[q69];unfold r40
 simp only[q2q l k snap hl,zOb]
 exact p0m l k snap _ rfl
theorem p4b (l:List u3g) (hl:l.length≤1099511627775):s5a l=some (q0d (l.map fun v=>v.1)):=by
 have L:=s2a t35 l (fun a i=>(a,l,(l.length:Int),i)) (fun _=>true) (fun v=>v.1) (fun a=> .inl a) (by omega)
  (fun a _=>by rw[r06];simp only[t3u,u0b,Nat.lt_irrefl,decide_false,cond_false])
  (fun i hi a ha=>by
   rw[r06];simp only[t3u,u0b,hi,decide_true,cond_true,y7t hi,zTn,y8k (t:=u0c) hi,List.length_singleton,u1d (show a.length+1≤1099511627776 by omega)]
   rw[y7l (by omega)])
 have hf:l.filter (fun _=>true)=l:=by simp
 rw[hf] at L
 have h1:y7a (l.map fun v=>v.1)=some (y4i (l.map fun v=>v.1)):=by
  unfold y7a;rw[List.length_map,u1d (by omega)];rfl
 have h2:y0m (y4i (l.map fun v=>v.1))=some (q0d (l.map fun v=>v.1)):=by
  unfold y0m;rw[p0o,List.length_map,u1d (by omega)];rfl
 rw[q7c];unfold r45
 simp only[L,zOb,t8f,t6o]
 simp only[h1,h2,zOb]
theorem q2p (l:List ByteArray):(q0d l).length≤l.length:=by
 have:=z6h (y4i l)
 rw[p0o] at this
 exact this
theorem p1k (k:ByteArray) (r:ByteArray×ByteArray) (l:List u3g) (j:Int) (out:List ByteArray) (ho:out.length≤1099511627775):
 u77 (l,r,out,j,k, [],0)=some (.inl (l,r,out,j,k,out.filter fun x=>y3c x k)):=by
 have L:=s2a u77 out (fun a i=>(l,r,out,j,k,a,i)) (fun x=>y3c x k) (fun x=>x) (fun a=> .inl (l,r,out,j,k,a)) (by omega)
  (fun a _=>by rw[s75];simp only[t2n,u0b,Nat.lt_irrefl,decide_false,cond_false])
  (fun i hi a ha=>by
   rw[s75];simp only[t2n,u0b,hi,decide_true,cond_true,y7t hi,zTn,y8k (t:=Ty.str) hi,List.length_singleton,u1d (show a.length+1≤1099511627776 by omega)]
   rw[y7l (by omega)])
 rw[List.map_id'] at L
 exact L
theorem q95 (k:ByteArray) (r:ByteArray×ByteArray) (l:List u3g) (j:Int) (out a0:List ByteArray) (ho:out.length+a0.length≤1099511627775):
 u6e (l,r,out,j,k,a0,0)=some (.inl (l,r,j,a0++out.filter fun x=> !(y3c x k || z7o x k))):=by
 have L:=t06 u6e out (fun a i=>(l,r,out,j,k,a,i)) (fun a x=>if(!(y3c x k || z7o x k))=true then a++ [x] else a) (fun a=> .inl (l,r,j,a)) (fun i a=>a.length≤a0.length+i)
  (fun a _=>by rw[s4p];simp only[t0d,u0b,Nat.lt_irrefl,decide_false,cond_false])
  (fun i hi a ha=>by
   rw[s4p];simp only[t0d,u0b,hi,decide_true,cond_true,y7t hi,zTn,y8k (t:=Ty.str) hi,List.length_singleton,u1d (show a.length+1≤1099511627776 by omega)]
   rw[y7l (by omega)]
   cases hc:(!(y3c out[i] k || z7o out[i] k)) with
   | true=>simp;omega
   | false=>simp;omega) a0 (by simp)
 rw[p2a (fun x=> !(y3c x k || z7o x k))] at L
 exact L
theorem p6c (k:ByteArray) (l:List ByteArray):(p3v k l).length≤l.length+1:=by
 unfold p3v
 have h:(fun x=> !(y3c x k || z7o x k))=fun x=>y3c k x:=by funext x;exact p4w
 rw[h]
 have:(l.filter fun x=>y3c x k).length+(l.filter fun x=>y3c k x).length≤l.length:=by
  induction l with
  | nil=>simp
  | cons x l ih=>
   simp only[List.filter_cons]
   cases h1:y3c x k with
   | true=>rw[r6l h1];simp;omega
   | false=>cases h2:y3c k x<;>simp<;>omega
 simp
 omega
theorem p4c (l:List u3g) (r:ByteArray×ByteArray) (hl:l.length≤500000000000):s11 (l,r)=some ((q0d (l.map fun v=>v.1)).filter fun k=>inR r k):=by
 have L:=t06 t2z l (fun a i=>(l,r,a,i)) (fun a v=>if inR r v.1=true then p3v v.1 a else a) (fun a=> .inl a) (fun i a=>a.length≤i)
  (fun a _=>by rw[s74];simp only[t2m,u0b,Nat.lt_irrefl,decide_false,cond_false])
  (fun i hi a ha=>by
   rw[s74];simp only[t2m,u0b,hi,decide_true,cond_true,y7t hi,zTn,y8k (t:=u0c) hi,r77,zOb]
   cases hc:inR r l[i].1 with
   | false=>
    simp only[Bool.not_false,cond_true,Bool.false_eq_true,if_false]
    rw[y7l (by omega)]
    exact⟨by omega,rfl⟩
   | true=>
    have hlow:(a.filter fun x=>y3c x l[i].1).length≤a.length:=List.length_filter_le _ _
    simp only[Bool.not_true,cond_false,if_true,p1k l[i].1 r l (i:Int) a (by omega),zOb,List.length_singleton,u1d (show(a.filter fun x=>y3c x l[i].1).length+1≤1099511627776 by omega),cond_true,
     q95 l[i].1 r l (i:Int) a (a.filter (fun x=>y3c x l[i].1)++ [l[i].1]) (by simp;omega)]
    rw[y7l (by omega)]
    exact⟨Nat.le_trans (p6c _ _) (by omega),rfl⟩) [] (by simp)
 rw[q47];unfold r3e
 simp only[L,zOb]
 have hfold:∀(m:List u3g) (a:List ByteArray),m.foldl (fun a v=>if inR r v.1=true then p3v v.1 a else a) a=((m.map fun v=>v.1).filter fun k=>inR r k).foldl (fun a k=>p3v k a) a:=by
  intro m
  induction m with
  | nil=>intro a;rfl
  | cons x m ih=>
   intro a
   rw[List.foldl_cons,ih]
   cases hc:inR r x.1<;>simp[hc]
 rw[hfold,p79]
def r3y (l:List u3g) (r:ByteArray×ByteArray) (snap:Int):List (ByteArray×ByteArray):=
 ((q0d (l.map fun v=>v.1)).filter fun k=>(r0v l k snap).2&&inR r k).map fun k=>(k,(r0v l k snap).1)
theorem q0x (l:List u3g) (r:ByteArray×ByteArray) (snap:Int) (hl:l.length≤500000000000):u33 (l,r,snap)=some (r3y l r snap):=by
 obtain⟨ks,hks⟩:∃ks,ks=(q0d (l.map fun v=>v.1)).filter fun k=>inR r k:=⟨_,rfl⟩
 have hkl:ks.length≤l.length:=by
  rw[hks]
  refine Nat.le_trans (List.length_filter_le _ _) (Nat.le_trans (q2p _) (by simp))
 have L:=s2a t4a ks (fun a i=>(l,snap,a,ks,i)) (fun k=>(r0v l k snap).2) (fun k=>(k,(r0v l k snap).1)) (fun a=> .inl a) (by omega)
  (fun a _=>by rw[r1b];simp only[t3z,u0b,Nat.lt_irrefl,decide_false,cond_false])
  (fun i hi a ha=>by
   rw[r1b];simp only[t3z,u0b,hi,decide_true,cond_true,y7t hi,zTn,y8k (t:=Ty.str) hi,p1d l _ snap (show l.length≤1099511627776 by omega),zOb,List.length_singleton,u1d (show a.length+1≤1099511627776 by omega)]
   rw[y7l (by omega)])
 rw[q7y];unfold r5r
 simp only[p4c l r hl,zOb]
 rw[←hks]
 simp only[L,zOb]
 rw[hks,List.filter_filter]
 rfl
theorem q0w (l:List u3g) (r:ByteArray×ByteArray) (snap:Int) (hl:l.length≤500000000000):t7u (l,r,snap)=some (r3y l r snap):=by
 obtain⟨ks,hks⟩:∃ks,ks=q0d (l.map fun v=>v.1):=⟨_,rfl⟩
 have hkl:ks.length≤l.length:=by
  rw[hks]
  refine Nat.le_trans (q2p _) (by simp)
 have L:=s2a t34 ks (fun a i=>(l,snap,r,a,ks,(ks.length:Int),i)) (fun k=>(r0v l k snap).2&&inR r k) (fun k=>(k,(r0v l k snap).1)) (fun a=> .inl a) (by omega)
  (fun a _=>by rw[r05];simp only[t3t,u0b,Nat.lt_irrefl,decide_false,cond_false])
  (fun i hi a ha=>by
   rw[r05];simp only[t3t,u0b,hi,decide_true,cond_true,y7t hi,zTn,y8k (t:=Ty.str) hi,p1c l _ snap (show l.length≤1099511627776 by omega),r76,zOb,List.length_singleton,u1d (show a.length+1≤1099511627776 by omega)]
   rw[y7l (by omega)]
   cases (r0v l ks[i] snap).2<;>rfl)
 rw[q67];unfold r4y
 simp only[p4b l (show l.length≤1099511627775 by omega),zOb]
 rw[←hks]
 simp only[L,zOb]
 rw[hks]
 rfl
theorem q57 (l:List u3g) (r:ByteArray×ByteArray) (snap:Int):(r3y l r snap).length≤l.length:=by
 unfold r3y
 rw[List.length_map]
 refine Nat.le_trans (List.length_filter_le _ _) (Nat.le_trans (q2p _) (by simp))
end
section
theorem r1j {E:Type} (p:E→Bool):∀(l:List E),(l.takeWhile p).length≤l.length∧(∀(i:Nat) (h:i<l.length),i<(l.takeWhile p).length→p l[i] =true)∧
 (∀(h:(l.takeWhile p).length<l.length),p l[(l.takeWhile p).length] =false)∧l.takeWhile p=l.take (l.takeWhile p).length∧l.dropWhile p=l.drop (l.takeWhile p).length
 | [] =>⟨Nat.le_refl _,fun i h=>absurd h (Nat.not_lt_zero i),fun h=>absurd h (Nat.not_lt_zero _),rfl,rfl⟩
 | x::l=>by
  obtain⟨h1,h2,h3,h4,h5⟩:=r1j p l
  cases hp:p x with
  | false=>
   simp only[List.takeWhile_cons,hp,List.dropWhile_cons,Bool.false_eq_true,if_false,List.length_nil]
   exact⟨Nat.zero_le _,fun i _ h=>absurd h (Nat.not_lt_zero i),fun _=>hp,rfl,rfl⟩
  | true=>
   simp only[List.takeWhile_cons,hp,List.dropWhile_cons,if_true,List.length_cons]
   refine⟨by omega,fun i h k=> ?_,fun h=> ?_,?_,?_⟩
   ·cases i with
    | zero=>exact hp
    | succ i=>simpa using h2 i (by simpa using h) (by omega)
   ·simpa using h3 (by omega)
   ·rw[List.take_succ_cons,←h4]
   ·rw[List.drop_succ_cons,←h5]
theorem p9v {X R E:Type} (W:X→Option R) (l:List E) (mk:List E→Int→X) (p:E→Bool) (fin:List E→Int→R)
 (hend:W (mk l (l.length:Int))=some (fin l (l.length:Int)))
 (hstep:∀(i:Nat) (h:i<l.length),W (mk (l.take i) (i:Int))=bif p l[i] then W (mk (l.take (i+1)) ((i+1:Nat):Int)) else some (fin (l.take i) (i:Int))):
 W (mk [] 0)=some (fin (l.takeWhile p) ((l.takeWhile p).length:Int)):=by
 obtain⟨h1,h2,h3,h4,_⟩:=r1j p l
 have:=s4v W (l.takeWhile p).length (fun(a:List E) i=>mk a i) (fun _ _=>fin (l.takeWhile p) ((l.takeWhile p).length:Int)) (fun i a=>a=l.take i)
  (fun a ha=>by
   rw[ha]
   by_cases hk:(l.takeWhile p).length<l.length
   ·rw[hstep _ hk,h3 hk,cond_false,←h4]
   ·have e:(l.takeWhile p).length=l.length:=by omega
    have e2:l.takeWhile p=l:=by rw[h4,e];exact List.take_length
    rw[e2,List.take_length]
    exact hend)
  (fun i a hi ha=> .inr ⟨_,rfl,rfl,by rw[ha,hstep i (by omega),h2 i (by omega) hi,cond_true]⟩) 0 [] (Nat.zero_le _) (by simp)
 exact this
theorem p71 {X R E:Type} (W:X→Option R) (l:List E) (mk:Int→X) (p:E→Bool) (yes:Int→R) (no:R)
 (hend:W (mk (l.length:Int))=some no)
 (hstep:∀(i:Nat) (h:i<l.length),W (mk (i:Int))=bif p l[i] then W (mk ((i+1:Nat):Int)) else some (yes (i:Int))):
 W (mk 0)=some (if(l.takeWhile p).length<l.length then yes ((l.takeWhile p).length:Int) else no):=by
 obtain⟨h1,h2,h3,_,_⟩:=r1j p l
 have:=s4v W (l.takeWhile p).length (fun(_:Unit) i=>mk i) (fun _ _=>if(l.takeWhile p).length<l.length then yes ((l.takeWhile p).length:Int) else no) (fun _ _=>True)
  (fun a _=>by
   by_cases hk:(l.takeWhile p).length<l.length
   ·rw[hstep _ hk,h3 hk,cond_false,if_pos hk]
   ·have e:(l.takeWhile p).length=l.length:=by omega
    rw[if_neg hk,e]
    exact hend)
  (fun i a hi _=> .inr ⟨(),trivial,rfl,by rw[hstep i (by omega),h2 i (by omega) hi,cond_true]⟩) 0 () (Nat.zero_le _) trivial
 exact this
def t4z (v y:u3g):Bool:=y3c y.1 v.1 || (z7o y.1 v.1&&decide (y.2.2.2≤v.2.2.2))
def p47 (l:List u3g) (v:u3g):List u3g:=l.takeWhile (t4z v)++ [v] ++l.dropWhile (t4z v)
def r4e (l:List u3g) (ws:List u0w.den) (cs:Int):List u3g:=ws.foldl (fun l w=>p47 l (w.1,w.2.1,w.2.2,cs)) l
theorem q8d (l:List u3g) (v:u3g):(p47 l v).length=l.length+1:=by
 have:l.length=(l.takeWhile (t4z v)).length+(l.dropWhile (t4z v)).length:=by rw[←List.length_append,List.takeWhile_append_dropWhile]
 simp[p47]
 omega
theorem p0c:∀(ws:List u0w.den) (l:List u3g) (cs:Int),(r4e l ws cs).length=l.length+ws.length
 | [],l,cs=>rfl
 | w::ws,l,cs=>by
  have:=p0c ws (p47 l (w.1,w.2.1,w.2.2,cs)) cs
  unfold r4e at this ⊢
  rw[List.foldl_cons,this,q8d]
  simp
  omega
theorem p8f (l:List u3g) (v:u3g):p47 l v=l.take (l.takeWhile (t4z v)).length++ [v] ++l.drop (l.takeWhile (t4z v)).length:=by
 obtain⟨_,_,_,h4,h5⟩:=r1j (t4z v) l
 unfold p47
 rw[←h4,←h5]
theorem q5h (a b:ByteArray):t1h (a,b)=some (if y3c a b then -1 else if z7o a b then 0 else 1):=by
 have ns:∀x,u85 x=some false:=fun x=>by
  rw[r53];unfold t91
  have:z7o x x=true:=by simp[z7o]
  rw[this];rfl
 rw[r1m];unfold t67
 simp only[ns,zOb,cond_false]
 cases y3c a b<;>cases z7o a b<;>rfl
theorem p3z (a b:Int):t47 (a,b)=some (if a<b then -1 else if a >b then 1 else 0):=by
 have ns:∀x,t4h x=some false:=fun x=>by
  rw[q1a];unfold s8q
  simp
 rw[r69];unfold s2b
 simp only[ns,zOb,cond_false]
 by_cases h:a<b
 ·simp[h]
 ·by_cases h2:a >b<;>simp[h,h2]
theorem p7z (y v:u3g):t1i (y,v)=some (!t4z v y):=by
 rw[r1n];unfold t68
 rw[t6n];unfold u9k
 simp only[q5h,zOb]
 unfold t4z
 cases h1:y3c y.1 v.1 with
 | true=>simp
 | false=>
  cases h2:z7o y.1 v.1 with
  | false=>simp
  | true=>
   simp only[Bool.false_eq_true,if_false,if_true,decide_true,Bool.not_true,cond_false,p3z,zOb,Bool.false_or,Bool.true_and]
   by_cases h3:y.2.2.2<v.2.2.2
   ·have:y.2.2.2≤v.2.2.2:=by omega
    simp[h3,this]
   ·by_cases h4:y.2.2.2 >v.2.2.2
    ·have: ¬y.2.2.2≤v.2.2.2:=by omega
     simp[h3,h4,this]
    ·have:y.2.2.2≤v.2.2.2:=by omega
     simp[h3,h4,this]
theorem p38 (l:List u3g) (v:u3g) (hl:l.length≤1099511627775):u1c (l,v)=some (if(l.takeWhile (t4z v)).length<l.length then((l.takeWhile (t4z v)).length:Int) else -1):=by
 have L:=p71 u0j l (fun i=>(l,v,(l.length:Int),i)) (t4z v) (fun i=> .inr i) (.inl ())
  (by rw[u10];simp only[u0i,u0b,Nat.lt_irrefl,decide_false,cond_false])
  (fun i hi=>by
   rw[u10]
   simp only[u0i,u0b,hi,decide_true,cond_true,y7t hi,zTn,y8k (t:=u0c) hi,p7z,zOb]
   rw[y7l (by omega)]
   cases t4z v l[i] <;>rfl)
 rw[u47];unfold u14
 simp only[L,zOb]
 by_cases h:(l.takeWhile (t4z v)).length<l.length
 ·simp only[if_pos h]
 ·simp only[if_neg h]
theorem q5j (l:List u3g) (v:u3g) (k:Nat) (hk:k≤l.length) (hl:l.length≤1099511627775):u2s (l,(k:Int), [v])=some (l.take k++ [v] ++l.drop k):=by
 rw[t7s]
 unfold y2q
 have h1:decide ((0:Int)≤(k:Int))=true:=by simp
 have h2:decide ((k:Int)≤(l.length:Int))=true:=by simpa using hk
 simp only[h1,h2,u1d (show l.length+1≤1099511627776 by omega),Bool.true_and,List.length_singleton,zTn]
 rfl
theorem r9g (l:List u3g) (ws:List u0w.den) (cs:Int) (hl:l.length+ws.length≤1000000000000):u86 (l,ws,cs)=some (r4e l ws cs):=by
 have L:=t06 u5x ws (fun a i=>(cs,a,ws,(ws.length:Int),i)) (fun l w=>p47 l (w.1,w.2.1,w.2.2,cs)) (fun a=> .inl a) (fun i a=>a.length=l.length+i)
  (fun a _=>by rw[t7k];simp only[u5u,u0b,Nat.lt_irrefl,decide_false,cond_false])
  (fun i hi a ha=>by
   have hal:a.length≤1099511627775:=by omega
   rw[t7k]
   simp only[u5u,u0b,hi,decide_true,cond_true,y7t hi,zTn,y8k (t:=u0w) hi,p38 a _ hal,zOb]
   refine⟨by rw[q8d];omega,?_⟩
   obtain⟨t1,_⟩:=r1j (t4z (ws[i].1,ws[i].2.1,ws[i].2.2,cs)) a
   rw[p8f,y7l (by omega)]
   by_cases hk:(a.takeWhile (t4z (ws[i].1,ws[i].2.1,ws[i].2.2,cs))).length<a.length
   ·rw[if_pos hk]
    have:decide (((a.takeWhile (t4z (ws[i].1,ws[i].2.1,ws[i].2.2,cs))).length:Int)<0)=false:=by simp
    simp only[this,cond_false,q5j a _ _ t1 hal,zOb]
   ·rw[if_neg hk]
    have e:(a.takeWhile (t4z (ws[i].1,ws[i].2.1,ws[i].2.2,cs))).length=a.length:=by omega
    have:decide ((-1:Int)<0)=true:=by decide
    simp only[this,cond_true,q5j a _ _ (Nat.le_refl _) hal,zOb]
    rw[e]) l (by simp)
 rw[r54];unfold t92
 simp only[u1d (show l.length≤1099511627776 by omega),cond_true,L,zOb]
 rfl
theorem p51 (ws:List u0w.den) (cs:Int) (l:List u3g) (j:Int) (v:u3g) (hl:l.length≤1000000000000):
 u4p (ws,cs,l,j,v, [],0)=some (.inl (ws,cs,l,j,v,l.takeWhile (t4z v),((l.takeWhile (t4z v)).length:Int))):=
 p9v u4p l (fun a i=>(ws,cs,l,j,v,a,i)) (t4z v) (fun a i=> .inl (ws,cs,l,j,v,a,i))
  (by rw[t7m];simp only[u5w,u0b,Nat.lt_irrefl,decide_false,cond_false,zOb])
  (fun i hi=>by
   rw[t7m]
   have hb:((l.take i).length+ [l[i]].length)≤1099511627776:=by simp;omega
   simp only[u5w,u0b,hi,decide_true,cond_true,y7t hi,zTn,y8k (t:=u0c) hi,u1d hb]
   rw[y7l (by omega),List.take_succ_eq_append_getElem hi]
   unfold t4z
   cases h1:y3c l[i].1 v.1 with
   | true=>simp
   | false=>
    cases h2:z7o l[i].1 v.1 with
    | false=>simp
    | true=>
     by_cases h3:l[i].2.2.2≤v.2.2.2<;>simp[h3])
theorem r9h (l:List u3g) (ws:List u0w.den) (cs:Int) (hl:l.length+ws.length≤1000000000000):u87 (l,ws,cs)=some (r4e l ws cs):=by
 have L:=t06 u5y ws (fun a i=>(ws,cs,a,i)) (fun l w=>p47 l (w.1,w.2.1,w.2.2,cs)) (fun a=> .inl a) (fun i a=>a.length=l.length+i)
  (fun a _=>by rw[t7l];simp only[u5v,u0b,Nat.lt_irrefl,decide_false,cond_false])
  (fun i hi a ha=>by
   have hal:a.length≤1000000000000:=by omega
   rw[t7l]
   simp only[u5v,u0b,hi,decide_true,cond_true,y7t hi,zTn,y8k (t:=u0w) hi,p51 ws cs a _ _ hal,zOb]
   obtain⟨v,hv⟩:∃v:u3g,v=(ws[i].1,ws[i].2.1,ws[i].2.2,cs):=⟨_,rfl⟩
   rw[←hv]
   obtain⟨t1,_,_,t4,t5⟩:=r1j (t4z v) a
   refine⟨by rw[q8d];omega,?_⟩
   have g1:decide ((0:Int)≤((a.takeWhile (t4z v)).length:Int))=true:=by simp
   have g2:decide (((a.takeWhile (t4z v)).length:Int)≤(a.length:Int))=true:=by simpa using t1
   have g3:decide ((a.length:Int)≤(a.length:Int))=true:=by simp
   have b1:(a.takeWhile (t4z v)).length+ [v].length≤1099511627776:=by simp;omega
   have b2:(a.takeWhile (t4z v)++ [v]).length+(a.drop (a.takeWhile (t4z v)).length).length≤1099511627776:=by simp;omega
   simp only[g1,g2,g3,Bool.true_and,u1d b1,cond_true,List.take_length,u1d b2]
   rw[y7l (by omega),←t5]
   rfl) l (by simp)
 rw[r6a];unfold t96
 simp only[List.length_nil,Nat.zero_add,List.nil_append,u1d (show l.length≤1099511627776 by omega),cond_true,L,zOb]
 rfl
end
section
abbrev PrT:=ByteArray×ByteArray
theorem p0a {a b:List PrT} (h:a.length=b.length):(bif (a.zip b).any (fun p=> !(z7o p.1.1 p.2.1&&(z7o p.1.2 p.2.2&&true))) then false else true)=decide (a=b):=by
 induction a generalizing b with
 | nil=>
  cases b with
  | nil=>rfl
  | cons _ _=>simp at h
 | cons x a ih=>
  cases b with
  | nil=>simp at h
  | cons y b=>
   have ih:=ih (b:=b) (by simpa using h)
   simp only[List.zip_cons_cons,List.any_cons]
   by_cases h1:x.1=y.1
   ·by_cases h2:x.2=y.2
    ·have hxy:x=y:=Prod.ext h1 h2
     subst hxy
     rw[y6l,y6l]
     simp only[Bool.and_self,Bool.not_true,Bool.false_or,ih]
     simp
    ·have:=p1u.mpr h2
     rw[this]
     have hne: ¬(x::a=y::b):=fun e=>h2 (by injection e with e;rw[e])
     simp[hne]
   ·have:=p1u.mpr h1
    rw[this]
    have hne: ¬(x::a=y::b):=fun e=>h1 (by injection e with e;rw[e])
    simp[hne]
theorem p27 (a b:List PrT) (ha:a.length≤1099511627776):u6m (a,b)=some (decide (a=b)):=by
 rw[q2f];unfold s9v
 by_cases h:a.length=b.length
 ·have hz:(a.zip b).length=a.length:=by simp[h]
  have L:=q02 t0u (a.zip b) (fun i=>(a,b,i)) (fun p=> !(z7o p.1.1 p.2.1&&(z7o p.1.2 p.2.2&&true))) (.inr false) (.inl ())
   (by rw[s4q,hz];simp only[t0e,u0b,Nat.lt_irrefl,decide_false,cond_false])
   (fun i hi=>by
    have hi1:i<a.length:=by omega
    have hi2:i<b.length:=by omega
    rw[s4q];simp only[t0e,u0b,hi1,decide_true,cond_true,y7t hi1,y7t hi2,zTn,y8k (t:=p52) hi1,y8k (t:=p52) hi2,List.getElem_zip]
    rw[y7l (by omega)])
  have e1:decide ((a.length:Int)=(b.length:Int))=true:=by simp[h]
  simp only[e1,Bool.not_true,cond_false,L,zOb]
  rw[←p0a h]
  cases (a.zip b).any fun p=> !(z7o p.1.1 p.2.1&&(z7o p.1.2 p.2.2&&true))<;>rfl
 ·have e1:decide ((a.length:Int)=(b.length:Int))=false:=by simp;omega
  have e2:decide (a=b)=false:=by
   rw[decide_eq_false_iff_not];intro e;exact h (by rw[e])
  rw[e1,e2];rfl
theorem p26 (a b:List PrT) (ha:a.length≤1099511627776):u6k (a,b)=some (decide (a=b)):=by
 rw[s2y];unfold t3m
 by_cases h:a.length=b.length
 ·have hz:(a.zip b).length=a.length:=by simp[h]
  have L:=q02 u3s (a.zip b) (fun i=>(a,b,(a.length:Int),i)) (fun p=> !(z7o p.1.1 p.2.1&&(z7o p.1.2 p.2.2&&true))) (.inr false) (.inl ())
   (by rw[t1d,hz];simp only[u3r,u0b,Nat.lt_irrefl,decide_false,cond_false])
   (fun i hi=>by
    have hi1:i<a.length:=by omega
    have hi2:i<b.length:=by omega
    rw[t1d];simp only[u3r,u0b,hi1,decide_true,cond_true,y7t hi1,y7t hi2,zTn,y8k (t:=p52) hi1,y8k (t:=p52) hi2,List.getElem_zip]
    rw[y7l (by omega)])
  have e1:decide ((a.length:Int)=(b.length:Int))=true:=by simp[h]
  simp only[e1,Bool.not_true,cond_false,L,zOb]
  rw[←p0a h]
  cases (a.zip b).any fun p=> !(z7o p.1.1 p.2.1&&(z7o p.1.2 p.2.2&&true))<;>rfl
 ·have e1:decide ((a.length:Int)=(b.length:Int))=false:=by simp;omega
  have e2:decide (a=b)=false:=by
   rw[decide_eq_false_iff_not];intro e;exact h (by rw[e])
  rw[e1,e2];rfl
end
section
theorem q9b (r:List u1u.den) (w:List u0w.den) (hr:r.length≤u0g) (hw:w.length≤u0g):s1x (r,w)=some (r4g r w):=by
 unfold u0g at hr hw
 have inner:∀(i:Nat) (hi:i<r.length),u74 (r,w,(i:Int),0)=some (bif w.any (fun y=>inR r[i] y.1) then .inr true else .inl (r,w,(i:Int))):=fun i hi=>
  q02 u74 w (fun j=>(r,w,(i:Int),j)) (fun y=>inR r[i] y.1) _ _ (by
   rw[s71];simp only[t2j,u0b,Nat.lt_irrefl,decide_false,cond_false]) (fun j hj=>by
   rw[s71];simp only[t2j,u0b,hj,decide_true,cond_true,y7t hi,y7t hj,zTn,y8k hi,y8k hj,r77,zOb]
   rw[y7l (by omega)])
 have outer:=q02 t2y r (fun i=>(r,w,i)) (fun x=>w.any fun y=>inR x y.1) (.inr true) (.inl ()) (by
  rw[s70];simp only[t2i,u0b,Nat.lt_irrefl,decide_false,cond_false]) (fun i hi=>by
  rw[s70];simp only[t2i,u0b,hi,decide_true,cond_true,inner i hi,zOb]
  have ws:=y7l (i:=i) (by omega)
  cases w.any fun y=>inR r[i] y.1<;>simp only[cond_true,cond_false,ws])
 rw[q41];unfold r27
 simp only[outer,zOb]
 unfold r4g
 cases r.any fun x=>w.any fun y=>inR x y.1<;>rfl
theorem q9a (r:List u1u.den) (w:List u0w.den) (hr:r.length≤u0g) (hw:w.length≤u0g):s1j (r,w)=some (r4g r w):=by
 unfold u0g at hr hw
 have inner:∀(i:Nat) (hi:i<r.length),u7w (w,r[i],r,(r.length:Int),(i:Int),w,(w.length:Int),0)=some (bif w.any (fun y=>inR r[i] y.1) then .inr true else .inl (w,r,(r.length:Int),(i:Int))):=fun i hi=>
  q02 u7w w (fun j=>(w,r[i],r,(r.length:Int),(i:Int),w,(w.length:Int),j)) (fun y=>inR r[i] y.1) _ _ (by
   rw[s7n];simp only[t16,u0b,Nat.lt_irrefl,decide_false,cond_false]) (fun j hj=>by
   rw[s7n];simp only[t16,u0b,hj,decide_true,cond_true,y7t hi,y7t hj,zTn,y8k hi,y8k hj,r76,zOb]
   rw[y7l (by omega)])
 have outer:=q02 t2t r (fun i=>(w,r,(r.length:Int),i)) (fun x=>w.any fun y=>inR x y.1) (.inr true) (.inl ()) (by
  rw[s7m];simp only[t15,u0b,Nat.lt_irrefl,decide_false,cond_false]) (fun i hi=>by
  rw[s7m];simp only[t15,u0b,hi,decide_true,cond_true,y7t hi,zTn,y8k hi,inner i hi,zOb]
  have ws:=y7l (i:=i) (by omega)
  cases w.any fun y=>inR r[i] y.1<;>simp only[cond_true,cond_false,ws])
 rw[q35];unfold r2e
 simp only[outer,zOb]
 unfold r4g
 cases r.any fun x=>w.any fun y=>inR x y.1<;>rfl
def r8z (a b:u0k.den):Bool:=
 decide (a.2.1=3)&&decide (b.2.1=3)&& !decide (a.1=b.1)&&
 (decide (a.2.2.2.1≤b.2.2.1)&&r4g b.2.2.2.2.1 a.2.2.2.2.2.1 || decide (a.2.2.2.1<b.2.2.2.1)&&p40 a.2.2.2.2.2.1 b.2.2.2.2.2.1 || decide (b.2.2.2.1 >a.2.2.1)&&r4g a.2.2.2.2.1 b.2.2.2.2.2.1)
theorem q2o (a:u0k.den):t4n a=some (decide (a.2.1=3)):=by
 rw[r56];rfl
end
section
def o43 (l:List u0k.den) (j i:Nat):Bool:=r8z (rdL u0k l j) (rdL u0k l i)
def o0g (l:List u0k.den) (t:List Nat) (i:Nat):Bool:= !t.contains i&& !(List.range l.length).any (fun j=> !decide (j=i)&&(!t.contains j&&o43 l j i))
def p6o (l:List u0k.den) (t:List Nat):Option Nat:=(List.range l.length).find? (o0g l t)
def o0h (l:List u0k.den):Nat→List Nat→Option (List Nat)
 | 0,t=>some t
 | k+1,t=>match p6o l t with
  | none=>none
  | some i=>o0h l k (t++ [i])
def o2r (l:List u0k.den):Option (List Nat):=o0h l l.length []
section
variable {l:List u0k.den} (hw:∀x∈l,u0k.wt x≤u0g) (hl:l.length≤1048576)
include hw hl
end
end
section
def o2v (l:List u0k.den):Nat:=(l.map fun t=>t.2.2.2.2.2.1.length).sum
section
variable {l:List u0k.den} (hw:∀x∈l,u0k.wt x≤u0g) (hl:l.length+o2v l≤1048576) (hr:∀x∈l,x.2.2.2.2.1.length≤1048576)
include hl
include hr
include hw
end
end
section
abbrev Src:=List Int×Int×Int
def Src.ok (s:Src):Prop:=s.1.length≤1048576∧0≤s.2.1∧s.2.1≤(s.1.length:Int)
def KD (l:List u0w.den):Prop:=l.Pairwise fun a b=>a.1≠b.1
def o2s (t:u0k.den):Prop:=t.2.2.2.2.1.length≤3∧(∀r∈t.2.2.2.2.1,r.1.size≤2∧r.2.size≤2)∧t.2.2.2.2.2.1.length≤3∧(∀r∈t.2.2.2.2.2.1,r.1.size≤2∧r.2.1.size≤3)∧t.2.2.2.2.2.2.2.size≤16
def tId (t:u0k.den):Int:=t.1
def tSt (t:u0k.den):Int:=t.2.1
def o2t (t:u0k.den):Int:=t.2.2.1
def tCs (t:u0k.den):Int:=t.2.2.2.1
def p92 (t:u0k.den):Prop:=tSt t=3∧o2t t<tCs t∧KD t.2.2.2.2.2.1
def o0b (l:List u0k.den):Prop:=(∀t∈l,p92 t)∧l.Pairwise fun a b=>tId a≠tId b∧tCs a<tCs b
end
section
def o5e (m:List PrT):Prop:=m.Pairwise fun a b=>y3c a.1 b.1=true
theorem p6h {l:List u3g} {v x:u3g} :x∈p47 l v↔x=v∨x∈l:=by
 unfold p47
 conv=>rhs;rw[←List.takeWhile_append_dropWhile (p:=t4z v) (l:=l)]
 simp only[List.mem_append,List.mem_singleton]
 constructor
 ·rintro((h | h) | h)
  ·exact .inr (.inl h)
  ·exact .inl h
  ·exact .inr (.inr h)
 ·rintro(h | h | h)
  ·exact .inl (.inr h)
  ·exact .inl (.inl h)
  ·exact .inr h
theorem q98 {x:u3g} :∀(ws:List u0w.den) (l:List u3g) (cs:Int),x∈r4e l ws cs↔x∈l∨ ∃w∈ws,x=(w.1,w.2.1,w.2.2,cs)
 | [],l,cs=>by simp[r4e]
 | w::ws,l,cs=>by
  have e:r4e l (w::ws) cs=r4e (p47 l (w.1,w.2.1,w.2.2,cs)) ws cs:=rfl
  rw[e,q98 ws,p6h]
  constructor
  ·rintro((h | h) | ⟨y,hy,h⟩)
   ·exact .inr ⟨w,by simp,h⟩
   ·exact .inl h
   ·exact .inr ⟨y,by simp[hy],h⟩
  ·rintro(h | ⟨y,hy,h⟩)
   ·exact .inl (.inr h)
   ·rcases List.mem_cons.mp hy with rfl | hy
    ·exact .inl (.inl h)
    ·exact .inr ⟨y,hy,h⟩
def vCs (x:u3g):Int:=x.2.2.2
end
section
theorem twl {E:Type} (p:E→Bool):∀(l:List E),(l.takeWhile p).length≤l.length∧(∀(i:Nat) (h:i<l.length),i<(l.takeWhile p).length→p l[i] =true)∧
 (∀(h:(l.takeWhile p).length<l.length),p l[(l.takeWhile p).length] =false)
 | [] =>⟨Nat.le_refl _,fun i h=>absurd h (Nat.not_lt_zero i),fun h=>absurd h (Nat.not_lt_zero _)⟩
 | x::l=>by
  obtain⟨h1,h2,h3⟩:=twl p l
  cases hp:p x with
  | false=>
   simp only[List.takeWhile_cons,hp,Bool.false_eq_true,if_false,List.length_nil]
   exact⟨Nat.zero_le _,fun i _ h=>absurd h (Nat.not_lt_zero i),fun _=>hp⟩
  | true=>
   simp only[List.takeWhile_cons,hp,if_true,List.length_cons]
   refine⟨by omega,fun i h k=> ?_,fun h=> ?_⟩
   ·cases i with
    | zero=>exact hp
    | succ i=>simpa using h2 i (by simpa using h) (by omega)
   ·simpa using h3 (by omega)
def u1h {E:Type} (p:E→Bool) (l:List E):Nat:=(l.takeWhile fun x=> !p x).length
theorem r1g {E:Type} (p:E→Bool) (l:List E):u1h p l≤l.length:=(twl _ l).1
theorem t45 {E:Type} {p:E→Bool} {l:List E} {i:Nat} (h:i<l.length) (hi:i<u1h p l):p l[i] =false:=by
 have:=(twl (fun x=> !p x) l).2.1 i h hi
 simpa using this
theorem s42 {E:Type} {p:E→Bool} {l:List E} (h:u1h p l<l.length):p l[u1h p l] =true:=by
 unfold u1h at h ⊢
 have:=(twl (fun x=> !p x) l).2.2 h
 simpa using this
theorem q2j {E:Type} (p:E→Bool) (l:List E):decide (u1h p l<l.length)=l.any p:=by
 cases hc:l.any p with
 | true=>
  obtain⟨x,hx,hp⟩:=List.any_eq_true.mp hc
  obtain⟨i,hi,rfl⟩:=List.getElem_of_mem hx
  have: ¬i<u1h p l:=fun q=>by rw[t45 hi q] at hp;cases hp
  simp only[decide_eq_true_eq]
  omega
 | false=>
  simp only[decide_eq_false_iff_not]
  intro h
  have:=s42 h
  have:=List.any_eq_false.mp hc _ (List.getElem_mem h)
  contradiction
theorem Q.first {T:Ty} {c:Type} {q:T.den×c→Option Bool} {p:T.den→Bool} {W:List T.den×c×Int×Int→Option (Unit⊕Int)}
 (hW:∀x,W x=(bif (decide (x.2.2.2<x.2.2.1)) then(bif (y4q x.2.2.2 x.1.length) then((q ((rdL T x.1 (x.2.2.2).toNat),x.2.1)).bind fun(y1:Bool)=>(bif y1 then(some (.inr x.2.2.2)) else(W (x.1,(x.2.1,(x.2.2.1,(IntKind.i64.wrap (x.2.2.2+(1:Int))))))))) else none) else(some (.inl ()))))
 (l:List T.den) (k:c) (hl:l.length≤1099511627776) (hq:∀x∈l,q (x,k)=some (p x)):
 W (l,k,(l.length:Int),0)=some (if u1h p l<l.length then .inr ((u1h p l:Nat):Int) else .inl ()):=by
 have hle:=r1g p l
 have:=s4v W (u1h p l) (fun(_:Unit) i=>(l,k,(l.length:Int),i)) (fun _ _=>if u1h p l<l.length then .inr ((u1h p l:Nat):Int) else .inl ()) (fun _ _=>True)
  (fun a _=>by
   rw[hW]
   by_cases hk:u1h p l<l.length
   ·simp only[u0b,hk,decide_true,cond_true,y7t hk,zTn,y8k hk,hq _ (List.getElem_mem hk),s42 hk,zOb,if_true]
   ·simp only[u0b,hk,decide_false,cond_false,if_false])
  (fun i a hi _=> .inr ⟨(),trivial,rfl,by
   have hil:i<l.length:=by omega
   rw[hW]
   simp only[u0b,hil,decide_true,cond_true,y7t hil,zTn,y8k hil,hq _ (List.getElem_mem hil),t45 hil hi,zOb,cond_false]
   rw[y7l (by omega)]⟩) 0 () (Nat.zero_le _) trivial
 exact this
theorem Q.delete {T:Ty} {c R:Type} {q:T.den×c→Option Bool} {p:T.den→Bool} {W:List T.den×c×Int×Int→Option ((List T.den×Int)⊕R)}
 (hW:∀x,W x=(bif (decide (x.2.2.2<(x.1.length:Int))) then(bif (y4q x.2.2.2 x.1.length) then((q ((rdL T x.1 (x.2.2.2).toNat),x.2.1)).bind fun(y2:Bool)=>(bif (!y2) then(bif (y4q x.2.2.1 x.1.length) then(W ((x.1.set (x.2.2.1).toNat (rdL T x.1 (x.2.2.2).toNat)),(x.2.1,((IntKind.i64.wrap (x.2.2.1+(1:Int))),(IntKind.i64.wrap (x.2.2.2+(1:Int))))))) else none) else(W (x.1,(x.2.1,(x.2.2.1,(IntKind.i64.wrap (x.2.2.2+(1:Int))))))))) else none) else(some (.inl (x.1,x.2.2.1)))))
 (l:List T.den) (k:c) (hl:l.length≤1099511627776) (hq:∀x∈l,q (x,k)=some (p x)) (hf:u1h p l<l.length):
 ∃a:List T.den,W (l,k,((u1h p l:Nat):Int),((u1h p l+1:Nat):Int))=some (.inl (a,((l.filter fun x=> !p x).length:Int)))∧a.length=l.length∧a.take (l.filter fun x=> !p x).length=l.filter fun x=> !p x:=by
 have key:∀(d j:Nat) (a:List T.den),j+d=l.length→a.length=l.length→a.drop j=l.drop j→((l.take j).filter fun x=> !p x).length≤j→((l.take j).filter fun x=> !p x).length<l.length→a.take ((l.take j).filter fun x=> !p x).length=(l.take j).filter (fun x=> !p x)→
  ((l.take j).filter fun x=> !p x).length<j→
  ∃a' :List T.den,W (a,k,(((l.take j).filter fun x=> !p x).length:Int),(j:Int))=some (.inl (a',((l.filter fun x=> !p x).length:Int)))∧a'.length=l.length∧a'.take (l.filter fun x=> !p x).length=l.filter fun x=> !p x:=by
  intro d
  induction d with
  | zero=>
   intro j a hj ha h1 h2 h3 h4 h5
   have e:j=l.length:=by omega
   subst e
   rw[List.take_length] at h4 ⊢
   rw[hW]
   simp only[ha,u0b,Nat.lt_irrefl,decide_false,cond_false]
   exact⟨a,rfl,ha,h4⟩
  | succ d ih=>
   intro j a hj ha h1 h2 h3 h4 h5
   have hjl:j<l.length:=by omega
   have hja:j<a.length:=by omega
   have haj:a[j] =l[j] :=by
    have e1:=List.drop_eq_getElem_cons hja
    have e2:=List.drop_eq_getElem_cons hjl
    rw[h1,e2] at e1
    injection e1 with e1 _
    exact e1.symm
   have hs:l.take (j+1)=l.take j++ [l[j]] :=List.take_succ_eq_append_getElem hjl
   have hd:a.drop (j+1)=l.drop (j+1):=by
    have:=congrArg List.tail h1
    simpa using this
   rw[hW]
   simp only[u0b,hja,decide_true,cond_true,y7t hja,zTn,y8k hja,haj,hq _ (List.getElem_mem hjl),zOb]
   rw[y7l (i:=j) (by omega)]
   cases hp:p l[j] with
   | true=>
    simp only[Bool.not_true,cond_false]
    have e:(l.take (j+1)).filter (fun x=> !p x)=(l.take j).filter fun x=> !p x:=by rw[hs,List.filter_append,List.filter_cons];simp only[hp,Bool.not_true,Bool.false_eq_true,if_false,List.filter_nil,List.append_nil]
    have:=ih (j+1) a (by omega) ha hd (by rw[e];omega) (by rw[e];exact h3) (by rw[e];exact h4) (by rw[e];omega)
    rwa [e] at this
   | false=>
    have e:(l.take (j+1)).filter (fun x=> !p x)=(l.take j).filter (fun x=> !p x)++ [l[j]] :=by rw[hs,List.filter_append,List.filter_cons];simp only[hp,Bool.not_false,if_true,List.filter_nil]
    have el:((l.take (j+1)).filter fun x=> !p x).length=((l.take j).filter fun x=> !p x).length+1:=by rw[e];simp
    have hia:((l.take j).filter fun x=> !p x).length<a.length:=by omega
    simp only[Bool.not_false,cond_true,y7t hia]
    rw[y7l (i:=((l.take j).filter fun x=> !p x).length) (by omega)]
    have:=ih (j+1) (a.set ((l.take j).filter fun x=> !p x).length l[j]) (by omega) (by simpa using ha) (by
     rw[List.drop_set_of_lt (by omega)]
     exact hd) (by rw[el];omega) (by rw[el];omega) (by
     rw[el,List.take_succ_eq_append_getElem (by simpa using hia),e]
     congr 1
     ·rw[List.take_set_of_le (Nat.le_refl _)]
      exact h4
     ·simp) (by rw[el];omega)
    rwa [el] at this
 have hk:=r1g p l
 have e:(l.take (u1h p l+1)).filter (fun x=> !p x)=l.take (u1h p l):=by
  rw[List.take_succ_eq_append_getElem hf,List.filter_append]
  have h1:(l.take (u1h p l)).filter (fun x=> !p x)=l.take (u1h p l):=by
   rw[List.filter_eq_self]
   intro x hx
   obtain⟨i,hi,rfl⟩:=List.getElem_of_mem hx
   have hi' :i<u1h p l:=by have:=hi;rw[List.length_take] at this;omega
   rw[List.getElem_take,t45 (by omega) hi']
   rfl
  rw[h1]
  simp[s42 hf]
 have el:((l.take (u1h p l+1)).filter fun x=> !p x).length=u1h p l:=by rw[e,List.length_take];omega
 have:=key (l.length - (u1h p l+1)) (u1h p l+1) l (by omega) rfl rfl (by rw[el];omega) (by rw[el];exact hf) (by rw[el,e]) (by rw[el];omega)
 rwa [el] at this
end
section
def p2j (x y:u0f):Bool:=decide (x.2.1=3)&&decide (x.2.2.2.1≤y.2.2.1)
def q07 (a b:u0f):Bool:= !decide (a.1=b.1)&&(!p2j a b&& !p2j b a)
def ahead (a b:u0f):Bool:=q07 a b&&r4g a.2.2.2.2.1 b.2.2.2.2.2.1
def q8b (t:u0f) (l:List u0f):Bool:=l.any fun x=>decide (x.2.1=3)&&ahead t x
theorem p03 (a b:u0f):s5n (a,b)=some (q07 a b):=by
 rw[q7v];unfold r5o q07 p2j
 by_cases h1:a.1=b.1
 ·simp[h1]
 ·by_cases h2:a.2.1=3<;>by_cases h3:a.2.2.2.1≤b.2.2.1<;>by_cases h4:b.2.1=3<;>by_cases h5:b.2.2.2.1≤a.2.2.1<;>simp[h1,h2,h3,h4,h5]
theorem p02 (a b:u0f):s46 (a,b)=some (q07 a b):=by
 rw[q64];unfold r4v
 simp only[q1d,s8t]
 unfold q07 p2j
 by_cases h1:a.1=b.1
 ·simp[h1]
 ·by_cases h2:a.2.1=3<;>by_cases h3:a.2.2.2.1≤b.2.2.1<;>by_cases h4:b.2.1=3<;>by_cases h5:b.2.2.2.1≤a.2.2.1<;>simp[h1,h2,h3,h4,h5]
theorem q5g (a b:u0f) (ha:a.2.2.2.2.1.length≤u0g) (hb:b.2.2.2.2.2.1.length≤u0g):s0v (a,b)=some (ahead a b):=by
 rw[q9v];unfold r8p ahead
 have h1:=p03 a b
 have h2:=q9b _ _ ha hb
 simp only[h2,zOb]
 rw[h1]
 cases q07 a b<;>rfl
theorem q5f (a b:u0f) (ha:a.2.2.2.2.1.length≤u0g) (hb:b.2.2.2.2.2.1.length≤u0g):s0m (a,b)=some (ahead a b):=by
 rw[q9j];unfold r8e ahead
 have h1:=p02 a b
 have h2:=q9a _ _ ha hb
 simp only[h2,zOb]
 rw[h1]
 cases q07 a b<;>rfl
end
section
def q8o (t:u0f):Prop:=t.2.2.2.2.1.length≤1048576∧t.2.2.2.2.2.1.length≤1048576
def p4t (l:List u0f):Prop:=l.length≤4194304∧ ∀t∈l,q8o t
theorem q92 {n:Nat} (h:n≤1048576):n≤u0g:=by unfold u0g;omega
theorem q5n (t:u0f) (l:List u0f) (ht:q8o t) (hl:p4t l):s0x (t,l)=some (q8b t l):=by
 obtain⟨l1,l2⟩:=hl
 have L:=q02 t5s l (fun i=>(l,t,i)) (fun x=>decide (x.2.1=3)&&ahead t x) (.inr true) (.inl ())
  (by rw[r32];simp only[t5m,u0b,Nat.lt_irrefl,decide_false,cond_false])
  (fun i hi=>by
   have h1:=q5g t l[i] (q92 ht.1) (q92 (l2 _ (List.getElem_mem hi)).2)
   rw[r32]
   simp only[t5m,u0b,hi,decide_true,cond_true,y7t hi,zTn,y8k (t:=u0k) hi,h1,zOb]
   rw[y7l (by omega)]
   cases decide (l[i].2.1=3)<;>cases ahead t l[i] <;>rfl)
 rw[q9y];unfold r8s q8b
 simp only[L,zOb]
 cases l.any fun x=>decide (x.2.1=3)&&ahead t x<;>rfl
theorem q5m (t:u0f) (l:List u0f) (ht:q8o t) (hl:p4t l):s0o (t,l)=some (q8b t l):=by
 obtain⟨l1,l2⟩:=hl
 have hq:∀x∈l,t5y (x,t)=some (decide (x.2.1=3)&&ahead t x):=fun x hx=>by
  have h1:=q5f t x (q92 ht.1) (q92 (l2 x hx).2)
  rw[q3x];unfold r12
  simp only[r56,r44,zOb,h1]
  cases decide (x.2.1=3)<;>rfl
 have L:=Q.first (T:=u0k) (c:=u0f) (W:=u1a) (q:=t5y) (p:=fun x:u0f=>decide (x.2.1=3)&&ahead t x) (fun x=>u8g x) l t (by omega) hq
 rw[q9m];unfold r8h q8b
 simp only[s2w,t3k,u7j,u27,u9a,u3z,L,zOb]
 rw[←q2j]
 by_cases h:u1h (fun x:u0f=>decide (x.2.1=3)&&ahead t x) l<l.length
 ·simp[h]
 ·simp[h]
theorem t6j (t:u0f) (h:q8o t):u23 t=some t:=by
 rw[q48];unfold r3f
 simp only[List.length_nil,Nat.zero_add,List.nil_append,u1d (show t.2.2.2.2.1.length≤1099511627776 by have:=h.1;omega),u1d (show t.2.2.2.2.2.1.length≤1099511627776 by have:=h.2;omega),cond_true]
theorem q0s (t:u0f) (h:q8o t):t1p t=some t:=by
 rw[q4b];unfold r2k
 simp only[u1d (show t.2.2.2.2.1.length≤1099511627776 by have:=h.1;omega),u1d (show t.2.2.2.2.2.1.length≤1099511627776 by have:=h.2;omega),cond_true]
theorem q0r (l:List u0f) (h:p4t l):t6h l=some l:=by
 have L:=s2a t20 l (fun a i=>(l,a,i)) (fun _=>true) (fun x=>x) (fun a=> .inl a) (by have:=h.1;omega)
  (fun a _=>by rw[s76];simp only[t2o,u0b,Nat.lt_irrefl,decide_false,cond_false])
  (fun i hi a ha=>by
   have h1:=t6j l[i] (h.2 _ (List.getElem_mem hi))
   have:=h.1
   rw[s76]
   simp only[t2o,u0b,hi,decide_true,cond_true,y7t hi,zTn,y8k (t:=u0k) hi,h1,zOb,List.length_singleton,u1d (show a.length+1≤1099511627776 by omega)]
   rw[y7l (by omega)])
 rw[q5a];unfold r3h
 simp only[L,zOb]
 simp
theorem q0q (l:List u0f) (h:p4t l):t4k l=some l:=by
 have L:=s2a t0m l (fun a i=>(a,l,(l.length:Int),i)) (fun _=>true) (fun x=>x) (fun a=> .inl a) (by have:=h.1;omega)
  (fun a _=>by rw[s4c];simp only[u90,u0b,Nat.lt_irrefl,decide_false,cond_false])
  (fun i hi a ha=>by
   have h1:=q0s l[i] (h.2 _ (List.getElem_mem hi))
   have:=h.1
   rw[s4c]
   simp only[u90,u0b,hi,decide_true,cond_true,y7t hi,zTn,y8k (t:=u0k) hi,h1,zOb,List.length_singleton,u1d (show a.length+1≤1099511627776 by omega)]
   rw[y7l (by omega)])
 rw[q1q];unfold s85
 simp only[L,zOb]
 simp
abbrev u0h:=List u3g×List u0f×List u0f×Int×Int
def p0v (b:u0h):Prop:=b.1.length≤4194304∧p4t b.2.1∧p4t b.2.2.1
theorem t7y (b:u0h) (h:p0v b):u24 b=some b:=by
 have h1:=q0r b.2.1 h.2.1
 have h2:=q0r b.2.2.1 h.2.2
 rw[q49];unfold r3g
 simp only[List.length_nil,Nat.zero_add,List.nil_append,u1d (show b.1.length≤1099511627776 by have:=h.1;omega),cond_true,h1,h2,zOb]
theorem t7x (b:u0h) (h:p0v b):u1i b=some b:=by
 have h1:=q0q b.2.1 h.2.1
 have h2:=q0q b.2.2.1 h.2.2
 rw[q1o];unfold s83
 simp only[u1d (show b.1.length≤1099511627776 by have:=h.1;omega),cond_true,h1,h2,zOb]
end
section
def s3w (b:u0h) (open_:List u0f):Int:=open_.foldl (fun m t=>if t.2.2.1<m then t.2.2.1 else m) b.2.2.2.1
theorem p09 (b:u0h) (o:List u0f) (h:o.length≤4194304):t9h (b,o)=some (s3w b o):=by
 have L:=t06 t0q o (fun a i=>(o,a,i)) (fun(m:Int) t=>if t.2.2.1<m then t.2.2.1 else m) (fun a=> .inl a) (fun _ _=>True)
  (fun a _=>by rw[s4g];simp only[u94,u0b,Nat.lt_irrefl,decide_false,cond_false])
  (fun i hi a _=>by
   refine⟨trivial,?_⟩
   rw[s4g]
   simp only[u94,u0b,hi,decide_true,cond_true,y7t hi,zTn,y8k (t:=u0k) hi]
   rw[y7l (by omega)]
   by_cases hc:o[i].2.2.1<a
   ·simp only[hc,decide_true,cond_true,if_true]
   ·simp only[hc,decide_false,cond_false,if_false]) b.2.2.2.1 trivial
 rw[q18];unfold s9n
 simp only[L,zOb]
 rfl
theorem p08 (b:u0h) (o:List u0f) (h:o.length≤4194304):t8w (b,o)=some (s3w b o):=by
 have L:=t06 t0h o (fun a i=>(a,o,(o.length:Int),i)) (fun(m:Int) t=>if t.2.2.1<m then t.2.2.1 else m) (fun a=> .inl a) (fun _ _=>True)
  (fun a _=>by rw[s36];simp only[u9u,u0b,Nat.lt_irrefl,decide_false,cond_false])
  (fun i hi a _=>by
   refine⟨trivial,?_⟩
   rw[s36]
   simp only[u9u,u0b,hi,decide_true,cond_true,y7t hi,zTn,y8k (t:=u0k) hi]
   rw[y7l (by omega)]
   have e:y8i a o[i].2.2.1=if o[i].2.2.1<a then o[i].2.2.1 else a:=by
    unfold y8i
    split<;>rfl
   rw[e]) b.2.2.2.1 trivial
 rw[q1h];unfold s8x
 simp only[L,zOb]
 rfl
def u1j (b:u0h) (n:ByteArray):Int:=if u1h (fun x:u0f=>z7o x.2.2.2.2.2.2.2 n) b.2.2.1<b.2.2.1.length then((u1h (fun x:u0f=>z7o x.2.2.2.2.2.2.2 n) b.2.2.1:Nat):Int) else -1
theorem r8a (b:u0h) (n:ByteArray) (h:b.2.2.1.length≤4194304):t52 (b,n)=some (u1j b n):=by
 have hq:∀x∈b.2.2.1,t24 (x,n)=some (z7o x.2.2.2.2.2.2.2 n):=fun x _=>by
  rw[r9r];unfold s50;rfl
 have L:=Q.first (T:=u0k) (c:=ByteArray) (W:=u02) (q:=t24) (p:=fun x:u0f=>z7o x.2.2.2.2.2.2.2 n) (fun x=>u6v x) b.2.2.1 n (by omega) hq
 rw[q31];unfold r2a u1j
 simp only[u8b,u3k,L,zOb]
 by_cases hk:u1h (fun x:u0f=>z7o x.2.2.2.2.2.2.2 n) b.2.2.1<b.2.2.1.length
 ·simp only[if_pos hk,zOb]
 ·simp only[if_neg hk,zOb]
theorem r8b (b:u0h) (n:ByteArray) (h:b.2.2.1.length≤4194304):t6e (b,n)=some (u1j b n):=by
 have L:=s4v u73 (u1h (fun x:u0f=>z7o x.2.2.2.2.2.2.2 n) b.2.2.1) (fun(_:Unit) i=>(n,b,i)) (fun _ _=>if u1h (fun x:u0f=>z7o x.2.2.2.2.2.2.2 n) b.2.2.1<b.2.2.1.length then .inr ((u1h (fun x:u0f=>z7o x.2.2.2.2.2.2.2 n) b.2.2.1:Nat):Int) else .inl ()) (fun _ _=>True)
  (fun a _=>by
   have hle:=r1g (fun x:u0f=>z7o x.2.2.2.2.2.2.2 n) b.2.2.1
   rw[s7y]
   by_cases hk:u1h (fun x:u0f=>z7o x.2.2.2.2.2.2.2 n) b.2.2.1<b.2.2.1.length
   ·have hy:=s42 hk
    simp only[u7s,u0b,hk,decide_true,cond_true,y7t hk,zTn,y8k (t:=u0k) hk,hy,if_true]
   ·simp only[u7s,u0b,hk,decide_false,cond_false,if_false])
  (fun i a hi _=> .inr ⟨(),trivial,rfl,by
   have hle:=r1g (fun x:u0f=>z7o x.2.2.2.2.2.2.2 n) b.2.2.1
   have hil:i<b.2.2.1.length:=by omega
   have hn:=t45 hil hi
   rw[s7y]
   simp only[u7s,u0b,hil,decide_true,cond_true,y7t hil,zTn,y8k (t:=u0k) hil,hn,cond_false]
   rw[y7l (by omega)]⟩) 0 () (Nat.zero_le _) trivial
 have L:u73 (n,b,0)=_:=L
 rw[q4x];unfold r23 u1j
 simp only[L,zOb]
 by_cases hk:u1h (fun x:u0f=>z7o x.2.2.2.2.2.2.2 n) b.2.2.1<b.2.2.1.length
 ·simp only[if_pos hk]
 ·simp only[if_neg hk]
end
section
def p77 (l:List u3g) (snap:Int) (i:Nat):Bool:=decide ((rdL u0c l i).2.2.2 >snap) || decide (t7g l (rdL u0c l i).1 snap=(i:Int))
def trA (l:List u3g) (snap:Int):Nat→List u3g
 | 0=> []
 | n+1=>if p77 l snap n=true then trA l snap n++ [rdL u0c l n] else trA l snap n
theorem r7t (l:List u3g) (snap:Int):∀n,(trA l snap n).length≤n
 | 0=>Nat.le_refl _
 | n+1=>by
  have:=r7t l snap n
  simp only[trA]
  split
  ·simp;omega
  ·omega
def p7e (l:List u3g) (k:ByteArray):Nat:=(l.filter fun v=>z7o v.1 k).length
def p4z (l:List u3g) (snap:Int) (v:u3g):Bool:= !v.2.2.1 || (decide (v.2.2.2 >snap) || decide ((p7e l v.1:Int) >1))
def r0y (l:List u3g) (snap:Int):List u3g:=(trA l snap l.length).filter (p4z (trA l snap l.length) snap)
theorem p3p (l:List u3g) (snap:Int) (hl:l.length≤8388608):u75 (l,snap, [],0)=some (.inl (snap,trA l snap l.length)):=
 q03 u75 l.length (fun a i=>(l,snap,a,i)) (fun i=>trA l snap i) (.inl (snap,trA l snap l.length))
  (by rw[s72];simp only[t2k,u0b,Nat.lt_irrefl,decide_false,cond_false])
  (fun i hi=>by
   have hL:=q2r l (rdL u0c l i).1 snap (by omega)
   have hn:=r7t l snap i
   rw[s72]
   simp only[t2k,u0b,hi,decide_true,cond_true,y7t hi,zTn,hL,zOb,List.length_singleton,u1d (show(trA l snap i).length+1≤1099511627776 by omega)]
   rw[y7l (by omega)]
   simp only[trA,p77]
   by_cases h1:(rdL u0c l i).2.2.2 >snap
   ·simp[h1]
   ·by_cases h2:t7g l (rdL u0c l i).1 snap=(i:Int)<;>simp[h1,h2])
theorem p3o (l:List u3g) (snap:Int) (hl:l.length≤8388608):u7x (l,snap, [],l,(l.length:Int),0)=some (.inl (snap,trA l snap l.length)):=
 q03 u7x l.length (fun a i=>(l,snap,a,l,(l.length:Int),i)) (fun i=>trA l snap i) (.inl (snap,trA l snap l.length))
  (by rw[s7o];simp only[t17,u0b,Nat.lt_irrefl,decide_false,cond_false])
  (fun i hi=>by
   have hL:=q2q l (rdL u0c l i).1 snap (by omega)
   have hn:=r7t l snap i
   rw[s7o]
   simp only[t17,u0b,hi,decide_true,cond_true,y7t hi,zTn,hL,zOb,List.length_singleton,u1d (show(trA l snap i).length+1≤1099511627776 by omega)]
   rw[y7l (by omega)]
   simp only[trA,p77]
   by_cases h1:(rdL u0c l i).2.2.2 >snap
   ·simp[h1]
   ·by_cases h2:t7g l (rdL u0c l i).1 snap=(i:Int)<;>simp[h1,h2])
end
section
theorem q08 (k:ByteArray):∀(l:List u3g) (a:Nat),l.foldl (fun(a:Nat) v=>if z7o v.1 k=true then a+1 else a) a=a+p7e l k
 | [],a=>by simp[p7e]
 | x::l,a=>by
  rw[List.foldl_cons,q08 k l]
  unfold p7e
  cases hc:z7o x.1 k with
  | true=>simp[List.filter_cons,hc];omega
  | false=>simp[List.filter_cons,hc]
theorem p3r (s out:List u3g) (snap:Int) (i:Nat) (hi:i<s.length) (hl:s.length≤8388608):
 u6c (snap,s,out,(i:Int),0,0)=some (.inl (snap,s,out,(i:Int),(p7e s s[i].1:Int))):=by
 have L:=t06 u6c s (fun(a:Nat) j=>(snap,s,out,(i:Int),(a:Int),j)) (fun(a:Nat) v=>if z7o v.1 s[i].1=true then a+1 else a) (fun a=> .inl (snap,s,out,(i:Int),(a:Int))) (fun j a=>a≤j)
  (fun a _=>by rw[s4m];simp only[t0a,u0b,Nat.lt_irrefl,decide_false,cond_false])
  (fun j hj a ha=>by
   rw[s4m]
   simp only[t0a,u0b,hj,decide_true,cond_true,y7t hj,y7t hi,zTn,y8k (t:=u0c) hj,y8k (t:=u0c) hi]
   rw[y7l (i:=j) (by omega),y7l (i:=a) (by omega)]
   cases z7o s[j].1 s[i].1 with
   | true=>simp only[cond_true,if_true];exact⟨by omega,trivial⟩
   | false=>simp only[cond_false,Bool.false_eq_true,if_false];exact⟨by omega,trivial⟩) 0 (Nat.zero_le _)
 rw[q08,Nat.zero_add] at L
 exact L
theorem p3q (s:List u3g) (k:ByteArray) (hl:s.length≤8388608):t61 (k,s)=some (p7e s k:Int):=by
 have L:=t06 u5k s (fun(a:Nat) j=>(k,(a:Int),s,(s.length:Int),j)) (fun(a:Nat) v=>if z7o v.1 k=true then a+1 else a) (fun a=> .inl (a:Int)) (fun j a=>a≤j)
  (fun a _=>by rw[s05];simp only[u8q,u0b,Nat.lt_irrefl,decide_false,cond_false])
  (fun j hj a ha=>by
   rw[s05]
   simp only[u8q,u0b,hj,decide_true,cond_true,y7t hj,zTn,y8k (t:=u0c) hj]
   rw[y7l (i:=j) (by omega),y7l (i:=a) (by omega)]
   cases z7o s[j].1 k with
   | true=>simp only[cond_true,if_true];exact⟨by omega,trivial⟩
   | false=>simp only[cond_false,Bool.false_eq_true,if_false];exact⟨by omega,trivial⟩) 0 (Nat.zero_le _)
 rw[q08,Nat.zero_add] at L
 have L:u5k (k,0,s,(s.length:Int),0)=_:=L
 rw[r9v];unfold s53
 simp only[L,zOb]
theorem q9d (l:List u3g) (snap:Int) (hl:l.length≤8388608):s1y (l,snap)=some (r0y l snap):=by
 have hs:(trA l snap l.length).length≤8388608:=Nat.le_trans (r7t _ _ _) hl
 obtain⟨s,hse⟩:∃s,s=trA l snap l.length:=⟨_,rfl⟩
 rw[←hse] at hs
 have L:=s2a t0s s (fun a i=>(snap,s,a,i)) (p4z s snap) (fun v=>v) (fun a=> .inl a) (by omega)
  (fun a _=>by rw[s4l];simp only[u99,u0b,Nat.lt_irrefl,decide_false,cond_false])
  (fun i hi a ha=>by
   rw[s4l]
   simp only[u99,u0b,hi,decide_true,cond_true,p3r s a snap i hi hs,zOb,y7t hi,zTn,y8k (t:=u0c) hi,List.length_singleton,u1d (show a.length+1≤1099511627776 by omega)]
   rw[y7l (by omega)]
   unfold p4z
   cases h1:s[i].2.2.1 with
   | false=>simp
   | true=>
    by_cases h2:s[i].2.2.2 >snap
    ·simp[h2]
    ·by_cases h3:(p7e s s[i].1:Int) >1<;>simp[h2,h3])
 rw[List.map_id'] at L
 have hA:=p3p l snap hl
 rw[←hse] at hA
 rw[q42];unfold r28 r0y
 rw[←hse]
 simp only[hA,L,zOb]
theorem q9c (l:List u3g) (snap:Int) (hl:l.length≤8388608):s1k (l,snap)=some (r0y l snap):=by
 have hs:(trA l snap l.length).length≤8388608:=Nat.le_trans (r7t _ _ _) hl
 obtain⟨s,hse⟩:∃s,s=trA l snap l.length:=⟨_,rfl⟩
 rw[←hse] at hs
 have L:=s2a t0k s (fun a i=>(snap,s,a,s,(s.length:Int),i)) (p4z s snap) (fun v=>v) (fun a=> .inl a) (by omega)
  (fun a _=>by rw[s39];simp only[u9x,u0b,Nat.lt_irrefl,decide_false,cond_false])
  (fun i hi a ha=>by
   rw[s39]
   simp only[u9x,u0b,hi,decide_true,cond_true,p3q s _ hs,zOb,y7t hi,zTn,y8k (t:=u0c) hi,List.length_singleton,u1d (show a.length+1≤1099511627776 by omega)]
   rw[y7l (by omega)]
   unfold p4z
   cases h1:s[i].2.2.1 with
   | false=>simp
   | true=>
    by_cases h2:s[i].2.2.2 >snap
    ·simp[h2]
    ·by_cases h3:(p7e s s[i].1:Int) >1<;>simp[h2,h3])
 rw[List.map_id'] at L
 have hA:=p3o l snap hl
 rw[←hse] at hA
 rw[q36];unfold r2f r0y
 rw[←hse]
 simp only[hA,L,zOb]
theorem p1y (l:List u3g) (snap:Int):(r0y l snap).length≤l.length:=Nat.le_trans (List.length_filter_le _ _) (r7t _ _ _)
end
section
def vLt (a b:u3g):Prop:=y3c a.1 b.1=true∨(a.1=b.1∧vCs a<vCs b)
def o26 (l:List u3g):Prop:=l.Pairwise vLt
def o45 (l:List u3g) (s:Int) (x:u3g):Prop:=vCs x≤s∧ ∀y∈l,y.1=x.1→vCs y≤s→vCs y≤vCs x
theorem p5l (l:List u3g) (s:Int):∀n,n≤l.length→(trA l s n).Sublist (l.take n)
 | 0,_=>by simp[trA]
 | n+1,h=>by
  have ih:=p5l l s n (by omega)
  have hn:n<l.length:=by omega
  rw[List.take_succ_eq_append_getElem hn]
  simp only[trA]
  split
  ·rw[y8k (t:=u0c) hn]
   exact ih.append (List.Sublist.refl _)
  ·exact ih.trans (List.sublist_append_left _ _)
theorem p1z (l:List u3g) (s:Int):(r0y l s).Sublist l:=by
 have h:=p5l l s l.length (Nat.le_refl _)
 rw[List.take_length] at h
 exact List.filter_sublist.trans h
end
section
abbrev q5p:=ByteArray×ByteArray
abbrev WrT:=ByteArray×ByteArray×Bool
abbrev q3j:=u0h×List u0f
def inB (x lo hi:Int):Bool:=decide (lo≤x)&&decide (x≤hi)
theorem q2l {x lo hi:Int} :inB x lo hi=true↔lo≤x∧x≤hi:=by simp[inB]
def t6q (s:ByteArray):Bool:=s.data.toList.all (fun b=>decide (97≤b.toNat)&&decide (b.toNat≤122))&&(decide (1≤s.size)&&decide (s.size≤3))
def t3g (r:q5p):Bool:=t6q r.1&&(t6q r.2&&(y3c r.1 r.2 || z7o r.1 r.2))
def u9r (w:WrT):Bool:=t6q w.1&&(decide (w.2.1.size≤12)&&(!w.2.2 || decide (w.2.1.size=0)))
def q3s (t:Ty) (lt:t.den→t.den→Bool) (l:List t.den):Bool:=(List.range l.length).all fun i=>decide (i=0) || lt (rdL t l (i - 1)) (rdL t l i)
def t41 (l:List WrT):Bool:=l.all u9r&&(q3s u0w (fun a b=>y3c a.1 b.1) l&&decide (l.length≤8))
def u4x (t:u0f):Bool:=
 inB t.1 1 9999&&(inB t.2.1 1 3&&(inB t.2.2.1 0 9999&&(decide (t.2.2.2.2.1.length≤8)&&(t41 t.2.2.2.2.2.1&&(t.2.2.2.2.1.all t3g&&
 ((if t.2.1=3 then inB t.2.2.2.1 (t.2.2.1+1) 9999 else decide (t.2.2.2.1=0))&&((if t.2.1=2 then t6q t.2.2.2.2.2.2.2 else decide (t.2.2.2.2.2.2.2.size=0))&&(!decide (t.2.1=1) || !t.2.2.2.2.2.2.1))))))))
def r7v (v:u3g):Bool:=t6q v.1&&(decide (v.2.1.size≤12)&&((!v.2.2.1 || decide (v.2.1.size=0))&&inB v.2.2.2 1 9999))
def s02 (a b:u3g):Bool:=y3c a.1 b.1 || (z7o a.1 b.1&&decide (a.2.2.2<b.2.2.2))
def u8k (l:List u3g):Bool:=l.all r7v&&(q3s u0c s02 l&&decide (l.length≤120))
def r4b (l:List Int) (below:Int):Bool:=decide (∀x∈l,x<below)&&decide l.Nodup
def p2k (c:Int) (l:List u0f):Bool:=decide (l.length≤12)&&(l.all (fun t=>u4x t&&(decide (t.2.1=3)&&decide (t.2.2.2.1≤c)))&&q3s u0k (fun a b=>decide (a.2.2.2.1<b.2.2.2.1)) l)
def q8i (c:Int) (l:List u0f):Bool:=decide (l.length≤3)&&(l.all (fun t=>u4x t&&(decide (t.2.1=2)&&decide (t.2.2.1≤c)))&&q3s u0k (fun a b=>y3c a.2.2.2.2.2.2.2 b.2.2.2.2.2.2.2) l)
def p2g (c:Int) (l:List u0f):Bool:=decide (l.length≤4)&&(l.all (fun t=>u4x t&&(decide (t.2.1=1)&&decide (t.2.2.1≤c)))&&q3s u0k (fun a b=>decide (a.1<b.1)) l)
def u7m (l:List u0f):List Int:=l.map fun t=>t.1
def u5o (b:u0h):Bool:=u8k b.1&&(b.1.all (fun v=>decide (v.2.2.2≤b.2.2.2.1))&&(inB b.2.2.2.1 0 9999&&(inB b.2.2.2.2 1 9999&&(p2k b.2.2.2.1 b.2.1&&(q8i b.2.2.2.1 b.2.2.1&&r4b (u7m (b.2.1++b.2.2.1)) b.2.2.2.2)))))
def q76 (e:q3j):Bool:=u5o e.1&&(p2g e.1.2.2.2.1 e.2&&r4b (u7m (e.1.2.1++e.1.2.2.1++e.2)) e.1.2.2.2.2)
theorem q60 {t:Ty} {lt:t.den→t.den→Bool} (tr:∀a b c,lt a b=true→lt b c=true→lt a c=true) {l:List t.den} :q3s t lt l=true↔l.Pairwise fun a b=>lt a b=true:=by
 unfold q3s
 rw[List.all_eq_true]
 constructor
 ·intro h
  have step:∀(i:Nat) (hi:i+1<l.length),lt l[i] l[i+1] =true:=fun i hi=>by
   have:=h (i+1) (List.mem_range.mpr hi)
   rw[Bool.or_eq_true,decide_eq_true_eq] at this
   rcases this with q | q
   ·omega
   ·rw[Nat.add_sub_cancel,y8k (show i<l.length by omega),y8k hi] at q
    exact q
  rw[List.pairwise_iff_getElem]
  intro i j hi hj hij
  obtain⟨d,rfl⟩:∃d,j=i+1+d:=⟨j - (i+1),by omega⟩
  clear hij
  induction d with
  | zero=>exact step i hj
  | succ d ih=>exact tr _ _ _ (ih (by omega)) (step (i+1+d) hj)
 ·intro h i hi
  have hi:=List.mem_range.mp hi
  rw[Bool.or_eq_true,decide_eq_true_eq]
  by_cases e:i=0
  ·exact .inl e
  ·refine .inr ?_
   rw[y8k (show i - 1<l.length by omega),y8k hi]
   exact List.pairwise_iff_getElem.mp h (i - 1) i (by omega) hi (by omega)
theorem u5e {s:ByteArray} (h:t6q s=true):1≤s.size∧s.size≤3:=by
 unfold t6q at h
 simp only[Bool.and_eq_true,decide_eq_true_eq] at h
 exact h.2
structure TxnR (t:u0f):Prop where
 id:1≤t.1∧t.1≤9999
 st:1≤t.2.1∧t.2.1≤3
 snap:0≤t.2.2.1∧t.2.2.1≤9999
 rlen:t.2.2.2.2.1.length≤8
 ws:t41 t.2.2.2.2.2.1=true
 rs:∀r∈t.2.2.2.2.1,t3g r=true
 done:t.2.1=3→t.2.2.1+1≤t.2.2.2.1∧t.2.2.2.1≤9999
 nocs:t.2.1≠3→t.2.2.2.1=0
 name:t.2.1=2→t6q t.2.2.2.2.2.2.2=true
 noname:t.2.1≠2→t.2.2.2.2.2.2.2.size=0
 out:t.2.1=1→t.2.2.2.2.2.2.1=false
theorem r6q {t:u0f} :u4x t=true↔TxnR t:=by
 unfold u4x
 simp only[Bool.and_eq_true,Bool.or_eq_true,q2l,decide_eq_true_eq,List.all_eq_true,Bool.not_eq_true',decide_eq_false_iff_not]
 constructor
 ·rintro⟨h1,h2,h3,h4,h5,h6,h7,h8,h9⟩
  refine⟨h1,h2,h3,h4,h5,h6,fun e=> ?_,fun e=> ?_,fun e=> ?_,fun e=> ?_,fun e=> ?_⟩
  ·rw[if_pos e,q2l] at h7;exact h7
  ·rw[if_neg e,decide_eq_true_eq] at h7;exact h7
  ·rw[if_pos e] at h8;exact h8
  ·rw[if_neg e,decide_eq_true_eq] at h8;exact h8
  ·rcases h9 with h9 | h9
   ·exact absurd e h9
   ·exact h9
 ·intro h
  refine⟨h.id,h.st,h.snap,h.rlen,h.ws,h.rs,?_,?_,?_⟩
  ·split
   ·rename_i e;rw[q2l];exact h.done e
   ·rename_i e;rw[decide_eq_true_eq];exact h.nocs e
  ·split
   ·rename_i e;exact h.name e
   ·rename_i e;rw[decide_eq_true_eq];exact h.noname e
  ·by_cases e:t.2.1=1
   ·exact .inr (h.out e)
   ·exact .inl e
theorem p7m {l:List WrT} :t41 l=true↔(∀w∈l,u9r w=true)∧(l.Pairwise fun a b=>y3c a.1 b.1=true)∧l.length≤8:=by
 unfold t41
 rw[Bool.and_eq_true,Bool.and_eq_true,decide_eq_true_eq,List.all_eq_true,q60 (t:=u0w) (lt:=fun a b=>y3c a.1 b.1) (fun a b c h k=>q56 h k)]
theorem p3s {a b:u3g} :s02 a b=true↔vLt a b:=by
 unfold s02 vLt vCs
 rw[Bool.or_eq_true,Bool.and_eq_true,decide_eq_true_eq,y7f]
theorem o0p {a b c:u3g} (h:vLt a b) (k:vLt b c):vLt a c:=by
 rcases h with h | ⟨h,h'⟩<;>rcases k with k | ⟨k,k'⟩
 ·exact .inl (q56 h k)
 ·exact .inl (k ▸ h)
 ·exact .inl (h ▸ k)
 ·exact .inr ⟨h.trans k,by omega⟩
theorem p5v {l:List u3g} :u8k l=true↔(∀v∈l,r7v v=true)∧o26 l∧l.length≤120:=by
 unfold u8k
 rw[Bool.and_eq_true,Bool.and_eq_true,decide_eq_true_eq,List.all_eq_true,q60 (t:=u0c) (lt:=s02) (fun a b c h k=>p3s.mpr (o0p (p3s.mp h) (p3s.mp k)))]
 unfold o26
 simp only[p3s]
theorem s92 {l:List Int} {n:Int} :r4b l n=true↔(∀x∈l,x<n)∧l.Nodup:=by
 unfold r4b;rw[Bool.and_eq_true,decide_eq_true_eq,decide_eq_true_eq]
structure BaseR (b:u0h):Prop where
 vs:u8k b.1=true
 vcs:∀v∈b.1,v.2.2.2≤b.2.2.2.1
 cs:0≤b.2.2.2.1∧b.2.2.2.1≤9999
 next:1≤b.2.2.2.2∧b.2.2.2.2≤9999
 plen:b.2.1.length≤12
 past:∀t∈b.2.1,TxnR t∧t.2.1=3∧t.2.2.2.1≤b.2.2.2.1
 pasc:b.2.1.Pairwise fun x y=>x.2.2.2.1<y.2.2.2.1
 rlen:b.2.2.1.length≤3
 ready:∀t∈b.2.2.1,TxnR t∧t.2.1=2∧t.2.2.1≤b.2.2.2.1
 rasc:b.2.2.1.Pairwise fun x y=>y3c x.2.2.2.2.2.2.2 y.2.2.2.2.2.2.2=true
 below:∀x∈u7m (b.2.1++b.2.2.1),x<b.2.2.2.2
 nodup:(u7m (b.2.1++b.2.2.1)).Nodup
theorem o2n {l:List u0f} {f:u0f→Int} :q3s u0k (fun a b=>decide (f a<f b)) l=true↔l.Pairwise fun x y=>f x<f y:=by
 rw[q60 (t:=u0k) (lt:=fun a b=>decide (f a<f b)) (fun a b c h k=>by simp only[decide_eq_true_eq] at*;omega)]
 simp only[decide_eq_true_eq]
theorem o42 {l:List u0f} :q3s u0k (fun a b=>y3c a.2.2.2.2.2.2.2 b.2.2.2.2.2.2.2) l=true↔l.Pairwise fun x y=>y3c x.2.2.2.2.2.2.2 y.2.2.2.2.2.2.2=true:=
 q60 (t:=u0k) (lt:=fun a b=>y3c a.2.2.2.2.2.2.2 b.2.2.2.2.2.2.2) (fun a b c h k=>q56 h k)
theorem q5t {b:u0h} :u5o b=true↔BaseR b:=by
 unfold u5o p2k q8i
 simp only[Bool.and_eq_true,q2l,decide_eq_true_eq,List.all_eq_true,r6q,s92,o42]
 rw[o2n (f:=fun t=>t.2.2.2.1)]
 constructor
 ·rintro⟨h1,h2,h3,h4,⟨h5,h6,h7⟩,⟨h8,h9,h10⟩,h11,h12⟩
  exact⟨h1,h2,h3,h4,h5,h6,h7,h8,h9,h10,h11,h12⟩
 ·intro h
  exact⟨h.vs,h.vcs,h.cs,h.next,⟨h.plen,h.past,h.pasc⟩,⟨h.rlen,h.ready,h.rasc⟩,h.below,h.nodup⟩
structure EngR (e:q3j):Prop where
 base:BaseR e.1
 olen:e.2.length≤4
 open_:∀t∈e.2,TxnR t∧t.2.1=1∧t.2.2.1≤e.1.2.2.2.1
 oasc:e.2.Pairwise fun x y=>x.1<y.1
 below:∀x∈u7m (e.1.2.1++e.1.2.2.1++e.2),x<e.1.2.2.2.2
 nodup:(u7m (e.1.2.1++e.1.2.2.1++e.2)).Nodup
theorem p93 {e:q3j} :q76 e=true↔EngR e:=by
 unfold q76 p2g
 simp only[Bool.and_eq_true,decide_eq_true_eq,List.all_eq_true,r6q,s92,q5t]
 rw[o2n (f:=fun t=>t.1)]
 constructor
 ·rintro⟨h1,⟨h2,h3,h4⟩,h5,h6⟩
  exact⟨h1,h2,h3,h4,h5,h6⟩
 ·intro h
  exact⟨h.base,⟨h.olen,h.open_,h.oasc⟩,h.below,h.nodup⟩
end
section
theorem u6n (l:List Int):(y7g l).size=l.length:=by
 simp[y7g,ByteArray.size]
theorem p18 {s:ByteArray} {i:Nat} (h:i<s.size):s.data.toList.getD i 0=s.data.toList[i]'(by simpa using h):=by
 rw[List.getD_eq_getElem?_getD,List.getElem?_eq_getElem (by simpa using h)]
 rfl
theorem o2u (n m:Nat):Int.tdiv (n:Int) (m:Int)=((n / m:Nat):Int):=(Int.ofNat_tdiv n m).symm
theorem p8p (n m:Nat):Int.tmod (n:Int) (m:Int)=((n % m:Nat):Int):=(Int.ofNat_tmod n m).symm
theorem p65 {n:Nat} (h:n<256):IntKind.u8.wrap (n:Int)=(n:Int):=by
 simp[IntKind.wrap,IntKind.bits,IntKind.signed]
 omega
end
section
abbrev u0y:=List ByteArray×List (Int×ByteArray)
theorem p7g:(⟨#[]⟩:ByteArray)=emp:=rfl
def q8q (a b c:Int):Bool:=decide (b≤a)&&decide (a≤c)
theorem t6w (a b c:Int):u08 (a,b,c)=some (q8q a b c):=by
 rw[q7e];unfold r47 q8q
 simp only[ge_iff_le]
 cases decide (b≤a)<;>rfl
theorem s44 (a b c:Int):u0z (a,b,c)=some (q8q a b c):=by
 rw[q90];unfold r8u q8q
 simp only[ge_iff_le]
 cases decide (b≤a)<;>rfl
theorem s2v {d:u0y} :d.1.length≤q6y.wt d:=by simp only[Ty.wt];omega
theorem s2u {d:u0y} :d.2.length≤q6y.wt d:=by simp only[Ty.wt];omega
theorem p6u {d:u0y} {s:ByteArray} (h:s∈d.1):s.size≤q6y.wt d:=by
 have h1:q6y.wt d=(d.1.length+(d.1.map Ty.str.wt).sum)+(d.2.length+(d.2.map s4x.wt).sum):=rfl
 have h2:=t7n (f:=Ty.str.wt) h
 have h3:Ty.str.wt s=s.size:=rfl
 omega
theorem p6p {d:u0y} {p:Int×ByteArray} (h:p∈d.2):p.2.size≤q6y.wt d:=by
 have h1:q6y.wt d=(d.1.length+(d.1.map Ty.str.wt).sum)+(d.2.length+(d.2.map s4x.wt).sum):=rfl
 have h2:=t7n (f:=s4x.wt) h
 have h3:s4x.wt p=0+p.2.size:=rfl
 omega
def s45 (c:List (Int×ByteArray)) (at_:Int):Option ByteArray:=c.foldl (fun t p=>if p.1=at_ then some p.2 else t) none
def u3d (d:u0y) (at_:Int):ByteArray×Bool:=if 0≤at_∧at_<d.1.length then((s45 d.2 at_).getD (rdL Ty.str d.1 at_.toNat),true) else(emp,false)
theorem q96 (c:List (Int×ByteArray)) (p:Int×ByteArray) (at_:Int):s45 (c++ [p]) at_=if p.1=at_ then some p.2 else s45 c at_:=by
 simp[s45,List.foldl_append]
theorem p1l {c:List (Int×ByteArray)} {at_:Int} {s:ByteArray} (h:s45 c at_=some s):∃p∈c,p.2=s:=by
 have key:∀(c:List (Int×ByteArray)) (z:Option ByteArray),c.foldl (fun t p=>if p.1=at_ then some p.2 else t) z=some s→z=some s∨ ∃p∈c,p.2=s:=by
  intro c
  induction c with
  | nil=>intro z h;exact .inl h
  | cons p c ih=>
   intro z h
   rw[List.foldl_cons] at h
   rcases ih _ h with h | ⟨q,hq,h⟩
   ·split at h
    ·exact .inr ⟨p,by simp,by simpa using h⟩
    ·exact .inl h
   ·exact .inr ⟨q,by simp[hq],h⟩
 rcases key c none h with h | h
 ·cases h
 ·exact h
theorem r0t (d:u0y) (at_:Int):(u3d d at_).1.size≤q6y.wt d:=by
 unfold u3d
 split
 ·rename_i h
  cases hl:s45 d.2 at_ with
  | none=>
   simp only[Option.getD_none]
   have hi:at_.toNat<d.1.length:=by omega
   rw[y8k (t:=Ty.str) hi]
   exact p6u (List.getElem_mem hi)
  | some s=>
   simp only[Option.getD_some]
   obtain⟨p,hp,rfl⟩:=p1l hl
   exact p6p hp
 ·show 0≤_;omega
theorem p3e (c:List (Int×ByteArray)) (at_:Int) (z:ByteArray):c.foldl (fun t p=>if p.1=at_ then p.2 else t) z=(s45 c at_).getD z:=by
 have key:∀(c:List (Int×ByteArray)) (o:Option ByteArray) (z:ByteArray),c.foldl (fun t p=>if p.1=at_ then p.2 else t) (o.getD z)=(c.foldl (fun t p=>if p.1=at_ then some p.2 else t) o).getD z:=by
  intro c
  induction c with
  | nil=>intro o z;rfl
  | cons p c ih=>
   intro o z
   simp only[List.foldl_cons]
   by_cases h:p.1=at_
   ·simp only[h,if_true];exact ih (some p.2) z
   ·simp only[h,if_false];exact ih o z
 exact key c none z
theorem p2c (d:u0y) (at_:Int) (hd:d.1.length≤u0g):q8q at_ 0 (IntKind.i64.wrap ((d.1.length:Int) - 1))=decide (0≤at_∧at_<d.1.length):=by
 unfold u0g at hd
 rw[y4y (by omega) (by omega)]
 unfold q8q
 by_cases h:0≤at_∧at_<d.1.length
 ·rw[decide_eq_true h,decide_eq_true h.1,decide_eq_true (by omega)];rfl
 ·rw[decide_eq_false h]
  by_cases h0:0≤at_
  ·rw[decide_eq_true h0,decide_eq_false (by omega)];rfl
  ·rw[decide_eq_false h0];rfl
theorem s8e (d:u0y) (at_:Int) (hd:q6y.wt d≤u0g):t0x (d,at_)=some (u3d d at_):=by
 have h1:d.1.length≤u0g:=Nat.le_trans s2v hd
 have h2:d.2.length≤u0g:=Nat.le_trans s2u hd
 rw[r7b];unfold s2d
 simp only[t6w,p2c d at_ h1,zOb]
 unfold u3d
 unfold u0g at h1 h2
 by_cases h:0≤at_∧at_<d.1.length
 ·have hg:y4q at_ d.1.length=true:=by simp[y4q,h]
  have L:=t06 u7b d.2 (fun t i=>(at_,t,d.2,(d.2.length:Int),i)) (fun t p=>if p.1=at_ then p.2 else t) (fun t=> .inl t) (fun _ _=>True)
   (fun a _=>by rw[t9p];simp only[u64,u0b,Nat.lt_irrefl,decide_false,cond_false])
   (fun i hi a _=>⟨trivial,by
    rw[t9p];simp only[u64,u0b,hi,decide_true,cond_true,y7t hi,zTn,y8k (t:=s4x) hi]
    rw[y7l (by omega)]
    by_cases hp:(d.2[i]).1=at_
    ·simp only[hp,decide_true,cond_true,if_true]
    ·simp only[hp,decide_false,cond_false,if_false]⟩) (rdL Ty.str d.1 at_.toNat) trivial
  simp only[h,and_self,decide_true,Bool.not_true,cond_false,hg,cond_true,L,zOb,if_true,p3e]
 ·simp only[h,decide_false,Bool.not_false,cond_true,if_false];rfl
theorem s8f (d:u0y) (at_:Int) (hd:q6y.wt d≤u0g):t03 (d,at_)=some (u3d d at_):=by
 have h1:d.1.length≤u0g:=Nat.le_trans s2v hd
 have h2:d.2.length≤u0g:=Nat.le_trans s2u hd
 rw[r7m];unfold s2o
 simp only[s44,p2c d at_ h1,zOb]
 unfold u3d
 unfold u0g at h1 h2
 by_cases h:0≤at_∧at_<d.1.length
 ·have hg:y4q at_ d.1.length=true:=by simp[y4q,h]
  have L:∀n:Nat,n≤d.2.length→u7f (at_,d,(n:Int) - 1)=some (match s45 (d.2.take n) at_ with
   | some s=> .inr (s,true)
   | none=> .inl (at_,d)):=by
   intro n
   induction n with
   | zero=>
    intro _
    rw[t9t];simp only[u68]
    rfl
   | succ n ih=>
    intro hn
    have hlt:n<d.2.length:=by omega
    rw[t9t];simp only[u68]
    have e0:((n+1:Nat):Int) - 1=(n:Int):=by simp
    have e1:decide ((n:Int)≥0)=true:=by simp
    simp only[e0,e1,cond_true,y7t hlt,zTn,y8k (t:=s4x) hlt]
    rw[List.take_succ_eq_append_getElem hlt,q96]
    by_cases hp:(d.2[n]).1=at_
    ·simp only[hp,decide_true,cond_true,if_true]
    ·simp only[hp,decide_false,cond_false,if_false]
     rw[y4y (by omega) (by omega)]
     exact ih (by omega)
  have L:=L d.2.length (Nat.le_refl _)
  rw[List.take_length] at L
  have wl:IntKind.i64.wrap ((d.2.length:Int) - 1)=(d.2.length:Int) - 1:=y4y (by omega) (by omega)
  simp only[h,and_self,decide_true,Bool.not_true,cond_false,if_true]
  rw[wl,L]
  cases s45 d.2 at_ with
  | none=>simp only[zOb,hg,cond_true,Option.getD_none]
  | some s=>rfl
 ·simp only[h,decide_false,Bool.not_false,cond_true,if_false];rfl
def q22 (d:u0y) (from_:Int):Nat→Nat→ByteArray→ByteArray×Bool
 | 0,_,acc=>(acc,true)
 | m+1,i,acc=>if(u3d d (from_+(i:Int))).2 then q22 d from_ m (i+1) (acc++(u3d d (from_+(i:Int))).1) else(emp,false)
def t4x (d:u0y) (from_ n:Int):ByteArray×Bool:=if 0≤n∧n≤100 then q22 d from_ n.toNat 0 emp else(emp,false)
theorem u5d (s:ByteArray):(z7t s).length=s.size:=by simp[z7t]
theorem t3n (a b:ByteArray):z7t (a++b)=z7t a++z7t b:=by simp[z7t,ByteArray.data_append]
theorem t3h (s:ByteArray):y7g (z7t s)=s:=by
 cases s with
 | mk d=>
  unfold y7g z7t
  simp only[List.map_map]
  have:(d.toList.map ((fun n=>UInt8.ofNat n.toNat) ∘fun b=>(b.toNat:Int)))=d.toList:=by
   conv=>rhs;rw[←List.map_id d.toList]
   apply List.map_congr_left
   intro b _
   simp
  rw[this]
theorem s1e {a b c:Int} :q8q a b c=decide (b≤a∧a≤c):=by
 unfold q8q
 by_cases h:b≤a<;>by_cases g:a≤c<;>simp[h,g]
theorem q0y (d:u0y) (from_ n:Int) (hd:q6y.wt d≤1073741824) (h1: -4611686018427387904≤from_) (h2:from_≤4611686018427387904):t49 (d,from_,n)=some (t4x d from_ n):=by
 have hb:q6y.wt d≤u0g:=by unfold u0g;omega
 rw[r7e];unfold s2g t4x
 simp only[t6w,s1e,zOb]
 by_cases h:0≤n∧n≤100
 ·obtain⟨m,rfl⟩:∃m:Nat,n=m:=⟨n.toNat,by omega⟩
  have L:=s4v (fun x=>(u7c x).bind fun r=>match r with
   | .inl o=>some (y7g o,true)
   | .inr z=>some z) m (fun(a:ByteArray) i=>(from_,(m:Int),d,z7t a,i)) (fun i a=>q22 d from_ (m - i) i a) (fun i a=>a.size≤i*1073741824)
   (fun a _=>by
    rw[t9q];simp only[u65,u0b,Nat.lt_irrefl,decide_false,cond_false,zOb,t3h,Nat.sub_self,q22])
   (fun i a hi ha=>by
    have e:m - i=(m - (i+1))+1:=by omega
    have hs:=r0t d (from_+(i:Int))
    rw[t9q];simp only[u65,u0b,hi,decide_true,cond_true]
    rw[y4y (n:=from_+(i:Int)) (by omega) (by omega),s8e d _ hb,e]
    simp only[zOb,q22]
    cases hr:(u3d d (from_+(i:Int))).2 with
    | false=>left;rfl
    | true=>
     right
     refine⟨a++(u3d d (from_+(i:Int))).1,by rw[ByteArray.size_append];omega,by simp,?_⟩
     simp only[Bool.not_true,cond_false,u5d,u1d (show a.size+(u3d d (from_+(i:Int))).1.size≤1099511627776 by omega),cond_true,t3n]
     rw[y7l (by omega)]) 0 emp (by omega) (by show 0≤_;omega)
  rw[decide_eq_true h,if_pos h,Bool.not_true,cond_false]
  exact L
 ·rw[decide_eq_false h,if_neg h];rfl
theorem q0z (d:u0y) (from_ n:Int) (hd:q6y.wt d≤1073741824) (h1: -4611686018427387904≤from_) (h2:from_≤4611686018427387904):t5f (d,from_,n)=some (t4x d from_ n):=by
 have hb:q6y.wt d≤u0g:=by unfold u0g;omega
 rw[r7o];unfold s2q t4x
 simp only[s44,s1e,zOb]
 by_cases h:0≤n∧n≤100
 ·obtain⟨m,rfl⟩:∃m:Nat,n=m:=⟨n.toNat,by omega⟩
  have L:=s4v (fun x=>(u7g x).bind fun r=>match r with
   | .inl o=>some (o,true)
   | .inr z=>some z) m (fun(a:ByteArray) i=>(from_,(m:Int),d,a,i)) (fun i a=>q22 d from_ (m - i) i a) (fun i a=>a.size≤i*1073741824∧(i=0∨0≤from_))
   (fun a _=>by
    rw[t9u];simp only[u69,u0b,Nat.lt_irrefl,decide_false,cond_false,zOb,Nat.sub_self,q22])
   (fun i a hi ha=>by
    have e:m - i=(m - (i+1))+1:=by omega
    have hs:=r0t d (from_+(i:Int))
    rw[t9u];simp only[u69,u0b,hi,decide_true,cond_true]
    rw[e]
    simp only[q22]
    by_cases hf:from_<0∨from_ >(d.1.length:Int)
    ·left
     have hno:(u3d d (from_+(i:Int))).2=false:=by
      unfold u3d
      rw[if_neg (by omega)]
     rw[hno]
     by_cases hf1:from_<0
     ·rw[decide_eq_true hf1];rfl
     ·have hf2:from_ >(d.1.length:Int):=by omega
      rw[decide_eq_false hf1,decide_eq_true hf2];rfl
    ·have hf1: ¬from_<0:=by omega
     have hf2: ¬from_ >(d.1.length:Int):=by omega
     rw[decide_eq_false hf1,decide_eq_false hf2]
     simp only[cond_false,zOb]
     rw[y4y (n:=from_+(i:Int)) (by omega) (by omega),s8f d _ hb]
     simp only[zOb]
     cases hr:(u3d d (from_+(i:Int))).2 with
     | false=>left;rfl
     | true=>
      right
      refine⟨a++(u3d d (from_+(i:Int))).1,⟨by rw[ByteArray.size_append];omega,by omega⟩,by simp,?_⟩
      simp only[Bool.not_true,cond_false,decide_eq_true (show a.size+(u3d d (from_+(i:Int))).1.size≤140737488355328 by omega),cond_true]
      rw[y7l (by omega)]) 0 emp (by omega) ⟨by show 0≤_;omega, .inl rfl⟩
  rw[decide_eq_true h,if_pos h,Bool.not_true,cond_false]
  exact L
 ·rw[decide_eq_false h,if_neg h];rfl
end
section
theorem p4l (v:Nat):(bif decide ((v:Int)<97) then some true else some (decide ((v:Int) >122)))=some (!(decide (97≤v)&&decide (v≤122))):=by
 have e1:decide ((v:Int)<97)= !decide (97≤v):=by by_cases h:97≤v<;>simp[h] <;>omega
 have e2:decide ((v:Int) >122)= !decide (v≤122):=by by_cases h:v≤122<;>simp[h] <;>omega
 rw[e1,e2]
 cases decide (97≤v)<;>cases decide (v≤122)<;>rfl
theorem r1k (a b c:Int):u08 (a,b,c)=some (inB a b c):=t6w a b c
theorem s2z (a b c:Int):u0z (a,b,c)=some (inB a b c):=s44 a b c
theorem u7t {X R:Type} (W:X→Option R) (n:Nat) (mk:Int→X) (ok:Nat→Bool) (yes no:R) (hend:W (mk (n:Int))=some yes)
 (hstep:∀(i:Nat),i<n→W (mk (i:Int))=bif ok i then W (mk ((i+1:Nat):Int)) else some no):W (mk 0)=some (bif (List.range n).all ok then yes else no):=by
 have key:∀d i:Nat,i+d=n→W (mk (i:Int))=some (bif (List.range d).all (fun j=>ok (i+j)) then yes else no):=by
  intro d
  induction d with
  | zero=>intro i hi;have:i=n:=by omega
          subst this;simpa using hend
  | succ d ih=>
   intro i hi
   rw[hstep i (by omega),ih (i+1) (by omega),List.range_succ_eq_map,List.all_cons,List.all_map,Nat.add_zero]
   have e:((fun j=>ok (i+j)) ∘Nat.succ)=fun j=>ok (i+1+j):=by funext j;simp only[Function.comp];congr 1;omega
   rw[e]
   cases ok i<;>rfl
 have:=key n 0 (by omega)
 simpa using this
theorem t4e {t:Ty} (l:List t.den) (f:t.den→Bool):((List.range l.length).all fun i=>f (rdL t l i))=l.all f:=by
 rw[Bool.eq_iff_iff,List.all_eq_true,List.all_eq_true]
 constructor
 ·intro h x hx
  obtain⟨i,hi,rfl⟩:=List.getElem_of_mem hx
  have:=h i (List.mem_range.mpr hi)
  rwa [y8k hi] at this
 ·intro h i hi
  rw[y8k (List.mem_range.mp hi)]
  exact h _ (List.getElem_mem _)
theorem p4h {α:Type} (l:List α) (f g:α→Bool):(l.all fun i=>f i&&g i)=(l.all f&&l.all g):=by
 induction l with
 | nil=>rfl
 | cons x l ih=>simp only[List.all_cons,ih];cases f x<;>cases g x<;>simp
theorem s1d {t:Ty} (l:List t.den) (f:t.den→Bool) (lt:t.den→t.den→Bool):
 ((List.range l.length).all fun i=>f (rdL t l i)&&(decide (i=0) || lt (rdL t l (i - 1)) (rdL t l i)))=(l.all f&&q3s t lt l):=by
 rw[p4h (List.range l.length) (fun i=>f (rdL t l i)) (fun i=>decide (i=0) || lt (rdL t l (i - 1)) (rdL t l i)),t4e]
 rfl
theorem t5v (i:Nat):decide ((i:Int) >0)= !decide (i=0):=by by_cases h:i=0<;>simp[h] <;>omega
theorem t1w {i:Nat} (h:i<4611686018427387904) (h0:i≠0):IntKind.i64.wrap ((i:Int) - (1:Int))=((i - 1:Nat):Int):=by
 rw[y4y (by omega) (by omega)];omega
theorem q78 (s:ByteArray) {i:Nat} (h:i<s.size):s.data.toList.getD i 0=s.data.toList[i]'h:=by
 rw[List.getD_eq_getElem?_getD,List.getElem?_eq_getElem h];rfl
theorem t7z (s:ByteArray) (hs:s.size≤u0g):u6y s=some (t6q s):=by
 have hb:u0g=1099511627776:=rfl
 have L:=u7t t5p s.size (fun i=>(s,i)) (fun i=>(fun b:UInt8=>decide (97≤b.toNat)&&decide (b.toNat≤122)) (s.data.toList.getD i 0)) (.inl s) (.inr false)
  (by rw[r3z];simp only[t5j,u0b,Nat.lt_irrefl,decide_false,cond_false])
  (fun i hi=>by
   rw[r3z];simp only[t5j,u0b,hi,decide_true,cond_true,y7t hi,zTn,y7l (show i<4611686018427387904 by omega)]
   rw[p4l];simp only[zOb]
   cases (decide (97≤(s.data.toList.getD i 0).toNat)&&decide ((s.data.toList.getD i 0).toNat≤122))<;>rfl)
 have hA:((List.range s.size).all fun i=>(fun b:UInt8=>decide (97≤b.toNat)&&decide (b.toNat≤122)) (s.data.toList.getD i 0))=s.data.toList.all (fun b=>decide (97≤b.toNat)&&decide (b.toNat≤122)):=by
  rw[Bool.eq_iff_iff,List.all_eq_true,List.all_eq_true]
  constructor
  ·intro h x hx
   obtain⟨i,hi,rfl⟩:=List.getElem_of_mem hx
   have:=h i (List.mem_range.mpr hi)
   rwa [q78 s hi] at this
  ·intro h i hi
   rw[q78 s (List.mem_range.mp hi)]
   exact h _ (List.getElem_mem _)
 rw[hA] at L
 rw[q9k];unfold r8f
 simp only[L,zOb]
 unfold t6q
 cases s.data.toList.all (fun b=>decide (97≤b.toNat)&&decide (b.toNat≤122))
 ·rfl
 ·simp only[cond_true,r1k,zOb,Bool.true_and]
  unfold inB
  congr 1
  have e1:decide ((1:Int)≤(s.size:Int))=decide (1≤s.size):=by simp;omega
  have e2:decide ((s.size:Int)≤3)=decide (s.size≤3):=by simp;omega
  rw[e1,e2]
theorem t70 (s:ByteArray) (hs:s.size≤u0g):u60 s=some (t6q s):=by
 have hb:u0g=1099511627776:=rfl
 have L:=u7t t5r s.size (fun i=>(s,i)) (fun i=>(fun b:UInt8=>decide (97≤b.toNat)&&decide (b.toNat≤122)) (s.data.toList.getD i 0)) (.inl s) (.inr false)
  (by rw[r31];simp only[t5l,u0b,Nat.lt_irrefl,decide_false,cond_false])
  (fun i hi=>by
   rw[r31];simp only[t5l,u0b,hi,decide_true,cond_true,y7t hi,zTn,y7l (show i<4611686018427387904 by omega)]
   rw[p4l];simp only[zOb]
   cases (decide (97≤(s.data.toList.getD i 0).toNat)&&decide ((s.data.toList.getD i 0).toNat≤122))<;>rfl)
 have hA:((List.range s.size).all fun i=>(fun b:UInt8=>decide (97≤b.toNat)&&decide (b.toNat≤122)) (s.data.toList.getD i 0))=s.data.toList.all (fun b=>decide (97≤b.toNat)&&decide (b.toNat≤122)):=by
  rw[Bool.eq_iff_iff,List.all_eq_true,List.all_eq_true]
  constructor
  ·intro h x hx
   obtain⟨i,hi,rfl⟩:=List.getElem_of_mem hx
   have:=h i (List.mem_range.mpr hi)
   rwa [q78 s hi] at this
  ·intro h i hi
   rw[q78 s (List.mem_range.mp hi)]
   exact h _ (List.getElem_mem _)
 rw[hA] at L
 rw[q9w];unfold r8q
 simp only[L,zOb]
 unfold t6q
 cases s.data.toList.all (fun b=>decide (97≤b.toNat)&&decide (b.toNat≤122))
 ·rfl
 ·simp only[cond_true,s2z,zOb,Bool.true_and]
  unfold inB
  congr 1
  have e1:decide ((1:Int)≤(s.size:Int))=decide (1≤s.size):=by simp;omega
  have e2:decide ((s.size:Int)≤3)=decide (s.size≤3):=by simp;omega
  rw[e1,e2]
theorem q81 (r:q5p) (h1:r.1.size≤u0g) (h2:r.2.size≤u0g):s1g r=some (t3g r):=by
 rw[q3z];unfold r17 t3g
 simp only[t7z _ h1,t7z _ h2,zOb]
 cases t6q r.1<;>cases t6q r.2<;>rfl
theorem q82 (r:q5p) (h1:r.1.size≤u0g) (h2:r.2.size≤u0g):s1u r=some (t3g r):=by
 rw[q4u];unfold r20 t3g
 simp only[t70 _ h1,t70 _ h2,zOb]
 cases t6q r.1<;>cases t6q r.2<;>rfl
theorem t0w (s:ByteArray):z7o s (⟨#[]⟩:ByteArray)=decide (s.size=0):=by
 rw[Bool.eq_iff_iff,y7f,decide_eq_true_eq]
 constructor
 ·intro h;subst h;rfl
 ·intro h;exact ByteArray.ext (Array.eq_empty_of_size_eq_zero h)
theorem o4f (s:ByteArray):decide ((s.size:Int)≤12)=decide (s.size≤12):=by simp;omega
theorem q9f (w:WrT) (h1:w.1.size≤u0g):s1l w=some (u9r w):=by
 rw[q39];unfold r2i u9r
 simp only[t7z _ h1,zOb,t0w,o4f]
 cases t6q w.1<;>cases decide (w.2.1.size≤12)<;>cases w.2.2<;>rfl
theorem q9g (w:WrT) (h1:w.1.size≤u0g):s1z w=some (u9r w):=by
 rw[q44];unfold r3a u9r
 simp only[t70 _ h1,zOb,t0w,o4f]
 cases t6q w.1<;>cases decide (w.2.1.size≤12)<;>cases w.2.2<;>rfl
theorem q6f {l:List WrT} {w:WrT} (h:w∈l):w.1.size≤(Ty.sl u0w).wt l∧w.2.1.size≤(Ty.sl u0w).wt l:=by
 have h1:(Ty.sl u0w).wt l=l.length+(l.map u0w.wt).sum:=rfl
 have h2:=t7n (f:=u0w.wt) h
 have h3:u0w.wt w=w.1.size+(w.2.1.size+0):=rfl
 omega
theorem q51 {l:List q5p} {w:q5p} (h:w∈l):w.1.size≤(Ty.sl u1u).wt l∧w.2.size≤(Ty.sl u1u).wt l:=by
 have h1:(Ty.sl u1u).wt l=l.length+(l.map u1u.wt).sum:=rfl
 have h2:=t7n (f:=u1u.wt) h
 have h3:u1u.wt w=w.1.size+w.2.size:=rfl
 omega
theorem t1b {t:Ty} (l:List t.den):l.length≤(Ty.sl t).wt l:=by
 have h1:(Ty.sl t).wt l=l.length+(l.map t.wt).sum:=rfl
 omega
theorem le8 (n:Nat):decide ((n:Int)≤8)=decide (n≤8):=by simp;omega
theorem gt8 (n:Nat):decide ((n:Int) >8)= !decide (n≤8):=by by_cases h:n≤8<;>simp[h] <;>omega
theorem q6w (l:List WrT) (hl:(Ty.sl u0w).wt l≤u0g):t8z l=some (t41 l):=by
 have hb:u0g=1099511627776:=rfl
 have hn:=t1b (t:=u0w) l
 have L:=u7t t0l l.length (fun i=>(l,l,(l.length:Int),i)) (fun i=>u9r (rdL u0w l i)&&(decide (i=0) || (fun a b:WrT=>y3c a.1 b.1) (rdL u0w l (i - 1)) (rdL u0w l i))) (.inl l) (.inr false)
  (by rw[s4b];simp only[u9z,u0b,Nat.lt_irrefl,decide_false,cond_false])
  (fun i hi=>by
   have hm:rdL u0w l i∈l:=by rw[y8k hi];exact List.getElem_mem hi
   rw[s4b];simp only[u9z,u0b,hi,decide_true,cond_true,y7t hi,zTn,y7l (show i<4611686018427387904 by omega),q9f _ (Nat.le_trans (q6f hm).1 hl),zOb,t5v]
   by_cases h0:i=0
   ·subst h0;simp only[decide_true,Bool.not_true,cond_false,Bool.true_or,Bool.and_true]
    cases u9r (rdL u0w l 0)<;>rfl
   ·simp only[h0,decide_false,Bool.not_false,cond_true,Bool.false_or,t1w (show i<4611686018427387904 by omega) h0,y7t (show i - 1<l.length by omega),zTn]
    cases u9r (rdL u0w l i)
    ·rfl
    ·simp only[Bool.not_true,cond_false,zOb,Bool.true_and]
     cases y3c (rdL u0w l (i - 1)).1 (rdL u0w l i).1<;>rfl)
 rw[s1d (t:=u0w) l u9r (fun a b=>y3c a.1 b.1)] at L
 rw[q1n];unfold s82
 simp only[L,zOb]
 unfold t41
 cases l.all u9r
 ·rfl
 ·cases q3s u0w (fun a b=>y3c a.1 b.1) l
  ·rfl
  ·simp only[Bool.true_and,cond_true]
   rw[le8]
theorem q6x (l:List WrT) (hl:(Ty.sl u0w).wt l≤u0g):t9l l=some (t41 l):=by
 have hb:u0g=1099511627776:=rfl
 have hn:=t1b (t:=u0w) l
 have L:=u7t t0t l.length (fun i=>(l,i)) (fun i=>u9r (rdL u0w l i)&&(decide (i=0) || (fun a b:WrT=>y3c a.1 b.1) (rdL u0w l (i - 1)) (rdL u0w l i))) (.inl l) (.inr false)
  (by rw[s4o];simp only[t0c,u0b,Nat.lt_irrefl,decide_false,cond_false])
  (fun i hi=>by
   have hm:rdL u0w l i∈l:=by rw[y8k hi];exact List.getElem_mem hi
   rw[s4o];simp only[t0c,u0b,hi,decide_true,cond_true,y7t hi,zTn,y7l (show i<4611686018427387904 by omega),q9g _ (Nat.le_trans (q6f hm).1 hl),zOb,t5v]
   by_cases h0:i=0
   ·subst h0;simp only[decide_true,Bool.not_true,cond_false,Bool.true_or,Bool.and_true]
    cases u9r (rdL u0w l 0)<;>rfl
   ·simp only[h0,decide_false,Bool.not_false,cond_true,Bool.false_or,t1w (show i<4611686018427387904 by omega) h0,y7t (show i - 1<l.length by omega),zTn]
    cases u9r (rdL u0w l i)
    ·rfl
    ·simp only[Bool.not_true,cond_false,zOb,Bool.true_and]
     cases y3c (rdL u0w l (i - 1)).1 (rdL u0w l i).1<;>rfl)
 rw[s1d (t:=u0w) l u9r (fun a b=>y3c a.1 b.1)] at L
 rw[q2e];unfold s9u
 simp only[L,zOb]
 unfold t41
 cases l.all u9r
 ·rfl
 ·cases q3s u0w (fun a b=>y3c a.1 b.1) l
  ·rfl
  ·simp only[Bool.true_and,cond_true]
   rw[le8]
theorem p2t (t:u0f):u0k.wt t=0+(0+(0+(0+((Ty.sl u1u).wt t.2.2.2.2.1+((Ty.sl u0w).wt t.2.2.2.2.2.1+(0+t.2.2.2.2.2.2.2.size)))))):=rfl
theorem t71 (t:u0f) (ht:u0k.wt t≤u0g):u5p t=some (u4x t):=by
 have hb:u0g=1099511627776:=rfl
 have hw:=p2t t
 have hn:=t1b (t:=u1u) t.2.2.2.2.1
 have L:=u7t t5q t.2.2.2.2.1.length (fun i=>(t,t.2.2.2.2.1,(t.2.2.2.2.1.length:Int),i)) (fun i=>t3g (rdL u1u t.2.2.2.2.1 i)) (.inl t) (.inr false)
  (by rw[r30];simp only[t5k,u0b,Nat.lt_irrefl,decide_false,cond_false])
  (fun i hi=>by
   have hm:rdL u1u t.2.2.2.2.1 i∈t.2.2.2.2.1:=by rw[y8k hi];exact List.getElem_mem hi
   have hz:=q51 hm
   rw[r30];simp only[t5k,u0b,hi,decide_true,cond_true,y7t hi,zTn,y7l (show i<4611686018427387904 by omega),q81 (rdL u1u t.2.2.2.2.1 i) (Nat.le_trans hz.1 (by omega)) (Nat.le_trans hz.2 (by omega)),zOb]
   cases t3g (rdL u1u t.2.2.2.2.1 i)<;>rfl)
 rw[t4e (t:=u1u) t.2.2.2.2.1 t3g] at L
 rw[q9o];unfold r8j
 have k1:=q6w t.2.2.2.2.2.1 (by omega)
 have k2:=t7z t.2.2.2.2.2.2.2 (by omega)
 simp only[L,zOb]
 unfold u4x
 cases t.2.2.2.2.1.all t3g
 ·simp only[cond_false,Bool.false_and,Bool.and_false]
 ·simp only[cond_true,r1k,k1,k2,zOb,t0w,gt8,Bool.true_and]
  cases h3:inB t.2.2.1 0 9999
  ·cases inB t.1 1 9999<;>cases inB t.2.1 1 3<;>simp
  ·have h3' :=q2l.mp h3
   rw[y4y (n:=t.2.2.1+1) (by omega) (by omega)]
   cases inB t.1 1 9999<;>cases inB t.2.1 1 3<;>cases decide (t.2.2.2.2.1.length≤8)<;>cases t41 t.2.2.2.2.2.1<;>simp
   generalize inB t.2.2.2.1 (t.2.2.1+1) 9999=b1
   generalize t6q t.2.2.2.2.2.2.2=b2
   by_cases e3:t.2.1=3
   ·cases t.2.2.2.2.2.2.1<;>cases b1<;>simp[e3]
   ·by_cases e2:t.2.1=2
    ·cases t.2.2.2.2.2.2.1<;>cases b2<;>by_cases e5:t.2.2.2.1=0<;>simp[e2,e5]
    ·by_cases e1:t.2.1=1<;>cases t.2.2.2.2.2.2.1<;>by_cases e5:t.2.2.2.1=0<;>simp[e1,e2,e3,e5]
theorem t72 (t:u0f) (ht:u0k.wt t≤u0g):u61 t=some (u4x t):=by
 have hb:u0g=1099511627776:=rfl
 have hw:=p2t t
 have hn:=t1b (t:=u1u) t.2.2.2.2.1
 have L:=u7t t5t t.2.2.2.2.1.length (fun i=>(t,i)) (fun i=>t3g (rdL u1u t.2.2.2.2.1 i)) (.inl t) (.inr false)
  (by rw[r33];simp only[t5n,u0b,Nat.lt_irrefl,decide_false,cond_false])
  (fun i hi=>by
   have hm:rdL u1u t.2.2.2.2.1 i∈t.2.2.2.2.1:=by rw[y8k hi];exact List.getElem_mem hi
   have hz:=q51 hm
   rw[r33];simp only[t5n,u0b,hi,decide_true,cond_true,y7t hi,zTn,y7l (show i<4611686018427387904 by omega),q82 (rdL u1u t.2.2.2.2.1 i) (Nat.le_trans hz.1 (by omega)) (Nat.le_trans hz.2 (by omega)),zOb]
   cases t3g (rdL u1u t.2.2.2.2.1 i)<;>rfl)
 rw[t4e (t:=u1u) t.2.2.2.2.1 t3g] at L
 rw[q9z];unfold r8t
 have k1:=q6x t.2.2.2.2.2.1 (by omega)
 have k2:=t70 t.2.2.2.2.2.2.2 (by omega)
 simp only[L,s2z,k1,k2,zOb,t0w,gt8]
 unfold u4x
 cases t.2.2.2.2.1.all t3g
 ·cases inB t.1 1 9999<;>cases inB t.2.1 1 3<;>cases inB t.2.2.1 0 9999<;>cases decide (t.2.2.2.2.1.length≤8)<;>cases t41 t.2.2.2.2.2.1<;>simp
 ·simp only[cond_true,Bool.true_and,s2z,k2,zOb,t0w]
  cases h3:inB t.2.2.1 0 9999
  ·cases inB t.1 1 9999<;>cases inB t.2.1 1 3<;>simp
  ·have h3' :=q2l.mp h3
   rw[y4y (n:=t.2.2.1+1) (by omega) (by omega)]
   cases inB t.1 1 9999<;>cases inB t.2.1 1 3<;>cases decide (t.2.2.2.2.1.length≤8)<;>cases t41 t.2.2.2.2.2.1<;>try rfl
   generalize decide (t.2.2.2.2.2.2.2.size=0)=b4
   generalize inB t.2.2.2.1 (t.2.2.1+1) 9999=b1
   generalize t6q t.2.2.2.2.2.2.2=b2
   by_cases e3:t.2.1=3
   ·cases t.2.2.2.2.2.2.1<;>cases b1<;>cases b4<;>simp[e3]
   ·by_cases e2:t.2.1=2
    ·cases t.2.2.2.2.2.2.1<;>cases b2<;>by_cases e5:t.2.2.2.1=0<;>simp[e2,e5]
    ·by_cases e1:t.2.1=1<;>cases t.2.2.2.2.2.2.1<;>cases b4<;>by_cases e5:t.2.2.2.1=0<;>simp[e1,e2,e3,e5]
end
section
section
variable {l:List u0k.den} (hl:o0b l) {u:List Nat} (ho:o2r l=some u)
include hl
include ho
def pre (l:List u0k.den) (u:List Nat) (a:Nat):List u0k.den:=(u.take a).map fun i=>rdL u0k l i
end
end
section
def o47 (w:u0w.den):Prop:=w.1.size≤4∧w.2.1.size≤13
def o46 (n:Nat) (t:u0k.den):Prop:=t.2.2.2.2.1.length≤n∧(∀r∈t.2.2.2.2.1,r.1.size≤2∧r.2.size≤2)∧t.2.2.2.2.2.1.length≤n∧(∀r∈t.2.2.2.2.2.1,o47 r)∧t.2.2.2.2.2.2.2.size≤16
end
section
theorem p2x {l:List u3g} {w:u3g} (h:w∈l):w.1.size≤(Ty.sl u0c).wt l∧w.2.1.size≤(Ty.sl u0c).wt l:=by
 have h1:(Ty.sl u0c).wt l=l.length+(l.map u0c.wt).sum:=rfl
 have h2:=t7n (f:=u0c.wt) h
 have h3:u0c.wt w=w.1.size+(w.2.1.size+(0+0)):=rfl
 omega
theorem o1l (n:Nat):decide ((n:Int) >12)= !decide (n≤12):=by by_cases h:n≤12<;>simp[h] <;>omega
theorem p99 (n:Nat):decide ((n:Int)≤120)=decide (n≤120):=by simp;omega
theorem r84 (a b:Int):decide (a≥b)= !decide (a<b):=by
 by_cases h:a<b
 ·have: ¬a≥b:=by omega
  simp[h,this]
 ·have:a≥b:=by omega
  simp[h,this]
theorem s91 (a b:Int):decide (a >b)= !decide (a≤b):=by
 by_cases h:a≤b
 ·have: ¬a >b:=by omega
  simp[h,this]
 ·have:a >b:=by omega
  simp[h,this]
theorem p72 (a b:u3g):∃r,u37 (a,b)=some r∧decide (r≥0)= !s02 a b:=by
 rw[t6n];unfold u9k s02
 simp only[q5h,zOb]
 rcases q8j a.1 b.1 with h | h | h
 ·exact⟨-1,by simp[h],by simp[h]⟩
 ·simp only[h,t9m,y6l,Bool.false_eq_true,if_false,if_true,decide_true,Bool.not_true,cond_false,p3z,zOb,Bool.false_or,Bool.true_and]
  refine⟨_,rfl,?_⟩
  by_cases h3:a.2.2.2<b.2.2.2
  ·simp[h3]
  ·by_cases h4:a.2.2.2 >b.2.2.2<;>simp[h3,h4]
 ·have e1:=r6l h
  have e2:z7o a.1 b.1=false:=p1u.mpr (fun e=>by rw[e,t9m] at h;cases h)
  exact⟨1,by simp[e1,e2],by simp[e1,e2]⟩
theorem q00 (l:List u3g) (hl:(Ty.sl u0c).wt l≤u0g):t5a l=some (u8k l):=by
 have hb:u0g=1099511627776:=rfl
 have hn:=t1b (t:=u0c) l
 have L:=u7t u7d l.length (fun i=>(l,l,(l.length:Int),i)) (fun i=>r7v (rdL u0c l i)&&(decide (i=0) || s02 (rdL u0c l (i - 1)) (rdL u0c l i))) (.inl l) (.inr false)
  (by rw[t9r];simp only[u66,u0b,Nat.lt_irrefl,decide_false,cond_false])
  (fun i hi=>by
   have hm:rdL u0c l i∈l:=by rw[y8k hi];exact List.getElem_mem hi
   rw[t9r];simp only[u66,u0b,hi,decide_true,cond_true,y7t hi,zTn,y7l (show i<4611686018427387904 by omega),t7z _ (Nat.le_trans (p2x hm).1 hl),r1k,zOb,t5v,t0w,o1l]
   unfold r7v
   generalize t6q (rdL u0c l i).1=b1
   generalize decide ((rdL u0c l i).2.1.size≤12)=b2
   generalize decide ((rdL u0c l i).2.1.size=0)=b3
   generalize (rdL u0c l i).2.2.1=b4
   generalize inB (rdL u0c l i).2.2.2 1 9999=b5
   by_cases h0:i=0
   ·subst h0;simp only[decide_true,Bool.not_true,cond_false,Bool.true_or,Bool.and_true]
    cases b1<;>cases b2<;>cases b3<;>cases b4<;>cases b5<;>rfl
   ·obtain⟨r,hr,hr2⟩:=p72 (rdL u0c l (i - 1)) (rdL u0c l i)
    simp only[h0,decide_false,Bool.not_false,cond_true,Bool.false_or,t1w (show i<4611686018427387904 by omega) h0,y7t (show i - 1<l.length by omega),zTn,hr,hr2,zOb]
    cases s02 (rdL u0c l (i - 1)) (rdL u0c l i)<;>cases b1<;>cases b2<;>cases b3<;>cases b4<;>cases b5<;>rfl)
 rw[s1d (t:=u0c) l r7v s02] at L
 rw[r7f];unfold s2h
 simp only[L,zOb]
 unfold u8k
 cases l.all r7v
 ·rfl
 ·cases q3s u0c s02 l
  ·rfl
  ·simp only[Bool.true_and,cond_true]
   rw[p99]
theorem q01 (l:List u3g) (hl:(Ty.sl u0c).wt l≤u0g):t5g l=some (u8k l):=by
 have hb:u0g=1099511627776:=rfl
 have hn:=t1b (t:=u0c) l
 have L:=u7t u7h l.length (fun i=>(l,i)) (fun i=>r7v (rdL u0c l i)&&(decide (i=0) || s02 (rdL u0c l (i - 1)) (rdL u0c l i))) (.inl l) (.inr false)
  (by rw[t9v];simp only[u7a,u0b,Nat.lt_irrefl,decide_false,cond_false])
  (fun i hi=>by
   have hm:rdL u0c l i∈l:=by rw[y8k hi];exact List.getElem_mem hi
   rw[t9v];simp only[u7a,u0b,hi,decide_true,cond_true,y7t hi,zTn,y7l (show i<4611686018427387904 by omega),t70 _ (Nat.le_trans (p2x hm).1 hl),s2z,zOb,t5v,t0w,o1l]
   unfold r7v s02
   generalize t6q (rdL u0c l i).1=b1
   generalize decide ((rdL u0c l i).2.1.size≤12)=b2
   generalize decide ((rdL u0c l i).2.1.size=0)=b3
   generalize (rdL u0c l i).2.2.1=b4
   generalize inB (rdL u0c l i).2.2.2 1 9999=b5
   by_cases h0:i=0
   ·subst h0;simp only[decide_true,Bool.not_true,cond_false,Bool.true_or,Bool.and_true]
    cases b1<;>cases b2<;>cases b3<;>cases b4<;>cases b5<;>rfl
   ·simp only[h0,decide_false,Bool.not_false,cond_true,Bool.false_or,t1w (show i<4611686018427387904 by omega) h0,y7t (show i - 1<l.length by omega),zTn,zOb]
    rcases q8j (rdL u0c l (i - 1)).1 (rdL u0c l i).1 with h | h | h
    ·have e2:z7o (rdL u0c l (i - 1)).1 (rdL u0c l i).1=false:=p1u.mpr (fun e=>by rw[e,t9m] at h;cases h)
     rw[h,e2]
     cases b1<;>cases b2<;>cases b3<;>cases b4<;>cases b5<;>rfl
    ·rw[h,t9m,y6l]
     rw[r84]
     cases decide ((rdL u0c l (i - 1)).2.2.2<(rdL u0c l i).2.2.2)<;>cases b1<;>cases b2<;>cases b3<;>cases b4<;>cases b5<;>rfl
    ·have e1:=r6l h
     have e2:z7o (rdL u0c l (i - 1)).1 (rdL u0c l i).1=false:=p1u.mpr (fun e=>by rw[e,t9m] at h;cases h)
     rw[e1,e2]
     cases b1<;>cases b2<;>cases b3<;>cases b4<;>cases b5<;>rfl)
 rw[s1d (t:=u0c) l r7v s02] at L
 rw[r7p];unfold s2r
 simp only[L,zOb]
 unfold u8k
 cases l.all r7v
 ·rfl
 ·cases q3s u0c s02 l
  ·rfl
  ·simp only[Bool.true_and,cond_true]
   rw[p99]
theorem p5z (n:Nat) (hn:n≤1099511627776):u8n ((),(n:Int))=some [] :=by
 rw[s8c];unfold t42
 have e0:IntKind.i64.wrap ((0:Int) - (0:Int))=0:=by rw[y4y (by omega) (by omega)];rfl
 have e1:IntKind.i64.wrap ((n:Int) - 0)=(n:Int):=by rw[y4y (by omega) (by omega)];omega
 have e2:decide ((n:Int)<0)=false:=decide_eq_false (by omega)
 simp only[e0,e1,e2,cond_false]
 by_cases h:n=0
 ·subst h;simp
 ·have e3:decide ((n:Int) >0)=true:=by simp;omega
  have e4:(decide ((1:Int)≤(n:Int))&&decide ((n:Int)≤1099511627776))=true:=by simp;omega
  simp only[e3,e4,cond_true]
  simp
theorem q5i (ls:List (List u0f)) (h:ls.flatten.length≤1099511627776) (hn:ls.length≤1099511627776):u2r ls=some ls.flatten:=by
 have fl:∀(i:Nat),i≤ls.length→(ls.take i).flatten.length≤ls.flatten.length:=fun i _=>by
  have:=List.take_append_drop i ls
  have h2:ls.flatten=(ls.take i).flatten++(ls.drop i).flatten:=by rw[←List.flatten_append,this]
  rw[h2,List.length_append];omega
 have st:∀(i:Nat) (hi:i<ls.length),(ls.take (i+1)).flatten=(ls.take i).flatten++ls[i] :=fun i hi=>by
  rw[List.take_add_one,List.getElem?_eq_getElem hi,List.flatten_append];simp
 have L1:=s4v u18 ls.length (fun(n:Nat) i=>(ls,(n:Int),ls,(ls.length:Int),i)) (fun _ _=> .inl (ls,(ls.flatten.length:Int))) (fun i n=>n=(ls.take i).flatten.length)
  (fun n hP=>by
   rw[List.take_length] at hP;subst hP
   rw[t1c];simp only[u3q,u0b,Nat.lt_irrefl,decide_false,cond_false])
  (fun i n hi hP=> .inr ⟨(ls.take (i+1)).flatten.length,rfl,rfl,by
   have h1:=fl (i+1) (by omega)
   have h2:(ls.take (i+1)).flatten.length=n+ls[i].length:=by rw[st i hi,List.length_append,hP]
   have e1:IntKind.i64.wrap ((n:Int)+((ls[i].length:Nat):Int))=((n+ls[i].length:Nat):Int):=by rw[y4y (by omega) (by omega)];omega
   have e2:decide (((n+ls[i].length:Nat):Int)<0)=false:=by simp;omega
   rw[t1c];simp only[u3q,u0b,hi,decide_true,cond_true,y7t hi,zTn,y8k (t:=Ty.sl u0k) hi,y7l (show i<4611686018427387904 by omega),h2]
   rw[e1,e2];rfl⟩) 0 0 (by omega) rfl
 have L2:=s4v u11 ls.length (fun(a:List u0f) i=>(a,ls,(ls.length:Int),i)) (fun _ _=> .inl ls.flatten) (fun i a=>a=(ls.take i).flatten)
  (fun a hP=>by
   rw[List.take_length] at hP;subst hP
   rw[u9q];simp only[u25,u0b,Nat.lt_irrefl,decide_false,cond_false])
  (fun i a hi hP=> .inr ⟨(ls.take (i+1)).flatten,rfl,rfl,by
   have h1:=fl (i+1) (by omega)
   have h2:(ls.take (i+1)).flatten.length=a.length+ls[i].length:=by rw[st i hi,List.length_append,hP]
   rw[u9q];simp only[u25,u0b,hi,decide_true,cond_true,y7t hi,zTn,y8k (t:=Ty.sl u0k) hi,y7l (show i<4611686018427387904 by omega)]
   rw[u1d (show a.length+ls[i].length≤1099511627776 by omega),st i hi,hP];rfl⟩) 0 [] (by omega) rfl
 rw[s2x];unfold t3l
 have L1' :u18 (ls,(0:Int),ls,(ls.length:Int),0)=some (.inl (ls,(ls.flatten.length:Int))):=L1
 have L2' :u11 ([],ls,(ls.length:Int),0)=some (.inl ls.flatten):=L2
 simp only[L1',zOb,p5z _ h,L2']
end
end
end Go.Proofs.YtbkicjpdlchbgaaGreat.Ab
