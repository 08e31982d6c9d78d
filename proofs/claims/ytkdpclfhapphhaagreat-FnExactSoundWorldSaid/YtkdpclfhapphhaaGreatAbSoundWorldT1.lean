import Derived.Test.YtkdpclfhapphhaaGreatAbSoundWorldG3
import Derived.Test.YtkdpclfhapphhaaGreatAbK2
import Derived.Test.YtkdpclfhapphhaaGreatAbF4
import Derived.Test.YtkdpclfhapphhaaGreatAbS2
namespace Go.Proofs.YtkdpclfhapphhaaGreat.Ab
open Go
set_option linter.unusedVariables false
set_option linter.unusedSimpArgs false
set_option linter.unnecessarySimpa false
section
section
theorem o8p (n:Int):IntKind.u8.wrap n=n % 256:=by
 simp[IntKind.wrap,IntKind.bits,IntKind.signed]
theorem u0b (a b:Nat):decide ((a:Int)<(b:Int))=decide (a<b):=by simp
theorem s1i {X R A:Type} (W:X→Ht R) (n:Nat) (mk:A→Int→X) (res:Nat→A→R) (P:Nat→A→Prop)
 (hend:∀a,P n a→W (mk a (n:Int))=some (res n a))
 (hstep:∀(i:Nat) a,i<n→P i a→W (mk a (i:Int))=some (res i a)∨ ∃a',P (i+1) a' ∧res (i+1) a' =res i a∧W (mk a (i:Int))=W (mk a' ((i+1:Nat):Int))):
 ∀(i:Nat) a,i≤n→P i a→W (mk a (i:Int))=some (res i a):=by
 intro i a hi hP
 obtain⟨d,hd⟩:∃d,i+d=n:=⟨n - i,by omega⟩
 clear hi
 induction d generalizing i a with
 | zero=>
  have:i=n:=by omega
  subst this
  exact hend a hP
 | succ d ih=>
  rcases hstep i a (by omega) hP with h | ⟨a',h1,h2,h3⟩
  ·exact h
  ·rw[h3,ih (i+1) a' h1 (by omega),h2]
def o2c {E A R:Type} (f:Nat→E→A→A⊕R) (fin:A→R):Nat→Hu E→A→R
 | _, [],a=>fin a
 | i,x::l,a=>match f i x a with
  | .inl a' =>o2c f fin (i+1) l a'
  | .inr r=>r
theorem p23 {X R A E:Type} (W:X→Ht R) (l:Hu E) (mk:A→Int→X) (f:Nat→E→A→A⊕R) (fin:A→R) (P:Nat→A→Prop)
 (hend:∀a,P l.length a→W (mk a (l.length:Int))=some (fin a))
 (hstep:∀(i:Nat) (h:i<l.length) a,P i a→match f i l[i] a with
  | .inl a' =>P (i+1) a' ∧W (mk a (i:Int))=W (mk a' ((i+1:Nat):Int))
  | .inr r=>W (mk a (i:Int))=some r) (a:A) (hP:P 0 a):W (mk a 0)=some (o2c f fin 0 l a):=by
 have key:=s1i W l.length mk (fun i a=>o2c f fin i (l.drop i) a) P (fun a h=>by
  rw[hend a h,Dp (Au _)];rfl) (fun i a hi hP=>by
   have hs:=hstep i hi a hP
   have hd:l.drop i=l[i] ::l.drop (i+1):=Ce hi
   rw[hd]
   simp only[o2c]
   cases hf:f i l[i] a with
   | inl a' =>
    rw[hf] at hs
    exact .inr ⟨a',hs.1,rfl,hs.2⟩
   | inr r=>
    rw[hf] at hs
    exact .inl hs) 0 a (Cn _) hP
 exact key
def szr (b:Int) (w:Nat):Int:=if(w:Int)≤b then b - w else -1
theorem s8p {b:Int} {w:Nat} (h:(w:Int)≤b):szr b w=b - w:=Al h
theorem o06 {b:Int} {w:Nat} (h: ¬(w:Int)≤b):szr b w= -1:=Ao h
theorem o4u {b:Int} {v w:Nat} (h:(v:Int)≤b):szr (b - v) w=szr b (v+w):=by
 unfold szr
 by_cases h2:(w:Int)≤b - v
 ·rw[Al h2,Al (by omega)];omega
 ·rw[Ao h2,Ao (by omega)]
def Ty.wt:(t:Ty)→t.den→Nat
 | .int _,_=>0
 | .bool,_=>0
 | .str,s=>s.size
 | .sl e,l=>l.length+(l.map e.wt).sum
 | .pair a b,x=>a.wt x.1+b.wt x.2
theorem u9a {b:Int} {v w:Nat} {F:Ht Int} {K:Int→Ht Int} (hF:F=some (szr b v)) (hK:(v:Int)≤b→K (b - v)=some (szr (b - v) w)):
 (F.bind fun y=>bif decide (y<0) then some (-1) else K y)=some (szr b (v+w)):=by
 subst hF
 by_cases h:(v:Int)≤b
 ·rw[s8p h]
  have:decide (b - (v:Int)<0)=false:=by simp;omega
  simp only[zOb,this,Aa]
  rw[hK h,o4u h]
 ·rw[o06 h,o06 (b:=b) (w:=v+w) (by omega)]
  rfl
theorem r4e {X R E:Type} (W:X→Ht R) (l:Hu E) (mk:Int→X) (p:E→Bool) (yes no:R) (hend:W (mk (l.length:Int))=some no)
 (hstep:∀(i:Nat) (h:i<l.length),W (mk (i:Int))=bif p l[i] then some yes else W (mk ((i+1:Nat):Int))):W (mk 0)=some (bif l.any p then yes else no):=by
 have:=p23 W l (fun(_:Unit) i=>mk i) (fun _ x _=>if p x then .inr yes else .inl ()) (fun _=>no) (fun _ _=>True) (fun _ _=>hend) (fun i h a _=>by
  have hs:=hstep i h
  cases hp:p l[i] with
  | true=>simp only[hp,Ad] at hs;simp only[Bl];exact hs
  | false=>simp only[hp,Aa] at hs;simp only[Br,Bk];exact⟨trivial,hs⟩) () trivial
 rw[this]
 congr 1
 have key:∀(l:Hu E) (i:Nat),o2c (fun _ x (_:Unit)=>if p x then .inr yes else .inl ()) (fun _=>no) i l ()=bif l.any p then yes else no:=by
  intro l
  induction l with
  | nil=>intro i;rfl
  | cons x l ih=>
   intro i
   simp only[o2c,Gd]
   cases hp:p x with
   | true=>simp
   | false=>simp only[Br,Bk,Ci];exact ih _
 exact key l 0
theorem u61 {X R E A:Type} (W:X→Ht R) (l:Hu E) (mk:A→Int→X) (f:A→E→A) (fin:A→R) (P:Nat→A→Prop)
 (hend:∀a,P l.length a→W (mk a (l.length:Int))=some (fin a))
 (hstep:∀(i:Nat) (h:i<l.length) a,P i a→P (i+1) (f a l[i])∧W (mk a (i:Int))=W (mk (f a l[i]) ((i+1:Nat):Int))) (a:A) (hP:P 0 a):W (mk a 0)=some (fin (l.foldl f a)):=by
 have:=p23 W l mk (fun _ x a=> .inl (f a x)) fin P hend (fun i h a hp=>hstep i h a hp) a hP
 rw[this]
 congr 1
 have key:∀(l:Hu E) (i:Nat) (a:A),o2c (fun _ x a=>(.inl (f a x):A⊕R)) fin i l a=fin (l.foldl f a):=by
  intro l
  induction l with
  | nil=>intro i a;rfl
  | cons x l ih=>intro i a;simp only[o2c,Bs];exact ih _ _
 exact key l 0 a
theorem t9n {X R E B:Type} (W:X→Ht R) (l:Hu E) (mk:Hu B→Int→X) (p:E→Bool) (g:E→B) (fin:Hu B→R) (hl:l.length≤1099511627776)
 (hend:∀a:Hu B,a.length≤l.length→W (mk a (l.length:Int))=some (fin a))
 (hstep:∀(i:Nat) (h:i<l.length) (a:Hu B),a.length≤i→W (mk a (i:Int))=bif p l[i] then W (mk (a++ [g l[i]]) ((i+1:Nat):Int)) else W (mk a ((i+1:Nat):Int))):W (mk [] 0)=some (fin ((l.filter p).map g)):=by
 have:=u61 W l mk (fun a x=>if p x then a++ [g x] else a) fin (fun i a=>a.length≤i) hend (fun i h a hp=>by
  have hs:=hstep i h a hp
  cases hc:p l[i] with
  | true=>
   simp only[hc,Ad] at hs
   simp only[Bl]
   exact⟨by simp;omega,hs⟩
  | false=>
   simp only[hc,Aa] at hs
   simp only[Br,Bk]
   exact⟨by omega,hs⟩) [] (Au 0)
 rw[this]
 congr 1
 have key:∀(l:Hu E) (a:Hu B),l.foldl (fun a x=>if p x then a++ [g x] else a) a=a++(l.filter p).map g:=by
  intro l
  induction l with
  | nil=>intro a;simp
  | cons x l ih=>
   intro a
   simp only[Bs,ih,Di]
   cases hp:p x<;>simp
 rw[key];simp
end
section
theorem p3t (b:Hs):b.toList=toS b:=by rw[ByteArray.toList_eq];rfl
theorem o8i {a b:Hs} (h:toS a=toS b):a=b:=by rw[←y8p a,h,y8p]
theorem q51:∀(x y:Hu UInt8),Op.bytesLess x y=decide (x<y)
 | x, [] =>by simp[Op.bytesLess]
 | [],y::ys=>by simp[Op.bytesLess]
 | x::xs,y::ys=>by
  rw[Op.bytesLess,q51 xs ys,Cd]
  simp[List.cons_lt_cons_iff]
theorem o4p {a b:Hs} :y3c a b=true↔toS a<toS b:=by
 unfold y3c
 rw[p3t,p3t,q51]
 simp
theorem j1h {a b:Hs} :y3c a b=false↔ ¬toS a<toS b:=by
 rw[←o4p];simp
theorem o94 (x:Hu UInt8): ¬x<x:=List.lt_irrefl x
theorem o95 {x y z:Hu UInt8} (h:x<y) (k:y<z):x<z:=List.lt_trans h k
theorem o96 (x y:Hu UInt8):x<y∨x=y∨y<x:=by
 rcases List.le_total x y with h | h
 ·rcases Fv.mp h with h | h
  ·exact .inl h
  ·exact .inr (.inl h)
 ·rcases Fv.mp h with h | h
  ·exact .inr (.inr h)
  ·exact .inr (.inl h.symm)
theorem s3n (a:Hs):y3c a a=false:=j1h.mpr (o94 _)
theorem p3o {a b c:Hs} (h:y3c a b=true) (k:y3c b c=true):y3c a c=true:=o4p.mpr (o95 (o4p.mp h) (o4p.mp k))
theorem p6c (a b:Hs):y3c a b=true∨a=b∨y3c b a=true:=by
 rcases o96 (toS a) (toS b) with h | h | h
 ·exact .inl (o4p.mpr h)
 ·exact .inr (.inl (o8i h))
 ·exact .inr (.inr (o4p.mpr h))
theorem q24 {a b:Hs} (h:y3c a b=true):y3c b a=false:=by
 cases k:y3c b a with
 | false=>rfl
 | true=>exact absurd (p3o h k) (by rw[s3n];exact Hf)
theorem p96 {a b:Hs} :z7o a b=false↔a≠b:=by
 rw[←Ey,y7f]
theorem o32 {a b:Hs} :(!(y3c a b || z7o a b))=y3c b a:=by
 rcases p6c a b with h | h | h
 ·rw[h,q24 h];rfl
 ·subst h;rw[s3n,y6l];rfl
 ·rw[q24 h,h]
  have:z7o a b=false:=p96.mpr (fun e=>by subst e;rw[s3n] at h;cases h)
  rw[this];rfl
def Asc (l:Hu Hs):Prop:=l.Pairwise fun a b=>y3c a b=true
theorem Asc.ext:∀ {l m:Hu Hs},Asc l→Asc m→(∀x,x∈l↔x∈m)→l=m
 | [], [],_,_,_=>rfl
 | [],y::m,_,_,h=>by have:=(h y).mpr (by simp);simp at this
 | x::l, [],_,_,h=>by have:=(h x).mp (by simp);simp at this
 | x::l,y::m,hl,hm,h=>by
  have hl' :=Ch.mp hl
  have hm' :=Ch.mp hm
  have hxy:x=y:=by
   rcases A8.mp ((h x).mp (by simp)) with e | e
   ·exact e
   ·rcases A8.mp ((h y).mpr (by simp)) with e' | e'
    ·exact e'.symm
    ·have:=p3o (hm'.1 x e) (hl'.1 y e')
     rw[s3n] at this;cases this
  subst hxy
  congr 1
  refine Asc.ext hl'.2 hm'.2 fun z=> ?_
  constructor
  ·intro hz
   rcases A8.mp ((h z).mp (by simp[hz])) with e | e
   ·subst e;have:=hl'.1 z hz;rw[s3n] at this;cases this
   ·exact e
  ·intro hz
   rcases A8.mp ((h z).mpr (by simp[hz])) with e | e
   ·subst e;have:=hm'.1 z hz;rw[s3n] at this;cases this
   ·exact e
theorem Asc.filter {l:Hu Hs} (h:Asc l) (p:Hs→Bool):Asc (l.filter p):=Dz p h
def o2x (k:Hs) (l:Hu Hs):Hu Hs:=l.filter (fun x=>y3c x k)++ [k] ++l.filter (fun x=> !(y3c x k || z7o x k))
theorem o5y {k x:Hs} {l:Hu Hs} :x∈o2x k l↔x=k∨x∈l:=by
 simp only[o2x,Ay,A6,Ax,o32]
 constructor
 ·rintro((h | h) | h)
  ·exact .inr h.1
  ·exact .inl h
  ·exact .inr h.1
 ·rintro(h | h)
  ·exact .inl (.inr h)
  ·rcases p6c x k with e | e | e
   ·exact .inl (.inl ⟨h,e⟩)
   ·exact .inl (.inr e)
   ·exact .inr ⟨h,e⟩
theorem o5s {k:Hs} {l:Hu Hs} (h:Asc l):Asc (o2x k l):=by
 unfold Asc o2x
 rw[Cg,Cg]
 refine⟨⟨h.filter _,by simp,fun a ha b hb=> ?_⟩,h.filter _,fun a ha b hb=> ?_⟩
 ·simp only[Ax] at hb
  subst hb
  exact(A6.mp ha).2
 ·have hb:=(A6.mp hb).2
  rw[o32] at hb
  rcases Ay.mp ha with ha | ha
  ·exact p3o (A6.mp ha).2 hb
  ·simp only[Ax] at ha
   subst ha
   exact hb
theorem o3v {l:Hu Hs} :∀ {a:Hu Hs},Asc a→Asc (l.foldl (fun a k=>o2x k a) a)∧ ∀x,x∈l.foldl (fun a k=>o2x k a) a↔x∈l∨x∈a:=by
 induction l with
 | nil=>intro a h;exact⟨h,fun x=>by simp⟩
 | cons k l ih=>
  intro a h
  obtain⟨h1,h2⟩:=ih (o5s (k:=k) h)
  refine⟨h1,fun x=> ?_⟩
  rw[Bs,h2,o5y,A8]
  constructor
  ·rintro(q | q | q)
   ·exact .inl (.inr q)
   ·exact .inl (.inl q)
   ·exact .inr q
  ·rintro((q | q) | q)
   ·exact .inr (.inl q)
   ·exact .inl q
   ·exact .inr (.inr q)
theorem q52 (d:Array (Hu UInt8)) (hs:∀i j:Nat,i≤j→j<d.size→d[i]! ≤d[j]!):∀m,m≤d.size→(Lib.compactUpTo d m).Pairwise (·< ·)∧(∀x,x∈Lib.compactUpTo d m↔ ∃i,i<m∧d[i]! =x)
 | 0,_=>by simp[Lib.compactUpTo]
 | m+1,hm=>by
  obtain⟨h1,h2⟩:=q52 d hs m (by omega)
  rw[Lib.compactUpTo_succ]
  by_cases hk:Lib.keeps d m=true
  ·rw[Al hk]
   constructor
   ·rw[Cg]
    refine⟨h1,by simp,fun a ha b hb=> ?_⟩
    simp only[Ax] at hb
    subst hb
    obtain⟨i,hi,rfl⟩:=(h2 a).mp ha
    unfold Lib.keeps at hk
    have hk:=Ej hk
    rcases hk with hk | hk
    ·omega
    ·have l1:=hs i (m - 1) (by omega) (by omega)
     have l2:=hs (m - 1) m (by omega) (by omega)
     rcases Fv.mp l2 with l2 | l2
     ·rcases Fv.mp l1 with l1 | l1
      ·exact o95 l1 l2
      ·rw[l1];exact l2
     ·exact absurd l2.symm hk
   ·intro x
    simp only[Ay,Ax,h2]
    constructor
    ·rintro(⟨i,hi,rfl⟩ | rfl)
     ·exact⟨i,by omega,rfl⟩
     ·exact⟨m,by omega,rfl⟩
    ·rintro⟨i,hi,rfl⟩
     rcases B8 i m with q | q
     ·exact .inl ⟨i,q,rfl⟩
     ·exact .inr (by rw[show i=m by omega])
  ·rw[Ao hk,Bw]
   refine⟨h1,fun x=> ?_⟩
   rw[h2]
   unfold Lib.keeps at hk
   simp only[Ar,Hr,ne_eq,Decidable.not_not] at hk
   constructor
   ·rintro⟨i,hi,rfl⟩;exact⟨i,by omega,rfl⟩
   ·rintro⟨i,hi,rfl⟩
    rcases B8 i m with q | q
    ·exact⟨i,q,rfl⟩
    ·have:i=m:=by omega
     subst this
     exact⟨i - 1,by omega,hk.2.symm⟩
def q7g (l:Hu Hs):Hu Hs:=y6r (y4i l)
theorem o2d (l:Hu Hs):Asc (q7g l)∧ ∀x,x∈q7g l↔x∈l:=by
 obtain⟨d,hd⟩:∃d,d=(l.map toS).mergeSort fun x y=>decide (x≤y):=⟨_,rfl⟩
 have hk:q7g l=(Lib.compact d).map unS:=by
  unfold q7g y6r y4i
  rw[←hd,List.map_map]
  have:(toS ∘unS)=id:=by funext x;rfl
  rw[this,List.map_id]
 have hsort:d.Pairwise (·≤ ·):=by
  rw[hd]
  have:=List.pairwise_mergeSort (le:=fun(x y:Hu UInt8)=>decide (x≤y)) (fun a b c h1 h2=>by
   simp only[Ar] at h1 h2 ⊢
   exact List.le_trans h1 h2) (fun a b=>by
   simp only[Cr,Ar]
   exact List.le_total a b) (l.map toS)
  exact this.imp (fun h=>by simpa using h)
 have hmem:∀x,x∈d↔x∈l.map toS:=fun x=>by rw[hd];exact(List.mergeSort_perm _ _).mem_iff
 have hs:∀i j:Nat,i≤j→j<d.toArray.size→d.toArray[i]! ≤d.toArray[j]! :=fun i j hij hj=>by
  have hj' :j<d.length:=by simpa using hj
  have hi' :i<d.length:=by omega
  rw[Fl _ i (by simpa using hi'),Fl _ j hj]
  simp only[List.getElem_toArray]
  rcases B8 i j with q | q
  ·exact Cp.mp hsort i j hi' hj' q
  ·have:i=j:=by omega
   subst this
   exact List.le_refl _
 obtain⟨h1,h2⟩:=q52 d.toArray hs d.length (by simp)
 rw[hk]
 constructor
 ·unfold Asc
  rw[Dl]
  exact h1.imp (fun h=>o4p.mpr h)
 ·intro x
  rw[Bx]
  constructor
  ·rintro⟨y,hy,rfl⟩
   obtain⟨i,hi,rfl⟩:=(h2 y).mp hy
   rw[Fl _ i (by simpa using hi)]
   have:d[i] ∈l.map toS:=(hmem _).mp (Ag hi)
   obtain⟨z,hz,e⟩:=Bx.mp this
   simp only[List.getElem_toArray]
   rw[←e,y8p]
   exact hz
  ·intro hx
   have:toS x∈d:=(hmem _).mpr (Bx.mpr ⟨x,hx,rfl⟩)
   obtain⟨i,hi,e⟩:=Gy.mp this
   refine⟨toS x,(h2 _).mpr ⟨i,hi,?_⟩,y8p x⟩
   rw[Fl _ i (by simpa using hi)]
   simpa using e
theorem p8o (l:Hu Hs):(y4i l).length=l.length:=by simp[y4i]
theorem o70 (l:Hu Hs) (p:Hs→Bool):(l.filter p).foldl (fun a k=>o2x k a) [] =(q7g l).filter p:=by
 obtain⟨h1,h2⟩:=o3v (l:=l.filter p) (a:= []) List.Pairwise.nil
 obtain⟨k1,k2⟩:=o2d l
 refine Asc.ext h1 (k1.filter p) fun x=> ?_
 rw[h2,A6,A6,k2]
 simp
end
section
def u0e:Nat:=1099511627776
theorem o15 {α β:Type} {l:Hu α} {z:β} {i:Nat} {f:α→β} (h:i<l.length):
 ((l.map f).take i++List.replicate (l.length - i) z).set i (f l[i])=(l.map f).take (i+1)++List.replicate (l.length - (i+1)) z:=by
 have h1:((l.map f).take i).length=i:=by simp;omega
 rw[List.set_append_right _ _ (by omega),h1,Dw]
 have:l.length - i=(l.length - (i+1))+1:=by omega
 rw[this,List.replicate_succ,Hj,Gm]
 simp[h]
theorem Q.copy {T T' :Ty} {S:Type} {q:T.den→Ht T'.den} {g:T.den→T'.den} {W:Hu T.den×Hu T'.den×Int→Ht (Hu T'.den⊕S)}
 (hW:∀x,W x=(bif (decide (x.2.2<(x.1.length:Int))) then(bif (y4q x.2.2 x.1.length) then((q (rdL T x.1 (x.2.2).toNat)).bind fun(y1:T'.den)=>
  (bif (y4q x.2.2 x.2.1.length) then(W (x.1,((x.2.1.set (x.2.2).toNat y1),(IntKind.i64.wrap (x.2.2+(1:Int)))))) else none)) else none) else(some (.inl x.2.1))))
 (l:Hu T.den) (hl:l.length≤1099511627776) (hq:∀x∈l,q x=some (g x)) (z:T'.den):W (l,(List.replicate ((l.length:Int)).toNat z,(0:Int)))=some (.inl (l.map g)):=by
 have:=s1i W l.length (fun(_:Unit) i=>(l,(l.map g).take i.toNat++List.replicate (l.length - i.toNat) z,i)) (fun _ _=> .inl (l.map g)) (fun _ _=>True)
  (fun a _=>by
   rw[hW]
   simp only[u0b,Am,Ah,Aa,zTn]
   have h2:(l.map g).take l.length=l.map g:=List.take_of_length_le (by simp)
   simp[h2])
  (fun i a h _=> .inr ⟨(),trivial,rfl,by
   rw[hW]
   have h2:y4q (i:Int) ((l.map g).take i++List.replicate (l.length - i) z).length=true:=y7t (by simp;omega)
   simp only[u0b,h,Ae,Ad,y7t h,zTn,y8k h,hq _ (Ag h),zOb,h2]
   rw[y7l (by omega),o15 h]⟩) 0 () (by omega) trivial
 simpa using this
theorem Q.copy0 {T:Ty} {S:Type} {W:Hu T.den×Hu T.den×Int→Ht (Hu T.den⊕S)}
 (hW:∀x,W x=(bif (decide (x.2.2<(x.1.length:Int))) then(bif (y4q x.2.2 x.1.length) then(bif (y4q x.2.2 x.2.1.length) then(W (x.1,((x.2.1.set (x.2.2).toNat (rdL T x.1 (x.2.2).toNat)),(IntKind.i64.wrap (x.2.2+(1:Int)))))) else none) else none) else(some (.inl x.2.1))))
 (l:Hu T.den) (hl:l.length≤1099511627776) (z:T.den):W (l,(List.replicate ((l.length:Int)).toNat z,(0:Int)))=some (.inl l):=by
 have:=Q.copy (W:=W) (q:=fun x=>some x) (g:=fun x=>x) (fun x=>hW x) l hl (fun _ _=>rfl) z
 simpa using this
theorem Q.same {T:Ty} {S:Type} {q:T.den×T.den→Ht Bool} {W:Hu T.den×Hu T.den×Int→Ht (Unit⊕Bool)}
 (hW:∀x,W x=(bif (decide (x.2.2<(x.1.length:Int))) then(bif (y4q x.2.2 x.1.length) then(bif (y4q x.2.2 x.2.1.length) then
  ((q ((rdL T x.1 (x.2.2).toNat),(rdL T x.2.1 (x.2.2).toNat))).bind fun(y1:Bool)=>(bif (!y1) then(some (.inr false)) else(W (x.1,(x.2.1,(IntKind.i64.wrap (x.2.2+(1:Int)))))))) else none) else none) else(some (.inl ()))))
 (l:Hu T.den) (hl:l.length≤1099511627776) (hq:∀x∈l,q (x,x)=some true):W (l,(l,(0:Int)))=some (.inl ()):=
 s1i W l.length (fun(_:Unit) i=>(l,l,i)) (fun _ _=> .inl ()) (fun _ _=>True)
  (fun a _=>by
   rw[hW]
   simp only[u0b,Am,Ah,Aa])
  (fun i a h _=> .inr ⟨(),trivial,rfl,by
   rw[hW]
   simp only[u0b,h,Ae,Ad,y7t h,zTn,y8k h,hq _ (Ag h),zOb,Ap,Aa]
   rw[y7l (by omega)]⟩) 0 () (by omega) trivial
theorem Q.size {T:Ty} {q:T.den×Int→Ht Int} {W:Hu T.den×Int×Int→Ht (Int⊕Int)}
 (hW:∀x,W x=(bif (decide (x.2.2<(x.1.length:Int))) then(bif (y4q x.2.2 x.1.length) then((q ((rdL T x.1 (x.2.2).toNat),x.2.1)).bind fun(y1:Int)=>
  (bif (decide (y1<(0:Int))) then(some (.inr (-1:Int))) else(W (x.1,(y1,(IntKind.i64.wrap (x.2.2+(1:Int)))))))) else none) else(some (.inl x.2.1))))
 (l:Hu T.den) (hl:l.length≤1099511627776) (hq:∀x∈l,∀c:Int,0≤c→c≤1048576→ ∃y,q (x,c)=some y∧if(T.wt x:Int)≤c then y=c - T.wt x else y<0) (b:Int) (hb:0≤b) (hb2:b≤1048576):
 ((W (l,(b,(0:Int)))).bind fun r=>match r with
  | .inl o=>some o
  | .inr z=>some z)=some (szr b (l.map T.wt).sum):=by
 have key:=s1i W l.length (fun(c:Int) i=>(l,c,i)) (fun i c=>if(((l.drop i).map T.wt).sum:Int)≤c then .inl (c - ((l.drop i).map T.wt).sum) else .inr (-1)) (fun _ c=>0≤c∧c≤1048576)
  (fun c hc=>by
   rw[hW]
   simp only[u0b,Am,Ah,Aa,F5,Eh,Gq]
   rw[Al (by simpa using hc.1)]
   simp)
  (fun i c h hc=>by
   have hd:l.drop i=l[i] ::l.drop (i+1):=Ce h
   obtain⟨y,hy,hy2⟩:=hq _ (Ag h) c hc.1 hc.2
   rw[hW,hd]
   simp only[u0b,h,Ae,Ad,y7t h,zTn,y8k h,hy,zOb,C8,Ge]
   by_cases hw:(T.wt l[i] :Int)≤c
   ·right
    rw[Al hw] at hy2
    subst hy2
    refine⟨c - T.wt l[i],⟨by omega,by omega⟩,?_,?_⟩
    ·by_cases h2:(((l.drop (i+1)).map T.wt).sum:Int)≤c - T.wt l[i]
     ·rw[Al h2,Al (by omega)];congr 1;omega
     ·rw[Ao h2,Ao (by omega)]
    ·have:decide (c - (T.wt l[i] :Int)<0)=false:=by simp;omega
     rw[this,Aa,y7l (by omega)]
   ·left
    rw[Ao hw] at hy2
    have:decide (y<0)=true:=by simp;omega
    rw[this,Ao (by omega)]
    rfl) 0 b (by omega) ⟨hb,hb2⟩
 have key:W (l,b,0)=_:=key
 rw[key]
 simp only[Fh,zOb]
 unfold szr
 by_cases h:((l.map T.wt).sum:Int)≤b
 ·rw[Al h,Al h]
 ·rw[Ao h,Ao h]
theorem t5x {b:Int} {v w:Nat} {K:Ht Int} (hK:(v:Int)≤b→K=some (szr (b - v) w)):(bif decide (b - (v:Int)<0) then some (-1) else K)=some (szr b (v+w)):=by
 by_cases h:(v:Int)≤b
 ·have:decide (b - (v:Int)<0)=false:=by simp;omega
  rw[this,Aa,hK h,o4u h]
 ·have:decide (b - (v:Int)<0)=true:=by simp;omega
  rw[this,o06 (b:=b) (w:=v+w) (by omega)]
  rfl
theorem q28 {b:Int} {w:Nat} :if(w:Int)≤b then szr b w=b - w else szr b w<0:=by
 unfold szr
 split<;>rename_i h<;>simp[h]
theorem o8g {b:Int} {w:Nat} {F:Ht Int} {K:Int→Ht Bool} (hF:F=some (szr b w)) (hK:(w:Int)≤b→K (b - w)=some true):
 (F.bind fun y=>bif decide (y<0) then some true else K y)=some true:=by
 subst hF
 by_cases h:(w:Int)≤b
 ·rw[s8p h]
  have:decide (b - (w:Int)<0)=false:=by simp;omega
  simp only[zOb,this,Aa]
  exact hK h
 ·rw[o06 h]
  rfl
theorem s1g {α:Type} {f:α→Nat} {l:Hu α} {x:α} (h:x∈l):f x≤(l.map f).sum:=by
 induction l with
 | nil=>cases h
 | cons y l ih=>
  simp only[C8,Ge]
  rcases A8.mp h with rfl | h
  ·omega
  ·have:=ih h;omega
theorem r7d {T:Ty} {l:Hu T.den} (h:(Ty.sl T).fine l) {x:T.den} (hx:x∈l):T.fine x:=by
 obtain⟨i,hi,rfl⟩:=B7 hx
 exact h.2 i hi
abbrev u1u:Ty:=(.pair .str .str)
abbrev u0o:Ty:=(.pair .str (.pair .str .bool))
abbrev u0c:Ty:=(.pair .str (.pair .str (.pair .bool (.int .i64))))
abbrev o5i:Ty:=(.pair .str .str)
abbrev q3u:Ty:=(.pair .str .str)
abbrev s9p:Ty:=(.pair (.int .i64) .str)
abbrev p4i:Ty:=(.pair (.sl .str) (.sl s9p))
abbrev u0i:Ty:=(.pair (.int .i64) (.pair (.int .i64) (.pair (.int .i64) (.pair (.int .i64) (.pair (.sl u1u) (.pair (.sl u0o) (.pair .bool .str)))))))
abbrev p0w:Ty:=(.pair (.sl u0c) (.pair (.sl u0i) (.pair (.sl u0i) (.pair (.int .i64) (.int .i64)))))
abbrev j2k:Ty:=(.pair (.int .i64) (.pair u0i (.pair .str (.pair .bool p0w))))
abbrev s9o:Ty:=(.pair p0w (.sl u0i))
abbrev q2d:Ty:=(.pair s9o p4i)
abbrev q5y:Ty:=(.pair q2d (.pair (.sl u0i) (.pair (.sl (.int .i64)) (.sl .str))))
end
section
theorem o8e (l:Hu ((Ty.int .i64)).den) (b:Int) (hf:(Ty.sl (Ty.int .i64)).fine l) (hb:0≤b) (hb2:b≤1048576):r0b (l,b)=some (szr b ((Ty.sl (Ty.int .i64)).wt l)):=by
 have hl:l.length≤9223372036854775807:=by have:=hf.1;simp only[maxLen] at this;exact this
 rw[p5a];unfold q1q;simp only
 rw[y4y (n:=b - (l.length:Int)) (by omega) (by omega)]
 have hw:(Ty.sl (Ty.int .i64)).wt l=l.length+(l.map ((Ty.int .i64)).wt).sum:=rfl
 rw[hw];refine t5x (fun c=> ?_)
 have h0:(l.map (Ty.int .i64).wt).sum=0:=by clear hf hl hw c;induction l with
  | nil=>rfl
  | cons x l ih=>rw[C8,Ge,ih];rfl
 rw[h0,s8p (by omega)];simp
theorem o8l (l:Hu ((Ty.int .i64)).den) (hx:(Ty.sl (Ty.int .i64)).wt l≤1099511627776):r0f l=some l:=by
 have hw:(Ty.sl (Ty.int .i64)).wt l=l.length+(l.map ((Ty.int .i64)).wt).sum:=rfl
 rw[hw] at hx;rw[p5f];unfold q1v
 have h1:(decide (0≤(l.length:Int))&&decide ((l.length:Int)≤1099511627776))=true:=by simp;omega
 have h2:t1a (l,(List.replicate ((l.length:Int)).toNat ((Ty.int .i64)).zero),(0:Int))=some (.inl l):=Q.copy0 (T:=(Ty.int .i64)) (W:=t1a) (fun x=>p0i x) l (by omega) _
 simp only[h1,Ad,h2,zOb]
theorem o7w (l:Hu ((Ty.int .i64)).den) (hx:(Ty.sl (Ty.int .i64)).wt l≤1099511627776):s97 (l,l)=some true:=by
 have hw:(Ty.sl (Ty.int .i64)).wt l=l.length+(l.map ((Ty.int .i64)).wt).sum:=rfl
 rw[hw] at hx;rw[p45];unfold q1l;simp only
 have h2:t07 (l,l,(0:Int))=some (.inl ()):=Q.same (T:=(Ty.int .i64)) (S:=Unit) (q:=fun x=>some (decide (x.1=x.2))) (W:=t07) (fun x=>p0d x) l (by omega) (fun x _=>by simp[y6l])
 simp only[Ae,Ap,Aa,h2,zOb]
theorem p3s (l:Hu (Ty.str).den) (b:Int) (hf:(Ty.sl Ty.str).fine l) (hb:0≤b) (hb2:b≤1048576):t5p (l,b)=some (szr b ((Ty.sl Ty.str).wt l)):=by
 have hl:l.length≤9223372036854775807:=by have:=hf.1;simp only[maxLen] at this;exact this
 rw[q65];unfold r1a;simp only
 rw[y4y (n:=b - (l.length:Int)) (by omega) (by omega)]
 have hw:(Ty.sl Ty.str).wt l=l.length+(l.map (Ty.str).wt).sum:=rfl
 rw[hw];refine t5x (fun c=> ?_)
 exact Q.size (T:=Ty.str) (q:=(fun x=>some (IntKind.i64.wrap (x.2 - (x.1.size:Int))))) (W:=t0v) (fun x=>q3g x) l (by omega) (fun x hx c h1 h2=>⟨_,rfl,by have:=r7d hf hx;simp only[Ty.fine,maxLen] at this;simp only[Ty.wt];rw[y4y (by omega) (by omega)];by_cases hc:((ByteArray.size x:Nat):Int)≤c<;>simp only[hc,Bl,Bk] <;>omega⟩) (b - (l.length:Int)) (by omega) (by omega)
theorem p3u (l:Hu (Ty.str).den) (hx:(Ty.sl Ty.str).wt l≤1099511627776):t5r l=some l:=by
 have hw:(Ty.sl Ty.str).wt l=l.length+(l.map (Ty.str).wt).sum:=rfl
 rw[hw] at hx;rw[q67];unfold r1c
 have h1:(decide (0≤(l.length:Int))&&decide ((l.length:Int)≤1099511627776))=true:=by simp;omega
 have h2:u6p (l,(List.replicate ((l.length:Int)).toNat (Ty.str).zero),(0:Int))=some (.inl l):=Q.copy0 (T:=Ty.str) (W:=u6p) (fun x=>q3h x) l (by omega) _
 simp only[h1,Ad,h2,zOb]
theorem p27 (l:Hu (Ty.str).den) (hx:(Ty.sl Ty.str).wt l≤1099511627776):t5n (l,l)=some true:=by
 have hw:(Ty.sl Ty.str).wt l=l.length+(l.map (Ty.str).wt).sum:=rfl
 rw[hw] at hx;rw[q63];unfold r08;simp only
 have h2:u6o (l,l,(0:Int))=some (.inl ()):=Q.same (T:=Ty.str) (S:=Unit) (q:=fun x=>some (z7o x.1 x.2)) (W:=u6o) (fun x=>q3f x) l (by omega) (fun x _=>by simp[y6l])
 simp only[Ae,Ap,Aa,h2,zOb]
theorem o6e (x:(u1u).den) (b:Int) (hf:(u1u).fine x) (hb:0≤b) (hb2:b≤1048576):t89 (x,b)=some (szr b ((u1u).wt x)):=by
 obtain⟨hf0,hf1⟩:=hf
 have hs0:x.1.size≤9223372036854775807:=by have:=hf0;simp only[Ty.fine,maxLen] at this;exact this
 have hs1:x.2.size≤9223372036854775807:=by have:=hf1;simp only[Ty.fine,maxLen] at this;exact this
 have hw:(u1u).wt x=(x.1.size+(x.2.size+0)):=by simp only[Ty.wt] <;>omega
 rw[hw,p1n];unfold r8i;simp only
 rw[y4y (n:=b - (x.1.size:Int)) (by omega) (by omega)]
 refine t5x (fun c0=> ?_)
 rw[y4y (n:=b - ((x.1.size:Nat):Int) - (x.2.size:Int)) (by omega) (by omega)]
 refine t5x (fun c1=> ?_)
 rw[s8p (by omega)];simp
theorem o4s (l:Hu (u1u).den) (b:Int) (hf:(Ty.sl u1u).fine l) (hb:0≤b) (hb2:b≤1048576):s29 (l,b)=some (szr b ((Ty.sl u1u).wt l)):=by
 have hl:l.length≤9223372036854775807:=by have:=hf.1;simp only[maxLen] at this;exact this
 rw[q8z];unfold r42;simp only
 rw[y4y (n:=b - (l.length:Int)) (by omega) (by omega)]
 have hw:(Ty.sl u1u).wt l=l.length+(l.map (u1u).wt).sum:=rfl
 rw[hw];refine t5x (fun c=> ?_)
 exact Q.size (T:=u1u) (q:=t89) (W:=t2n) (fun x=>q4u x) l (by omega) (fun x hx c h1 h2=>⟨_,o6e x c (r7d hf hx) h1 h2,q28⟩) (b - (l.length:Int)) (by omega) (by omega)
theorem o6j (x:(u1u).den) (hx:(u1u).wt x≤1099511627776):t9b x=some x:=by
 rw[p1r];rfl
theorem o4w (l:Hu (u1u).den) (hx:(Ty.sl u1u).wt l≤1099511627776):s3c l=some l:=by
 have hw:(Ty.sl u1u).wt l=l.length+(l.map (u1u).wt).sum:=rfl
 rw[hw] at hx;rw[q82];unfold r45
 have h1:(decide (0≤(l.length:Int))&&decide ((l.length:Int)≤1099511627776))=true:=by simp;omega
 have h2:u7o (l,(List.replicate ((l.length:Int)).toNat (u1u).zero),(0:Int))=some (.inl (l.map fun x=>x)):=Q.copy (T:=u1u) (T' :=u1u) (q:=t9b) (W:=u7o) (fun x=>q4w x) l (by omega) (fun x hm=>o6j x (by have:=s1g (f:=(u1u).wt) hm;omega)) _
 rw[Er] at h2
 simp only[h1,Ad,h2,zOb]
theorem o5n (x:(u1u).den) (hx:(u1u).wt x≤1099511627776):t87 (x,x)=some true:=by
 simp only[Ty.wt] at hx
 rw[p1j];unfold r8e;simp only
 simp only[zOb,y6l,Ae,beq_self_eq_true,Ap,Aa]
theorem o3t (l:Hu (u1u).den) (hx:(Ty.sl u1u).wt l≤1099511627776):s26 (l,l)=some true:=by
 have hw:(Ty.sl u1u).wt l=l.length+(l.map (u1u).wt).sum:=rfl
 rw[hw] at hx;rw[q8w];unfold r4z;simp only
 have h2:u7m (l,l,(0:Int))=some (.inl ()):=Q.same (T:=u1u) (S:=Unit) (q:=t87) (W:=u7m) (fun x=>q4s x) l (by omega) (fun x hm=>o5n x (by have:=s1g (f:=(u1u).wt) hm;omega))
 simp only[Ae,Ap,Aa,h2,zOb]
theorem o6h (x:(u0o).den) (b:Int) (hf:(u0o).fine x) (hb:0≤b) (hb2:b≤1048576):t9a (x,b)=some (szr b ((u0o).wt x)):=by
 obtain⟨hf0,hf1,hf2⟩:=hf
 have hs0:x.1.size≤9223372036854775807:=by have:=hf0;simp only[Ty.fine,maxLen] at this;exact this
 have hs1:x.2.1.size≤9223372036854775807:=by have:=hf1;simp only[Ty.fine,maxLen] at this;exact this
 have hw:(u0o).wt x=(x.1.size+(x.2.1.size+0)):=by simp only[Ty.wt] <;>omega
 rw[hw,p1q];unfold r8l;simp only
 rw[y4y (n:=b - (x.1.size:Int)) (by omega) (by omega)]
 refine t5x (fun c0=> ?_)
 rw[y4y (n:=b - ((x.1.size:Nat):Int) - (x.2.1.size:Int)) (by omega) (by omega)]
 refine t5x (fun c1=> ?_)
 rw[s8p (by omega)];simp
theorem o4t (l:Hu (u0o).den) (b:Int) (hf:(Ty.sl u0o).fine l) (hb:0≤b) (hb2:b≤1048576):s3a (l,b)=some (szr b ((Ty.sl u0o).wt l)):=by
 have hl:l.length≤9223372036854775807:=by have:=hf.1;simp only[maxLen] at this;exact this
 rw[q80];unfold r43;simp only
 rw[y4y (n:=b - (l.length:Int)) (by omega) (by omega)]
 have hw:(Ty.sl u0o).wt l=l.length+(l.map (u0o).wt).sum:=rfl
 rw[hw];refine t5x (fun c=> ?_)
 exact Q.size (T:=u0o) (q:=t9a) (W:=t2o) (fun x=>q4v x) l (by omega) (fun x hx c h1 h2=>⟨_,o6h x c (r7d hf hx) h1 h2,q28⟩) (b - (l.length:Int)) (by omega) (by omega)
theorem o6m (x:(u0o).den) (hx:(u0o).wt x≤1099511627776):t9c x=some x:=by
 rw[p1u];rfl
theorem o4x (l:Hu (u0o).den) (hx:(Ty.sl u0o).wt l≤1099511627776):s3d l=some l:=by
 have hw:(Ty.sl u0o).wt l=l.length+(l.map (u0o).wt).sum:=rfl
 rw[hw] at hx;rw[q83];unfold r46
 have h1:(decide (0≤(l.length:Int))&&decide ((l.length:Int)≤1099511627776))=true:=by simp;omega
 have h2:u7p (l,(List.replicate ((l.length:Int)).toNat (u0o).zero),(0:Int))=some (.inl (l.map fun x=>x)):=Q.copy (T:=u0o) (T' :=u0o) (q:=t9c) (W:=u7p) (fun x=>q4x x) l (by omega) (fun x hm=>o6m x (by have:=s1g (f:=(u0o).wt) hm;omega)) _
 rw[Er] at h2
 simp only[h1,Ad,h2,zOb]
theorem o5q (x:(u0o).den) (hx:(u0o).wt x≤1099511627776):t88 (x,x)=some true:=by
 simp only[Ty.wt] at hx
 rw[p1m];unfold r8h;simp only
 simp only[zOb,y6l,Ae,beq_self_eq_true,Ap,Aa]
theorem o3u (l:Hu (u0o).den) (hx:(Ty.sl u0o).wt l≤1099511627776):s27 (l,l)=some true:=by
 have hw:(Ty.sl u0o).wt l=l.length+(l.map (u0o).wt).sum:=rfl
 rw[hw] at hx;rw[q8x];unfold r40;simp only
 have h2:u7n (l,l,(0:Int))=some (.inl ()):=Q.same (T:=u0o) (S:=Unit) (q:=t88) (W:=u7n) (fun x=>q4t x) l (by omega) (fun x hm=>o5q x (by have:=s1g (f:=(u0o).wt) hm;omega))
 simp only[Ae,Ap,Aa,h2,zOb]
theorem o2n (x:(u0c).den) (b:Int) (hf:(u0c).fine x) (hb:0≤b) (hb2:b≤1048576):t5q (x,b)=some (szr b ((u0c).wt x)):=by
 obtain⟨hf0,hf1,hf2,hf3⟩:=hf
 have hs0:x.1.size≤9223372036854775807:=by have:=hf0;simp only[Ty.fine,maxLen] at this;exact this
 have hs1:x.2.1.size≤9223372036854775807:=by have:=hf1;simp only[Ty.fine,maxLen] at this;exact this
 have hw:(u0c).wt x=(x.1.size+(x.2.1.size+0)):=by simp only[Ty.wt] <;>omega
 rw[hw,q66];unfold r1b;simp only
 rw[y4y (n:=b - (x.1.size:Int)) (by omega) (by omega)]
 refine t5x (fun c0=> ?_)
 rw[y4y (n:=b - ((x.1.size:Nat):Int) - (x.2.1.size:Int)) (by omega) (by omega)]
 refine t5x (fun c1=> ?_)
 rw[s8p (by omega)];simp
theorem p97 (l:Hu (u0c).den) (b:Int) (hf:(Ty.sl u0c).fine l) (hb:0≤b) (hb2:b≤1048576):t8a (l,b)=some (szr b ((Ty.sl u0c).wt l)):=by
 have hl:l.length≤9223372036854775807:=by have:=hf.1;simp only[maxLen] at this;exact this
 rw[q4c];unfold s62;simp only
 rw[y4y (n:=b - (l.length:Int)) (by omega) (by omega)]
 have hw:(Ty.sl u0c).wt l=l.length+(l.map (u0c).wt).sum:=rfl
 rw[hw];refine t5x (fun c=> ?_)
 exact Q.size (T:=u0c) (q:=t5q) (W:=u8x) (fun x=>q0r x) l (by omega) (fun x hx c h1 h2=>⟨_,o2n x c (r7d hf hx) h1 h2,q28⟩) (b - (l.length:Int)) (by omega) (by omega)
theorem o2o (x:(u0c).den) (hx:(u0c).wt x≤1099511627776):t5s x=some x:=by
 rw[q68];rfl
theorem p99 (l:Hu (u0c).den) (hx:(Ty.sl u0c).wt l≤1099511627776):t8b l=some l:=by
 have hw:(Ty.sl u0c).wt l=l.length+(l.map (u0c).wt).sum:=rfl
 rw[hw] at hx;rw[q4d];unfold s63
 have h1:(decide (0≤(l.length:Int))&&decide ((l.length:Int)≤1099511627776))=true:=by simp;omega
 have h2:u52 (l,(List.replicate ((l.length:Int)).toNat (u0c).zero),(0:Int))=some (.inl (l.map fun x=>x)):=Q.copy (T:=u0c) (T' :=u0c) (q:=t5s) (W:=u52) (fun x=>q0s x) l (by omega) (fun x hm=>o2o x (by have:=s1g (f:=(u0c).wt) hm;omega)) _
 rw[Er] at h2
 simp only[h1,Ad,h2,zOb]
theorem o1z (x:(u0c).den) (hx:(u0c).wt x≤1099511627776):t5o (x,x)=some true:=by
 simp only[Ty.wt] at hx
 rw[q64];unfold r09;simp only
 simp only[zOb,y6l,Ae,beq_self_eq_true,Ap,Aa]
theorem p9r (l:Hu (u0c).den) (hx:(Ty.sl u0c).wt l≤1099511627776):t79 (l,l)=some true:=by
 have hw:(Ty.sl u0c).wt l=l.length+(l.map (u0c).wt).sum:=rfl
 rw[hw] at hx;rw[q4b];unfold s61;simp only
 have h2:u51 (l,l,(0:Int))=some (.inl ()):=Q.same (T:=u0c) (S:=Unit) (q:=t5o) (W:=u51) (fun x=>q0q x) l (by omega) (fun x hm=>o1z x (by have:=s1g (f:=(u0c).wt) hm;omega))
 simp only[Ae,Ap,Aa,h2,zOb]
theorem o99 (x:(s9p).den) (b:Int) (hf:(s9p).fine x) (hb:0≤b) (hb2:b≤1048576):s42 (x,b)=some (szr b ((s9p).wt x)):=by
 obtain⟨hf0,hf1⟩:=hf
 have hs1:x.2.size≤9223372036854775807:=by have:=hf1;simp only[Ty.fine,maxLen] at this;exact this
 have hw:(s9p).wt x=(x.2.size+0):=by simp only[Ty.wt] <;>omega
 rw[hw,p7k];unfold q5n;simp only
 rw[y4y (n:=b - (x.2.size:Int)) (by omega) (by omega)]
 refine t5x (fun c1=> ?_)
 rw[s8p (by omega)];simp
theorem o8f (l:Hu (s9p).den) (b:Int) (hf:(Ty.sl s9p).fine l) (hb:0≤b) (hb2:b≤1048576):r0c (l,b)=some (szr b ((Ty.sl s9p).wt l)):=by
 have hl:l.length≤9223372036854775807:=by have:=hf.1;simp only[maxLen] at this;exact this
 rw[p5b];unfold q1r;simp only
 rw[y4y (n:=b - (l.length:Int)) (by omega) (by omega)]
 have hw:(Ty.sl s9p).wt l=l.length+(l.map (s9p).wt).sum:=rfl
 rw[hw];refine t5x (fun c=> ?_)
 exact Q.size (T:=s9p) (q:=s42) (W:=t6v) (fun x=>p0g x) l (by omega) (fun x hx c h1 h2=>⟨_,o99 x c (r7d hf hx) h1 h2,q28⟩) (b - (l.length:Int)) (by omega) (by omega)
theorem j0c (x:(s9p).den) (hx:(s9p).wt x≤1099511627776):s44 x=some x:=by
 rw[p7m];rfl
theorem o8m (l:Hu (s9p).den) (hx:(Ty.sl s9p).wt l≤1099511627776):r0g l=some l:=by
 have hw:(Ty.sl s9p).wt l=l.length+(l.map (s9p).wt).sum:=rfl
 rw[hw] at hx;rw[p5g];unfold q1w
 have h1:(decide (0≤(l.length:Int))&&decide ((l.length:Int)≤1099511627776))=true:=by simp;omega
 have h2:t1b (l,(List.replicate ((l.length:Int)).toNat (s9p).zero),(0:Int))=some (.inl (l.map fun x=>x)):=Q.copy (T:=s9p) (T' :=s9p) (q:=s44) (W:=t1b) (fun x=>p0j x) l (by omega) (fun x hm=>j0c x (by have:=s1g (f:=(s9p).wt) hm;omega)) _
 rw[Er] at h2
 simp only[h1,Ad,h2,zOb]
theorem o9v (x:(s9p).den) (hx:(s9p).wt x≤1099511627776):s40 (x,x)=some true:=by
 simp only[Ty.wt] at hx
 rw[p7i];unfold q5l;simp only
 simp only[zOb,y6l,Ae,beq_self_eq_true,Ap,Aa]
theorem o7x (l:Hu (s9p).den) (hx:(Ty.sl s9p).wt l≤1099511627776):s98 (l,l)=some true:=by
 have hw:(Ty.sl s9p).wt l=l.length+(l.map (s9p).wt).sum:=rfl
 rw[hw] at hx;rw[p46];unfold q1m;simp only
 have h2:t08 (l,l,(0:Int))=some (.inl ()):=Q.same (T:=s9p) (S:=Unit) (q:=s40) (W:=t08) (fun x=>p0e x) l (by omega) (fun x hm=>o9v x (by have:=s1g (f:=(s9p).wt) hm;omega))
 simp only[Ae,Ap,Aa,h2,zOb]
theorem o8d (x:(p4i).den) (b:Int) (hf:(p4i).fine x) (hb:0≤b) (hb2:b≤1048576):r0a (x,b)=some (szr b ((p4i).wt x)):=by
 obtain⟨hf0,hf1⟩:=hf
 have hw:(p4i).wt x=((Ty.sl Ty.str).wt x.1+((Ty.sl s9p).wt x.2+0)):=by simp only[Ty.wt] <;>omega
 rw[hw,p49];unfold q1p;simp only
 refine u9a (p3s _ _ hf0 (by omega) (by omega)) (fun c0=> ?_)
 refine u9a (o8f _ _ hf1 (by omega) (by omega)) (fun c1=> ?_)
 rw[s8p (by omega)];simp
theorem o8k (x:(p4i).den) (hx:(p4i).wt x≤1099511627776):r0e x=some x:=by
 simp only[Ty.wt] at hx
 rw[p5e];unfold q1u
 simp only[p3u x.1 (by simp only[Ty.wt];omega),o8m x.2 (by simp only[Ty.wt];omega),zOb]
theorem o7v (x:(p4i).den) (hx:(p4i).wt x≤1099511627776):s96 (x,x)=some true:=by
 simp only[Ty.wt] at hx
 rw[p44];unfold q1k;simp only
 simp only[p27 x.1 (by simp only[Ty.wt];omega),o7x x.2 (by simp only[Ty.wt];omega),zOb,y6l,Ae,beq_self_eq_true,Ap,Aa]
theorem j0a (x:(u0i).den) (b:Int) (hf:(u0i).fine x) (hb:0≤b) (hb2:b≤1048576):s43 (x,b)=some (szr b ((u0i).wt x)):=by
 obtain⟨hf0,hf1,hf2,hf3,hf4,hf5,hf6,hf7⟩:=hf
 have hs7:x.2.2.2.2.2.2.2.size≤9223372036854775807:=by have:=hf7;simp only[Ty.fine,maxLen] at this;exact this
 have hw:(u0i).wt x=((Ty.sl u1u).wt x.2.2.2.2.1+((Ty.sl u0o).wt x.2.2.2.2.2.1+(x.2.2.2.2.2.2.2.size+0))):=by simp only[Ty.wt] <;>omega
 rw[hw,p7l];unfold q5o;simp only
 refine u9a (o4s _ _ hf4 (by omega) (by omega)) (fun c4=> ?_)
 refine u9a (o4t _ _ hf5 (by omega) (by omega)) (fun c5=> ?_)
 rw[y4y (n:=b - (((Ty.sl u1u).wt x.2.2.2.2.1:Nat):Int) - (((Ty.sl u0o).wt x.2.2.2.2.2.1:Nat):Int) - (x.2.2.2.2.2.2.2.size:Int)) (by omega) (by omega)]
 refine t5x (fun c7=> ?_)
 rw[s8p (by omega)];simp
theorem p6d (l:Hu (u0i).den) (b:Int) (hf:(Ty.sl u0i).fine l) (hb:0≤b) (hb2:b≤1048576):t21 (l,b)=some (szr b ((Ty.sl u0i).wt l)):=by
 have hl:l.length≤9223372036854775807:=by have:=hf.1;simp only[maxLen] at this;exact this
 rw[p5c];unfold q1s;simp only
 rw[y4y (n:=b - (l.length:Int)) (by omega) (by omega)]
 have hw:(Ty.sl u0i).wt l=l.length+(l.map (u0i).wt).sum:=rfl
 rw[hw];refine t5x (fun c=> ?_)
 exact Q.size (T:=u0i) (q:=s43) (W:=t6w) (fun x=>p0h x) l (by omega) (fun x hx c h1 h2=>⟨_,j0a x c (r7d hf hx) h1 h2,q28⟩) (b - (l.length:Int)) (by omega) (by omega)
theorem j0d (x:(u0i).den) (hx:(u0i).wt x≤1099511627776):s45 x=some x:=by
 simp only[Ty.wt] at hx
 rw[p7n];unfold q5p
 simp only[o4w x.2.2.2.2.1 (by simp only[Ty.wt];omega),o4x x.2.2.2.2.2.1 (by simp only[Ty.wt];omega),zOb]
theorem p6e (l:Hu (u0i).den) (hx:(Ty.sl u0i).wt l≤1099511627776):t22 l=some l:=by
 have hw:(Ty.sl u0i).wt l=l.length+(l.map (u0i).wt).sum:=rfl
 rw[hw] at hx;rw[p5h];unfold q1x
 have h1:(decide (0≤(l.length:Int))&&decide ((l.length:Int)≤1099511627776))=true:=by simp;omega
 have h2:t1c (l,(List.replicate ((l.length:Int)).toNat (u0i).zero),(0:Int))=some (.inl (l.map fun x=>x)):=Q.copy (T:=u0i) (T' :=u0i) (q:=s45) (W:=t1c) (fun x=>p0k x) l (by omega) (fun x hm=>j0d x (by have:=s1g (f:=(u0i).wt) hm;omega)) _
 rw[Er] at h2
 simp only[h1,Ad,h2,zOb]
theorem o9w (x:(u0i).den) (hx:(u0i).wt x≤1099511627776):s41 (x,x)=some true:=by
 simp only[Ty.wt] at hx
 rw[p7j];unfold q5m;simp only
 simp only[o3t x.2.2.2.2.1 (by simp only[Ty.wt];omega),o3u x.2.2.2.2.2.1 (by simp only[Ty.wt];omega),zOb,y6l,Ae,beq_self_eq_true,Ap,Aa]
theorem p5y (l:Hu (u0i).den) (hx:(Ty.sl u0i).wt l≤1099511627776):t20 (l,l)=some true:=by
 have hw:(Ty.sl u0i).wt l=l.length+(l.map (u0i).wt).sum:=rfl
 rw[hw] at hx;rw[p47];unfold q1n;simp only
 have h2:t09 (l,l,(0:Int))=some (.inl ()):=Q.same (T:=u0i) (S:=Unit) (q:=s41) (W:=t09) (fun x=>p0f x) l (by omega) (fun x hm=>o9w x (by have:=s1g (f:=(u0i).wt) hm;omega))
 simp only[Ae,Ap,Aa,h2,zOb]
theorem o8c (x:(p0w).den) (b:Int) (hf:(p0w).fine x) (hb:0≤b) (hb2:b≤1048576):s99 (x,b)=some (szr b ((p0w).wt x)):=by
 obtain⟨hf0,hf1,hf2,hf3,hf4⟩:=hf
 have hw:(p0w).wt x=((Ty.sl u0c).wt x.1+((Ty.sl u0i).wt x.2.1+((Ty.sl u0i).wt x.2.2.1+0))):=by simp only[Ty.wt] <;>omega
 rw[hw,p48];unfold q1o;simp only
 refine u9a (p97 _ _ hf0 (by omega) (by omega)) (fun c0=> ?_)
 refine u9a (p6d _ _ hf1 (by omega) (by omega)) (fun c1=> ?_)
 refine u9a (p6d _ _ hf2 (by omega) (by omega)) (fun c2=> ?_)
 rw[s8p (by omega)];simp
theorem o8j (x:(p0w).den) (hx:(p0w).wt x≤1099511627776):r0d x=some x:=by
 simp only[Ty.wt] at hx
 rw[p5d];unfold q1t
 simp only[p99 x.1 (by simp only[Ty.wt];omega),p6e x.2.1 (by simp only[Ty.wt];omega),p6e x.2.2.1 (by simp only[Ty.wt];omega),zOb]
theorem o7u (x:(p0w).den) (hx:(p0w).wt x≤1099511627776):s95 (x,x)=some true:=by
 simp only[Ty.wt] at hx
 rw[p43];unfold q1j;simp only
 simp only[p9r x.1 (by simp only[Ty.wt];omega),p5y x.2.1 (by simp only[Ty.wt];omega),p5y x.2.2.1 (by simp only[Ty.wt];omega),zOb,y6l,Ae,beq_self_eq_true,Ap,Aa]
theorem o4r (x:(s9o).den) (b:Int) (hf:(s9o).fine x) (hb:0≤b) (hb2:b≤1048576):s28 (x,b)=some (szr b ((s9o).wt x)):=by
 obtain⟨hf0,hf1⟩:=hf
 have hw:(s9o).wt x=(p0w.wt x.1+((Ty.sl u0i).wt x.2+0)):=by simp only[Ty.wt] <;>omega
 rw[hw,q8y];unfold r41;simp only
 refine u9a (o8c _ _ hf0 (by omega) (by omega)) (fun c0=> ?_)
 refine u9a (p6d _ _ hf1 (by omega) (by omega)) (fun c1=> ?_)
 rw[s8p (by omega)];simp
theorem o4v (x:(s9o).den) (hx:(s9o).wt x≤1099511627776):s3b x=some x:=by
 simp only[Ty.wt] at hx
 rw[q81];unfold r44
 simp only[o8j x.1 (by simp only[Ty.wt];omega),p6e x.2 (by simp only[Ty.wt];omega),zOb]
theorem o3s (x:(s9o).den) (hx:(s9o).wt x≤1099511627776):s25 (x,x)=some true:=by
 simp only[Ty.wt] at hx
 rw[q8v];unfold r4y;simp only
 simp only[o7u x.1 (by simp only[Ty.wt];omega),p5y x.2 (by simp only[Ty.wt];omega),zOb,y6l,Ae,beq_self_eq_true,Ap,Aa]
theorem o6f (x:(q2d).den) (b:Int) (hf:(q2d).fine x) (hb:0≤b) (hb2:b≤1048576):s53 (x,b)=some (szr b ((q2d).wt x)):=by
 obtain⟨hf0,hf1⟩:=hf
 have hw:(q2d).wt x=(s9o.wt x.1+(p4i.wt x.2+0)):=by simp only[Ty.wt] <;>omega
 rw[hw,p1o];unfold r8j;simp only
 refine u9a (o4r _ _ hf0 (by omega) (by omega)) (fun c0=> ?_)
 refine u9a (o8d _ _ hf1 (by omega) (by omega)) (fun c1=> ?_)
 rw[s8p (by omega)];simp
theorem o6k (x:(q2d).den) (hx:(q2d).wt x≤1099511627776):s55 x=some x:=by
 simp only[Ty.wt] at hx
 rw[p1s];unfold r8m
 simp only[o4v x.1 (by simp only[Ty.wt];omega),o8k x.2 (by simp only[Ty.wt];omega),zOb]
theorem o5o (x:(q2d).den) (hx:(q2d).wt x≤1099511627776):s51 (x,x)=some true:=by
 simp only[Ty.wt] at hx
 rw[p1k];unfold r8f;simp only
 simp only[o3s x.1 (by simp only[Ty.wt];omega),o7v x.2 (by simp only[Ty.wt];omega),zOb,y6l,Ae,beq_self_eq_true,Ap,Aa]
theorem o6g (x:(q5y).den) (b:Int) (hf:(q5y).fine x) (hb:0≤b) (hb2:b≤1048576):s54 (x,b)=some (szr b ((q5y).wt x)):=by
 obtain⟨hf0,hf1,hf2,hf3⟩:=hf
 have hw:(q5y).wt x=(q2d.wt x.1+((Ty.sl u0i).wt x.2.1+((Ty.sl (Ty.int .i64)).wt x.2.2.1+((Ty.sl Ty.str).wt x.2.2.2+0)))):=by simp only[Ty.wt] <;>omega
 rw[hw,p1p];unfold r8k;simp only
 refine u9a (o6f _ _ hf0 (by omega) (by omega)) (fun c0=> ?_)
 refine u9a (p6d _ _ hf1 (by omega) (by omega)) (fun c1=> ?_)
 refine u9a (o8e _ _ hf2 (by omega) (by omega)) (fun c2=> ?_)
 refine u9a (p3s _ _ hf3 (by omega) (by omega)) (fun c3=> ?_)
 rw[s8p (by omega)];simp
theorem o6l (x:(q5y).den) (hx:(q5y).wt x≤1099511627776):t3w x=some x:=by
 simp only[Ty.wt] at hx
 rw[p1t];unfold r8n
 simp only[o6k x.1 (by simp only[Ty.wt];omega),p6e x.2.1 (by simp only[Ty.wt];omega),o8l x.2.2.1 (by simp only[Ty.wt];omega),p3u x.2.2.2 (by simp only[Ty.wt];omega),zOb]
theorem o5p (x:(q5y).den) (hx:(q5y).wt x≤1099511627776):s52 (x,x)=some true:=by
 simp only[Ty.wt] at hx
 rw[p1l];unfold r8g;simp only
 simp only[o5o x.1 (by simp only[Ty.wt];omega),p5y x.2.1 (by simp only[Ty.wt];omega),o7w x.2.2.1 (by simp only[Ty.wt];omega),p27 x.2.2.2 (by simp only[Ty.wt];omega),zOb,y6l,Ae,beq_self_eq_true,Ap,Aa]
end
section
abbrev u0g:=Int×Int×Int×Int×Hu (Hs×Hs)×Hu (Hs×Hs×Bool)×Bool×Hs
theorem u0m {n:Nat} (h:n≤1099511627776):Nat.ble n z7w=true:=Nat.ble_eq_true_of_le h
def inR (r:Hs×Hs) (k:Hs):Bool:= !y3c k r.1&&(y3c k r.2 || z7o k r.2)
theorem r3x (r:Hs×Hs) (k:Hs):t3x (r,k)=some (inR r k):=by
 rw[p1y];unfold r8r inR;cases y3c k r.1<;>rfl
theorem r3w (r:Hs×Hs) (k:Hs):t3r (r,k)=some (inR r k):=by
 rw[p02];unfold r7y inR;cases y3c k r.1<;>rfl
def s3o (r:Hu u1u.den) (w:Hu u0o.den):Bool:=r.any fun x=>w.any fun y=>inR x y.1
def q9u (a b:Hu u0o.den):Bool:=a.any fun x=>b.any fun y=>z7o x.1 y.1
def r6x (m:Hu q3u.den) (r:u1u.den):Hu o5i.den:=m.filter fun c=>inR r c.1
theorem q71 (m:Hu q3u.den) (r:u1u.den) (hm:m.length≤1099511627775):s1t (m,r)=some (r6x m r):=by
 have L:=t9n t61 m (fun a i=>(m,r,a,i)) (fun c=>inR r c.1) (fun c=>c) (fun a=> .inl a) (by omega)
  (fun a _=>by rw[r7a];simp only[t6p,u0b,Am,Ah,Aa])
  (fun i hi a ha=>by
   rw[r7a];simp only[t6p,u0b,hi,Ae,Ad,y7t hi,zTn,y8k hi,r3x,zOb,Aw,u0m (show a.length+1≤1099511627776 by omega)]
   rw[y7l (by omega)])
 rw[Er] at L
 rw[p5t];unfold q19
 simp only[L,zOb]
 rfl
theorem q70 (m:Hu q3u.den) (r:u1u.den) (hm:m.length≤1099511627775):s1p (m,r)=some (r6x m r):=by
 have L:=t9n t6t m (fun a i=>(r,a,m,(m.length:Int),i)) (fun c=>inR r c.1) (fun c=>c) (fun a=> .inl a) (by omega)
  (fun a _=>by rw[r62];simp only[t6h,u0b,Am,Ah,Aa])
  (fun i hi a ha=>by
   rw[r62];simp only[t6h,u0b,hi,Ae,Ad,y7t hi,zTn,y8k hi,r3w,zOb,Aw,u0m (show a.length+1≤1099511627776 by omega)]
   rw[y7l (by omega)])
 rw[Er] at L
 rw[p4y];unfold q1d
 simp only[L,zOb]
 rfl
end
section
theorem q72 {X R A:Type} (W:X→Ht R) (n:Nat) (mk:A→Int→X) (v:Nat→A) (r:R) (hend:W (mk (v n) (n:Int))=some r)
 (hstep:∀i,i<n→W (mk (v i) (i:Int))=W (mk (v (i+1)) ((i+1:Nat):Int))):W (mk (v 0) 0)=some r:=by
 have:=s1i W n (fun(_:Unit) i=>mk (v i.toNat) i) (fun _ _=>r) (fun _ _=>True) (fun _ _=>by simpa using hend) (fun i a hi _=> .inr ⟨(),trivial,rfl,by
  have h:=hstep i hi
  have e:((i:Int)+1).toNat=i+1:=by omega
  simp only[zTn]
  exact h⟩) 0 () (Cn _) trivial
 simpa using this
theorem o0n {α:Type} (p:α→Bool):∀(l a:Hu α),l.foldl (fun a x=>if p x=true then a++ [x] else a) a=a++l.filter p
 | [],a=>by simp
 | x::l,a=>by
  rw[Bs,o0n p l]
  cases hc:p x<;>simp[hc]
abbrev u3a:=Hs×Hs×Bool×Int
def emp:Hs:=⟨#[]⟩
def o0i (l:Hu u3a) (k:Hs) (snap out:Int) (i:Nat):Int:=
 if z7o (rdL u0c l i).1 k=true∧(rdL u0c l i).2.2.2≤snap∧(out<0∨(rdL u0c l i).2.2.2 >(rdL u0c l out.toNat).2.2.2) then(i:Int) else out
def p8v (l:Hu u3a) (k:Hs) (snap:Int):Nat→Int
 | 0=> -1
 | n+1=>o0i l k snap (p8v l k snap n) n
def s02 (l:Hu u3a) (k:Hs) (snap:Int):Int:=p8v l k snap l.length
theorem q7n (l:Hu u3a) (k:Hs) (snap:Int):∀n,-1≤p8v l k snap n∧p8v l k snap n<(n:Int)
 | 0=>by simp[p8v]
 | n+1=>by
  have:=q7n l k snap n
  simp only[p8v,o0i]
  split<;>omega
theorem o2e (l:Hu u3a) (k:Hs) (snap:Int): -1≤s02 l k snap∧s02 l k snap<(l.length:Int):=q7n l k snap l.length
theorem q9s (l:Hu u3a) (k:Hs) (snap:Int) (hl:l.length≤1099511627776):s5a (l,k,snap)=some (s02 l k snap):=by
 have L:=q72 t3m l.length (fun a i=>(l,k,snap,a,i)) (fun i=>p8v l k snap i) (.inl (s02 l k snap))
  (by rw[r99];simp only[t8t,u0b,Am,Ah,Aa];rfl)
  (fun i hi=>by
   have hr:=q7n l k snap i
   rw[r99]
   simp only[t8t,u0b,hi,Ae,Ad,y7t hi,zTn,p8v,o0i]
   rw[y7l (by omega)]
   cases h1:z7o (rdL u0c l i).1 k with
   | false=>simp[h1]
   | true=>
    by_cases h2:(rdL u0c l i).2.2.2≤snap
    ·by_cases h3:p8v l k snap i<0
     ·simp[h1,h2,h3]
     ·have hg:y4q (p8v l k snap i) l.length=true:=y7s.mpr ⟨by omega,by omega⟩
      by_cases h4:(rdL u0c l i).2.2.2 >(rdL u0c l (p8v l k snap i).toNat).2.2.2
      ·simp[h1,h2,h3,h4,hg]
      ·simp[h1,h2,h3,h4,hg]
    ·simp[h1,h2])
 have L:t3m (l,k,snap,-1,0)=_:=L
 rw[p7v];unfold q5x
 simp only[L,zOb]
theorem q9r (l:Hu u3a) (k:Hs) (snap:Int) (hl:l.length≤1099511627776):s1q (l,k,snap)=some (s02 l k snap):=by
 have L:=q72 t06 l.length (fun a i=>(l,k,snap,a,l,(l.length:Int),i)) (fun i=>p8v l k snap i) (.inl (s02 l k snap))
  (by rw[r64];simp only[t6j,u0b,Am,Ah,Aa];rfl)
  (fun i hi=>by
   have hr:=q7n l k snap i
   rw[r64]
   simp only[t6j,u0b,hi,Ae,Ad,y7t hi,zTn,p8v,o0i]
   rw[y7l (by omega)]
   cases h1:z7o (rdL u0c l i).1 k with
   | false=>simp[h1]
   | true=>
    by_cases h2:(rdL u0c l i).2.2.2≤snap
    ·by_cases h3:p8v l k snap i<0
     ·simp[h1,h2,h3]
     ·have hg:y4q (p8v l k snap i) l.length=true:=y7s.mpr ⟨by omega,by omega⟩
      by_cases h4:(rdL u0c l i).2.2.2 >(rdL u0c l (p8v l k snap i).toNat).2.2.2
      ·simp[h1,h2,h3,h4,hg]
      ·simp[h1,h2,h3,h4,hg]
    ·simp[h1,h2])
 have L:t06 (l,k,snap,-1,l,(l.length:Int),0)=_:=L
 rw[p41];unfold q1h
 simp only[L,zOb]
def r6q (l:Hu u3a) (k:Hs) (snap:Int):Hs×Bool:=
 if s02 l k snap<0∨(rdL u0c l (s02 l k snap).toNat).2.2.1=true then(emp,false) else((rdL u0c l (s02 l k snap).toNat).2.1,true)
theorem p8m (l:Hu u3a) (k:Hs) (snap:Int) (y:Int) (hy:y=s02 l k snap):
 (((bif decide (y<0) then some true else(bif y4q y l.length then some (rdL u0c l y.toNat).2.2.1 else none)):Ht Bool).bind fun j2=>(bif j2 then some ((⟨#[]⟩:Hs),false) else(bif y4q y l.length then some ((rdL u0c l y.toNat).2.1,true) else none)))=some (r6q l k snap):=by
 subst hy
 have hr:=o2e l k snap
 unfold r6q
 by_cases h:s02 l k snap<0
 ·simp[h,emp]
 ·have hg:y4q (s02 l k snap) l.length=true:=y7s.mpr ⟨by omega,by omega⟩
  cases h2:(rdL u0c l (s02 l k snap).toNat).2.2.1<;>simp[h,hg,h2,emp]
theorem p9l (l:Hu u3a) (k:Hs) (snap:Int) (hl:l.length≤1099511627776):r0k (l,k,snap)=some (r6q l k snap):=by
 rw[p5q];unfold q16
 simp only[q9s l k snap hl,zOb]
 exact p8m l k snap _ rfl
theorem p9k (l:Hu u3a) (k:Hs) (snap:Int) (hl:l.length≤1099511627776):s92 (l,k,snap)=some (r6q l k snap):=by
 rw[p4v];unfold q1a
 simp only[q9r l k snap hl,zOb]
 exact p8m l k snap _ rfl
theorem o3e (l:Hu u3a) (hl:l.length≤1099511627775):s94 l=some (q7g (l.map fun v=>v.1)):=by
 have L:=t9n t6u l (fun a i=>(a,l,(l.length:Int),i)) (fun _=>true) (fun v=>v.1) (fun a=> .inl a) (by omega)
  (fun a _=>by rw[r63];simp only[t6i,u0b,Am,Ah,Aa])
  (fun i hi a ha=>by
   rw[r63];simp only[t6i,u0b,hi,Ae,Ad,y7t hi,zTn,y8k (t:=u0c) hi,Aw,u0m (show a.length+1≤1099511627776 by omega)]
   rw[y7l (by omega)])
 have hf:l.filter (fun _=>true)=l:=by simp
 rw[hf] at L
 have h1:y7a (l.map fun v=>v.1)=some (y4i (l.map fun v=>v.1)):=by
  unfold y7a;rw[Da,u0m (by omega)];rfl
 have h2:y0m (y4i (l.map fun v=>v.1))=some (q7g (l.map fun v=>v.1)):=by
  unfold y0m;rw[p8o,Da,u0m (by omega)];rfl
 rw[p40];unfold q1g
 simp only[L,zOb,s2c,t9q]
 simp only[h1,h2,zOb]
theorem q9q (l:Hu Hs):(q7g l).length≤l.length:=by
 have:=z6h (y4i l)
 rw[p8o] at this
 exact this
theorem p9u (k:Hs) (r:Hs×Hs) (l:Hu u3a) (j:Int) (out:Hu Hs) (ho:out.length≤1099511627775):
 u9u (l,r,out,j,k, [],0)=some (.inl (l,r,out,j,k,out.filter fun x=>y3c x k)):=by
 have L:=t9n u9u out (fun a i=>(l,r,out,j,k,a,i)) (fun x=>y3c x k) (fun x=>x) (fun a=> .inl (l,r,out,j,k,a)) (by omega)
  (fun a _=>by rw[r3l];simp only[t40,u0b,Am,Ah,Aa])
  (fun i hi a ha=>by
   rw[r3l];simp only[t40,u0b,hi,Ae,Ad,y7t hi,zTn,y8k (t:=Ty.str) hi,Aw,u0m (show a.length+1≤1099511627776 by omega)]
   rw[y7l (by omega)])
 rw[Er] at L
 exact L
theorem p72 (k:Hs) (r:Hs×Hs) (l:Hu u3a) (j:Int) (out a0:Hu Hs) (ho:out.length+a0.length≤1099511627775):
 u7v (l,r,out,j,k,a0,0)=some (.inl (l,r,j,a0++out.filter fun x=> !(y3c x k || z7o x k))):=by
 have L:=u61 u7v out (fun a i=>(l,r,out,j,k,a,i)) (fun a x=>if(!(y3c x k || z7o x k))=true then a++ [x] else a) (fun a=> .inl (l,r,j,a)) (fun i a=>a.length≤a0.length+i)
  (fun a _=>by rw[s9e];simp only[t2c,u0b,Am,Ah,Aa])
  (fun i hi a ha=>by
   rw[s9e];simp only[t2c,u0b,hi,Ae,Ad,y7t hi,zTn,y8k (t:=Ty.str) hi,Aw,u0m (show a.length+1≤1099511627776 by omega)]
   rw[y7l (by omega)]
   cases hc:(!(y3c out[i] k || z7o out[i] k)) with
   | true=>simp;omega
   | false=>simp;omega) a0 (by simp)
 rw[o0n (fun x=> !(y3c x k || z7o x k))] at L
 exact L
theorem o5t (k:Hs) (l:Hu Hs):(o2x k l).length≤l.length+1:=by
 unfold o2x
 have h:(fun x=> !(y3c x k || z7o x k))=fun x=>y3c k x:=by funext x;exact o32
 rw[h]
 have:(l.filter fun x=>y3c x k).length+(l.filter fun x=>y3c k x).length≤l.length:=by
  induction l with
  | nil=>simp
  | cons x l ih=>
   simp only[Di]
   cases h1:y3c x k with
   | true=>rw[q24 h1];simp;omega
   | false=>cases h2:y3c k x<;>simp<;>omega
 simp
 omega
theorem o3f (l:Hu u3a) (r:Hs×Hs) (hl:l.length≤500000000000):s6d (l,r)=some ((q7g (l.map fun v=>v.1)).filter fun k=>inR r k):=by
 have L:=u61 t5f l (fun a i=>(l,r,a,i)) (fun a v=>if inR r v.1=true then o2x v.1 a else a) (fun a=> .inl a) (fun i a=>a.length≤i)
  (fun a _=>by rw[r3k];simp only[t4z,u0b,Am,Ah,Aa])
  (fun i hi a ha=>by
   rw[r3k];simp only[t4z,u0b,hi,Ae,Ad,y7t hi,zTn,y8k (t:=u0c) hi,r3x,zOb]
   cases hc:inR r l[i].1 with
   | false=>
    simp only[Bh,Ad,Br,Bk]
    rw[y7l (by omega)]
    exact⟨by omega,rfl⟩
   | true=>
    have hlow:(a.filter fun x=>y3c x l[i].1).length≤a.length:=Cs _ _
    simp only[Ap,Aa,Bl,p9u l[i].1 r l (i:Int) a (by omega),zOb,Aw,u0m (show(a.filter fun x=>y3c x l[i].1).length+1≤1099511627776 by omega),Ad,
     p72 l[i].1 r l (i:Int) a (a.filter (fun x=>y3c x l[i].1)++ [l[i].1]) (by simp;omega)]
    rw[y7l (by omega)]
    exact⟨A9 (o5t _ _) (by omega),rfl⟩) [] (by simp)
 rw[p2e];unfold r88
 simp only[L,zOb]
 have hfold:∀(m:Hu u3a) (a:Hu Hs),m.foldl (fun a v=>if inR r v.1=true then o2x v.1 a else a) a=((m.map fun v=>v.1).filter fun k=>inR r k).foldl (fun a k=>o2x k a) a:=by
  intro m
  induction m with
  | nil=>intro a;rfl
  | cons x m ih=>
   intro a
   rw[Bs,ih]
   cases hc:inR r x.1<;>simp[hc]
 rw[hfold,o70]
def s5d (l:Hu u3a) (r:Hs×Hs) (snap:Int):Hu (Hs×Hs):=
 ((q7g (l.map fun v=>v.1)).filter fun k=>(r6q l k snap).2&&inR r k).map fun k=>(k,(r6q l k snap).1)
theorem s9j (l:Hu u3a) (r:Hs×Hs) (snap:Int) (hl:l.length≤500000000000):u2x (l,r,snap)=some (s5d l r snap):=by
 obtain⟨ks,hks⟩:∃ks,ks=(q7g (l.map fun v=>v.1)).filter fun k=>inR r k:=⟨_,rfl⟩
 have hkl:ks.length≤l.length:=by
  rw[hks]
  refine A9 (Cs _ _) (A9 (q9q _) (by simp))
 have L:=t9n t6z ks (fun a i=>(l,snap,a,ks,i)) (fun k=>(r6q l k snap).2) (fun k=>(k,(r6q l k snap).1)) (fun a=> .inl a) (by omega)
  (fun a _=>by rw[r68];simp only[t6n,u0b,Am,Ah,Aa])
  (fun i hi a ha=>by
   rw[r68];simp only[t6n,u0b,hi,Ae,Ad,y7t hi,zTn,y8k (t:=Ty.str) hi,p9l l _ snap (show l.length≤1099511627776 by omega),zOb,Aw,u0m (show a.length+1≤1099511627776 by omega)]
   rw[y7l (by omega)])
 rw[p5o];unfold q14
 simp only[o3f l r hl,zOb]
 rw[←hks]
 simp only[L,zOb]
 rw[hks,List.filter_filter]
 rfl
theorem s9i (l:Hu u3a) (r:Hs×Hs) (snap:Int) (hl:l.length≤500000000000):t2y (l,r,snap)=some (s5d l r snap):=by
 obtain⟨ks,hks⟩:∃ks,ks=q7g (l.map fun v=>v.1):=⟨_,rfl⟩
 have hkl:ks.length≤l.length:=by
  rw[hks]
  refine A9 (q9q _) (by simp)
 have L:=t9n t6s ks (fun a i=>(l,snap,r,a,ks,(ks.length:Int),i)) (fun k=>(r6q l k snap).2&&inR r k) (fun k=>(k,(r6q l k snap).1)) (fun a=> .inl a) (by omega)
  (fun a _=>by rw[r61];simp only[t6g,u0b,Am,Ah,Aa])
  (fun i hi a ha=>by
   rw[r61];simp only[t6g,u0b,hi,Ae,Ad,y7t hi,zTn,y8k (t:=Ty.str) hi,p9k l _ snap (show l.length≤1099511627776 by omega),r3w,zOb,Aw,u0m (show a.length+1≤1099511627776 by omega)]
   rw[y7l (by omega)]
   cases (r6q l ks[i] snap).2<;>rfl)
 rw[p4t];unfold q08
 simp only[o3e l (show l.length≤1099511627775 by omega),zOb]
 rw[←hks]
 simp only[L,zOb]
 rw[hks]
 rfl
theorem p3p (l:Hu u3a) (r:Hs×Hs) (snap:Int):(s5d l r snap).length≤l.length:=by
 unfold s5d
 rw[Da]
 refine A9 (Cs _ _) (A9 (q9q _) (by simp))
end
section
theorem r7i {E:Type} (p:E→Bool):∀(l:Hu E),(l.takeWhile p).length≤l.length∧(∀(i:Nat) (h:i<l.length),i<(l.takeWhile p).length→p l[i] =true)∧
 (∀(h:(l.takeWhile p).length<l.length),p l[(l.takeWhile p).length] =false)∧l.takeWhile p=l.take (l.takeWhile p).length∧l.dropWhile p=l.drop (l.takeWhile p).length
 | [] =>⟨Au _,fun i h=>absurd h (Ee i),fun h=>absurd h (Ee _),rfl,rfl⟩
 | x::l=>by
  obtain⟨h1,h2,h3,h4,h5⟩:=r7i p l
  cases hp:p x with
  | false=>
   simp only[F8,hp,List.dropWhile_cons,Br,Bk,Cc]
   exact⟨Cn _,fun i _ h=>absurd h (Ee i),fun _=>hp,rfl,rfl⟩
  | true=>
   simp only[F8,hp,List.dropWhile_cons,Bl,Bc]
   refine⟨by omega,fun i h k=> ?_,fun h=> ?_,?_,?_⟩
   ·cases i with
    | zero=>exact hp
    | succ i=>simpa using h2 i (by simpa using h) (by omega)
   ·simpa using h3 (by omega)
   ·rw[List.take_succ_cons,←h4]
   ·rw[List.drop_succ_cons,←h5]
theorem o9n {X R E:Type} (W:X→Ht R) (l:Hu E) (mk:Hu E→Int→X) (p:E→Bool) (fin:Hu E→Int→R)
 (hend:W (mk l (l.length:Int))=some (fin l (l.length:Int)))
 (hstep:∀(i:Nat) (h:i<l.length),W (mk (l.take i) (i:Int))=bif p l[i] then W (mk (l.take (i+1)) ((i+1:Nat):Int)) else some (fin (l.take i) (i:Int))):
 W (mk [] 0)=some (fin (l.takeWhile p) ((l.takeWhile p).length:Int)):=by
 obtain⟨h1,h2,h3,h4,_⟩:=r7i p l
 have:=s1i W (l.takeWhile p).length (fun(a:Hu E) i=>mk a i) (fun _ _=>fin (l.takeWhile p) ((l.takeWhile p).length:Int)) (fun i a=>a=l.take i)
  (fun a ha=>by
   rw[ha]
   by_cases hk:(l.takeWhile p).length<l.length
   ·rw[hstep _ hk,h3 hk,Aa,←h4]
   ·have e:(l.takeWhile p).length=l.length:=by omega
    have e2:l.takeWhile p=l:=by rw[h4,e];exact Cq
    rw[e2,Cq]
    exact hend)
  (fun i a hi ha=> .inr ⟨_,rfl,rfl,by rw[ha,hstep i (by omega),h2 i (by omega) hi,Ad]⟩) 0 [] (Cn _) (by simp)
 exact this
theorem o7q {X R E:Type} (W:X→Ht R) (l:Hu E) (mk:Int→X) (p:E→Bool) (yes:Int→R) (no:R)
 (hend:W (mk (l.length:Int))=some no)
 (hstep:∀(i:Nat) (h:i<l.length),W (mk (i:Int))=bif p l[i] then W (mk ((i+1:Nat):Int)) else some (yes (i:Int))):
 W (mk 0)=some (if(l.takeWhile p).length<l.length then yes ((l.takeWhile p).length:Int) else no):=by
 obtain⟨h1,h2,h3,_,_⟩:=r7i p l
 have:=s1i W (l.takeWhile p).length (fun(_:Unit) i=>mk i) (fun _ _=>if(l.takeWhile p).length<l.length then yes ((l.takeWhile p).length:Int) else no) (fun _ _=>True)
  (fun a _=>by
   by_cases hk:(l.takeWhile p).length<l.length
   ·rw[hstep _ hk,h3 hk,Aa,Al hk]
   ·have e:(l.takeWhile p).length=l.length:=by omega
    rw[Ao hk,e]
    exact hend)
  (fun i a hi _=> .inr ⟨(),trivial,rfl,by rw[hstep i (by omega),h2 i (by omega) hi,Ad]⟩) 0 () (Cn _) trivial
 exact this
def t7p (v y:u3a):Bool:=y3c y.1 v.1 || (z7o y.1 v.1&&decide (y.2.2.2≤v.2.2.2))
def o4k (l:Hu u3a) (v:u3a):Hu u3a:=l.takeWhile (t7p v)++ [v] ++l.dropWhile (t7p v)
def r7q (l:Hu u3a) (ws:Hu u0o.den) (cs:Int):Hu u3a:=ws.foldl (fun l w=>o4k l (w.1,w.2.1,w.2.2,cs)) l
theorem p56 (l:Hu u3a) (v:u3a):(o4k l v).length=l.length+1:=by
 have:l.length=(l.takeWhile (t7p v)).length+(l.dropWhile (t7p v)).length:=by rw[←Ba,Fe]
 simp[o4k]
 omega
theorem s8k:∀(ws:Hu u0o.den) (l:Hu u3a) (cs:Int),(r7q l ws cs).length=l.length+ws.length
 | [],l,cs=>rfl
 | w::ws,l,cs=>by
  have:=s8k ws (o4k l (w.1,w.2.1,w.2.2,cs)) cs
  unfold r7q at this ⊢
  rw[Bs,this,p56]
  simp
  omega
theorem o77 (l:Hu u3a) (v:u3a):o4k l v=l.take (l.takeWhile (t7p v)).length++ [v] ++l.drop (l.takeWhile (t7p v)).length:=by
 obtain⟨_,_,_,h4,h5⟩:=r7i (t7p v) l
 unfold o4k
 rw[←h4,←h5]
theorem p2s (a b:Hs):t3h (a,b)=some (if y3c a b then -1 else if z7o a b then 0 else 1):=by
 have ns:∀x,t0z x=some false:=fun x=>by
  rw[q2i];unfold s34
  have:z7o x x=true:=by simp[z7o]
  rw[this];rfl
 rw[r7l];unfold s0m
 simp only[ns,zOb,Aa]
 cases y3c a b<;>cases z7o a b<;>rfl
theorem o22 (a b:Int):t72 (a,b)=some (if a<b then -1 else if a >b then 1 else 0):=by
 have ns:∀x,t66 x=some false:=fun x=>by
  rw[q8b];unfold r4f
  simp
 rw[q3z];unfold s6p
 simp only[ns,zOb,Aa]
 by_cases h:a<b
 ·simp[h]
 ·by_cases h2:a >b<;>simp[h,h2]
theorem o7n (y v:u3a):t3i (y,v)=some (!t7p v y):=by
 rw[r7m];unfold s0n
 rw[t9p];unfold t1e
 simp only[p2s,zOb]
 unfold t7p
 cases h1:y3c y.1 v.1 with
 | true=>simp
 | false=>
  cases h2:z7o y.1 v.1 with
  | false=>simp
  | true=>
   simp only[Br,Bk,Bl,Ae,Ap,Aa,o22,zOb,Ci,Bz]
   by_cases h3:y.2.2.2<v.2.2.2
   ·have:y.2.2.2≤v.2.2.2:=by omega
    simp[h3,this]
   ·by_cases h4:y.2.2.2 >v.2.2.2
    ·have: ¬y.2.2.2≤v.2.2.2:=by omega
     simp[h3,h4,this]
    ·have:y.2.2.2≤v.2.2.2:=by omega
     simp[h3,h4,this]
theorem o3b (l:Hu u3a) (v:u3a) (hl:l.length≤1099511627775):u1i (l,v)=some (if(l.takeWhile (t7p v)).length<l.length then((l.takeWhile (t7p v)).length:Int) else -1):=by
 have L:=o7q u0l l (fun i=>(l,v,(l.length:Int),i)) (t7p v) (fun i=> .inr i) (.inl ())
  (by rw[u15];simp only[u0k,u0b,Am,Ah,Aa])
  (fun i hi=>by
   rw[u15]
   simp only[u0k,u0b,hi,Ae,Ad,y7t hi,zTn,y8k (t:=u0c) hi,o7n,zOb]
   rw[y7l (by omega)]
   cases t7p v l[i] <;>rfl)
 rw[u56];unfold u2a
 simp only[L,zOb]
 by_cases h:(l.takeWhile (t7p v)).length<l.length
 ·simp only[Al h]
 ·simp only[Ao h]
theorem p2u (l:Hu u3a) (v:u3a) (k:Nat) (hk:k≤l.length) (hl:l.length≤1099511627775):u3b (l,(k:Int), [v])=some (l.take k++ [v] ++l.drop k):=by
 rw[s1m]
 unfold y2q
 have h1:decide ((0:Int)≤(k:Int))=true:=by simp
 have h2:decide ((k:Int)≤(l.length:Int))=true:=by simpa using hk
 simp only[h1,h2,u0m (show l.length+1≤1099511627776 by omega),Bz,Aw,zTn]
 rfl
theorem r0p (l:Hu u3a) (ws:Hu u0o.den) (cs:Int) (hl:l.length+ws.length≤1000000000000):u6t (l,ws,cs)=some (r7q l ws cs):=by
 have L:=u61 u7d ws (fun a i=>(cs,a,ws,(ws.length:Int),i)) (fun l w=>o4k l (w.1,w.2.1,w.2.2,cs)) (fun a=> .inl a) (fun i a=>a.length=l.length+i)
  (fun a _=>by rw[s06];simp only[u63,u0b,Am,Ah,Aa])
  (fun i hi a ha=>by
   have hal:a.length≤1099511627775:=by omega
   rw[s06]
   simp only[u63,u0b,hi,Ae,Ad,y7t hi,zTn,y8k (t:=u0o) hi,o3b a _ hal,zOb]
   refine⟨by rw[p56];omega,?_⟩
   obtain⟨t1,_⟩:=r7i (t7p (ws[i].1,ws[i].2.1,ws[i].2.2,cs)) a
   rw[o77,y7l (by omega)]
   by_cases hk:(a.takeWhile (t7p (ws[i].1,ws[i].2.1,ws[i].2.2,cs))).length<a.length
   ·rw[Al hk]
    have:decide (((a.takeWhile (t7p (ws[i].1,ws[i].2.1,ws[i].2.2,cs))).length:Int)<0)=false:=by simp
    simp only[this,Aa,p2u a _ _ t1 hal,zOb]
   ·rw[Ao hk]
    have e:(a.takeWhile (t7p (ws[i].1,ws[i].2.1,ws[i].2.2,cs))).length=a.length:=by omega
    have:decide ((-1:Int)<0)=true:=by decide
    simp only[this,Ad,p2u a _ _ (Au _) hal,zOb]
    rw[e]) l (by simp)
 rw[q2j];unfold s35
 simp only[u0m (show l.length≤1099511627776 by omega),Ad,L,zOb]
 rfl
theorem o5h (ws:Hu u0o.den) (cs:Int) (l:Hu u3a) (j:Int) (v:u3a) (hl:l.length≤1000000000000):
 u5j (ws,cs,l,j,v, [],0)=some (.inl (ws,cs,l,j,v,l.takeWhile (t7p v),((l.takeWhile (t7p v)).length:Int))):=
 o9n u5j l (fun a i=>(ws,cs,l,j,v,a,i)) (t7p v) (fun a i=> .inl (ws,cs,l,j,v,a,i))
  (by rw[s1b];simp only[u68,u0b,Am,Ah,Aa,zOb])
  (fun i hi=>by
   rw[s1b]
   have hb:((l.take i).length+ [l[i]].length)≤1099511627776:=by simp;omega
   simp only[u68,u0b,hi,Ae,Ad,y7t hi,zTn,y8k (t:=u0c) hi,u0m hb]
   rw[y7l (by omega),B9 hi]
   unfold t7p
   cases h1:y3c l[i].1 v.1 with
   | true=>simp
   | false=>
    cases h2:z7o l[i].1 v.1 with
    | false=>simp
    | true=>
     by_cases h3:l[i].2.2.2≤v.2.2.2<;>simp[h3])
theorem r0q (l:Hu u3a) (ws:Hu u0o.den) (cs:Int) (hl:l.length+ws.length≤1000000000000):u6x (l,ws,cs)=some (r7q l ws cs):=by
 have L:=u61 u7e ws (fun a i=>(ws,cs,a,i)) (fun l w=>o4k l (w.1,w.2.1,w.2.2,cs)) (fun a=> .inl a) (fun i a=>a.length=l.length+i)
  (fun a _=>by rw[s1a];simp only[u67,u0b,Am,Ah,Aa])
  (fun i hi a ha=>by
   have hal:a.length≤1000000000000:=by omega
   rw[s1a]
   simp only[u67,u0b,hi,Ae,Ad,y7t hi,zTn,y8k (t:=u0o) hi,o5h ws cs a _ _ hal,zOb]
   obtain⟨v,hv⟩:∃v:u3a,v=(ws[i].1,ws[i].2.1,ws[i].2.2,cs):=⟨_,rfl⟩
   rw[←hv]
   obtain⟨t1,_,_,t4,t5⟩:=r7i (t7p v) a
   refine⟨by rw[p56];omega,?_⟩
   have g1:decide ((0:Int)≤((a.takeWhile (t7p v)).length:Int))=true:=by simp
   have g2:decide (((a.takeWhile (t7p v)).length:Int)≤(a.length:Int))=true:=by simpa using t1
   have g3:decide ((a.length:Int)≤(a.length:Int))=true:=by simp
   have b1:(a.takeWhile (t7p v)).length+ [v].length≤1099511627776:=by simp;omega
   have b2:(a.takeWhile (t7p v)++ [v]).length+(a.drop (a.takeWhile (t7p v)).length).length≤1099511627776:=by simp;omega
   simp only[g1,g2,g3,Bz,u0m b1,Ad,Cq,u0m b2]
   rw[y7l (by omega),←t5]
   rfl) l (by simp)
 rw[q2q];unfold s4b
 simp only[Cc,Co,Cf,u0m (show l.length≤1099511627776 by omega),Ad,L,zOb]
 rfl
end
section
abbrev PrT:=Hs×Hs
theorem p78 {a b:Hu PrT} (h:a.length=b.length):(bif (a.zip b).any (fun p=> !(z7o p.1.1 p.2.1&&(z7o p.1.2 p.2.2&&true))) then false else true)=decide (a=b):=by
 induction a generalizing b with
 | nil=>
  cases b with
  | nil=>rfl
  | cons _ _=>simp at h
 | cons x a ih=>
  cases b with
  | nil=>simp at h
  | cons y b=>
   have ih:=ih (b:=b) (by simpa using h)
   simp only[List.zip_cons_cons,Gd]
   by_cases h1:x.1=y.1
   ·by_cases h2:x.2=y.2
    ·have hxy:x=y:=Prod.ext h1 h2
     subst hxy
     rw[y6l,y6l]
     simp only[Dt,Ap,Ci,ih]
     simp
    ·have:=p96.mpr h2
     rw[this]
     have hne: ¬(x::a=y::b):=fun e=>h2 (by injection e with e;rw[e])
     simp[hne]
   ·have:=p96.mpr h1
    rw[this]
    have hne: ¬(x::a=y::b):=fun e=>h1 (by injection e with e;rw[e])
    simp[hne]
theorem q3s (a b:Hu PrT) (ha:a.length≤1099511627776):u4y (a,b)=some (decide (a=b)):=by
 rw[q9g];unfold r5k
 by_cases h:a.length=b.length
 ·have hz:(a.zip b).length=a.length:=by simp[h]
  have L:=r4e t2t (a.zip b) (fun i=>(a,b,i)) (fun p=> !(z7o p.1.1 p.2.1&&(z7o p.1.2 p.2.2&&true))) (.inr false) (.inl ())
   (by rw[s9f,hz];simp only[t2d,u0b,Am,Ah,Aa])
   (fun i hi=>by
    have hi1:i<a.length:=by omega
    have hi2:i<b.length:=by omega
    rw[s9f];simp only[t2d,u0b,hi1,Ae,Ad,y7t hi1,y7t hi2,zTn,y8k (t:=o5i) hi1,y8k (t:=o5i) hi2,List.getElem_zip]
    rw[y7l (by omega)])
  have e1:decide ((a.length:Int)=(b.length:Int))=true:=by simp[h]
  simp only[e1,Ap,Aa,L,zOb]
  rw[←p78 h]
  cases (a.zip b).any fun p=> !(z7o p.1.1 p.2.1&&(z7o p.1.2 p.2.2&&true))<;>rfl
 ·have e1:decide ((a.length:Int)=(b.length:Int))=false:=by simp;omega
  have e2:decide (a=b)=false:=by
   rw[Bu];intro e;exact h (by rw[e])
  rw[e1,e2];rfl
theorem q3r (a b:Hu PrT) (ha:a.length≤1099511627776):u28 (a,b)=some (decide (a=b)):=by
 rw[s7i];unfold t55
 by_cases h:a.length=b.length
 ·have hz:(a.zip b).length=a.length:=by simp[h]
  have L:=r4e u4e (a.zip b) (fun i=>(a,b,(a.length:Int),i)) (fun p=> !(z7o p.1.1 p.2.1&&(z7o p.1.2 p.2.2&&true))) (.inr false) (.inl ())
   (by rw[t3c,hz];simp only[u4d,u0b,Am,Ah,Aa])
   (fun i hi=>by
    have hi1:i<a.length:=by omega
    have hi2:i<b.length:=by omega
    rw[t3c];simp only[u4d,u0b,hi1,Ae,Ad,y7t hi1,y7t hi2,zTn,y8k (t:=o5i) hi1,y8k (t:=o5i) hi2,List.getElem_zip]
    rw[y7l (by omega)])
  have e1:decide ((a.length:Int)=(b.length:Int))=true:=by simp[h]
  simp only[e1,Ap,Aa,L,zOb]
  rw[←p78 h]
  cases (a.zip b).any fun p=> !(z7o p.1.1 p.2.1&&(z7o p.1.2 p.2.2&&true))<;>rfl
 ·have e1:decide ((a.length:Int)=(b.length:Int))=false:=by simp;omega
  have e2:decide (a=b)=false:=by
   rw[Bu];intro e;exact h (by rw[e])
  rw[e1,e2];rfl
end
section
theorem r4c (r:Hu u1u.den) (w:Hu u0o.den) (hr:r.length≤u0e) (hw:w.length≤u0e):t30 (r,w)=some (s3o r w):=by
 unfold u0e at hr hw
 have inner:∀(i:Nat) (hi:i<r.length),u9r (r,w,(i:Int),0)=some (bif w.any (fun y=>inR r[i] y.1) then .inr true else .inl (r,w,(i:Int))):=fun i hi=>
  r4e u9r w (fun j=>(r,w,(i:Int),j)) (fun y=>inR r[i] y.1) _ _ (by
   rw[r3h];simp only[t4w,u0b,Am,Ah,Aa]) (fun j hj=>by
   rw[r3h];simp only[t4w,u0b,hj,Ae,Ad,y7t hi,y7t hj,zTn,y8k hi,y8k hj,r3x,zOb]
   rw[y7l (by omega)])
 have outer:=r4e t5e r (fun i=>(r,w,i)) (fun x=>w.any fun y=>inR x y.1) (.inr true) (.inl ()) (by
  rw[r3g];simp only[t4v,u0b,Am,Ah,Aa]) (fun i hi=>by
  rw[r3g];simp only[t4v,u0b,hi,Ae,Ad,inner i hi,zOb]
  have ws:=y7l (i:=i) (by omega)
  cases w.any fun y=>inR r[i] y.1<;>simp only[Ad,Aa,ws])
 rw[p18];unfold r81
 simp only[outer,zOb]
 unfold s3o
 cases r.any fun x=>w.any fun y=>inR x y.1<;>rfl
theorem o1u (r w:Hu u0o.den) (hr:r.length≤u0e) (hw:w.length≤u0e):r6k (r,w)=some (q9u r w):=by
 unfold u0e at hr hw
 have inner:∀(i:Nat) (hi:i<r.length),t3l (r,w,(i:Int),0)=some (bif w.any (fun y=>z7o r[i].1 y.1) then .inr true else .inl (r,w,(i:Int))):=fun i hi=>
  r4e t3l w (fun j=>(r,w,(i:Int),j)) (fun y=>z7o r[i].1 y.1) _ _ (by
   rw[r96];simp only[t8q,u0b,Am,Ah,Aa]) (fun j hj=>by
   rw[r96];simp only[t8q,u0b,hj,Ae,Ad,y7t hi,y7t hj,zTn,y8k hi,y8k hj,zOb]
   rw[y7l (by omega)])
 have outer:=r4e t8y r (fun i=>(r,w,i)) (fun x=>w.any fun y=>z7o x.1 y.1) (.inr true) (.inl ()) (by
  rw[r95];simp only[t8p,u0b,Am,Ah,Aa]) (fun i hi=>by
  rw[r95];simp only[t8p,u0b,hi,Ae,Ad,inner i hi,zOb]
  have ws:=y7l (i:=i) (by omega)
  cases w.any fun y=>z7o r[i].1 y.1<;>simp only[Ad,Aa,ws])
 rw[p7r];unfold q5t
 simp only[outer,zOb]
 unfold q9u
 cases r.any fun x=>w.any fun y=>z7o x.1 y.1<;>rfl
theorem r4b (r:Hu u1u.den) (w:Hu u0o.den) (hr:r.length≤u0e) (hw:w.length≤u0e):u5u (r,w)=some (s3o r w):=by
 unfold u0e at hr hw
 have inner:∀(i:Nat) (hi:i<r.length),u9i (w,r[i],r,(r.length:Int),(i:Int),w,(w.length:Int),0)=some (bif w.any (fun y=>inR r[i] y.1) then .inr true else .inl (w,r,(r.length:Int),(i:Int))):=fun i hi=>
  r4e u9i w (fun j=>(w,r[i],r,(r.length:Int),(i:Int),w,(w.length:Int),j)) (fun y=>inR r[i] y.1) _ _ (by
   rw[r21];simp only[t4h,u0b,Am,Ah,Aa]) (fun j hj=>by
   rw[r21];simp only[t4h,u0b,hj,Ae,Ad,y7t hi,y7t hj,zTn,y8k hi,y8k hj,r3w,zOb]
   rw[y7l (by omega)])
 have outer:=r4e t48 r (fun i=>(w,r,(r.length:Int),i)) (fun x=>w.any fun y=>inR x y.1) (.inr true) (.inl ()) (by
  rw[r20];simp only[t4g,u0b,Am,Ah,Aa]) (fun i hi=>by
  rw[r20];simp only[t4g,u0b,hi,Ae,Ad,y7t hi,zTn,y8k hi,inner i hi,zOb]
  have ws:=y7l (i:=i) (by omega)
  cases w.any fun y=>inR r[i] y.1<;>simp only[Ad,Aa,ws])
 rw[p1c];unfold r78
 simp only[outer,zOb]
 unfold s3o
 cases r.any fun x=>w.any fun y=>inR x y.1<;>rfl
theorem o1t (r w:Hu u0o.den) (hr:r.length≤u0e) (hw:w.length≤u0e):s4y (r,w)=some (q9u r w):=by
 unfold u0e at hr hw
 have inner:∀(i:Nat) (hi:i<r.length),t3k (w,r[i],r,(r.length:Int),(i:Int),w,(w.length:Int),0)=some (bif w.any (fun y=>z7o r[i].1 y.1) then .inr true else .inl (w,r,(r.length:Int),(i:Int))):=fun i hi=>
  r4e t3k w (fun j=>(w,r[i],r,(r.length:Int),(i:Int),w,(w.length:Int),j)) (fun y=>z7o r[i].1 y.1) _ _ (by
   rw[r92];simp only[t8m,u0b,Am,Ah,Aa]) (fun j hj=>by
   rw[r92];simp only[t8m,u0b,hj,Ae,Ad,y7t hi,y7t hj,zTn,y8k hi,y8k hj,zOb]
   rw[y7l (by omega)])
 have outer:=r4e t8v r (fun i=>(w,r,(r.length:Int),i)) (fun x=>w.any fun y=>z7o x.1 y.1) (.inr true) (.inl ()) (by
  rw[r91];simp only[t8l,u0b,Am,Ah,Aa]) (fun i hi=>by
  rw[r91];simp only[t8l,u0b,hi,Ae,Ad,y7t hi,zTn,y8k hi,inner i hi,zOb]
  have ws:=y7l (i:=i) (by omega)
  cases w.any fun y=>z7o r[i].1 y.1<;>simp only[Ad,Aa,ws])
 rw[p7e];unfold q5h
 simp only[outer,zOb]
 unfold q9u
 cases r.any fun x=>w.any fun y=>z7o x.1 y.1<;>rfl
def r1k (a b:u0i.den):Bool:=
 decide (a.2.1=3)&&decide (b.2.1=3)&& !decide (a.1=b.1)&&
 (decide (a.2.2.2.1≤b.2.2.1)&&s3o b.2.2.2.2.1 a.2.2.2.2.2.1 || decide (a.2.2.2.1<b.2.2.2.1)&&q9u a.2.2.2.2.2.1 b.2.2.2.2.2.1 || decide (b.2.2.2.1 >a.2.2.1)&&s3o a.2.2.2.2.1 b.2.2.2.2.2.1)
theorem q3i {a:u0i.den} :a.2.2.2.2.1.length≤u0i.wt a:=by simp only[Ty.wt];omega
theorem t7t {a:u0i.den} :a.2.2.2.2.2.1.length≤u0i.wt a:=by simp only[Ty.wt];omega
theorem q0k (a:u0i.den):u6v a=some (decide (a.2.1=3)):=by
 rw[s9t];rfl
theorem p87 (a b:u0i.den) (ha:u0i.wt a≤u0e) (hb:u0i.wt b≤u0e):s1r (a,b)=some (r1k a b):=by
 have t1:=r4c b.2.2.2.2.1 a.2.2.2.2.2.1 (A9 q3i hb) (A9 t7t ha)
 have t2:=r4c a.2.2.2.2.1 b.2.2.2.2.2.1 (A9 q3i ha) (A9 t7t hb)
 have t3:=o1u a.2.2.2.2.2.1 b.2.2.2.2.2.1 (A9 t7t ha) (A9 t7t hb)
 rw[p5j];unfold q1z
 simp only[t1,t2,t3,zOb]
 unfold r1k
 generalize s3o b.2.2.2.2.1 a.2.2.2.2.2.1=u1
 generalize s3o a.2.2.2.2.1 b.2.2.2.2.2.1=u2
 generalize q9u a.2.2.2.2.2.1 b.2.2.2.2.2.1=u3
 cases decide (a.1=b.1)<;>cases decide (a.2.1=3)<;>cases decide (b.2.1=3)<;>cases decide (a.2.2.2.1≤b.2.2.1)<;>cases decide (a.2.2.2.1<b.2.2.2.1)<;>cases decide (b.2.2.2.1 >a.2.2.1)<;>cases u1<;>cases u2<;>cases u3<;>rfl
theorem p86 (a b:u0i.den) (ha:u0i.wt a≤u0e) (hb:u0i.wt b≤u0e):s1o (a,b)=some (r1k a b):=by
 have t1:=r4b b.2.2.2.2.1 a.2.2.2.2.2.1 (A9 q3i hb) (A9 t7t ha)
 have t2:=r4b a.2.2.2.2.1 b.2.2.2.2.2.1 (A9 q3i ha) (A9 t7t hb)
 have t3:=o1t a.2.2.2.2.2.1 b.2.2.2.2.2.1 (A9 t7t ha) (A9 t7t hb)
 rw[p4o];unfold q03
 simp only[t1,t2,t3,q0k,zOb]
 unfold r1k
 generalize s3o b.2.2.2.2.1 a.2.2.2.2.2.1=u1
 generalize s3o a.2.2.2.2.1 b.2.2.2.2.2.1=u2
 generalize q9u a.2.2.2.2.2.1 b.2.2.2.2.2.1=u3
 cases decide (a.1=b.1)<;>cases decide (a.2.1=3)<;>cases decide (b.2.1=3)<;>cases decide (a.2.2.2.1≤b.2.2.1)<;>cases decide (a.2.2.2.1<b.2.2.2.1)<;>cases decide (b.2.2.2.1 >a.2.2.1)<;>cases u1<;>cases u2<;>cases u3<;>rfl
end
section
theorem q0o {n i:Nat} (h:i<n):(List.range n).drop i=i::(List.range n).drop (i+1):=by
 have:=Ce (l:=List.range n) (i:=i) (by simpa using h)
 simpa using this
theorem o6w {X R:Type} (W:X→Ht R) (n:Nat) (mk:Int→X) (p:Nat→Bool) (yes:Nat→R) (no:R) (hend:W (mk (n:Int))=some no)
 (hstep:∀i,i<n→W (mk (i:Int))=bif p i then some (yes i) else W (mk ((i+1:Nat):Int))):W (mk 0)=some (match (List.range n).find? p with
  | some i=>yes i
  | none=>no):=by
 have:=s1i W n (fun(_:Unit) i=>mk i) (fun i _=>match ((List.range n).drop i).find? p with
  | some i=>yes i
  | none=>no) (fun _ _=>True) (fun _ _=>by
   rw[hend,Dp (by simp)];rfl) (fun i a hi _=>by
   have hs:=hstep i hi
   rw[q0o hi,List.find?_cons]
   cases hp:p i with
   | true=>rw[hp,Ad] at hs;exact .inl hs
   | false=>rw[hp,Aa] at hs;exact .inr ⟨(),trivial,rfl,hs⟩) 0 () (Cn _) trivial
 exact this
theorem o9m {X R:Type} (W:X→Ht R) (n:Nat) (mk:Bool→Int→X) (p:Nat→Bool) (fin:Bool→R) (hend:∀b,W (mk b (n:Int))=some (fin b))
 (hstep:∀b i,i<n→W (mk b (i:Int))=W (mk (b || p i) ((i+1:Nat):Int))) (b:Bool):W (mk b 0)=some (fin (b || (List.range n).any p)):=by
 have:=s1i W n mk (fun i b=>fin (b || ((List.range n).drop i).any p)) (fun _ _=>True) (fun b _=>by
  rw[hend,Dp (by simp)];simp) (fun i b hi _=> .inr ⟨b || p i,trivial,by
  rw[q0o hi,Gd,Bool.or_assoc],hstep b i hi⟩) 0 b (Cn _) trivial
 exact this
theorem o7r {X R:Type} (W:X→Ht R) (n:Nat) (mk:Bool→Int→X) (p:Nat→Bool) (fin:Bool→R) (hend:∀b,W (mk b (n:Int))=some (fin b)) (hstop:∀i,i<n→W (mk false (i:Int))=some (fin false))
 (hstep:∀i,i<n→W (mk true (i:Int))=W (mk (p i) ((i+1:Nat):Int))) (b:Bool):W (mk b 0)=some (fin (b&&(List.range n).all p)):=by
 have:=s1i W n mk (fun i b=>fin (b&&((List.range n).drop i).all p)) (fun _ _=>True) (fun b _=>by
  rw[hend,Dp (by simp)];simp) (fun i b hi _=>by
  cases b with
  | false=>exact .inl (by rw[hstop i hi];simp)
  | true=>exact .inr ⟨p i,trivial,by rw[q0o hi,Gc,Bz],hstep i hi⟩) 0 b (Cn _) trivial
 exact this
def u0j (t:Hu Nat):Hu Int:=t.map fun i:Nat=>(i:Int)
theorem u2m (t:Hu Nat):(u0j t).length=t.length:=by simp[u0j]
theorem q43 (t:Hu Nat) (j:Nat) (ht:t.length≤1099511627776):u10 (u0j t,(j:Int))=some (t.contains j):=by
 have key:∀(d i:Nat),i+d=t.length→(u1t (u0j t,(j:Int),(t.length:Int),(i:Int))=some (.inl ())∧(t.drop i).contains j=false)∨
  ∃k:Nat,u1t (u0j t,(j:Int),(t.length:Int),(i:Int))=some (.inr (k:Int))∧(t.drop i).contains j=true:=by
  intro d
  induction d with
  | zero=>
   intro i hi
   have:i=t.length:=by omega
   subst this
   left
   rw[t6c]
   simp only[u42,u0b,Am,Ah,Aa,F5]
   exact⟨trivial,rfl⟩
  | succ d ih=>
   intro i hi
   have h:i<t.length:=by omega
   have h' :i<(u0j t).length:=by simpa[u0j] using h
   have hr:rdL (Ty.int .i64) (u0j t) i=(t[i] :Int):=by
    rw[y8k (t:=Ty.int .i64) h'];simp[u0j]
   rw[t6c,Ce h,List.contains_cons]
   simp only[u42,u0b,h,Ae,Ad,y7t h',zTn,hr]
   by_cases e:j=t[i]
   ·right
    refine⟨i,?_,?_⟩
    ·simp[e,u2m,h]
    ·simp[e]
   ·have e1:decide ((j:Int)=(t[i] :Int))=false:=by simp;omega
    have e2:(j==t[i])=false:=by simpa using e
    rw[e1,Aa,y7l (by omega),e2,Ci]
    exact ih (i+1) (by omega)
 rw[s5t];unfold t3n
 rw[r3s];unfold t7w
 simp only[u2m]
 rcases key t.length 0 (by omega) with ⟨h1,h2⟩ | ⟨k,h1,h2⟩
 ·have h1:u1t (u0j t,(j:Int),(t.length:Int),0)=_:=h1
  rw[Fh] at h2
  simp only[h1,zOb,h2]
  rfl
 ·have h1:u1t (u0j t,(j:Int),(t.length:Int),0)=_:=h1
  rw[Fh] at h2
  simp only[h1,zOb,h2]
  simp
def p6j (l:Hu u0i.den) (j i:Nat):Bool:=r1k (rdL u0i l j) (rdL u0i l i)
def r9w (l:Hu u0i.den) (t:Hu Nat) (i:Nat):Bool:= !t.contains i&& !(List.range l.length).any (fun j=> !decide (j=i)&&(!t.contains j&&p6j l j i))
def s9x (l:Hu u0i.den) (t:Hu Nat):Ht Nat:=(List.range l.length).find? (r9w l t)
def p2n (l:Hu u0i.den):Nat→Hu Nat→Ht (Hu Nat)
 | 0,t=>some t
 | k+1,t=>match s9x l t with
  | none=>none
  | some i=>p2n l k (t++ [i])
def p53 (l:Hu u0i.den):Ht (Hu Nat):=p2n l l.length []
def o0w:Ht (Hu Nat)→Hu Int×Bool
 | some t=>(u0j t,true)
 | none=>([],false)
theorem q76 (t:Hu Nat) (i:Nat):u0j t++ [(i:Int)] =u0j (t++ [i]):=by simp[u0j]
section
variable {l:Hu u0i.den} (hw:∀x∈l,u0i.wt x≤u0e) (hl:l.length≤1048576)
include hw hl
theorem p69 (t:Hu Nat) (ht:t.length≤l.length) (m:Bool) (i:Nat) (hi:i<l.length) (l2:Hu u0i.den) (n2 i2:Int) (b:Bool):
 u4p (l,u0j t,m,(i:Int),l[i],b,l2,n2,i2,l,(l.length:Int),0)=some (.inl (l,u0j t,m,(i:Int),b || (List.range l.length).any (fun j=> !decide (j=i)&&(!t.contains j&&p6j l j i)),l2,n2,i2)):=by
 have:=o9m u4p l.length (fun b j=>(l,u0j t,m,(i:Int),l[i],b,l2,n2,i2,l,(l.length:Int),j)) (fun j=> !decide (j=i)&&(!t.contains j&&p6j l j i)) (fun b=> .inl (l,u0j t,m,(i:Int),b,l2,n2,i2))
  (fun b=>by
   rw[t94];simp only[u6i,u0b,Am,Ah,Aa])
  (fun b j hj=>by
   have hc:u10 (u0j t,(j:Int))=some (t.contains j):=q43 t j (by omega)
   have hb:s1o (l[j],l[i])=some (p6j l j i):=by
    rw[p86 _ _ (hw _ (Ag hj)) (hw _ (Ag hi))]
    unfold p6j
    rw[y8k hj,y8k hi]
   rw[t94]
   simp only[u6i,u0b,hj,Ae,Ad,y7t hj,zTn,y8k hj,hc,hb,zOb]
   have he:decide ((j:Int)=(i:Int))=decide (j=i):=by by_cases e:j=i<;>simp[e] <;>omega
   rw[y7l (by omega),he]
   cases b<;>cases decide (j=i)<;>cases t.contains j<;>cases p6j l j i<;>rfl) b
 exact this
theorem o4e (t:Hu Nat) (ht:t.length≤l.length) (m:Bool):
 u5h (l,u0j t,m,l,(l.length:Int),0)=some (match s9x l t with
  | some i=> .inl (l,u0j (t++ [i]),true)
  | none=> .inl (l,u0j t,m)):=by
 have:=o6w u5h l.length (fun i=>(l,u0j t,m,l,(l.length:Int),i)) (r9w l t) (fun i=> .inl (l,u0j (t++ [i]),true)) (.inl (l,u0j t,m))
  (by rw[s08];simp only[u65,u0b,Am,Ah,Aa])
  (fun i hi=>by
   have hc:u10 (u0j t,(i:Int))=some (t.contains i):=q43 t i (by omega)
   have hk:Nat.ble ((u0j t).length+([(i:Int)] :Hu Int).length) z7w=true:=by
    rw[Nat.ble_eq,u2m];simp only[Bc,Cc,z7w];omega
   rw[s08]
   simp only[u65,u0b,hi,Ae,Ad,y7t hi,zTn,y8k hi,hc,zOb,p69 hw hl t ht m i hi l (l.length:Int) (i:Int) false,hk,Ci,q76]
   rw[y7l (by omega)]
   unfold r9w
   cases t.contains i<;>cases (List.range l.length).any (fun j=> !decide (j=i)&&(!t.contains j&&p6j l j i))<;>rfl)
 rw[this]
 unfold s9x
 cases (List.range l.length).find? (r9w l t)<;>rfl
theorem o30:∀(k:Nat) (t:Hu Nat),t.length+k=l.length→u5g (l,u0j t)=some (match p2n l k t with
 | some t=> .inl (u0j t)
 | none=> .inr ([],false))
 | 0,t,h=>by
  rw[s07]
  have: ¬((u0j t).length:Int)<(l.length:Int):=by rw[u2m];omega
  simp only[u64,this,Ah,Aa]
  rfl
 | k+1,t,h=>by
  rw[s07]
  have:((u0j t).length:Int)<(l.length:Int):=by rw[u2m];omega
  simp only[u64,this,Ae,Ad,o4e hw hl t (by omega) false,zOb,p2n]
  cases hp:s9x l t with
  | none=>rfl
  | some i=>
   simp only[Ap,Aa]
   exact o30 k (t++ [i]) (by simp;omega)
theorem q6f:t69 l=some (o0w (p53 l)):=by
 have h:u5g (l, [])=_:=o30 hw hl l.length [] (by simp)
 rw[q2k];unfold s36
 simp only[h,zOb]
 unfold p53
 cases p2n l l.length [] <;>rfl
def u8e (n:Nat) (t:Hu Nat):Hu Bool:=(List.range n).map fun i=> !t.contains i
omit hw hl in
theorem p3a {n:Nat} {t:Hu Nat} {i:Nat} (h:i<n):rdL Ty.bool (u8e n t) i= !t.contains i:=by
 have h' :i<(u8e n t).length:=by simp[u8e,h]
 rw[y8k (t:=Ty.bool) h']
 simp[u8e]
omit hw hl in
theorem q4o {n:Nat} {t:Hu Nat} :(u8e n t).length=n:=by simp[u8e]
omit hw hl in
theorem o2g {n:Nat} {t:Hu Nat} {i:Nat} :(u8e n t).set i false=u8e n (t++ [i]):=by
 apply Gw
 ·simp[u8e]
 ·intro j h1 h2
  rw[List.getElem_set]
  simp only[u8e,F6,List.getElem_range,List.contains_eq_mem,Ay,A8,Ep,Em]
  by_cases e:i=j
  ·simp[e]
  ·have: ¬j=i:=fun z=>e z.symm
   simp[e,this]
omit hw hl in
theorem o2f {n:Nat} :u8e n [] =List.replicate n true:=by
 apply Gw
 ·simp[u8e]
 ·intro j h1 h2
  simp[u8e]
theorem o3x (t:Hu Nat) (nx:Int) (i:Nat) (hi:i<l.length) (b:Bool):
 u4r (l,u8e l.length t,u0j t,nx,(i:Int),b,0)=some (.inl (l,u8e l.length t,u0j t,nx,(i:Int),b&&(List.range l.length).all (fun j=>t.contains j || decide (j=i) || !p6j l j i))):=by
 exact o7r u4r l.length (fun b j=>(l,u8e l.length t,u0j t,nx,(i:Int),b,j)) (fun j=>t.contains j || decide (j=i) || !p6j l j i) (fun b=> .inl (l,u8e l.length t,u0j t,nx,(i:Int),b))
  (fun b=>by
   rw[t1m];simp only[u4o,u0b,Am,Ah,Aa,zOb])
  (fun j hj=>by
   rw[t1m];simp only[u4o,u0b,hj,Ae,Ad,zOb,Aa])
  (fun j hj=>by
   have hb:s1r (l[j],l[i])=some (p6j l j i):=by
    rw[p87 _ _ (hw _ (Ag hj)) (hw _ (Ag hi))]
    unfold p6j
    rw[y8k hj,y8k hi]
   rw[t1m]
   simp only[u4o,u0b,hj,Ae,Ad,y7t hj,y7t hi,q4o,zTn,y8k hj,y8k hi,p3a hj,hb,zOb,Bool.not_not]
   have he:decide ((j:Int)=(i:Int))=decide (j=i):=by by_cases e:j=i<;>simp[e] <;>omega
   rw[y7l (by omega),he]
   cases decide (j=i)<;>cases t.contains j<;>cases p6j l j i<;>rfl) b
omit hw hl in
theorem p76 (t:Hu Nat) (i:Nat):(!t.contains i&&(List.range l.length).all (fun j=>t.contains j || decide (j=i) || !p6j l j i))=r9w l t i:=by
 unfold r9w
 congr 1
 rw[List.all_eq_not_any_not]
 congr 2
 funext j
 cases decide (j=i)<;>cases t.contains j<;>cases p6j l j i<;>rfl
theorem o4f (t:Hu Nat):u23 (l,u8e l.length t,u0j t,-1,0)=some (.inl (l,u8e l.length t,u0j t,match s9x l t with
 | some i=>(i:Int)
 | none=> -1)):=by
 have done:∀(i:Nat) (j:Nat),j≤l.length→u23 (l,u8e l.length t,u0j t,(i:Int),(j:Int))=some (.inl (l,u8e l.length t,u0j t,(i:Int))):=fun i j hj=>by
  rw[t1l]
  have h0:decide ((i:Int)<0)=false:=by simp
  simp only[u4n,u0b,h0]
  cases decide (j<l.length)<;>rfl
 have:=o6w u23 l.length (fun i=>(l,u8e l.length t,u0j t,-1,i)) (r9w l t) (fun i=> .inl (l,u8e l.length t,u0j t,(i:Int))) (.inl (l,u8e l.length t,u0j t,-1))
  (by rw[t1l];simp only[u4n,u0b,Am,Ah,Aa,zOb])
  (fun i hi=>by
   rw[t1l]
   have h0:decide ((-1:Int)<0)=true:=rfl
   simp only[u4n,u0b,hi,Ae,Ad,zOb,h0,y7t hi,q4o,zTn,p3a hi,o3x hw hl t (-1) i hi,p76]
   rw[y7l (by omega),done i (i+1) (by omega)]
   have hnf:=p76 (l:=l) t i
   rw[hnf])
 rw[this]
 unfold s9x
 cases (List.range l.length).find? (r9w l t)<;>rfl
theorem o31:∀(k:Nat) (t:Hu Nat),t.length+k=l.length→u31 (l,u8e l.length t,u0j t)=some (match p2n l k t with
 | some t=> .inl (u0j t)
 | none=> .inr ([],false))
 | 0,t,h=>by
  rw[s1d]
  have: ¬((u0j t).length:Int)<(l.length:Int):=by rw[u2m];omega
  simp only[u7a,this,Ah,Aa]
  rfl
 | k+1,t,h=>by
  rw[s1d]
  have:((u0j t).length:Int)<(l.length:Int):=by rw[u2m];omega
  simp only[u7a,this,Ae,Ad,o4f hw hl t,zOb,p2n]
  cases hp:s9x l t with
  | none=>rfl
  | some i=>
   have hi:i<l.length:=by
    have:=List.mem_of_find?_eq_some hp
    simpa using this
   have h0:decide ((i:Int)<0)=false:=by simp
   have hk:Nat.ble ((u0j t).length+([(i:Int)] :Hu Int).length) z7w=true:=by
    rw[Nat.ble_eq,u2m];simp only[Bc,Cc,z7w];omega
   simp only[h0,Aa,y7t hi,q4o,Ad,hk,zTn,o2g,q76]
   exact o31 k (t++ [i]) (by simp;omega)
omit hw in
theorem o5l:u30 (l,List.replicate l.length false,0)=some (.inl (l,List.replicate l.length true)):=by
 have:=s1i u30 l.length (fun(_:Unit) i=>(l,List.replicate i.toNat true++List.replicate (l.length - i.toNat) false,i)) (fun _ _=> .inl (l,List.replicate l.length true)) (fun _ _=>True)
  (fun a _=>by
   rw[s1c]
   simp[u69])
  (fun i a h _=> .inr ⟨(),trivial,rfl,by
   rw[s1c]
   have h1:(List.replicate i true++List.replicate (l.length - i) false).length=l.length:=by simp;omega
   have h2:(List.replicate i true++List.replicate (l.length - i) false).set i true=List.replicate (i+1) true++List.replicate (l.length - (i+1)) false:=by
    rw[List.set_append_right _ _ (by simp)]
    have:l.length - i=(l.length - (i+1))+1:=by omega
    simp only[Fq,Dw]
    rw[this,List.replicate_succ,Hj,List.replicate_succ']
    simp
   simp only[u69,zTn,h1,u0b,h,Ae,Ad,y7t h,h2]
   rw[y7l (by omega)]⟩) 0 () (Cn _) trivial
 simpa using this
theorem q6g:t7h l=some (o0w (p53 l)):=by
 have h:u31 (l,u8e l.length [],u0j [])=_:=o31 hw hl l.length [] (by simp)
 rw[o2f] at h
 have h:u31 (l,List.replicate l.length true, [])=_:=h
 have hn:(decide (0≤(l.length:Int))&&decide ((l.length:Int)≤1099511627776))=true:=by simp;omega
 rw[q2r];unfold s4c
 rw[hn,Ad,zTn]
 have h3:u30 (l,List.replicate l.length (Ty.bool).zero,0)=_:=o5l hl
 simp only[h3,zOb,h]
 unfold p53
 cases p2n l l.length [] <;>rfl
end
theorem p3c {l:Hu u0i.den} :∀(k:Nat) (t u:Hu Nat),p2n l k t=some u→(∀i∈t,i<l.length)→t.Nodup→(∀(a b:Nat) (ha:a<b) (hb:b<t.length),p6j l t[b] t[a] =false)→
 (∀(a:Nat) (ha:a<t.length) (j:Nat),j<l.length→j ∉ t→p6j l j t[a] =false)→
 u.length=t.length+k∧(∀i∈u,i<l.length)∧u.Nodup∧(∀(a b:Nat) (ha:a<b) (hb:b<u.length),p6j l u[b] u[a] =false)
 | 0,t,u,h,h1,h2,h3,h4=>by
  cases h
  exact⟨rfl,h1,h2,h3⟩
 | k+1,t,u,h,h1,h2,h3,h4=>by
  simp only[p2n] at h
  split at h
  ·cases h
  ·rename_i i hp
   have hi:i<l.length:=by
    have:=List.mem_of_find?_eq_some hp
    simpa using this
   have hok:r9w l t i=true:=by
    have:=Gz hp
    exact this
   unfold r9w at hok
   simp only[Ai,Bj,List.contains_eq_mem,Bu,Ct,Bq,not_and,Ey,Ar] at hok
   obtain⟨hni,hfree⟩:=hok
   have g:=p3c k (t++ [i]) u h (fun x hx=>by
    rcases Ay.mp hx with q | q
    ·exact h1 x q
    ·simp at q;subst q;exact hi) (by
    rw[Gp]
    exact⟨h2,by simp,fun x hx y hy=>by simp at hy;subst hy;intro z;subst z;exact hni hx⟩) (fun a b hab hb=>by
    simp only[Ba,Bc,Cc] at hb
    by_cases hbt:b<t.length
    ·rw[Ck hbt,Ck (by omega)]
     exact h3 a b hab hbt
    ·have hbe:b=t.length:=by omega
     subst hbe
     rw[Cv (Au _),Ck hab]
     simp only[Dw,Gn]
     exact h4 a hab i hi hni) (fun a ha j hj hnj=>by
    simp only[Ay,A8,Ep,Em,Hr] at hnj
    by_cases hat:a<t.length
    ·rw[Ck hat]
     exact h4 a hat j hj hnj.1
    ·simp only[Ba,Bc,Cc] at ha
     have hae:a=t.length:=by omega
     subst hae
     rw[Cv (Au _)]
     simp only[Dw,Gn]
     have:=hfree j hj
     exact this (by simpa using hnj.2) (by simpa using hnj.1))
   exact⟨by rw[g.1];simp;omega,g.2.1,g.2.2.1,g.2.2.2⟩
theorem p3d {l:Hu u0i.den} {u:Hu Nat} (h:p53 l=some u):u.length=l.length∧(∀i∈u,i<l.length)∧u.Nodup∧(∀(a b:Nat) (ha:a<b) (hb:b<u.length),p6j l u[b] u[a] =false):=by
 have:=p3c l.length [] u h (fun i hi=>by cases hi) List.nodup_nil (fun a b _ hb=>by simp at hb) (fun a ha=>by simp at ha)
 simpa using this
end
section
def p8y (m:Hu q3u.den) (w:u0o.den):Hu q3u.den:=
 m.filter (fun c=>y3c c.1 w.1)++(if w.2.2 then[] else[(w.1,w.2.1)])++m.filter (fun c=> !(y3c c.1 w.1 || z7o c.1 w.1))
def t3g (m:Hu q3u.den) (ws:Hu u0o.den):Hu q3u.den:=ws.foldl p8y m
theorem q0h {α:Type} (p:α→Bool):∀(l a:Hu α),l.foldl (fun a x=>if p x then a++ [x] else a) a=a++l.filter p
 | [],a=>by simp
 | x::l,a=>by
  simp only[Bs,q0h p l,Di]
  cases p x<;>simp
theorem s2d {α:Type} (p q:α→Bool) (h:∀x,p x=true→q x=true):∀l:Hu α,(l.filter p).length+(l.filter (fun x=> !q x)).length≤l.length
 | [] =>by simp
 | x::l=>by
  have:=s2d p q h l
  have hx:=h x
  simp only[Di]
  cases hp:p x<;>cases hq:q x
  ·simp;omega
  ·simp;omega
  ·rw[hp,hq] at hx;exact absurd (hx rfl) (by simp)
  ·simp;omega
theorem q9k {α:Type} (f:α→Nat) (p q:α→Bool) (h:∀x,p x=true→q x=true):∀l:Hu α,((l.filter p).map f).sum+((l.filter (fun x=> !q x)).map f).sum≤(l.map f).sum
 | [] =>by simp
 | x::l=>by
  have:=q9k f p q h l
  have hx:=h x
  simp only[Di]
  cases hp:p x<;>cases hq:q x
  ·simp;omega
  ·simp;omega
  ·rw[hp,hq] at hx;exact absurd (hx rfl) (by simp)
  ·simp;omega
theorem q7p (m:Hu q3u.den) (w:u0o.den):(p8y m w).length≤m.length+1:=by
 have:=s2d (fun c:q3u.den=>y3c c.1 w.1) (fun c=>y3c c.1 w.1 || z7o c.1 w.1) (fun x h=>by simp[h]) m
 unfold p8y
 simp only[Ba]
 split<;>simp only[Cc,Bc] <;>omega
theorem o76 (m:Hu q3u.den) (w:u0o.den):(Ty.sl q3u).wt (p8y m w)≤(Ty.sl q3u).wt m+1+u0o.wt w:=by
 have h1:=q7p m w
 have h2:=q9k q3u.wt (fun c:q3u.den=>y3c c.1 w.1) (fun c=>y3c c.1 w.1 || z7o c.1 w.1) (fun x h=>by simp[h]) m
 have e1:(Ty.sl q3u).wt (p8y m w)=(p8y m w).length+((p8y m w).map q3u.wt).sum:=rfl
 have e2:(Ty.sl q3u).wt m=m.length+(m.map q3u.wt).sum:=rfl
 have e3:u0o.wt w=w.1.size+(w.2.1.size+0):=rfl
 have e4:((p8y m w).map q3u.wt).sum≤(m.map q3u.wt).sum+(w.1.size+w.2.1.size):=by
  unfold p8y
  simp only[Dh,Fn]
  split
  ·simp only[Eh,Gq];omega
  ·have:([(w.1,w.2.1)].map q3u.wt).sum=w.1.size+w.2.1.size:=by simp[Ty.wt]
   rw[this]
   omega
 omega
theorem p3f:∀(ws:Hu u0o.den) (m:Hu q3u.den),(Ty.sl q3u).wt (t3g m ws)≤(Ty.sl q3u).wt m+(Ty.sl u0o).wt ws
 | [],m=>by simp[t3g]
 | w::ws,m=>by
  have h1:=o76 m w
  have h2:=p3f ws (p8y m w)
  have e:(Ty.sl u0o).wt (w::ws)=(ws.length+1)+(u0o.wt w+(ws.map u0o.wt).sum):=rfl
  have e2:(Ty.sl u0o).wt ws=ws.length+(ws.map u0o.wt).sum:=rfl
  have e3:t3g m (w::ws)=t3g (p8y m w) ws:=rfl
  rw[e3]
  omega
theorem o1f {t:Ty} {l:Hu t.den} :l.length≤(Ty.sl t).wt l:=by
 have:(Ty.sl t).wt l=l.length+(l.map t.wt).sum:=rfl
 omega
theorem o36 (a:Hu q3u.den) (w:u0o.den) (h:a.length≤1099511627775):(a.filter (fun c=>y3c c.1 w.1)).length+1≤1099511627776:=by
 have:(a.filter (fun c=>y3c c.1 w.1)).length≤a.length:=Cs _ _
 omega
theorem o0s (a:Hu q3u.den) (w:u0o.den) (x:q3u.den):(a.filter (fun c=>y3c c.1 w.1)++ [x]).length≤a.length+1 - (a.filter (fun c=> !(y3c c.1 w.1 || z7o c.1 w.1))).length:=by
 have:=s2d (fun c:q3u.den=>y3c c.1 w.1) (fun c=>y3c c.1 w.1 || z7o c.1 w.1) (fun x h=>by simp[h]) a
 simp only[Ba,Aw]
 omega
theorem o0t (a:Hu q3u.den) (w:u0o.den):(a.filter (fun c=>y3c c.1 w.1)).length≤a.length+1 - (a.filter (fun c=> !(y3c c.1 w.1 || z7o c.1 w.1))).length:=by
 have:=s2d (fun c:q3u.den=>y3c c.1 w.1) (fun c=>y3c c.1 w.1 || z7o c.1 w.1) (fun x h=>by simp[h]) a
 omega
section
variable (t:u0i.den) (w:u0o.den) (m:Hu q3u.den) (hm:m.length≤500000000000)
include hm
theorem o5x (j:Int):u9o (t,m,j,w, [],0)=some (.inl (t,m,j,w,m.filter (fun c=>y3c c.1 w.1))):=by
 have:=t9n u9o m (fun a i=>(t,m,j,w,a,i)) (fun c=>y3c c.1 w.1) (fun c=>c) (fun a=> .inl (t,m,j,w,a)) (by omega)
  (fun a _=>by rw[r3b];simp only[t4r,u0b,Am,Ah,Aa])
  (fun i hi a ha=>by
   rw[r3b];simp only[t4r,u0b,hi,Ae,Ad,y7t hi,zTn,y8k hi,Aw,u0m (show a.length+1≤1099511627776 by omega)]
   rw[y7l (by omega)])
 rw[Er] at this
 exact this
theorem p7y (j:Int) (a:Hu q3u.den) (ha:a.length≤m.length+1 - (m.filter (fun c=> !(y3c c.1 w.1 || z7o c.1 w.1))).length):u5x (t,m,j,w,a,0)=some (.inl (t,j,a++m.filter (fun c=> !(y3c c.1 w.1 || z7o c.1 w.1)))):=by
 have:=u61 u5x m (fun a i=>(t,m,j,w,a,i)) (fun a c=>if !(y3c c.1 w.1 || z7o c.1 w.1) then a++ [c] else a) (fun a=> .inl (t,j,a)) (fun i a=>a.length≤m.length+1+i)
  (fun a _=>by rw[s85];simp only[t13,u0b,Am,Ah,Aa])
  (fun i hi a ha=>by
   rw[s85];simp only[t13,u0b,hi,Ae,Ad,y7t hi,zTn,y8k hi,Aw,u0m (show a.length+1≤1099511627776 by omega)]
   rw[y7l (by omega)]
   cases !(y3c m[i].1 w.1 || z7o m[i].1 w.1) with
   | true=>simp only[Ad,Bl];refine⟨by simp;omega,?_⟩;simp only[u0m (show a.length+1≤1099511627776 by omega),Ad]
   | false=>simp only[Aa,Br,Bk];refine⟨by omega,?_⟩;trivial) a (by omega)
 rw[q0h] at this
 exact this
theorem o5w (l:Hu u0o.den) (n j:Int):u9h (m,w, [],l,n,j,m,(m.length:Int),0)=some (.inl (m,w,m.filter (fun c=>y3c c.1 w.1),l,n,j)):=by
 have:=t9n u9h m (fun a i=>(m,w,a,l,n,j,m,(m.length:Int),i)) (fun c=>y3c c.1 w.1) (fun c=>c) (fun a=> .inl (m,w,a,l,n,j)) (by omega)
  (fun a _=>by rw[r2w];simp only[t4c,u0b,Am,Ah,Aa])
  (fun i hi a ha=>by
   rw[r2w];simp only[t4c,u0b,hi,Ae,Ad,y7t hi,zTn,y8k hi,Aw,u0m (show a.length+1≤1099511627776 by omega)]
   rw[y7l (by omega)])
 rw[Er] at this
 exact this
theorem p7x (l:Hu u0o.den) (n j:Int) (a:Hu q3u.den) (ha:a.length≤m.length+1 - (m.filter (fun c=> !(y3c c.1 w.1 || z7o c.1 w.1))).length):u5v (w,a,l,n,j,m,(m.length:Int),0)=some (.inl (a++m.filter (fun c=> !(y3c c.1 w.1 || z7o c.1 w.1)),l,n,j)):=by
 have:=u61 u5v m (fun a i=>(w,a,l,n,j,m,(m.length:Int),i)) (fun a c=>if !(y3c c.1 w.1 || z7o c.1 w.1) then a++ [c] else a) (fun a=> .inl (a,l,n,j)) (fun i a=>a.length≤m.length+1+i)
  (fun a _=>by rw[s8u];simp only[t1r,u0b,Am,Ah,Aa])
  (fun i hi a ha=>by
   rw[s8u];simp only[t1r,u0b,hi,Ae,Ad,y7t hi,zTn,y8k hi,Aw,u0m (show a.length+1≤1099511627776 by omega)]
   rw[y7l (by omega)]
   cases !(y3c m[i].1 w.1 || z7o m[i].1 w.1) with
   | true=>simp only[Ad,Bl];refine⟨by simp;omega,?_⟩;simp only[u0m (show a.length+1≤1099511627776 by omega),Ad]
   | false=>simp only[Aa,Br,Bk];refine⟨by omega,?_⟩;trivial) a (by omega)
 rw[q0h] at this
 exact this
end
theorem p79 (m:Hu q3u.den) (w:u0o.den):(m.filter (fun c=>y3c c.1 w.1)).length+(m.filter (fun c=> !(y3c c.1 w.1 || z7o c.1 w.1))).length≤m.length:=
 s2d (fun c:q3u.den=>y3c c.1 w.1) (fun c=>y3c c.1 w.1 || z7o c.1 w.1) (fun x h=>by simp[h]) m
theorem q47 (m:Hu q3u.den) (t:u0i.den) (h:m.length+t.2.2.2.2.2.1.length≤400000000000):t9e (m,t)=some (t3g m t.2.2.2.2.2.1):=by
 have L:=u61 t5a t.2.2.2.2.2.1 (fun a i=>(t,a,i)) p8y (fun a=> .inl a) (fun i a=>a.length≤m.length+i)
  (fun a _=>by rw[r3a];simp only[t4q,u0b,Am,Ah,Aa])
  (fun i hi a ha=>by
   have hl:=q7p a t.2.2.2.2.2.1[i]
   have hp:=p79 a t.2.2.2.2.2.1[i]
   rw[r3a]
   simp only[t4q,u0b,hi,Ae,Ad,y7t hi,zTn,y8k hi,o5x t _ a (by omega),zOb,Aw,u0m (o36 a t.2.2.2.2.2.1[i] (by omega)),
    p7y t t.2.2.2.2.2.1[i] a (by omega) (i:Int) (a.filter (fun c=>y3c c.1 t.2.2.2.2.2.1[i].1)++ [(t.2.2.2.2.2.1[i].1,t.2.2.2.2.2.1[i].2.1)]) (o0s ..),p7y t t.2.2.2.2.2.1[i] a (by omega) (i:Int) (a.filter (fun c=>y3c c.1 t.2.2.2.2.2.1[i].1)) (o0t ..)]
   rw[y7l (by omega)]
   refine⟨by omega,?_⟩
   unfold p8y
   cases t.2.2.2.2.2.1[i].2.2<;>simp) m (by omega)
 rw[p10];unfold r8t
 have h0:Nat.ble (([] :Hu q3u.den).length+m.length) z7w=true:=u0m (by simp;omega)
 simp only[h0,Ad,Cf,L,zOb]
 rfl
theorem q46 (m:Hu q3u.den) (t:u0i.den) (h:m.length+t.2.2.2.2.2.1.length≤400000000000):t84 (m,t)=some (t3g m t.2.2.2.2.2.1):=by
 have L:=u61 t43 t.2.2.2.2.2.1 (fun a i=>(a,t.2.2.2.2.2.1,(t.2.2.2.2.2.1.length:Int),i)) p8y (fun a=> .inl a) (fun i a=>a.length≤m.length+i)
  (fun a _=>by rw[r2v];simp only[t4b,u0b,Am,Ah,Aa])
  (fun i hi a ha=>by
   have hl:=q7p a t.2.2.2.2.2.1[i]
   have hp:=p79 a t.2.2.2.2.2.1[i]
   rw[r2v]
   simp only[t4b,u0b,hi,Ae,Ad,y7t hi,zTn,y8k hi,o5w _ a (by omega),zOb,Aw,u0m (o36 a t.2.2.2.2.2.1[i] (by omega)),
    p7x t.2.2.2.2.2.1[i] a (by omega) t.2.2.2.2.2.1 (t.2.2.2.2.2.1.length:Int) (i:Int) (a.filter (fun c=>y3c c.1 t.2.2.2.2.2.1[i].1)++ [(t.2.2.2.2.2.1[i].1,t.2.2.2.2.2.1[i].2.1)]) (o0s ..),p7x t.2.2.2.2.2.1[i] a (by omega) t.2.2.2.2.2.1 (t.2.2.2.2.2.1.length:Int) (i:Int) (a.filter (fun c=>y3c c.1 t.2.2.2.2.2.1[i].1)) (o0t ..)]
   rw[y7l (by omega)]
   refine⟨by omega,?_⟩
   unfold p8y
   cases t.2.2.2.2.2.1[i].2.2<;>simp) m (by omega)
 rw[p05];unfold r71
 simp only[u0m (show m.length≤1099511627776 by omega),Ad,L,zOb]
 rfl
end
section
def p0c (a:Hu u3a) (t:u0i.den):Hu u3a:=r7q a t.2.2.2.2.2.1 t.2.2.2.1
def r3t (l:Hu u0i.den):Hu u3a:=l.foldl p0c []
def r0m (vs:Hu u3a) (m:Hu PrT) (t:u0i.den):Bool:=t.2.2.2.2.1.any fun r=> !decide (r6x m r=s5d vs r t.2.2.1)
def o4g (l:Hu u0i.den) (vs:Hu u3a) (i:Nat) (x:Int) (m:Hu PrT):Hu PrT⊕(Unit⊕Bool):=
 if r0m vs m (rdL u0i l x.toNat)=true then .inr (.inr false) else .inl (t3g m (rdL u0i l x.toNat).2.2.2.2.2.1)
def p8b (l:Hu u0i.den) (u:Hu Nat):Unit⊕Bool:=o2c (o4g l (r3t l)) (fun _=> .inl ()) 0 (u0j u) []
def o48 (l:Hu u0i.den):Bool:=match p53 l with
 | none=>false
 | some u=>match p8b l u with
  | .inl _=>true
  | .inr b=>b
def t7s (l:Hu u0i.den):Nat:=(l.map fun t=>t.2.2.2.2.2.1.length).sum
theorem o69:∀(l:Hu u0i.den) (a:Hu u3a),(l.foldl p0c a).length=a.length+t7s l
 | [],a=>rfl
 | t::l,a=>by
  rw[Bs,o69 l]
  unfold p0c
  rw[s8k]
  simp only[t7s,C8,Ge]
  omega
theorem j5s (a b:Nat) (h:a+b≤1048576):a*b≤274877906944:=by
 have key:4*(a*b)≤(a+b)*(a+b):=by
  rcases Nat.le_total a b with q | q
  ·obtain⟨d,rfl⟩:=Nat.exists_eq_add_of_le q
   simp only[Nat.mul_add,Cl]
   have e:d*a=a*d:=Fk d a
   have:0≤d*d:=Cn _
   omega
  ·obtain⟨d,rfl⟩:=Nat.exists_eq_add_of_le q
   simp only[Nat.mul_add,Cl]
   have e:d*b=b*d:=Fk d b
   have:0≤d*d:=Cn _
   omega
 have:=Ei h h
 omega
theorem p92 (m:Hu PrT) (ws:Hu u0o.den):(t3g m ws).length≤m.length+ws.length:=by
 induction ws generalizing m with
 | nil=>exact Au _
 | cons w ws ih=>
  have h:=ih (p8y m w)
  have h2:=q7p m w
  unfold t3g at h ⊢
  rw[Bs]
  simp only[Bc]
  omega
theorem o8q {l:Hu u0i.den} {i:Nat} (h:i<l.length):l[i].2.2.2.2.2.1.length≤t7s l:=by
 unfold t7s
 induction l generalizing i with
 | nil=>exact absurd h (Ee i)
 | cons t l ih=>
  simp only[C8,Ge]
  cases i with
  | zero=>simp
  | succ i=>
   have:=ih (i:=i) (by simpa using h)
   simp only[List.getElem_cons_succ]
   omega
section
variable {l:Hu u0i.den} (hw:∀x∈l,u0i.wt x≤u0e) (hl:l.length+t7s l≤1048576) (hr:∀x∈l,x.2.2.2.2.1.length≤1048576)
include hl
theorem p4f:t7l l=some (r3t l):=by
 have L:=u61 u7f l (fun a i=>(l,a,i)) p0c (fun a=> .inl a) (fun i a=>a.length=t7s (l.take i))
  (fun a _=>by rw[s1f];simp only[u7c,u0b,Am,Ah,Aa])
  (fun i hi a ha=>by
   have h1:=o8q hi
   have h2:t7s (l.take (i+1))=t7s (l.take i)+l[i].2.2.2.2.2.1.length:=by
    unfold t7s
    rw[B9 hi,Dh,Fn]
    simp
   have h3:t7s (l.take i)≤t7s l:=by
    unfold t7s
    conv=>rhs;rw[←En i l]
    rw[Dh,Fn]
    omega
   rw[s1f]
   simp only[u7c,u0b,hi,Ae,Ad,y7t hi,zTn,y8k (t:=u0i) hi,r0q a l[i].2.2.2.2.2.1 l[i].2.2.2.1 (by omega),zOb]
   rw[y7l (by omega)]
   refine⟨?_,rfl⟩
   unfold p0c
   rw[s8k]
   omega) [] (by simp[t7s])
 rw[q2v];unfold s4f
 simp only[L,zOb]
 rfl
theorem p4e (t:Hu Int):u5i (l,t, [],l,(l.length:Int),0)=some (.inl (l,t,r3t l)):=
 u61 u5i l (fun a i=>(l,t,a,l,(l.length:Int),i)) p0c (fun a=> .inl (l,t,a)) (fun i a=>a.length=t7s (l.take i))
  (fun a _=>by rw[s09];simp only[u66,u0b,Am,Ah,Aa])
  (fun i hi a ha=>by
   have h1:=o8q hi
   have h2:t7s (l.take (i+1))=t7s (l.take i)+l[i].2.2.2.2.2.1.length:=by
    unfold t7s
    rw[B9 hi,Dh,Fn]
    simp
   have h3:t7s (l.take i)≤t7s l:=by
    unfold t7s
    conv=>rhs;rw[←En i l]
    rw[Dh,Fn]
    omega
   rw[s09]
   simp only[u66,u0b,hi,Ae,Ad,y7t hi,zTn,y8k (t:=u0i) hi,r0p a l[i].2.2.2.2.2.1 l[i].2.2.2.1 (by omega),zOb]
   rw[y7l (by omega)]
   refine⟨?_,rfl⟩
   unfold p0c
   rw[s8k]
   omega) [] (by simp[t7s])
theorem o1e:(r3t l).length≤1048576:=by
 unfold r3t
 rw[o69]
 simp
 omega
theorem p3g {u:Hu Nat} (hu:u.length=l.length) {i:Nat} (hi:i<u.length) {m:Hu PrT} (hm:m.length≤i*t7s l) {k:Nat} (hk:k<l.length):
 m.length≤300000000000∧m.length+l[k].2.2.2.2.2.1.length≤400000000000∧(t3g m l[k].2.2.2.2.2.1).length≤(i+1)*t7s l:=by
 have h1:=o8q hk
 have h2:=j5s i (t7s l) (by omega)
 have h3:=p92 m l[k].2.2.2.2.2.1
 rw[C7]
 exact⟨by omega,by omega,by omega⟩
include hr
theorem o4i {u:Hu Nat} (hu:u.length=l.length) (hin:∀i∈u,i<l.length):u2f (l,u0j u,r3t l, [],0)=some (p8b l u):=by
 have hv:=o1e hl
 refine p23 u2f (u0j u) (fun a i=>(l,u0j u,r3t l,a,i)) (o4g l (r3t l)) (fun _=> .inl ()) (fun i m=>m.length≤i*t7s l)
  (fun a _=>by rw[s1e];simp only[u7b,u0b,Am,Ah,Aa])
  (fun i hi m hm=> ?_) [] (by simp)
 rw[u2m] at hi
 have hx:(u0j u)[i]'(by rw[u2m];exact hi)=(u[i] :Int):=by simp[u0j]
 have hk:u[i] <l.length:=hin _ (Ag hi)
 obtain⟨p1,p2,p3⟩:=p3g hl hu hi hm hk
 have hrr:=hr _ (Ag hk)
 have inner:u4s (l,u0j u,r3t l,m,(i:Int),l[u[i]],0)=some (bif r0m (r3t l) m l[u[i]] then .inr false else .inl (l,u0j u,r3t l,m,(i:Int),l[u[i]])):=
  r4e u4s l[u[i]].2.2.2.2.1 (fun j=>(l,u0j u,r3t l,m,(i:Int),l[u[i]],j)) (fun r=> !decide (r6x m r=s5d (r3t l) r l[u[i]].2.2.1)) (.inr false) (.inl (l,u0j u,r3t l,m,(i:Int),l[u[i]]))
   (by rw[t97];simp only[u6l,u0b,Am,Ah,Aa])
   (fun j hj=>by
    have hvl:(r6x m l[u[i]].2.2.2.2.1[j]).length≤1099511627776:=A9 (Cs _ _) (by omega)
    rw[t97]
    simp only[u6l,u0b,hj,Ae,Ad,y7t hj,zTn,y8k (t:=u1u) hj,q71 m _ (show m.length≤1099511627775 by omega),s9j (r3t l) _ _ (show(r3t l).length≤500000000000 by omega),zOb,q3s _ _ hvl]
    rw[y7l (by omega)])
 have hg:y4q (i:Int) (u0j u).length=true:=by rw[u2m];exact y7t hi
 have hlt:decide ((i:Int)<((u0j u).length:Int))=true:=by rw[u2m];simpa using hi
 have hrd:rdL (Ty.int .i64) (u0j u) i=(u[i] :Int):=by
  rw[y8k (t:=Ty.int .i64) (by rw[u2m];exact hi)]
  exact hx
 have hstep:u2f (l,u0j u,r3t l,m,(i:Int))=bif r0m (r3t l) m l[u[i]] then some (.inr false) else u2f (l,u0j u,r3t l,t3g m l[u[i]].2.2.2.2.2.1,((i+1:Nat):Int)):=by
  rw[s1e]
  simp only[u7b,hlt,Ad,hg,zTn,hrd,y7t hk,y8k (t:=u0i) hk,inner,zOb]
  cases r0m (r3t l) m l[u[i]] with
  | true=>rfl
  | false=>
   simp only[Aa,q47 m l[u[i]] p2,zOb]
   rw[y7l (by omega)]
 unfold o4g
 simp only[hx,zTn,y8k (t:=u0i) hk]
 rw[hstep]
 cases r0m (r3t l) m l[u[i]] with
 | true=>rfl
 | false=>exact⟨p3,rfl⟩
theorem o4h {u:Hu Nat} (hu:u.length=l.length) (hin:∀i∈u,i<l.length):u16 (l,r3t l, [],u0j u,((u0j u).length:Int),0)=some (p8b l u):=by
 have hv:=o1e hl
 refine p23 u16 (u0j u) (fun a i=>(l,r3t l,a,u0j u,((u0j u).length:Int),i)) (o4g l (r3t l)) (fun _=> .inl ()) (fun i m=>m.length≤i*t7s l)
  (fun a _=>by rw[t95];simp only[u6j,u0b,Am,Ah,Aa])
  (fun i hi m hm=> ?_) [] (by simp)
 rw[u2m] at hi
 have hx:(u0j u)[i]'(by rw[u2m];exact hi)=(u[i] :Int):=by simp[u0j]
 have hk:u[i] <l.length:=hin _ (Ag hi)
 obtain⟨p1,p2,p3⟩:=p3g hl hu hi hm hk
 have hrr:=hr _ (Ag hk)
 have inner:u4q (l,r3t l,m,l[u[i]],u0j u,((u0j u).length:Int),(i:Int),l[u[i]].2.2.2.2.1,(l[u[i]].2.2.2.2.1.length:Int),0)=some (bif r0m (r3t l) m l[u[i]] then .inr false else .inl (l,r3t l,m,l[u[i]],u0j u,((u0j u).length:Int),(i:Int))):=
  r4e u4q l[u[i]].2.2.2.2.1 (fun j=>(l,r3t l,m,l[u[i]],u0j u,((u0j u).length:Int),(i:Int),l[u[i]].2.2.2.2.1,(l[u[i]].2.2.2.2.1.length:Int),j)) (fun r=> !decide (r6x m r=s5d (r3t l) r l[u[i]].2.2.1)) (.inr false) (.inl (l,r3t l,m,l[u[i]],u0j u,((u0j u).length:Int),(i:Int)))
   (by rw[t96];simp only[u6k,u0b,Am,Ah,Aa])
   (fun j hj=>by
    have hvl:(r6x m l[u[i]].2.2.2.2.1[j]).length≤1099511627776:=A9 (Cs _ _) (by omega)
    rw[t96]
    simp only[u6k,u0b,hj,Ae,Ad,y7t hj,zTn,y8k (t:=u1u) hj,q70 m _ (show m.length≤1099511627775 by omega),s9i (r3t l) _ _ (show(r3t l).length≤500000000000 by omega),zOb,q3r _ _ hvl]
    rw[y7l (by omega)])
 have hg:y4q (i:Int) (u0j u).length=true:=by rw[u2m];exact y7t hi
 have hlt:decide ((i:Int)<((u0j u).length:Int))=true:=by rw[u2m];simpa using hi
 have hrd:rdL (Ty.int .i64) (u0j u) i=(u[i] :Int):=by
  rw[y8k (t:=Ty.int .i64) (by rw[u2m];exact hi)]
  exact hx
 have hstep:u16 (l,r3t l,m,u0j u,((u0j u).length:Int),(i:Int))=bif r0m (r3t l) m l[u[i]] then some (.inr false) else u16 (l,r3t l,t3g m l[u[i]].2.2.2.2.2.1,u0j u,((u0j u).length:Int),((i+1:Nat):Int)):=by
  rw[t95]
  simp only[u6j,hlt,Ad,hg,zTn,hrd,y7t hk,y8k (t:=u0i) hk,inner,zOb]
  cases r0m (r3t l) m l[u[i]] with
  | true=>rfl
  | false=>
   simp only[Aa,q46 m l[u[i]] p2,zOb]
   rw[y7l (by omega)]
 unfold o4g
 simp only[hx,zTn,y8k (t:=u0i) hk]
 rw[hstep]
 cases r0m (r3t l) m l[u[i]] with
 | true=>rfl
 | false=>exact⟨p3,rfl⟩
include hw
theorem q6i:t7i l=some (o48 l):=by
 rw[q2s];unfold s4d
 simp only[q6g hw (show l.length≤1048576 by omega),zOb,p4f hl]
 unfold o48
 cases ho:p53 l with
 | none=>rfl
 | some u=>
  obtain⟨g1,g2,_,_⟩:=p3d ho
  simp only[o0w,Ap,Aa,o4i hl hr g1 g2,zOb]
  cases p8b l u<;>rfl
theorem q6h:t7a l=some (o48 l):=by
 rw[q2l];unfold s37
 simp only[q6f hw (show l.length≤1048576 by omega),zOb]
 unfold o48
 cases ho:p53 l with
 | none=>rfl
 | some u=>
  obtain⟨g1,g2,_,_⟩:=p3d ho
  simp only[o0w,Ap,Aa,p4e hl,zOb,o4h hl hr g1 g2]
  cases p8b l u<;>rfl
end
end
section
abbrev Src:=Hu Int×Int×Int
def Src.ok (s:Src):Prop:=s.1.length≤1048576∧0≤s.2.1∧s.2.1≤(s.1.length:Int)
def KD (l:Hu u0o.den):Prop:=l.Pairwise fun a b=>a.1≠b.1
def j2r (t:u0i.den):Prop:=t.2.2.2.2.1.length≤3∧(∀r∈t.2.2.2.2.1,r.1.size≤2∧r.2.size≤2)∧t.2.2.2.2.2.1.length≤3∧(∀r∈t.2.2.2.2.2.1,r.1.size≤2∧r.2.1.size≤3)∧t.2.2.2.2.2.2.2.size≤16
def tId (t:u0i.den):Int:=t.1
def tSt (t:u0i.den):Int:=t.2.1
def j2s (t:u0i.den):Int:=t.2.2.1
def tCs (t:u0i.den):Int:=t.2.2.2.1
def o9t (t:u0i.den):Prop:=tSt t=3∧j2s t<tCs t∧KD t.2.2.2.2.2.1
def o92 (l:Hu u0i.den):Prop:=(∀t∈l,o9t t)∧l.Pairwise fun a b=>tId a≠tId b∧tCs a<tCs b
end
section
def j56 (m:Hu PrT):Prop:=m.Pairwise fun a b=>y3c a.1 b.1=true
theorem o5z {l:Hu u3a} {v x:u3a} :x∈o4k l v↔x=v∨x∈l:=by
 unfold o4k
 conv=>rhs;rw[←Fe (p:=t7p v) (l:=l)]
 simp only[Ay,Ax]
 constructor
 ·rintro((h | h) | h)
  ·exact .inr (.inl h)
  ·exact .inl h
  ·exact .inr (.inr h)
 ·rintro(h | h | h)
  ·exact .inl (.inr h)
  ·exact .inl (.inl h)
  ·exact .inr h
theorem p75 {x:u3a} :∀(ws:Hu u0o.den) (l:Hu u3a) (cs:Int),x∈r7q l ws cs↔x∈l∨ ∃w∈ws,x=(w.1,w.2.1,w.2.2,cs)
 | [],l,cs=>by simp[r7q]
 | w::ws,l,cs=>by
  have e:r7q l (w::ws) cs=r7q (o4k l (w.1,w.2.1,w.2.2,cs)) ws cs:=rfl
  rw[e,p75 ws,o5z]
  constructor
  ·rintro((h | h) | ⟨y,hy,h⟩)
   ·exact .inr ⟨w,by simp,h⟩
   ·exact .inl h
   ·exact .inr ⟨y,by simp[hy],h⟩
  ·rintro(h | ⟨y,hy,h⟩)
   ·exact .inl (.inr h)
   ·rcases A8.mp hy with rfl | hy
    ·exact .inl (.inl h)
    ·exact .inr ⟨y,hy,h⟩
def vCs (x:u3a):Int:=x.2.2.2
end
section
theorem twl {E:Type} (p:E→Bool):∀(l:Hu E),(l.takeWhile p).length≤l.length∧(∀(i:Nat) (h:i<l.length),i<(l.takeWhile p).length→p l[i] =true)∧
 (∀(h:(l.takeWhile p).length<l.length),p l[(l.takeWhile p).length] =false)
 | [] =>⟨Au _,fun i h=>absurd h (Ee i),fun h=>absurd h (Ee _)⟩
 | x::l=>by
  obtain⟨h1,h2,h3⟩:=twl p l
  cases hp:p x with
  | false=>
   simp only[F8,hp,Br,Bk,Cc]
   exact⟨Cn _,fun i _ h=>absurd h (Ee i),fun _=>hp⟩
  | true=>
   simp only[F8,hp,Bl,Bc]
   refine⟨by omega,fun i h k=> ?_,fun h=> ?_⟩
   ·cases i with
    | zero=>exact hp
    | succ i=>simpa using h2 i (by simpa using h) (by omega)
   ·simpa using h3 (by omega)
def u1e {E:Type} (p:E→Bool) (l:Hu E):Nat:=(l.takeWhile fun x=> !p x).length
theorem r7e {E:Type} (p:E→Bool) (l:Hu E):u1e p l≤l.length:=(twl _ l).1
theorem t57 {E:Type} {p:E→Bool} {l:Hu E} {i:Nat} (h:i<l.length) (hi:i<u1e p l):p l[i] =false:=by
 have:=(twl (fun x=> !p x) l).2.1 i h hi
 simpa using this
theorem s2e {E:Type} {p:E→Bool} {l:Hu E} (h:u1e p l<l.length):p l[u1e p l] =true:=by
 unfold u1e at h ⊢
 have:=(twl (fun x=> !p x) l).2.2 h
 simpa using this
theorem q9l {E:Type} (p:E→Bool) (l:Hu E):decide (u1e p l<l.length)=l.any p:=by
 cases hc:l.any p with
 | true=>
  obtain⟨x,hx,hp⟩:=Cm.mp hc
  obtain⟨i,hi,rfl⟩:=B7 hx
  have: ¬i<u1e p l:=fun q=>by rw[t57 hi q] at hp;cases hp
  simp only[Ar]
  omega
 | false=>
  simp only[Bu]
  intro h
  have:=s2e h
  have:=Ct.mp hc _ (Ag h)
  contradiction
theorem Q.first {T:Ty} {c:Type} {q:T.den×c→Ht Bool} {p:T.den→Bool} {W:Hu T.den×c×Int×Int→Ht (Unit⊕Int)}
 (hW:∀x,W x=(bif (decide (x.2.2.2<x.2.2.1)) then(bif (y4q x.2.2.2 x.1.length) then((q ((rdL T x.1 (x.2.2.2).toNat),x.2.1)).bind fun(y1:Bool)=>(bif y1 then(some (.inr x.2.2.2)) else(W (x.1,(x.2.1,(x.2.2.1,(IntKind.i64.wrap (x.2.2.2+(1:Int))))))))) else none) else(some (.inl ()))))
 (l:Hu T.den) (k:c) (hl:l.length≤1099511627776) (hq:∀x∈l,q (x,k)=some (p x)):
 W (l,k,(l.length:Int),0)=some (if u1e p l<l.length then .inr ((u1e p l:Nat):Int) else .inl ()):=by
 have hle:=r7e p l
 have:=s1i W (u1e p l) (fun(_:Unit) i=>(l,k,(l.length:Int),i)) (fun _ _=>if u1e p l<l.length then .inr ((u1e p l:Nat):Int) else .inl ()) (fun _ _=>True)
  (fun a _=>by
   rw[hW]
   by_cases hk:u1e p l<l.length
   ·simp only[u0b,hk,Ae,Ad,y7t hk,zTn,y8k hk,hq _ (Ag hk),s2e hk,zOb,Bl]
   ·simp only[u0b,hk,Ah,Aa,Bk])
  (fun i a hi _=> .inr ⟨(),trivial,rfl,by
   have hil:i<l.length:=by omega
   rw[hW]
   simp only[u0b,hil,Ae,Ad,y7t hil,zTn,y8k hil,hq _ (Ag hil),t57 hil hi,zOb,Aa]
   rw[y7l (by omega)]⟩) 0 () (Cn _) trivial
 exact this
theorem Q.delete {T:Ty} {c R:Type} {q:T.den×c→Ht Bool} {p:T.den→Bool} {W:Hu T.den×c×Int×Int→Ht ((Hu T.den×Int)⊕R)}
 (hW:∀x,W x=(bif (decide (x.2.2.2<(x.1.length:Int))) then(bif (y4q x.2.2.2 x.1.length) then((q ((rdL T x.1 (x.2.2.2).toNat),x.2.1)).bind fun(y2:Bool)=>(bif (!y2) then(bif (y4q x.2.2.1 x.1.length) then(W ((x.1.set (x.2.2.1).toNat (rdL T x.1 (x.2.2.2).toNat)),(x.2.1,((IntKind.i64.wrap (x.2.2.1+(1:Int))),(IntKind.i64.wrap (x.2.2.2+(1:Int))))))) else none) else(W (x.1,(x.2.1,(x.2.2.1,(IntKind.i64.wrap (x.2.2.2+(1:Int))))))))) else none) else(some (.inl (x.1,x.2.2.1)))))
 (l:Hu T.den) (k:c) (hl:l.length≤1099511627776) (hq:∀x∈l,q (x,k)=some (p x)) (hf:u1e p l<l.length):
 ∃a:Hu T.den,W (l,k,((u1e p l:Nat):Int),((u1e p l+1:Nat):Int))=some (.inl (a,((l.filter fun x=> !p x).length:Int)))∧a.length=l.length∧a.take (l.filter fun x=> !p x).length=l.filter fun x=> !p x:=by
 have key:∀(d j:Nat) (a:Hu T.den),j+d=l.length→a.length=l.length→a.drop j=l.drop j→((l.take j).filter fun x=> !p x).length≤j→((l.take j).filter fun x=> !p x).length<l.length→a.take ((l.take j).filter fun x=> !p x).length=(l.take j).filter (fun x=> !p x)→
  ((l.take j).filter fun x=> !p x).length<j→
  ∃a' :Hu T.den,W (a,k,(((l.take j).filter fun x=> !p x).length:Int),(j:Int))=some (.inl (a',((l.filter fun x=> !p x).length:Int)))∧a'.length=l.length∧a'.take (l.filter fun x=> !p x).length=l.filter fun x=> !p x:=by
  intro d
  induction d with
  | zero=>
   intro j a hj ha h1 h2 h3 h4 h5
   have e:j=l.length:=by omega
   subst e
   rw[Cq] at h4 ⊢
   rw[hW]
   simp only[ha,u0b,Am,Ah,Aa]
   exact⟨a,rfl,ha,h4⟩
  | succ d ih=>
   intro j a hj ha h1 h2 h3 h4 h5
   have hjl:j<l.length:=by omega
   have hja:j<a.length:=by omega
   have haj:a[j] =l[j] :=by
    have e1:=Ce hja
    have e2:=Ce hjl
    rw[h1,e2] at e1
    injection e1 with e1 _
    exact e1.symm
   have hs:l.take (j+1)=l.take j++ [l[j]] :=B9 hjl
   have hd:a.drop (j+1)=l.drop (j+1):=by
    have:=Dj List.tail h1
    simpa using this
   rw[hW]
   simp only[u0b,hja,Ae,Ad,y7t hja,zTn,y8k hja,haj,hq _ (Ag hjl),zOb]
   rw[y7l (i:=j) (by omega)]
   cases hp:p l[j] with
   | true=>
    simp only[Ap,Aa]
    have e:(l.take (j+1)).filter (fun x=> !p x)=(l.take j).filter fun x=> !p x:=by rw[hs,Hl,Di];simp only[hp,Ap,Br,Bk,List.filter_nil,Bw]
    have:=ih (j+1) a (by omega) ha hd (by rw[e];omega) (by rw[e];exact h3) (by rw[e];exact h4) (by rw[e];omega)
    rwa [e] at this
   | false=>
    have e:(l.take (j+1)).filter (fun x=> !p x)=(l.take j).filter (fun x=> !p x)++ [l[j]] :=by rw[hs,Hl,Di];simp only[hp,Bh,Bl,List.filter_nil]
    have el:((l.take (j+1)).filter fun x=> !p x).length=((l.take j).filter fun x=> !p x).length+1:=by rw[e];simp
    have hia:((l.take j).filter fun x=> !p x).length<a.length:=by omega
    simp only[Bh,Ad,y7t hia]
    rw[y7l (i:=((l.take j).filter fun x=> !p x).length) (by omega)]
    have:=ih (j+1) (a.set ((l.take j).filter fun x=> !p x).length l[j]) (by omega) (by simpa using ha) (by
     rw[List.drop_set_of_lt (by omega)]
     exact hd) (by rw[el];omega) (by rw[el];omega) (by
     rw[el,B9 (by simpa using hia),e]
     congr 1
     ·rw[List.take_set_of_le (Au _)]
      exact h4
     ·simp) (by rw[el];omega)
    rwa [el] at this
 have hk:=r7e p l
 have e:(l.take (u1e p l+1)).filter (fun x=> !p x)=l.take (u1e p l):=by
  rw[B9 hf,Hl]
  have h1:(l.take (u1e p l)).filter (fun x=> !p x)=l.take (u1e p l):=by
   rw[F9]
   intro x hx
   obtain⟨i,hi,rfl⟩:=B7 hx
   have hi' :i<u1e p l:=by have:=hi;rw[Ec] at this;omega
   rw[Fc,t57 (by omega) hi']
   rfl
  rw[h1]
  simp[s2e hf]
 have el:((l.take (u1e p l+1)).filter fun x=> !p x).length=u1e p l:=by rw[e,Ec];omega
 have:=key (l.length - (u1e p l+1)) (u1e p l+1) l (by omega) rfl rfl (by rw[el];omega) (by rw[el];exact hf) (by rw[el,e]) (by rw[el];omega)
 rwa [el] at this
end
section
def o0z (x y:u0g):Bool:=decide (x.2.1=3)&&decide (x.2.2.2.1≤y.2.2.1)
def q78 (a b:u0g):Bool:= !decide (a.1=b.1)&&(!o0z a b&& !o0z b a)
def ahead (a b:u0g):Bool:=q78 a b&&s3o a.2.2.2.2.1 b.2.2.2.2.2.1
def p54 (t:u0g) (l:Hu u0g):Bool:=l.any fun x=>decide (x.2.1=3)&&ahead t x
theorem p89 (a b:u0g):r0h (a,b)=some (q78 a b):=by
 rw[p5k];unfold q10 q78 o0z
 by_cases h1:a.1=b.1
 ·simp[h1]
 ·by_cases h2:a.2.1=3<;>by_cases h3:a.2.2.2.1≤b.2.2.1<;>by_cases h4:b.2.1=3<;>by_cases h5:b.2.2.2.1≤a.2.2.1<;>simp[h1,h2,h3,h4,h5]
theorem p88 (a b:u0g):s9y (a,b)=some (q78 a b):=by
 rw[p4p];unfold q04
 simp only[q8e,r4i]
 unfold q78 o0z
 by_cases h1:a.1=b.1
 ·simp[h1]
 ·by_cases h2:a.2.1=3<;>by_cases h3:a.2.2.2.1≤b.2.2.1<;>by_cases h4:b.2.1=3<;>by_cases h5:b.2.2.2.1≤a.2.2.1<;>simp[h1,h2,h3,h4,h5]
theorem p2r (a b:u0g) (ha:a.2.2.2.2.1.length≤u0e) (hb:b.2.2.2.2.2.1.length≤u0e):s46 (a,b)=some (ahead a b):=by
 rw[p7o];unfold q5q ahead
 have h1:=p89 a b
 have h2:=r4c _ _ ha hb
 simp only[h2,zOb]
 rw[h1]
 cases q78 a b<;>rfl
theorem p2q (a b:u0g) (ha:a.2.2.2.2.1.length≤u0e) (hb:b.2.2.2.2.2.1.length≤u0e):s4w (a,b)=some (ahead a b):=by
 rw[p7b];unfold q5e ahead
 have h1:=p88 a b
 have h2:=r4b _ _ ha hb
 simp only[h2,zOb]
 rw[h1]
 cases q78 a b<;>rfl
end
section
def p0p (t:u0g):Prop:=t.2.2.2.2.1.length≤1048576∧t.2.2.2.2.2.1.length≤1048576
def p6k (l:Hu u0g):Prop:=l.length≤4194304∧ ∀t∈l,p0p t
theorem p7w {n:Nat} (h:n≤1048576):n≤u0e:=by unfold u0e;omega
theorem p2y (t:u0g) (l:Hu u0g) (ht:p0p t) (hl:p6k l):s48 (t,l)=some (p54 t l):=by
 obtain⟨l1,l2⟩:=hl
 have L:=r4e t8z l (fun i=>(l,t,i)) (fun x=>decide (x.2.1=3)&&ahead t x) (.inr true) (.inl ())
  (by rw[r97];simp only[t8r,u0b,Am,Ah,Aa])
  (fun i hi=>by
   have h1:=p2r t l[i] (p7w ht.1) (p7w (l2 _ (Ag hi)).2)
   rw[r97]
   simp only[t8r,u0b,hi,Ae,Ad,y7t hi,zTn,y8k (t:=u0i) hi,h1,zOb]
   rw[y7l (by omega)]
   cases decide (l[i].2.1=3)<;>cases ahead t l[i] <;>rfl)
 rw[p7s];unfold q5u p54
 simp only[L,zOb]
 cases l.any fun x=>decide (x.2.1=3)&&ahead t x<;>rfl
theorem p2x (t:u0g) (l:Hu u0g) (ht:p0p t) (hl:p6k l):s4z (t,l)=some (p54 t l):=by
 obtain⟨l1,l2⟩:=hl
 have hq:∀x∈l,t83 (x,t)=some (decide (x.2.1=3)&&ahead t x):=fun x hx=>by
  have h1:=p2q t x (p7w ht.1) (p7w (l2 x hx).2)
  rw[p03];unfold r7z
  simp only[s9t,s9m,zOb,h1]
  cases decide (x.2.1=3)<;>rfl
 have L:=Q.first (T:=u0i) (c:=u0g) (W:=u1d) (q:=t83) (p:=fun x:u0g=>decide (x.2.1=3)&&ahead t x) (fun x=>u97 x) l t (by omega) hq
 rw[p7f];unfold q5i p54
 simp only[s7f,t5z,u82,u3r,t02,u4l,L,zOb]
 rw[←q9l]
 by_cases h:u1e (fun x:u0g=>decide (x.2.1=3)&&ahead t x) l<l.length
 ·simp[h]
 ·simp[h]
theorem t9k (t:u0g) (h:p0p t):u3m t=some t:=by
 rw[p2f];unfold r89
 simp only[Cc,Co,Cf,u0m (show t.2.2.2.2.1.length≤1099511627776 by have:=h.1;omega),u0m (show t.2.2.2.2.2.1.length≤1099511627776 by have:=h.2;omega),Ad]
theorem q7s (t:u0g) (h:p0p t):t3v t=some t:=by
 rw[p1h];unfold r8d
 simp only[u0m (show t.2.2.2.2.1.length≤1099511627776 by have:=h.1;omega),u0m (show t.2.2.2.2.2.1.length≤1099511627776 by have:=h.2;omega),Ad]
theorem q0b (l:Hu u0g) (h:p6k l):t32 l=some l:=by
 have L:=t9n t5g l (fun a i=>(l,a,i)) (fun _=>true) (fun x=>x) (fun a=> .inl a) (by have:=h.1;omega)
  (fun a _=>by rw[r3m];simp only[t41,u0b,Am,Ah,Aa])
  (fun i hi a ha=>by
   have h1:=t9k l[i] (h.2 _ (Ag hi))
   have:=h.1
   rw[r3m]
   simp only[t41,u0b,hi,Ae,Ad,y7t hi,zTn,y8k (t:=u0i) hi,h1,zOb,Aw,u0m (show a.length+1≤1099511627776 by omega)]
   rw[y7l (by omega)])
 rw[p2h];unfold r9b
 simp only[L,zOb]
 simp
theorem q0a (l:Hu u0g) (h:p6k l):t1h l=some l:=by
 have L:=t9n t2l l (fun a i=>(a,l,(l.length:Int),i)) (fun _=>true) (fun x=>x) (fun a=> .inl a) (by have:=h.1;omega)
  (fun a _=>by rw[s80];simp only[t1x,u0b,Am,Ah,Aa])
  (fun i hi a ha=>by
   have h1:=q7s l[i] (h.2 _ (Ag hi))
   have:=h.1
   rw[s80]
   simp only[t1x,u0b,hi,Ae,Ad,y7t hi,zTn,y8k (t:=u0i) hi,h1,zOb,Aw,u0m (show a.length+1≤1099511627776 by omega)]
   rw[y7l (by omega)])
 rw[q8r];unfold r4u
 simp only[L,zOb]
 simp
abbrev u0h:=Hu u3a×Hu u0g×Hu u0g×Int×Int
def p2m (b:u0h):Prop:=b.1.length≤4194304∧p6k b.2.1∧p6k b.2.2.1
theorem t71 (b:u0h) (h:p2m b):u2v b=some b:=by
 have h1:=q0b b.2.1 h.2.1
 have h2:=q0b b.2.2.1 h.2.2
 rw[p2g];unfold r9a
 simp only[Cc,Co,Cf,u0m (show b.1.length≤1099511627776 by have:=h.1;omega),Ad,h1,h2,zOb]
theorem t70 (b:u0h) (h:p2m b):u1f b=some b:=by
 have h1:=q0a b.2.1 h.2.1
 have h2:=q0a b.2.2.1 h.2.2
 rw[q8p];unfold r4s
 simp only[u0m (show b.1.length≤1099511627776 by have:=h.1;omega),Ad,h1,h2,zOb]
end
section
def s8i (b:u0h) (open_:Hu u0g):Int:=open_.foldl (fun m t=>if t.2.2.1<m then t.2.2.1 else m) b.2.2.2.1
theorem p9h (b:u0h) (o:Hu u0g) (h:o.length≤4194304):s3i (b,o)=some (s8i b o):=by
 have L:=u61 t2p o (fun a i=>(o,a,i)) (fun(m:Int) t=>if t.2.2.1<m then t.2.2.1 else m) (fun a=> .inl a) (fun _ _=>True)
  (fun a _=>by rw[s84];simp only[t12,u0b,Am,Ah,Aa])
  (fun i hi a _=>by
   refine⟨trivial,?_⟩
   rw[s84]
   simp only[t12,u0b,hi,Ae,Ad,y7t hi,zTn,y8k (t:=u0i) hi]
   rw[y7l (by omega)]
   by_cases hc:o[i].2.2.1<a
   ·simp only[hc,Ae,Ad,Bl]
   ·simp only[hc,Ah,Aa,Bk]) b.2.2.2.1 trivial
 rw[q89];unfold r5c
 simp only[L,zOb]
 rfl
theorem p9g (b:u0h) (o:Hu u0g) (h:o.length≤4194304):s2x (b,o)=some (s8i b o):=by
 have L:=u61 t2g o (fun a i=>(a,o,(o.length:Int),i)) (fun(m:Int) t=>if t.2.2.1<m then t.2.2.1 else m) (fun a=> .inl a) (fun _ _=>True)
  (fun a _=>by rw[s8t];simp only[t1q,u0b,Am,Ah,Aa])
  (fun i hi a _=>by
   refine⟨trivial,?_⟩
   rw[s8t]
   simp only[t1q,u0b,hi,Ae,Ad,y7t hi,zTn,y8k (t:=u0i) hi]
   rw[y7l (by omega)]
   have e:y8i a o[i].2.2.1=if o[i].2.2.1<a then o[i].2.2.1 else a:=by
    unfold y8i
    split<;>rfl
   rw[e]) b.2.2.2.1 trivial
 rw[q8i];unfold r4m
 simp only[L,zOb]
 rfl
def u1g (b:u0h) (n:Hs):Int:=if u1e (fun x:u0g=>z7o x.2.2.2.2.2.2.2 n) b.2.2.1<b.2.2.1.length then((u1e (fun x:u0g=>z7o x.2.2.2.2.2.2.2 n) b.2.2.1:Nat):Int) else -1
theorem r30 (b:u0h) (n:Hs) (h:b.2.2.1.length≤4194304):t3t (b,n)=some (u1g b n):=by
 have hq:∀x∈b.2.2.1,t5k (x,n)=some (z7o x.2.2.2.2.2.2.2 n):=fun x _=>by
  rw[q6t];unfold r0z;rfl
 have L:=Q.first (T:=u0i) (c:=Hs) (W:=u06) (q:=t5k) (p:=fun x:u0g=>z7o x.2.2.2.2.2.2.2 n) (fun x=>u8b x) b.2.2.1 n (by omega) hq
 rw[p08];unfold r74 u1g
 simp only[u90,u36,L,zOb]
 by_cases hk:u1e (fun x:u0g=>z7o x.2.2.2.2.2.2.2 n) b.2.2.1<b.2.2.1.length
 ·simp only[Al hk,zOb]
 ·simp only[Ao hk,zOb]
theorem r31 (b:u0h) (n:Hs) (h:b.2.2.1.length≤4194304):t3z (b,n)=some (u1g b n):=by
 have L:=s1i u9q (u1e (fun x:u0g=>z7o x.2.2.2.2.2.2.2 n) b.2.2.1) (fun(_:Unit) i=>(n,b,i)) (fun _ _=>if u1e (fun x:u0g=>z7o x.2.2.2.2.2.2.2 n) b.2.2.1<b.2.2.1.length then .inr ((u1e (fun x:u0g=>z7o x.2.2.2.2.2.2.2 n) b.2.2.1:Nat):Int) else .inl ()) (fun _ _=>True)
  (fun a _=>by
   have hle:=r7e (fun x:u0g=>z7o x.2.2.2.2.2.2.2 n) b.2.2.1
   rw[r3e]
   by_cases hk:u1e (fun x:u0g=>z7o x.2.2.2.2.2.2.2 n) b.2.2.1<b.2.2.1.length
   ·have hy:=s2e hk
    simp only[u9d,u0b,hk,Ae,Ad,y7t hk,zTn,y8k (t:=u0i) hk,hy,Bl]
   ·simp only[u9d,u0b,hk,Ah,Aa,Bk])
  (fun i a hi _=> .inr ⟨(),trivial,rfl,by
   have hle:=r7e (fun x:u0g=>z7o x.2.2.2.2.2.2.2 n) b.2.2.1
   have hil:i<b.2.2.1.length:=by omega
   have hn:=t57 hil hi
   rw[r3e]
   simp only[u9d,u0b,hil,Ae,Ad,y7t hil,zTn,y8k (t:=u0i) hil,hn,Aa]
   rw[y7l (by omega)]⟩) 0 () (Cn _) trivial
 have L:u9q (n,b,0)=_:=L
 rw[p14];unfold r8x u1g
 simp only[L,zOb]
 by_cases hk:u1e (fun x:u0g=>z7o x.2.2.2.2.2.2.2 n) b.2.2.1<b.2.2.1.length
 ·simp only[Al hk]
 ·simp only[Ao hk]
end
section
def o7y (l:Hu u3a) (snap:Int) (i:Nat):Bool:=decide ((rdL u0c l i).2.2.2 >snap) || decide (s02 l (rdL u0c l i).1 snap=(i:Int))
def trA (l:Hu u3a) (snap:Int):Nat→Hu u3a
 | 0=> []
 | n+1=>if o7y l snap n=true then trA l snap n++ [rdL u0c l n] else trA l snap n
theorem q4p (l:Hu u3a) (snap:Int):∀n,(trA l snap n).length≤n
 | 0=>Au _
 | n+1=>by
  have:=q4p l snap n
  simp only[trA]
  split
  ·simp;omega
  ·omega
def o62 (l:Hu u3a) (k:Hs):Nat:=(l.filter fun v=>z7o v.1 k).length
def o35 (l:Hu u3a) (snap:Int) (v:u3a):Bool:= !v.2.2.1 || (decide (v.2.2.2 >snap) || decide ((o62 l v.1:Int) >1))
def r6t (l:Hu u3a) (snap:Int):Hu u3a:=(trA l snap l.length).filter (o35 (trA l snap l.length) snap)
theorem o2q (l:Hu u3a) (snap:Int) (hl:l.length≤8388608):u9s (l,snap, [],0)=some (.inl (snap,trA l snap l.length)):=
 q72 u9s l.length (fun a i=>(l,snap,a,i)) (fun i=>trA l snap i) (.inl (snap,trA l snap l.length))
  (by rw[r3i];simp only[t4x,u0b,Am,Ah,Aa])
  (fun i hi=>by
   have hL:=q9s l (rdL u0c l i).1 snap (by omega)
   have hn:=q4p l snap i
   rw[r3i]
   simp only[t4x,u0b,hi,Ae,Ad,y7t hi,zTn,hL,zOb,Aw,u0m (show(trA l snap i).length+1≤1099511627776 by omega)]
   rw[y7l (by omega)]
   simp only[trA,o7y]
   by_cases h1:(rdL u0c l i).2.2.2 >snap
   ·simp[h1]
   ·by_cases h2:s02 l (rdL u0c l i).1 snap=(i:Int)<;>simp[h1,h2])
theorem o2p (l:Hu u3a) (snap:Int) (hl:l.length≤8388608):u9j (l,snap, [],l,(l.length:Int),0)=some (.inl (snap,trA l snap l.length)):=
 q72 u9j l.length (fun a i=>(l,snap,a,l,(l.length:Int),i)) (fun i=>trA l snap i) (.inl (snap,trA l snap l.length))
  (by rw[r22];simp only[t4i,u0b,Am,Ah,Aa])
  (fun i hi=>by
   have hL:=q9r l (rdL u0c l i).1 snap (by omega)
   have hn:=q4p l snap i
   rw[r22]
   simp only[t4i,u0b,hi,Ae,Ad,y7t hi,zTn,hL,zOb,Aw,u0m (show(trA l snap i).length+1≤1099511627776 by omega)]
   rw[y7l (by omega)]
   simp only[trA,o7y]
   by_cases h1:(rdL u0c l i).2.2.2 >snap
   ·simp[h1]
   ·by_cases h2:s02 l (rdL u0c l i).1 snap=(i:Int)<;>simp[h1,h2])
end
section
theorem q79 (k:Hs):∀(l:Hu u3a) (a:Nat),l.foldl (fun(a:Nat) v=>if z7o v.1 k=true then a+1 else a) a=a+o62 l k
 | [],a=>by simp[o62]
 | x::l,a=>by
  rw[Bs,q79 k l]
  unfold o62
  cases hc:z7o x.1 k with
  | true=>simp[Di,hc];omega
  | false=>simp[Di,hc]
theorem o2s (s out:Hu u3a) (snap:Int) (i:Nat) (hi:i<s.length) (hl:s.length≤8388608):
 u7t (snap,s,out,(i:Int),0,0)=some (.inl (snap,s,out,(i:Int),(o62 s s[i].1:Int))):=by
 have L:=u61 u7t s (fun(a:Nat) j=>(snap,s,out,(i:Int),(a:Int),j)) (fun(a:Nat) v=>if z7o v.1 s[i].1=true then a+1 else a) (fun a=> .inl (snap,s,out,(i:Int),(a:Int))) (fun j a=>a≤j)
  (fun a _=>by rw[s9b];simp only[t19,u0b,Am,Ah,Aa])
  (fun j hj a ha=>by
   rw[s9b]
   simp only[t19,u0b,hj,Ae,Ad,y7t hj,y7t hi,zTn,y8k (t:=u0c) hj,y8k (t:=u0c) hi]
   rw[y7l (i:=j) (by omega),y7l (i:=a) (by omega)]
   cases z7o s[j].1 s[i].1 with
   | true=>simp only[Ad,Bl];exact⟨by omega,trivial⟩
   | false=>simp only[Aa,Br,Bk];exact⟨by omega,trivial⟩) 0 (Cn _)
 rw[q79,Co] at L
 exact L
theorem o2r (s:Hu u3a) (k:Hs) (hl:s.length≤8388608):s0f (k,s)=some (o62 s k:Int):=by
 have L:=u61 u6n s (fun(a:Nat) j=>(k,(a:Int),s,(s.length:Int),j)) (fun(a:Nat) v=>if z7o v.1 k=true then a+1 else a) (fun a=> .inl (a:Int)) (fun j a=>a≤j)
  (fun a _=>by rw[s5i];simp only[t0k,u0b,Am,Ah,Aa])
  (fun j hj a ha=>by
   rw[s5i]
   simp only[t0k,u0b,hj,Ae,Ad,y7t hj,zTn,y8k (t:=u0c) hj]
   rw[y7l (i:=j) (by omega),y7l (i:=a) (by omega)]
   cases z7o s[j].1 k with
   | true=>simp only[Ad,Bl];exact⟨by omega,trivial⟩
   | false=>simp only[Aa,Br,Bk];exact⟨by omega,trivial⟩) 0 (Cn _)
 rw[q79,Co] at L
 have L:u6n (k,0,s,(s.length:Int),0)=_:=L
 rw[q6x];unfold r02
 simp only[L,zOb]
theorem p64 (l:Hu u3a) (snap:Int) (hl:l.length≤8388608):s6a (l,snap)=some (r6t l snap):=by
 have hs:(trA l snap l.length).length≤8388608:=A9 (q4p _ _ _) hl
 obtain⟨s,hse⟩:∃s,s=trA l snap l.length:=⟨_,rfl⟩
 rw[←hse] at hs
 have L:=t9n t2r s (fun a i=>(snap,s,a,i)) (o35 s snap) (fun v=>v) (fun a=> .inl a) (by omega)
  (fun a _=>by rw[s9a];simp only[t18,u0b,Am,Ah,Aa])
  (fun i hi a ha=>by
   rw[s9a]
   simp only[t18,u0b,hi,Ae,Ad,o2s s a snap i hi hs,zOb,y7t hi,zTn,y8k (t:=u0c) hi,Aw,u0m (show a.length+1≤1099511627776 by omega)]
   rw[y7l (by omega)]
   unfold o35
   cases h1:s[i].2.2.1 with
   | false=>simp
   | true=>
    by_cases h2:s[i].2.2.2 >snap
    ·simp[h2]
    ·by_cases h3:(o62 s s[i].1:Int) >1<;>simp[h2,h3])
 rw[Er] at L
 have hA:=o2q l snap hl
 rw[←hse] at hA
 rw[p19];unfold r82 r6t
 rw[←hse]
 simp only[hA,L,zOb]
theorem p63 (l:Hu u3a) (snap:Int) (hl:l.length≤8388608):s5z (l,snap)=some (r6t l snap):=by
 have hs:(trA l snap l.length).length≤8388608:=A9 (q4p _ _ _) hl
 obtain⟨s,hse⟩:∃s,s=trA l snap l.length:=⟨_,rfl⟩
 rw[←hse] at hs
 have L:=t9n t2j s (fun a i=>(snap,s,a,s,(s.length:Int),i)) (o35 s snap) (fun v=>v) (fun a=> .inl a) (by omega)
  (fun a _=>by rw[s8x];simp only[t1u,u0b,Am,Ah,Aa])
  (fun i hi a ha=>by
   rw[s8x]
   simp only[t1u,u0b,hi,Ae,Ad,o2r s _ hs,zOb,y7t hi,zTn,y8k (t:=u0c) hi,Aw,u0m (show a.length+1≤1099511627776 by omega)]
   rw[y7l (by omega)]
   unfold o35
   cases h1:s[i].2.2.1 with
   | false=>simp
   | true=>
    by_cases h2:s[i].2.2.2 >snap
    ·simp[h2]
    ·by_cases h3:(o62 s s[i].1:Int) >1<;>simp[h2,h3])
 rw[Er] at L
 have hA:=o2p l snap hl
 rw[←hse] at hA
 rw[p1d];unfold r79 r6t
 rw[←hse]
 simp only[hA,L,zOb]
theorem o0a (l:Hu u3a) (snap:Int):(r6t l snap).length≤l.length:=A9 (Cs _ _) (q4p _ _ _)
end
section
def vLt (a b:u3a):Prop:=y3c a.1 b.1=true∨(a.1=b.1∧vCs a<vCs b)
def j27 (l:Hu u3a):Prop:=l.Pairwise vLt
def j5x (l:Hu u3a) (s:Int) (x:u3a):Prop:=vCs x≤s∧ ∀y∈l,y.1=x.1→vCs y≤s→vCs y≤vCs x
theorem o4y (l:Hu u3a) (s:Int):∀n,n≤l.length→(trA l s n).Sublist (l.take n)
 | 0,_=>by simp[trA]
 | n+1,h=>by
  have ih:=o4y l s n (by omega)
  have hn:n<l.length:=by omega
  rw[B9 hn]
  simp only[trA]
  split
  ·rw[y8k (t:=u0c) hn]
   exact ih.append (Dm _)
  ·exact ih.trans (List.sublist_append_left _ _)
theorem o0b (l:Hu u3a) (s:Int):(r6t l s).Sublist l:=by
 have h:=o4y l s l.length (Au _)
 rw[Cq] at h
 exact Fg.trans h
end
section
abbrev p20:=Hs×Hs
abbrev WrT:=Hs×Hs×Bool
abbrev p0o:=u0h×Hu u0g
def inB (x lo hi:Int):Bool:=decide (lo≤x)&&decide (x≤hi)
theorem q9n {x lo hi:Int} :inB x lo hi=true↔lo≤x∧x≤hi:=by simp[inB]
def t9s (s:Hs):Bool:=s.data.toList.all (fun b=>decide (97≤b.toNat)&&decide (b.toNat≤122))&&(decide (1≤s.size)&&decide (s.size≤3))
def t5v (r:p20):Bool:=t9s r.1&&(t9s r.2&&(y3c r.1 r.2 || z7o r.1 r.2))
def t1n (w:WrT):Bool:=t9s w.1&&(decide (w.2.1.size≤12)&&(!w.2.2 || decide (w.2.1.size=0)))
def p0y (t:Ty) (lt:t.den→t.den→Bool) (l:Hu t.den):Bool:=(List.range l.length).all fun i=>decide (i=0) || lt (rdL t l (i - 1)) (rdL t l i)
def t7r (l:Hu WrT):Bool:=l.all t1n&&(p0y u0o (fun a b=>y3c a.1 b.1) l&&decide (l.length≤8))
def u5r (t:u0g):Bool:=
 inB t.1 1 9999&&(inB t.2.1 1 3&&(inB t.2.2.1 0 9999&&(decide (t.2.2.2.2.1.length≤8)&&(t7r t.2.2.2.2.2.1&&(t.2.2.2.2.1.all t5v&&
 ((if t.2.1=3 then inB t.2.2.2.1 (t.2.2.1+1) 9999 else decide (t.2.2.2.1=0))&&((if t.2.1=2 then t9s t.2.2.2.2.2.2.2 else decide (t.2.2.2.2.2.2.2.size=0))&&(!decide (t.2.1=1) || !t.2.2.2.2.2.2.1))))))))
def q4r (v:u3a):Bool:=t9s v.1&&(decide (v.2.1.size≤12)&&((!v.2.2.1 || decide (v.2.1.size=0))&&inB v.2.2.2 1 9999))
def s5e (a b:u3a):Bool:=y3c a.1 b.1 || (z7o a.1 b.1&&decide (a.2.2.2<b.2.2.2))
def t0d (l:Hu u3a):Bool:=l.all q4r&&(p0y u0c s5e l&&decide (l.length≤120))
def q0i (l:Hu Int) (below:Int):Bool:=decide (∀x∈l,x<below)&&decide l.Nodup
def o00 (c:Int) (l:Hu u0g):Bool:=decide (l.length≤12)&&(l.all (fun t=>u5r t&&(decide (t.2.1=3)&&decide (t.2.2.2.1≤c)))&&p0y u0i (fun a b=>decide (a.2.2.2.1<b.2.2.2.1)) l)
def p6b (c:Int) (l:Hu u0g):Bool:=decide (l.length≤3)&&(l.all (fun t=>u5r t&&(decide (t.2.1=2)&&decide (t.2.2.1≤c)))&&p0y u0i (fun a b=>y3c a.2.2.2.2.2.2.2 b.2.2.2.2.2.2.2) l)
def o0v (c:Int) (l:Hu u0g):Bool:=decide (l.length≤4)&&(l.all (fun t=>u5r t&&(decide (t.2.1=1)&&decide (t.2.2.1≤c)))&&p0y u0i (fun a b=>decide (a.1<b.1)) l)
def u85 (l:Hu u0g):Hu Int:=l.map fun t=>t.1
def u6r (b:u0h):Bool:=t0d b.1&&(b.1.all (fun v=>decide (v.2.2.2≤b.2.2.2.1))&&(inB b.2.2.2.1 0 9999&&(inB b.2.2.2.2 1 9999&&(o00 b.2.2.2.1 b.2.1&&(p6b b.2.2.2.1 b.2.2.1&&q0i (u85 (b.2.1++b.2.2.1)) b.2.2.2.2)))))
def p5x (e:p0o):Bool:=u6r e.1&&(o0v e.1.2.2.2.1 e.2&&q0i (u85 (e.1.2.1++e.1.2.2.1++e.2)) e.1.2.2.2.2)
theorem p4k {t:Ty} {lt:t.den→t.den→Bool} (tr:∀a b c,lt a b=true→lt b c=true→lt a c=true) {l:Hu t.den} :p0y t lt l=true↔l.Pairwise fun a b=>lt a b=true:=by
 unfold p0y
 rw[Bg]
 constructor
 ·intro h
  have step:∀(i:Nat) (hi:i+1<l.length),lt l[i] l[i+1] =true:=fun i hi=>by
   have:=h (i+1) (Bq.mpr hi)
   rw[Cr,Ar] at this
   rcases this with q | q
   ·omega
   ·rw[Nat.add_sub_cancel,y8k (show i<l.length by omega),y8k hi] at q
    exact q
  rw[Cp]
  intro i j hi hj hij
  obtain⟨d,rfl⟩:∃d,j=i+1+d:=⟨j - (i+1),by omega⟩
  clear hij
  induction d with
  | zero=>exact step i hj
  | succ d ih=>exact tr _ _ _ (ih (by omega)) (step (i+1+d) hj)
 ·intro h i hi
  have hi:=Bq.mp hi
  rw[Cr,Ar]
  by_cases e:i=0
  ·exact .inl e
  ·refine .inr ?_
   rw[y8k (show i - 1<l.length by omega),y8k hi]
   exact Cp.mp h (i - 1) i (by omega) hi (by omega)
theorem u6d {s:Hs} (h:t9s s=true):1≤s.size∧s.size≤3:=by
 unfold t9s at h
 simp only[Ai,Ar] at h
 exact h.2
structure TxnR (t:u0g):Prop where
 id:1≤t.1∧t.1≤9999
 st:1≤t.2.1∧t.2.1≤3
 snap:0≤t.2.2.1∧t.2.2.1≤9999
 rlen:t.2.2.2.2.1.length≤8
 ws:t7r t.2.2.2.2.2.1=true
 rs:∀r∈t.2.2.2.2.1,t5v r=true
 done:t.2.1=3→t.2.2.1+1≤t.2.2.2.1∧t.2.2.2.1≤9999
 nocs:t.2.1≠3→t.2.2.2.1=0
 name:t.2.1=2→t9s t.2.2.2.2.2.2.2=true
 noname:t.2.1≠2→t.2.2.2.2.2.2.2.size=0
 out:t.2.1=1→t.2.2.2.2.2.2.1=false
theorem q29 {t:u0g} :u5r t=true↔TxnR t:=by
 unfold u5r
 simp only[Ai,Cr,q9n,Ar,Bg,Bj,Bu]
 constructor
 ·rintro⟨h1,h2,h3,h4,h5,h6,h7,h8,h9⟩
  refine⟨h1,h2,h3,h4,h5,h6,fun e=> ?_,fun e=> ?_,fun e=> ?_,fun e=> ?_,fun e=> ?_⟩
  ·rw[Al e,q9n] at h7;exact h7
  ·rw[Ao e,Ar] at h7;exact h7
  ·rw[Al e] at h8;exact h8
  ·rw[Ao e,Ar] at h8;exact h8
  ·rcases h9 with h9 | h9
   ·exact absurd e h9
   ·exact h9
 ·intro h
  refine⟨h.id,h.st,h.snap,h.rlen,h.ws,h.rs,?_,?_,?_⟩
  ·split
   ·rename_i e;rw[q9n];exact h.done e
   ·rename_i e;rw[Ar];exact h.nocs e
  ·split
   ·rename_i e;exact h.name e
   ·rename_i e;rw[Ar];exact h.noname e
  ·by_cases e:t.2.1=1
   ·exact .inr (h.out e)
   ·exact .inl e
theorem o7a {l:Hu WrT} :t7r l=true↔(∀w∈l,t1n w=true)∧(l.Pairwise fun a b=>y3c a.1 b.1=true)∧l.length≤8:=by
 unfold t7r
 rw[Ai,Ai,Ar,Bg,p4k (t:=u0o) (lt:=fun a b=>y3c a.1 b.1) (fun a b c h k=>p3o h k)]
theorem o2u {a b:u3a} :s5e a b=true↔vLt a b:=by
 unfold s5e vLt vCs
 rw[Cr,Ai,Ar,y7f]
theorem j0e {a b c:u3a} (h:vLt a b) (k:vLt b c):vLt a c:=by
 rcases h with h | ⟨h,h'⟩<;>rcases k with k | ⟨k,k'⟩
 ·exact .inl (p3o h k)
 ·exact .inl (k ▸ h)
 ·exact .inl (h ▸ k)
 ·exact .inr ⟨h.trans k,by omega⟩
theorem o49 {l:Hu u3a} :t0d l=true↔(∀v∈l,q4r v=true)∧j27 l∧l.length≤120:=by
 unfold t0d
 rw[Ai,Ai,Ar,Bg,p4k (t:=u0c) (lt:=s5e) (fun a b c h k=>o2u.mpr (j0e (o2u.mp h) (o2u.mp k)))]
 unfold j27
 simp only[o2u]
theorem r5r {l:Hu Int} {n:Int} :q0i l n=true↔(∀x∈l,x<n)∧l.Nodup:=by
 unfold q0i;rw[Ai,Ar,Ar]
structure BaseR (b:u0h):Prop where
 vs:t0d b.1=true
 vcs:∀v∈b.1,v.2.2.2≤b.2.2.2.1
 cs:0≤b.2.2.2.1∧b.2.2.2.1≤9999
 next:1≤b.2.2.2.2∧b.2.2.2.2≤9999
 plen:b.2.1.length≤12
 past:∀t∈b.2.1,TxnR t∧t.2.1=3∧t.2.2.2.1≤b.2.2.2.1
 pasc:b.2.1.Pairwise fun x y=>x.2.2.2.1<y.2.2.2.1
 rlen:b.2.2.1.length≤3
 ready:∀t∈b.2.2.1,TxnR t∧t.2.1=2∧t.2.2.1≤b.2.2.2.1
 rasc:b.2.2.1.Pairwise fun x y=>y3c x.2.2.2.2.2.2.2 y.2.2.2.2.2.2.2=true
 below:∀x∈u85 (b.2.1++b.2.2.1),x<b.2.2.2.2
 nodup:(u85 (b.2.1++b.2.2.1)).Nodup
theorem j2o {l:Hu u0g} {f:u0g→Int} :p0y u0i (fun a b=>decide (f a<f b)) l=true↔l.Pairwise fun x y=>f x<f y:=by
 rw[p4k (t:=u0i) (lt:=fun a b=>decide (f a<f b)) (fun a b c h k=>by simp only[Ar] at*;omega)]
 simp only[Ar]
theorem j5v {l:Hu u0g} :p0y u0i (fun a b=>y3c a.2.2.2.2.2.2.2 b.2.2.2.2.2.2.2) l=true↔l.Pairwise fun x y=>y3c x.2.2.2.2.2.2.2 y.2.2.2.2.2.2.2=true:=
 p4k (t:=u0i) (lt:=fun a b=>y3c a.2.2.2.2.2.2.2 b.2.2.2.2.2.2.2) (fun a b c h k=>p3o h k)
theorem p25 {b:u0h} :u6r b=true↔BaseR b:=by
 unfold u6r o00 p6b
 simp only[Ai,q9n,Ar,Bg,q29,r5r,j5v]
 rw[j2o (f:=fun t=>t.2.2.2.1)]
 constructor
 ·rintro⟨h1,h2,h3,h4,⟨h5,h6,h7⟩,⟨h8,h9,h10⟩,h11,h12⟩
  exact⟨h1,h2,h3,h4,h5,h6,h7,h8,h9,h10,h11,h12⟩
 ·intro h
  exact⟨h.vs,h.vcs,h.cs,h.next,⟨h.plen,h.past,h.pasc⟩,⟨h.rlen,h.ready,h.rasc⟩,h.below,h.nodup⟩
structure EngR (e:p0o):Prop where
 base:BaseR e.1
 olen:e.2.length≤4
 open_:∀t∈e.2,TxnR t∧t.2.1=1∧t.2.2.1≤e.1.2.2.2.1
 oasc:e.2.Pairwise fun x y=>x.1<y.1
 below:∀x∈u85 (e.1.2.1++e.1.2.2.1++e.2),x<e.1.2.2.2.2
 nodup:(u85 (e.1.2.1++e.1.2.2.1++e.2)).Nodup
theorem o9u {e:p0o} :p5x e=true↔EngR e:=by
 unfold p5x o0v
 simp only[Ai,Ar,Bg,q29,r5r,p25]
 rw[j2o (f:=fun t=>t.1)]
 constructor
 ·rintro⟨h1,⟨h2,h3,h4⟩,h5,h6⟩
  exact⟨h1,h2,h3,h4,h5,h6⟩
 ·intro h
  exact⟨h.base,⟨h.olen,h.open_,h.oasc⟩,h.below,h.nodup⟩
end
section
theorem u73 (l:Hu Int):(y7g l).size=l.length:=by
 simp[y7g,ByteArray.size]
theorem o0l {s:Hs} {i:Nat} (h:i<s.size):s.data.toList.getD i 0=s.data.toList[i]'(by simpa using h):=by
 rw[A5,A4 (by simpa using h)]
 rfl
theorem j2t (n m:Nat):Int.tdiv (n:Int) (m:Int)=((n / m:Nat):Int):=(Int.ofNat_tdiv n m).symm
theorem o8h (n m:Nat):Int.tmod (n:Int) (m:Int)=((n % m:Nat):Int):=(Int.ofNat_tmod n m).symm
theorem o6n {n:Nat} (h:n<256):IntKind.u8.wrap (n:Int)=(n:Int):=by
 simp[IntKind.wrap,IntKind.bits,IntKind.signed]
 omega
end
end
end Go.Proofs.YtkdpclfhapphhaaGreat.Ab
