import Derived.Test.YtkdpclfhapphhaaGreatAbRecordsG2
import Derived.Test.YtkdpclfhapphhaaGreatAbK2
import Derived.Test.YtkdpclfhapphhaaGreatAbF4
import Derived.Test.YtkdpclfhapphhaaGreatAbS2
import Derived.Test.YtkdpclfhapphhaaGreatAbS3
namespace Go.Proofs.YtkdpclfhapphhaaGreat.Ab
open Go
set_option linter.unusedVariables false
set_option linter.unusedSimpArgs false
set_option linter.unnecessarySimpa false
section
section
theorem q9i (n:Int):IntKind.u8.wrap n=n % 256:=by
 simp[IntKind.wrap,IntKind.bits,IntKind.signed]
theorem u0b (a b:Nat):decide ((a:Int)<(b:Int))=decide (a<b):=by simp
theorem r7d {X R A:Type} (W:X→Ht R) (n:Nat) (mk:A→Int→X) (res:Nat→A→R) (P:Nat→A→Prop)
 (hend:∀a,P n a→W (mk a (n:Int))=some (res n a))
 (hstep:∀(i:Nat) a,i<n→P i a→W (mk a (i:Int))=some (res i a)∨ ∃a',P (i+1) a' ∧res (i+1) a' =res i a∧W (mk a (i:Int))=W (mk a' ((i+1:Nat):Int))):
 ∀(i:Nat) a,i≤n→P i a→W (mk a (i:Int))=some (res i a):=by
 intro i a hi hP
 obtain⟨d,hd⟩:∃d,i+d=n:=⟨n - i,by omega⟩
 clear hi
 induction d generalizing i a with
 | zero=>
  have:i=n:=by omega
  subst this
  exact hend a hP
 | succ d ih=>
  rcases hstep i a (by omega) hP with h | ⟨a',h1,h2,h3⟩
  ·exact h
  ·rw[h3,ih (i+1) a' h1 (by omega),h2]
def p5v {E A R:Type} (f:Nat→E→A→A⊕R) (fin:A→R):Nat→Hu E→A→R
 | _, [],a=>fin a
 | i,x::l,a=>match f i x a with
  | .inl a' =>p5v f fin (i+1) l a'
  | .inr r=>r
theorem p5n {X R A E:Type} (W:X→Ht R) (l:Hu E) (mk:A→Int→X) (f:Nat→E→A→A⊕R) (fin:A→R) (P:Nat→A→Prop)
 (hend:∀a,P l.length a→W (mk a (l.length:Int))=some (fin a))
 (hstep:∀(i:Nat) (h:i<l.length) a,P i a→match f i l[i] a with
  | .inl a' =>P (i+1) a' ∧W (mk a (i:Int))=W (mk a' ((i+1:Nat):Int))
  | .inr r=>W (mk a (i:Int))=some r) (a:A) (hP:P 0 a):W (mk a 0)=some (p5v f fin 0 l a):=by
 have key:=r7d W l.length mk (fun i a=>p5v f fin i (l.drop i) a) P (fun a h=>by
  rw[hend a h,Dp (Au _)];rfl) (fun i a hi hP=>by
   have hs:=hstep i hi a hP
   have hd:l.drop i=l[i] ::l.drop (i+1):=Ce hi
   rw[hd]
   simp only[p5v]
   cases hf:f i l[i] a with
   | inl a' =>
    rw[hf] at hs
    exact .inr ⟨a',hs.1,rfl,hs.2⟩
   | inr r=>
    rw[hf] at hs
    exact .inl hs) 0 a (Cn _) hP
 exact key
def szr (b:Int) (w:Nat):Int:=if(w:Int)≤b then b - w else -1
def Ty.wt:(t:Ty)→t.den→Nat
 | .int _,_=>0
 | .bool,_=>0
 | .str,s=>s.size
 | .sl e,l=>l.length+(l.map e.wt).sum
 | .pair a b,x=>a.wt x.1+b.wt x.2
theorem s6c {X R E:Type} (W:X→Ht R) (l:Hu E) (mk:Int→X) (p:E→Bool) (yes no:R) (hend:W (mk (l.length:Int))=some no)
 (hstep:∀(i:Nat) (h:i<l.length),W (mk (i:Int))=bif p l[i] then some yes else W (mk ((i+1:Nat):Int))):W (mk 0)=some (bif l.any p then yes else no):=by
 have:=p5n W l (fun(_:Unit) i=>mk i) (fun _ x _=>if p x then .inr yes else .inl ()) (fun _=>no) (fun _ _=>True) (fun _ _=>hend) (fun i h a _=>by
  have hs:=hstep i h
  cases hp:p l[i] with
  | true=>simp only[hp,Ad] at hs;simp only[Bl];exact hs
  | false=>simp only[hp,Aa] at hs;simp only[Br,Bk];exact⟨trivial,hs⟩) () trivial
 rw[this]
 congr 1
 have key:∀(l:Hu E) (i:Nat),p5v (fun _ x (_:Unit)=>if p x then .inr yes else .inl ()) (fun _=>no) i l ()=bif l.any p then yes else no:=by
  intro l
  induction l with
  | nil=>intro i;rfl
  | cons x l ih=>
   intro i
   simp only[p5v,Gd]
   cases hp:p x with
   | true=>simp
   | false=>simp only[Br,Bk,Ci];exact ih _
 exact key l 0
theorem t2v {X R E A:Type} (W:X→Ht R) (l:Hu E) (mk:A→Int→X) (f:A→E→A) (fin:A→R) (P:Nat→A→Prop)
 (hend:∀a,P l.length a→W (mk a (l.length:Int))=some (fin a))
 (hstep:∀(i:Nat) (h:i<l.length) a,P i a→P (i+1) (f a l[i])∧W (mk a (i:Int))=W (mk (f a l[i]) ((i+1:Nat):Int))) (a:A) (hP:P 0 a):W (mk a 0)=some (fin (l.foldl f a)):=by
 have:=p5n W l mk (fun _ x a=> .inl (f a x)) fin P hend (fun i h a hp=>hstep i h a hp) a hP
 rw[this]
 congr 1
 have key:∀(l:Hu E) (i:Nat) (a:A),p5v (fun _ x a=>(.inl (f a x):A⊕R)) fin i l a=fin (l.foldl f a):=by
  intro l
  induction l with
  | nil=>intro i a;rfl
  | cons x l ih=>intro i a;simp only[p5v,Bs];exact ih _ _
 exact key l 0 a
theorem s6n {X R E B:Type} (W:X→Ht R) (l:Hu E) (mk:Hu B→Int→X) (p:E→Bool) (g:E→B) (fin:Hu B→R) (hl:l.length≤1099511627776)
 (hend:∀a:Hu B,a.length≤l.length→W (mk a (l.length:Int))=some (fin a))
 (hstep:∀(i:Nat) (h:i<l.length) (a:Hu B),a.length≤i→W (mk a (i:Int))=bif p l[i] then W (mk (a++ [g l[i]]) ((i+1:Nat):Int)) else W (mk a ((i+1:Nat):Int))):W (mk [] 0)=some (fin ((l.filter p).map g)):=by
 have:=t2v W l mk (fun a x=>if p x then a++ [g x] else a) fin (fun i a=>a.length≤i) hend (fun i h a hp=>by
  have hs:=hstep i h a hp
  cases hc:p l[i] with
  | true=>
   simp only[hc,Ad] at hs
   simp only[Bl]
   exact⟨by simp;omega,hs⟩
  | false=>
   simp only[hc,Aa] at hs
   simp only[Br,Bk]
   exact⟨by omega,hs⟩) [] (Au 0)
 rw[this]
 congr 1
 have key:∀(l:Hu E) (a:Hu B),l.foldl (fun a x=>if p x then a++ [g x] else a) a=a++(l.filter p).map g:=by
  intro l
  induction l with
  | nil=>intro a;simp
  | cons x l ih=>
   intro a
   simp only[Bs,ih,Di]
   cases hp:p x<;>simp
 rw[key];simp
end
section
theorem q3j (b:Hs):b.toList=toS b:=by rw[ByteArray.toList_eq];rfl
theorem p62 {a b:Hs} (h:toS a=toS b):a=b:=by rw[←y8p a,h,y8p]
theorem r6s:∀(x y:Hu UInt8),Op.bytesLess x y=decide (x<y)
 | x, [] =>by simp[Op.bytesLess]
 | [],y::ys=>by simp[Op.bytesLess]
 | x::xs,y::ys=>by
  rw[Op.bytesLess,r6s xs ys,Cd]
  simp[List.cons_lt_cons_iff]
theorem p3j {a b:Hs} :y3c a b=true↔toS a<toS b:=by
 unfold y3c
 rw[q3j,q3j,r6s]
 simp
theorem p9p {a b:Hs} :y3c a b=false↔ ¬toS a<toS b:=by
 rw[←p3j];simp
theorem p8i (x:Hu UInt8): ¬x<x:=List.lt_irrefl x
theorem p8j {x y z:Hu UInt8} (h:x<y) (k:y<z):x<z:=List.lt_trans h k
theorem p8k (x y:Hu UInt8):x<y∨x=y∨y<x:=by
 rcases List.le_total x y with h | h
 ·rcases Fv.mp h with h | h
  ·exact .inl h
  ·exact .inr (.inl h)
 ·rcases Fv.mp h with h | h
  ·exact .inr (.inr h)
  ·exact .inr (.inl h.symm)
theorem u7y (a:Hs):y3c a a=false:=p9p.mpr (p8i _)
theorem r4l {a b c:Hs} (h:y3c a b=true) (k:y3c b c=true):y3c a c=true:=p3j.mpr (p8j (p3j.mp h) (p3j.mp k))
theorem r2j (a b:Hs):y3c a b=true∨a=b∨y3c b a=true:=by
 rcases p8k (toS a) (toS b) with h | h | h
 ·exact .inl (p3j.mpr h)
 ·exact .inr (.inl (p62 h))
 ·exact .inr (.inr (p3j.mpr h))
theorem s3f {a b:Hs} (h:y3c a b=true):y3c b a=false:=by
 cases k:y3c b a with
 | false=>rfl
 | true=>exact absurd (r4l h k) (by rw[u7y];exact Hf)
theorem q89 {a b:Hs} :z7o a b=false↔a≠b:=by
 rw[←Ey,y7f]
theorem q7d {a b:Hs} :(!(y3c a b || z7o a b))=y3c b a:=by
 rcases r2j a b with h | h | h
 ·rw[h,s3f h];rfl
 ·subst h;rw[u7y,y6l];rfl
 ·rw[s3f h,h]
  have:z7o a b=false:=q89.mpr (fun e=>by subst e;rw[u7y] at h;cases h)
  rw[this];rfl
def Asc (l:Hu Hs):Prop:=l.Pairwise fun a b=>y3c a b=true
theorem Asc.ext:∀ {l m:Hu Hs},Asc l→Asc m→(∀x,x∈l↔x∈m)→l=m
 | [], [],_,_,_=>rfl
 | [],y::m,_,_,h=>by have:=(h y).mpr (by simp);simp at this
 | x::l, [],_,_,h=>by have:=(h x).mp (by simp);simp at this
 | x::l,y::m,hl,hm,h=>by
  have hl' :=Ch.mp hl
  have hm' :=Ch.mp hm
  have hxy:x=y:=by
   rcases A8.mp ((h x).mp (by simp)) with e | e
   ·exact e
   ·rcases A8.mp ((h y).mpr (by simp)) with e' | e'
    ·exact e'.symm
    ·have:=r4l (hm'.1 x e) (hl'.1 y e')
     rw[u7y] at this;cases this
  subst hxy
  congr 1
  refine Asc.ext hl'.2 hm'.2 fun z=> ?_
  constructor
  ·intro hz
   rcases A8.mp ((h z).mp (by simp[hz])) with e | e
   ·subst e;have:=hl'.1 z hz;rw[u7y] at this;cases this
   ·exact e
  ·intro hz
   rcases A8.mp ((h z).mpr (by simp[hz])) with e | e
   ·subst e;have:=hm'.1 z hz;rw[u7y] at this;cases this
   ·exact e
theorem Asc.filter {l:Hu Hs} (h:Asc l) (p:Hs→Bool):Asc (l.filter p):=Dz p h
def p1w (k:Hs) (l:Hu Hs):Hu Hs:=l.filter (fun x=>y3c x k)++ [k] ++l.filter (fun x=> !(y3c x k || z7o x k))
theorem p4l {k x:Hs} {l:Hu Hs} :x∈p1w k l↔x=k∨x∈l:=by
 simp only[p1w,Ay,A6,Ax,q7d]
 constructor
 ·rintro((h | h) | h)
  ·exact .inr h.1
  ·exact .inl h
  ·exact .inr h.1
 ·rintro(h | h)
  ·exact .inl (.inr h)
  ·rcases r2j x k with e | e | e
   ·exact .inl (.inl ⟨h,e⟩)
   ·exact .inl (.inr e)
   ·exact .inr ⟨h,e⟩
theorem p4e {k:Hs} {l:Hu Hs} (h:Asc l):Asc (p1w k l):=by
 unfold Asc p1w
 rw[Cg,Cg]
 refine⟨⟨h.filter _,by simp,fun a ha b hb=> ?_⟩,h.filter _,fun a ha b hb=> ?_⟩
 ·simp only[Ax] at hb
  subst hb
  exact(A6.mp ha).2
 ·have hb:=(A6.mp hb).2
  rw[q7d] at hb
  rcases Ay.mp ha with ha | ha
  ·exact r4l (A6.mp ha).2 hb
  ·simp only[Ax] at ha
   subst ha
   exact hb
theorem p2s {l:Hu Hs} :∀ {a:Hu Hs},Asc a→Asc (l.foldl (fun a k=>p1w k a) a)∧ ∀x,x∈l.foldl (fun a k=>p1w k a) a↔x∈l∨x∈a:=by
 induction l with
 | nil=>intro a h;exact⟨h,fun x=>by simp⟩
 | cons k l ih=>
  intro a h
  obtain⟨h1,h2⟩:=ih (p4e (k:=k) h)
  refine⟨h1,fun x=> ?_⟩
  rw[Bs,h2,p4l,A8]
  constructor
  ·rintro(q | q | q)
   ·exact .inl (.inr q)
   ·exact .inl (.inl q)
   ·exact .inr q
  ·rintro((q | q) | q)
   ·exact .inr (.inl q)
   ·exact .inl q
   ·exact .inr (.inr q)
theorem r6t (d:Array (Hu UInt8)) (hs:∀i j:Nat,i≤j→j<d.size→d[i]! ≤d[j]!):∀m,m≤d.size→(Lib.compactUpTo d m).Pairwise (·< ·)∧(∀x,x∈Lib.compactUpTo d m↔ ∃i,i<m∧d[i]! =x)
 | 0,_=>by simp[Lib.compactUpTo]
 | m+1,hm=>by
  obtain⟨h1,h2⟩:=r6t d hs m (by omega)
  rw[Lib.compactUpTo_succ]
  by_cases hk:Lib.keeps d m=true
  ·rw[Al hk]
   constructor
   ·rw[Cg]
    refine⟨h1,by simp,fun a ha b hb=> ?_⟩
    simp only[Ax] at hb
    subst hb
    obtain⟨i,hi,rfl⟩:=(h2 a).mp ha
    unfold Lib.keeps at hk
    have hk:=Ej hk
    rcases hk with hk | hk
    ·omega
    ·have l1:=hs i (m - 1) (by omega) (by omega)
     have l2:=hs (m - 1) m (by omega) (by omega)
     rcases Fv.mp l2 with l2 | l2
     ·rcases Fv.mp l1 with l1 | l1
      ·exact p8j l1 l2
      ·rw[l1];exact l2
     ·exact absurd l2.symm hk
   ·intro x
    simp only[Ay,Ax,h2]
    constructor
    ·rintro(⟨i,hi,rfl⟩ | rfl)
     ·exact⟨i,by omega,rfl⟩
     ·exact⟨m,by omega,rfl⟩
    ·rintro⟨i,hi,rfl⟩
     rcases B8 i m with q | q
     ·exact .inl ⟨i,q,rfl⟩
     ·exact .inr (by rw[show i=m by omega])
  ·rw[Ao hk,Bw]
   refine⟨h1,fun x=> ?_⟩
   rw[h2]
   unfold Lib.keeps at hk
   simp only[Ar,Hr,ne_eq,Decidable.not_not] at hk
   constructor
   ·rintro⟨i,hi,rfl⟩;exact⟨i,by omega,rfl⟩
   ·rintro⟨i,hi,rfl⟩
    rcases B8 i m with q | q
    ·exact⟨i,q,rfl⟩
    ·have:i=m:=by omega
     subst this
     exact⟨i - 1,by omega,hk.2.symm⟩
def q5a (l:Hu Hs):Hu Hs:=y6r (y4i l)
theorem p08 (l:Hu Hs):Asc (q5a l)∧ ∀x,x∈q5a l↔x∈l:=by
 obtain⟨d,hd⟩:∃d,d=(l.map toS).mergeSort fun x y=>decide (x≤y):=⟨_,rfl⟩
 have hk:q5a l=(Lib.compact d).map unS:=by
  unfold q5a y6r y4i
  rw[←hd,List.map_map]
  have:(toS ∘unS)=id:=by funext x;rfl
  rw[this,List.map_id]
 have hsort:d.Pairwise (·≤ ·):=by
  rw[hd]
  have:=List.pairwise_mergeSort (le:=fun(x y:Hu UInt8)=>decide (x≤y)) (fun a b c h1 h2=>by
   simp only[Ar] at h1 h2 ⊢
   exact List.le_trans h1 h2) (fun a b=>by
   simp only[Cr,Ar]
   exact List.le_total a b) (l.map toS)
  exact this.imp (fun h=>by simpa using h)
 have hmem:∀x,x∈d↔x∈l.map toS:=fun x=>by rw[hd];exact(List.mergeSort_perm _ _).mem_iff
 have hs:∀i j:Nat,i≤j→j<d.toArray.size→d.toArray[i]! ≤d.toArray[j]! :=fun i j hij hj=>by
  have hj' :j<d.length:=by simpa using hj
  have hi' :i<d.length:=by omega
  rw[Fl _ i (by simpa using hi'),Fl _ j hj]
  simp only[List.getElem_toArray]
  rcases B8 i j with q | q
  ·exact Cp.mp hsort i j hi' hj' q
  ·have:i=j:=by omega
   subst this
   exact List.le_refl _
 obtain⟨h1,h2⟩:=r6t d.toArray hs d.length (by simp)
 rw[hk]
 constructor
 ·unfold Asc
  rw[Dl]
  exact h1.imp (fun h=>p3j.mpr h)
 ·intro x
  rw[Bx]
  constructor
  ·rintro⟨y,hy,rfl⟩
   obtain⟨i,hi,rfl⟩:=(h2 y).mp hy
   rw[Fl _ i (by simpa using hi)]
   have:d[i] ∈l.map toS:=(hmem _).mp (Ag hi)
   obtain⟨z,hz,e⟩:=Bx.mp this
   simp only[List.getElem_toArray]
   rw[←e,y8p]
   exact hz
  ·intro hx
   have:toS x∈d:=(hmem _).mpr (Bx.mpr ⟨x,hx,rfl⟩)
   obtain⟨i,hi,e⟩:=Gy.mp this
   refine⟨toS x,(h2 _).mpr ⟨i,hi,?_⟩,y8p x⟩
   rw[Fl _ i (by simpa using hi)]
   simpa using e
theorem p3i (l:Hu Hs):(y4i l).length=l.length:=by simp[y4i]
theorem p6t (l:Hu Hs) (p:Hs→Bool):(l.filter p).foldl (fun a k=>p1w k a) [] =(q5a l).filter p:=by
 obtain⟨h1,h2⟩:=p2s (l:=l.filter p) (a:= []) List.Pairwise.nil
 obtain⟨k1,k2⟩:=p08 l
 refine Asc.ext h1 (k1.filter p) fun x=> ?_
 rw[h2,A6,A6,k2]
 simp
end
section
def u0l:Nat:=1099511627776
theorem q3o {α:Type} {f:α→Nat} {l:Hu α} {x:α} (h:x∈l):f x≤(l.map f).sum:=by
 induction l with
 | nil=>cases h
 | cons y l ih=>
  simp only[C8,Ge]
  rcases A8.mp h with rfl | h
  ·omega
  ·have:=ih h;omega
abbrev u8f:Ty:=(.pair .str .str)
abbrev u1x:Ty:=(.pair .str (.pair .str .bool))
abbrev u0d:Ty:=(.pair .str (.pair .str (.pair .bool (.int .i64))))
abbrev o3c:Ty:=(.pair .str .str)
abbrev p3v:Ty:=(.pair (.int .i64) .str)
abbrev o3d:Ty:=(.pair (.sl .str) (.sl p3v))
abbrev u1b:Ty:=(.pair (.int .i64) (.pair (.int .i64) (.pair (.int .i64) (.pair (.int .i64) (.pair (.sl u8f) (.pair (.sl u1x) (.pair .bool .str)))))))
abbrev p73:Ty:=(.pair (.sl u0d) (.pair (.sl u1b) (.pair (.sl u1b) (.pair (.int .i64) (.int .i64)))))
abbrev o0g:Ty:=(.pair (.int .i64) (.pair u1b (.pair .str (.pair .bool p73))))
abbrev o0f:Ty:=(.pair p73 (.sl u1b))
end
section
abbrev u0j:=Int×Int×Int×Int×Hu (Hs×Hs)×Hu (Hs×Hs×Bool)×Bool×Hs
theorem u1c {n:Nat} (h:n≤1099511627776):Nat.ble n z7w=true:=Nat.ble_eq_true_of_le h
def inR (r:Hs×Hs) (k:Hs):Bool:= !y3c k r.1&&(y3c k r.2 || z7o k r.2)
theorem r57 (r:Hs×Hs) (k:Hs):t5b (r,k)=some (inR r k):=by
 rw[q1d];unfold s91 inR;cases y3c k r.1<;>rfl
def q0m (r:Hu u8f.den) (w:Hu u1x.den):Bool:=r.any fun x=>w.any fun y=>inR x y.1
def r93 (a b:Hu u1x.den):Bool:=a.any fun x=>b.any fun y=>z7o x.1 y.1
end
section
theorem p2i {X R A:Type} (W:X→Ht R) (n:Nat) (mk:A→Int→X) (v:Nat→A) (r:R) (hend:W (mk (v n) (n:Int))=some r)
 (hstep:∀i,i<n→W (mk (v i) (i:Int))=W (mk (v (i+1)) ((i+1:Nat):Int))):W (mk (v 0) 0)=some r:=by
 have:=r7d W n (fun(_:Unit) i=>mk (v i.toNat) i) (fun _ _=>r) (fun _ _=>True) (fun _ _=>by simpa using hend) (fun i a hi _=> .inr ⟨(),trivial,rfl,by
  have h:=hstep i hi
  have e:((i:Int)+1).toNat=i+1:=by omega
  simp only[zTn]
  exact h⟩) 0 () (Cn _) trivial
 simpa using this
theorem q9x {α:Type} (p:α→Bool):∀(l a:Hu α),l.foldl (fun a x=>if p x=true then a++ [x] else a) a=a++l.filter p
 | [],a=>by simp
 | x::l,a=>by
  rw[Bs,q9x p l]
  cases hc:p x<;>simp[hc]
abbrev u2b:=Hs×Hs×Bool×Int
def emp:Hs:=⟨#[]⟩
def q9s (l:Hu u2b) (k:Hs) (snap out:Int) (i:Nat):Int:=
 if z7o (rdL u0d l i).1 k=true∧(rdL u0d l i).2.2.2≤snap∧(out<0∨(rdL u0d l i).2.2.2 >(rdL u0d l out.toNat).2.2.2) then(i:Int) else out
def r79 (l:Hu u2b) (k:Hs) (snap:Int):Nat→Int
 | 0=> -1
 | n+1=>q9s l k snap (r79 l k snap n) n
def t5t (l:Hu u2b) (k:Hs) (snap:Int):Int:=r79 l k snap l.length
theorem r8a (l:Hu u2b) (k:Hs) (snap:Int):∀n,-1≤r79 l k snap n∧r79 l k snap n<(n:Int)
 | 0=>by simp[r79]
 | n+1=>by
  have:=r8a l k snap n
  simp only[r79,q9s]
  split<;>omega
theorem q26 (l:Hu u2b) (k:Hs) (snap:Int): -1≤t5t l k snap∧t5t l k snap<(l.length:Int):=r8a l k snap l.length
theorem r91 (l:Hu u2b) (k:Hs) (snap:Int) (hl:l.length≤1099511627776):t9s (l,k,snap)=some (t5t l k snap):=by
 have L:=p2i t0t l.length (fun a i=>(l,k,snap,a,i)) (fun i=>r79 l k snap i) (.inl (t5t l k snap))
  (by rw[r1p];simp only[t4w,u0b,Am,Ah,Aa];rfl)
  (fun i hi=>by
   have hr:=r8a l k snap i
   rw[r1p]
   simp only[t4w,u0b,hi,Ae,Ad,y7t hi,zTn,r79,q9s]
   rw[y7l (by omega)]
   cases h1:z7o (rdL u0d l i).1 k with
   | false=>simp[h1]
   | true=>
    by_cases h2:(rdL u0d l i).2.2.2≤snap
    ·by_cases h3:r79 l k snap i<0
     ·simp[h1,h2,h3]
     ·have hg:y4q (r79 l k snap i) l.length=true:=y7s.mpr ⟨by omega,by omega⟩
      by_cases h4:(rdL u0d l i).2.2.2 >(rdL u0d l (r79 l k snap i).toNat).2.2.2
      ·simp[h1,h2,h3,h4,hg]
      ·simp[h1,h2,h3,h4,hg]
    ·simp[h1,h2])
 have L:t0t (l,k,snap,-1,0)=_:=L
 rw[q68];unfold r6p
 simp only[L,zOb]
def q99 (l:Hu u2b) (k:Hs) (snap:Int):Hs×Bool:=
 if t5t l k snap<0∨(rdL u0d l (t5t l k snap).toNat).2.2.1=true then(emp,false) else((rdL u0d l (t5t l k snap).toNat).2.1,true)
theorem p3g (l:Hu u2b) (k:Hs) (snap:Int) (y:Int) (hy:y=t5t l k snap):
 (((bif decide (y<0) then some true else(bif y4q y l.length then some (rdL u0d l y.toNat).2.2.1 else none)):Ht Bool).bind fun j2=>(bif j2 then some ((⟨#[]⟩:Hs),false) else(bif y4q y l.length then some ((rdL u0d l y.toNat).2.1,true) else none)))=some (q99 l k snap):=by
 subst hy
 have hr:=q26 l k snap
 unfold q99
 by_cases h:t5t l k snap<0
 ·simp[h,emp]
 ·have hg:y4q (t5t l k snap) l.length=true:=y7s.mpr ⟨by omega,by omega⟩
  cases h2:(rdL u0d l (t5t l k snap).toNat).2.2.1<;>simp[h,hg,h2,emp]
theorem q8h (l:Hu u2b) (k:Hs) (snap:Int) (hl:l.length≤1099511627776):s29 (l,k,snap)=some (q99 l k snap):=by
 rw[q4s];unfold r3d
 simp only[r91 l k snap hl,zOb]
 exact p3g l k snap _ rfl
theorem p2w (l:Hu Hs):(q5a l).length≤l.length:=by
 have:=z6h (y4i l)
 rw[p3i] at this
 exact this
theorem q8v (k:Hs) (r:Hs×Hs) (l:Hu u2b) (j:Int) (out:Hu Hs) (ho:out.length≤1099511627775):
 u7o (l,r,out,j,k, [],0)=some (.inl (l,r,out,j,k,out.filter fun x=>y3c x k)):=by
 have L:=s6n u7o out (fun a i=>(l,r,out,j,k,a,i)) (fun x=>y3c x k) (fun x=>x) (fun a=> .inl (l,r,out,j,k,a)) (by omega)
  (fun a _=>by rw[s56];simp only[t1u,u0b,Am,Ah,Aa])
  (fun i hi a ha=>by
   rw[s56];simp only[t1u,u0b,hi,Ae,Ad,y7t hi,zTn,y8k (t:=Ty.str) hi,Aw,u1c (show a.length+1≤1099511627776 by omega)]
   rw[y7l (by omega)])
 rw[Er] at L
 exact L
theorem q7g (k:Hs) (r:Hs×Hs) (l:Hu u2b) (j:Int) (out a0:Hu Hs) (ho:out.length+a0.length≤1099511627775):
 u56 (l,r,out,j,k,a0,0)=some (.inl (l,r,j,a0++out.filter fun x=> !(y3c x k || z7o x k))):=by
 have L:=t2v u56 out (fun a i=>(l,r,out,j,k,a,i)) (fun a x=>if(!(y3c x k || z7o x k))=true then a++ [x] else a) (fun a=> .inl (l,r,j,a)) (fun i a=>a.length≤a0.length+i)
  (fun a _=>by rw[s2m];simp only[u9w,u0b,Am,Ah,Aa])
  (fun i hi a ha=>by
   rw[s2m];simp only[u9w,u0b,hi,Ae,Ad,y7t hi,zTn,y8k (t:=Ty.str) hi,Aw,u1c (show a.length+1≤1099511627776 by omega)]
   rw[y7l (by omega)]
   cases hc:(!(y3c out[i] k || z7o out[i] k)) with
   | true=>simp;omega
   | false=>simp;omega) a0 (by simp)
 rw[q9x (fun x=> !(y3c x k || z7o x k))] at L
 exact L
theorem p4f (k:Hs) (l:Hu Hs):(p1w k l).length≤l.length+1:=by
 unfold p1w
 have h:(fun x=> !(y3c x k || z7o x k))=fun x=>y3c k x:=by funext x;exact q7d
 rw[h]
 have:(l.filter fun x=>y3c x k).length+(l.filter fun x=>y3c k x).length≤l.length:=by
  induction l with
  | nil=>simp
  | cons x l ih=>
   simp only[Di]
   cases h1:y3c x k with
   | true=>rw[s3f h1];simp;omega
   | false=>cases h2:y3c k x<;>simp<;>omega
 simp
 omega
theorem p18 (l:Hu u2b) (r:Hs×Hs) (hl:l.length≤500000000000):s0m (l,r)=some ((q5a (l.map fun v=>v.1)).filter fun k=>inR r k):=by
 have L:=t2v t17 l (fun a i=>(l,r,a,i)) (fun a v=>if inR r v.1=true then p1w v.1 a else a) (fun a=> .inl a) (fun i a=>a.length≤i)
  (fun a _=>by rw[s55];simp only[t1t,u0b,Am,Ah,Aa])
  (fun i hi a ha=>by
   rw[s55];simp only[t1t,u0b,hi,Ae,Ad,y7t hi,zTn,y8k (t:=u0d) hi,r57,zOb]
   cases hc:inR r l[i].1 with
   | false=>
    simp only[Bh,Ad,Br,Bk]
    rw[y7l (by omega)]
    exact⟨by omega,rfl⟩
   | true=>
    have hlow:(a.filter fun x=>y3c x l[i].1).length≤a.length:=Cs _ _
    simp only[Ap,Aa,Bl,q8v l[i].1 r l (i:Int) a (by omega),zOb,Aw,u1c (show(a.filter fun x=>y3c x l[i].1).length+1≤1099511627776 by omega),Ad,
     q7g l[i].1 r l (i:Int) a (a.filter (fun x=>y3c x l[i].1)++ [l[i].1]) (by simp;omega)]
    rw[y7l (by omega)]
    exact⟨A9 (p4f _ _) (by omega),rfl⟩) [] (by simp)
 rw[q10];unfold r0p
 simp only[L,zOb]
 have hfold:∀(m:Hu u2b) (a:Hu Hs),m.foldl (fun a v=>if inR r v.1=true then p1w v.1 a else a) a=((m.map fun v=>v.1).filter fun k=>inR r k).foldl (fun a k=>p1w k a) a:=by
  intro m
  induction m with
  | nil=>intro a;rfl
  | cons x m ih=>
   intro a
   rw[Bs,ih]
   cases hc:inR r x.1<;>simp[hc]
 rw[hfold,p6t]
end
section
theorem q5q {E:Type} (p:E→Bool):∀(l:Hu E),(l.takeWhile p).length≤l.length∧(∀(i:Nat) (h:i<l.length),i<(l.takeWhile p).length→p l[i] =true)∧
 (∀(h:(l.takeWhile p).length<l.length),p l[(l.takeWhile p).length] =false)∧l.takeWhile p=l.take (l.takeWhile p).length∧l.dropWhile p=l.drop (l.takeWhile p).length
 | [] =>⟨Au _,fun i h=>absurd h (Ee i),fun h=>absurd h (Ee _),rfl,rfl⟩
 | x::l=>by
  obtain⟨h1,h2,h3,h4,h5⟩:=q5q p l
  cases hp:p x with
  | false=>
   simp only[F8,hp,List.dropWhile_cons,Br,Bk,Cc]
   exact⟨Cn _,fun i _ h=>absurd h (Ee i),fun _=>hp,rfl,rfl⟩
  | true=>
   simp only[F8,hp,List.dropWhile_cons,Bl,Bc]
   refine⟨by omega,fun i h k=> ?_,fun h=> ?_,?_,?_⟩
   ·cases i with
    | zero=>exact hp
    | succ i=>simpa using h2 i (by simpa using h) (by omega)
   ·simpa using h3 (by omega)
   ·rw[List.take_succ_cons,←h4]
   ·rw[List.drop_succ_cons,←h5]
theorem p72 {X R E:Type} (W:X→Ht R) (l:Hu E) (mk:Hu E→Int→X) (p:E→Bool) (fin:Hu E→Int→R)
 (hend:W (mk l (l.length:Int))=some (fin l (l.length:Int)))
 (hstep:∀(i:Nat) (h:i<l.length),W (mk (l.take i) (i:Int))=bif p l[i] then W (mk (l.take (i+1)) ((i+1:Nat):Int)) else some (fin (l.take i) (i:Int))):
 W (mk [] 0)=some (fin (l.takeWhile p) ((l.takeWhile p).length:Int)):=by
 obtain⟨h1,h2,h3,h4,_⟩:=q5q p l
 have:=r7d W (l.takeWhile p).length (fun(a:Hu E) i=>mk a i) (fun _ _=>fin (l.takeWhile p) ((l.takeWhile p).length:Int)) (fun i a=>a=l.take i)
  (fun a ha=>by
   rw[ha]
   by_cases hk:(l.takeWhile p).length<l.length
   ·rw[hstep _ hk,h3 hk,Aa,←h4]
   ·have e:(l.takeWhile p).length=l.length:=by omega
    have e2:l.takeWhile p=l:=by rw[h4,e];exact Cq
    rw[e2,Cq]
    exact hend)
  (fun i a hi ha=> .inr ⟨_,rfl,rfl,by rw[ha,hstep i (by omega),h2 i (by omega) hi,Ad]⟩) 0 [] (Cn _) (by simp)
 exact this
def t33 (v y:u2b):Bool:=y3c y.1 v.1 || (z7o y.1 v.1&&decide (y.2.2.2≤v.2.2.2))
def p28 (l:Hu u2b) (v:u2b):Hu u2b:=l.takeWhile (t33 v)++ [v] ++l.dropWhile (t33 v)
def t4b (l:Hu u2b) (ws:Hu u1x.den) (cs:Int):Hu u2b:=ws.foldl (fun l w=>p28 l (w.1,w.2.1,w.2.2,cs)) l
theorem q96 (l:Hu u2b) (v:u2b):(p28 l v).length=l.length+1:=by
 have:l.length=(l.takeWhile (t33 v)).length+(l.dropWhile (t33 v)).length:=by rw[←Ba,Fe]
 simp[p28]
 omega
theorem r4g:∀(ws:Hu u1x.den) (l:Hu u2b) (cs:Int),(t4b l ws cs).length=l.length+ws.length
 | [],l,cs=>rfl
 | w::ws,l,cs=>by
  have:=r4g ws (p28 l (w.1,w.2.1,w.2.2,cs)) cs
  unfold t4b at this ⊢
  rw[Bs,this,q96]
  simp
  omega
theorem p0k (a b:Hs):t0q (a,b)=some (if y3c a b then -1 else if z7o a b then 0 else 1):=by
 have ns:∀x,u8h x=some false:=fun x=>by
  rw[r3w];unfold t81
  have:z7o x x=true:=by simp[z7o]
  rw[this];rfl
 rw[s9e];unfold t6h
 simp only[ns,zOb,Aa]
 cases y3c a b<;>cases z7o a b<;>rfl
theorem p6f (a b:Int):t4c (a,b)=some (if a<b then -1 else if a >b then 1 else 0):=by
 have ns:∀x,t3k x=some false:=fun x=>by
  rw[r8x];unfold s6p
  simp
 rw[r5a];unfold s0r
 simp only[ns,zOb,Aa]
 by_cases h:a<b
 ·simp[h]
 ·by_cases h2:a >b<;>simp[h,h2]
theorem p33 (ws:Hu u1x.den) (cs:Int) (l:Hu u2b) (j:Int) (v:u2b) (hl:l.length≤1000000000000):
 u31 (ws,cs,l,j,v, [],0)=some (.inl (ws,cs,l,j,v,l.takeWhile (t33 v),((l.takeWhile (t33 v)).length:Int))):=
 p72 u31 l (fun a i=>(ws,cs,l,j,v,a,i)) (t33 v) (fun a i=> .inl (ws,cs,l,j,v,a,i))
  (by rw[t6v];simp only[u5r,u0b,Am,Ah,Aa,zOb])
  (fun i hi=>by
   rw[t6v]
   have hb:((l.take i).length+ [l[i]].length)≤1099511627776:=by simp;omega
   simp only[u5r,u0b,hi,Ae,Ad,y7t hi,zTn,y8k (t:=u0d) hi,u1c hb]
   rw[y7l (by omega),B9 hi]
   unfold t33
   cases h1:y3c l[i].1 v.1 with
   | true=>simp
   | false=>
    cases h2:z7o l[i].1 v.1 with
    | false=>simp
    | true=>
     by_cases h3:l[i].2.2.2≤v.2.2.2<;>simp[h3])
theorem s3m (l:Hu u2b) (ws:Hu u1x.den) (cs:Int) (hl:l.length+ws.length≤1000000000000):u5l (l,ws,cs)=some (t4b l ws cs):=by
 have L:=t2v u5t ws (fun a i=>(ws,cs,a,i)) (fun l w=>p28 l (w.1,w.2.1,w.2.2,cs)) (fun a=> .inl a) (fun i a=>a.length=l.length+i)
  (fun a _=>by rw[t6u];simp only[u5q,u0b,Am,Ah,Aa])
  (fun i hi a ha=>by
   have hal:a.length≤1000000000000:=by omega
   rw[t6u]
   simp only[u5q,u0b,hi,Ae,Ad,y7t hi,zTn,y8k (t:=u1x) hi,p33 ws cs a _ _ hal,zOb]
   obtain⟨v,hv⟩:∃v:u2b,v=(ws[i].1,ws[i].2.1,ws[i].2.2,cs):=⟨_,rfl⟩
   rw[←hv]
   obtain⟨t1,_,_,t4,t5⟩:=q5q (t33 v) a
   refine⟨by rw[q96];omega,?_⟩
   have g1:decide ((0:Int)≤((a.takeWhile (t33 v)).length:Int))=true:=by simp
   have g2:decide (((a.takeWhile (t33 v)).length:Int)≤(a.length:Int))=true:=by simpa using t1
   have g3:decide ((a.length:Int)≤(a.length:Int))=true:=by simp
   have b1:(a.takeWhile (t33 v)).length+ [v].length≤1099511627776:=by simp;omega
   have b2:(a.takeWhile (t33 v)++ [v]).length+(a.drop (a.takeWhile (t33 v)).length).length≤1099511627776:=by simp;omega
   simp only[g1,g2,g3,Bz,u1c b1,Ad,Cq,u1c b2]
   rw[y7l (by omega),←t5]
   rfl) l (by simp)
 rw[r31];unfold t85
 simp only[Cc,Co,Cf,u1c (show l.length≤1099511627776 by omega),Ad,L,zOb]
 rfl
end
section
abbrev PrT:=Hs×Hs
end
section
theorem q6f (r:Hu u8f.den) (w:Hu u1x.den) (hr:r.length≤u0l) (hw:w.length≤u0l):s0h (r,w)=some (q0m r w):=by
 unfold u0l at hr hw
 have inner:∀(i:Nat) (hi:i<r.length),u7k (r,w,(i:Int),0)=some (bif w.any (fun y=>inR r[i] y.1) then .inr true else .inl (r,w,(i:Int))):=fun i hi=>
  s6c u7k w (fun j=>(r,w,(i:Int),j)) (fun y=>inR r[i] y.1) _ _ (by
   rw[s51];simp only[t1p,u0b,Am,Ah,Aa]) (fun j hj=>by
   rw[s51];simp only[t1p,u0b,hj,Ae,Ad,y7t hi,y7t hj,zTn,y8k hi,y8k hj,r57,zOb]
   rw[y7l (by omega)])
 have outer:=s6c t16 r (fun i=>(r,w,i)) (fun x=>w.any fun y=>inR x y.1) (.inr true) (.inl ()) (by
  rw[s50];simp only[t1o,u0b,Am,Ah,Aa]) (fun i hi=>by
  rw[s50];simp only[t1o,u0b,hi,Ae,Ad,inner i hi,zOb]
  have ws:=y7l (i:=i) (by omega)
  cases w.any fun y=>inR r[i] y.1<;>simp only[Ad,Aa,ws])
 rw[q1n];unfold r0b
 simp only[outer,zOb]
 unfold q0m
 cases r.any fun x=>w.any fun y=>inR x y.1<;>rfl
theorem p0p (r w:Hu u1x.den) (hr:r.length≤u0l) (hw:w.length≤u0l):t9q (r,w)=some (r93 r w):=by
 unfold u0l at hr hw
 have inner:∀(i:Nat) (hi:i<r.length),t0s (r,w,(i:Int),0)=some (bif w.any (fun y=>z7o r[i].1 y.1) then .inr true else .inl (r,w,(i:Int))):=fun i hi=>
  s6c t0s w (fun j=>(r,w,(i:Int),j)) (fun y=>z7o r[i].1 y.1) _ _ (by
   rw[r1m];simp only[t4t,u0b,Am,Ah,Aa]) (fun j hj=>by
   rw[r1m];simp only[t4t,u0b,hj,Ae,Ad,y7t hi,y7t hj,zTn,y8k hi,y8k hj,zOb]
   rw[y7l (by omega)])
 have outer:=s6c t40 r (fun i=>(r,w,i)) (fun x=>w.any fun y=>z7o x.1 y.1) (.inr true) (.inl ()) (by
  rw[r1l];simp only[t4s,u0b,Am,Ah,Aa]) (fun i hi=>by
  rw[r1l];simp only[t4s,u0b,hi,Ae,Ad,inner i hi,zOb]
  have ws:=y7l (i:=i) (by omega)
  cases w.any fun y=>z7o r[i].1 y.1<;>simp only[Ad,Aa,ws])
 rw[q64];unfold r6l
 simp only[outer,zOb]
 unfold r93
 cases r.any fun x=>w.any fun y=>z7o x.1 y.1<;>rfl
def r6r (a b:u1b.den):Bool:=
 decide (a.2.1=3)&&decide (b.2.1=3)&& !decide (a.1=b.1)&&
 (decide (a.2.2.2.1≤b.2.2.1)&&q0m b.2.2.2.2.1 a.2.2.2.2.2.1 || decide (a.2.2.2.1<b.2.2.2.1)&&r93 a.2.2.2.2.2.1 b.2.2.2.2.2.1 || decide (b.2.2.2.1 >a.2.2.1)&&q0m a.2.2.2.2.1 b.2.2.2.2.2.1)
theorem r9x (a:u1b.den):t61 a=some (decide (a.2.1=3)):=by
 rw[q4d];rfl
end
section
def o3g (l:Hu u1b.den) (j i:Nat):Bool:=r6r (rdL u1b l j) (rdL u1b l i)
def p8l (l:Hu u1b.den) (t:Hu Nat) (i:Nat):Bool:= !t.contains i&& !(List.range l.length).any (fun j=> !decide (j=i)&&(!t.contains j&&o3g l j i))
def p4u (l:Hu u1b.den) (t:Hu Nat):Ht Nat:=(List.range l.length).find? (p8l l t)
def p8m (l:Hu u1b.den):Nat→Hu Nat→Ht (Hu Nat)
 | 0,t=>some t
 | k+1,t=>match p4u l t with
  | none=>none
  | some i=>p8m l k (t++ [i])
def o0n (l:Hu u1b.den):Ht (Hu Nat):=p8m l l.length []
section
variable {l:Hu u1b.den} (hw:∀x∈l,u1b.wt x≤u0l) (hl:l.length≤1048576)
include hw hl
end
end
section
def o0s (l:Hu u1b.den):Nat:=(l.map fun t=>t.2.2.2.2.2.1.length).sum
section
variable {l:Hu u1b.den} (hw:∀x∈l,u1b.wt x≤u0l) (hl:l.length+o0s l≤1048576) (hr:∀x∈l,x.2.2.2.2.1.length≤1048576)
include hl
include hr
include hw
end
end
section
abbrev Src:=Hu Int×Int×Int
def Src.ok (s:Src):Prop:=s.1.length≤1048576∧0≤s.2.1∧s.2.1≤(s.1.length:Int)
def Dr {T:Type} (F:Ht (T×Src)) (p:T→Prop):Prop:= ∃y s,F=some (y,s)∧s.ok∧p y
theorem q9w (v:BitVec IntKind.i64.bits):0≤IntKind.i64.wrap ((v&&&BitVec.ofInt IntKind.i64.bits 255).toNat:Int)∧IntKind.i64.wrap ((v&&&BitVec.ofInt IntKind.i64.bits 255).toNat:Int)<256:=by
 have h:(v&&&BitVec.ofInt IntKind.i64.bits 255).toNat≤255:=by
  rw[BitVec.toNat_and]
  exact A9 Nat.and_le_right (by decide)
 rw[y4y (by omega) (by omega)]
 omega
theorem r42 {s:Src} (h:s.ok):Dr (u4k s) (fun y=>0≤y∧y<256):=by
 obtain⟨l,p,z⟩:=s
 obtain⟨h1,h2,h3⟩:=h
 simp only at h1 h2 h3
 rw[q1r];unfold r0f
 simp only
 by_cases hp:p<(l.length:Int)
 ·have hg:y4q p l.length=true:=by simp[y4q,h2,hp]
  simp only[hp,Ae,Ad,hg]
  exact⟨_,_,rfl,⟨h1,by simp only;rw[y4y (by omega) (by omega)];omega,by simp only;rw[y4y (by omega) (by omega)];omega⟩,q9w _⟩
 ·simp only[hp,Ah,Aa]
  exact⟨_,_,rfl,⟨h1,h2,h3⟩,q9w _⟩
theorem s9a {a n:Int} (ha:0≤a) (hn:0<n):0≤Int.tmod a n∧Int.tmod a n<n:=⟨Int.tmod_nonneg _ ha,Int.tmod_lt_of_pos _ hn⟩
theorem u1t {s:Src} (h:s.ok) {n:Int} (hn:0<n):Dr (u0f (s,n)) (fun y=>0≤y∧y<n):=by
 rw[r9m];unfold s7f
 have h0:decide (n≤0)=false:=by simp;omega
 have h0' :(!decide (n=0))=true:=by simp;omega
 simp only[h0,Aa,h0',Ad]
 by_cases h1:n≤256
 ·simp only[h1,Ae,Ad]
  obtain⟨y,s1,e1,k1,r1⟩:=r42 h
  simp only[e1,zOb]
  exact⟨_,_,rfl,k1,s9a r1.1 hn⟩
 ·simp only[h1,Ah,Aa]
  obtain⟨y1,s1,e1,k1,r1⟩:=r42 h
  obtain⟨y2,s2,e2,k2,r2⟩:=r42 k1
  obtain⟨y3,s3,e3,k3,r3⟩:=r42 k2
  obtain⟨y4,s4,e4,k4,r4⟩:=r42 k3
  simp only[e1,e2,e3,e4,zOb]
  refine⟨_,_,rfl,k4,s9a ?_ hn⟩
  rw[y4y (n:=y1*16777216) (by omega) (by omega),y4y (n:=y2*65536) (by omega) (by omega),y4y (n:=y3*256) (by omega) (by omega),y4y (n:=y1*16777216+y2*65536) (by omega) (by omega),
   y4y (n:=y1*16777216+y2*65536+y3*256) (by omega) (by omega),y4y (n:=y1*16777216+y2*65536+y3*256+y4) (by omega) (by omega)]
  omega
theorem s2q {s:Src} (h:s.ok) {n:Int} (hn:0<n):Dr (u1f (s,n)) (fun _=>True):=by
 rw[q1s];unfold r0g
 obtain⟨y,s1,e1,k1,r1⟩:=u1t h hn
 simp only[e1,zOb]
 exact⟨_,_,rfl,k1,trivial⟩
theorem s6f {s:Src} (h:s.ok) {l:Hu Hs} (hl:0<l.length):Dr (u1g (s,l)) (fun y=>y∈l):=by
 rw[q1t];unfold r0h
 obtain⟨y,s1,e1,k1,r1⟩:=u1t h (n:=(l.length:Int)) (by omega)
 obtain⟨i,rfl⟩:∃i:Nat,y=(i:Int):=⟨y.toNat,by omega⟩
 have hi:i<l.length:=by omega
 simp only[e1,zOb,y7t hi,Ad,zTn]
 exact⟨_,_,rfl,k1,by show rdL Ty.str l i∈l;have h:rdL Ty.str l i=l[i] :=y8k (t:=Ty.str) (l:=l) hi;rw[h];exact Ag hi⟩
theorem q9l {l:Hu Int} (hl:l.length≤1048576):∃s:Src,t0f l=some s∧s.ok:=by
 have key:∀(d i:Nat) (z:Int),i≤l.length→l.length - i≤d→ ∃z',u8w (l,z,(i:Int))=some (.inl (l,z')):=by
  intro d
  induction d with
  | zero=>
   intro i z hi hd
   have:i=l.length:=by omega
   subst this
   rw[t8s]
   simp only[u8p,u0b,Am,Ah,Aa,zOb]
   exact⟨_,rfl⟩
  | succ d ih=>
   intro i z hi hd
   by_cases h:i<l.length
   ·rw[t8s]
    simp only[u8p,u0b,h,Ae,Ad,zOb,y7t h]
    rw[y7l (by omega)]
    cases decide ((i:Int)<4000) with
    | false=>exact⟨_,rfl⟩
    | true=>exact ih (i+1) _ (by omega) (by omega)
   ·have:i=l.length:=by omega
    subst this
    rw[t8s]
    simp only[u8p,u0b,Am,Ah,Aa,zOb]
    exact⟨_,rfl⟩
 obtain⟨z',hz⟩:=key l.length 0 (IntKind.i64.wrap (77601+(l.length:Int))) (Cn _) (by omega)
 rw[q4u];unfold r3f
 have hz' :u8w (l,IntKind.i64.wrap (77601+(l.length:Int)),0)=_:=hz
 simp only[hz',zOb]
 exact⟨_,rfl,hl,Bv _,by simp only;omega⟩
theorem q9k {s:Src} (h:s.ok):Dr (u2z s) (fun y=>y.size≤2):=by
 rw[r35];unfold s2w
 obtain⟨y,s1,e1,k1,r1⟩:=s6f h (l:= [(⟨#[97]⟩:Hs),(⟨#[98]⟩:Hs),(⟨#[99]⟩:Hs),(⟨#[100]⟩:Hs),(⟨#[97,98]⟩:Hs)]) (by decide)
 simp only[e1,zOb]
 refine⟨_,_,rfl,k1,?_⟩
 simp only[A8,Ep,Em] at r1
 rcases r1 with rfl | rfl | rfl | rfl | rfl<;>decide
theorem p34 {s:Src} (h:s.ok):Dr (u3h s) (fun y=>y.1.size≤2∧y.2.size≤2):=by
 rw[s7s];unfold t7l
 obtain⟨y1,s1,e1,k1,r1⟩:=q9k h
 obtain⟨y2,s2,e2,k2,r2⟩:=s2q k1 (n:=2) (by omega)
 obtain⟨y3,s3,e3,k3,r3⟩:=q9k k2
 simp only[e1,e2,e3,zOb]
 cases y2 with
 | true=>exact⟨_,_,rfl,k2,r1,r1⟩
 | false=>
  simp only[Aa]
  cases y3c y3 y1 with
  | true=>exact⟨_,_,rfl,k3,r3,r1⟩
  | false=>exact⟨_,_,rfl,k3,r1,r3⟩
theorem p2c {s:Src} (h:s.ok):Dr (t6c s) (fun y=>y.length≤3∧ ∀r∈y,r.1.size≤2∧r.2.size≤2):=by
 have key:∀(d i:Nat) (s:Src) (a:Hu u8f.den),s.ok→a.length=i→4≤i+d→i≤3→(∀r∈a,r.1.size≤2∧r.2.size≤2)→
  ∃(s' :Src) (a' :Hu u8f.den),u5i (s,a,(i:Int))=some (.inl (s',a'))∧s'.ok∧a'.length≤3∧ ∀r∈a',r.1.size≤2∧r.2.size≤2:=by
  intro d
  induction d with
  | zero=>intro i s a _ _ h1 h2;omega
  | succ d ih=>
   intro i s a hs ha hd hi hr
   obtain⟨y,s1,e1,k1,r1⟩:=u1t hs (n:=4) (by omega)
   rw[r4x]
   simp only[t28,e1,zOb]
   by_cases hy:(i:Int)<y
   ·obtain⟨y2,s2,e2,k2,r2⟩:=p34 k1
    have hc:Nat.ble (a.length+([y2] :Hu u8f.den).length) z7w=true:=by
     rw[Nat.ble_eq,ha];simp only[Bc,Cc,z7w];omega
    simp only[hy,Ae,Ad,e2,zOb]
    rw[hc,y7l (by omega)]
    exact ih (i+1) s2 (a++ [y2]) k2 (by simp[ha]) (by omega) (by omega) (fun r hm=>by
     rcases Ay.mp hm with q | q
     ·exact hr r q
     ·simp only[A8,Ep,Em] at q;subst q;exact r2)
   ·simp only[hy,Ah,Aa]
    exact⟨_,_,rfl,k1,by omega,hr⟩
 obtain⟨s',a',e1,k1,r1,r2⟩:=key 4 0 s [] h rfl (by omega) (by omega) (fun r hr=>by cases hr)
 rw[r7x];unfold s37
 have e1:u5i (s, [],0)=_:=e1
 simp only[e1,zOb]
 exact⟨_,_,rfl,k1,r1,r2⟩
theorem q9q {s:Src} (h:s.ok):Dr (u20 s) (fun y=>y.1.size≤2∧y.2.1.size≤3):=by
 rw[s7t];unfold t7m
 obtain⟨y1,s1,e1,k1,r1⟩:=q9k h
 obtain⟨y2,s2,e2,k2,r2⟩:=s6f k1 (l:= [(⟨#[111,110,101]⟩:Hs),(⟨#[116,119,111]⟩:Hs),(⟨#[]⟩:Hs),(⟨#[120,0]⟩:Hs)]) (by decide)
 obtain⟨y3,s3,e3,k3,r3⟩:=s2q k2 (n:=5) (by omega)
 simp only[e1,e2,e3,zOb]
 have hz:y2.size≤3:=by
  simp only[A8,Ep,Em] at r2
  rcases r2 with rfl | rfl | rfl | rfl<;>decide
 cases y3 with
 | true=>exact⟨_,_,rfl,k3,r1,by show ByteArray.size ⟨#[]⟩≤3;decide⟩
 | false=>exact⟨_,_,rfl,k3,r1,hz⟩
def q0t (l:Hu u1x.den) (w:u1x.den):Hu u1x.den:=l.filter (fun x=>y3c x.1 w.1)++ [w] ++l.filter (fun x=> !(y3c x.1 w.1 || z7o x.1 w.1))
theorem s2s (l:Hu u1x.den) (w:u1x.den) (hl:l.length≤1048576):t3q (l,w)=some (q0t l w):=by
 have L1:=s6n u91 l (fun a i=>(l,w,a,i)) (fun x=>y3c x.1 w.1) (fun x=>x) (fun a=> .inl (l,w,a)) (by omega) (fun a ha=>by
  rw[s2d];simp only[u9n,u0b,Am,Ah,Aa]) (fun i hi a ha=>by
  have hc:Nat.ble (a.length+([l[i]] :Hu u1x.den).length) z7w=true:=by
   rw[Nat.ble_eq];simp only[Bc,Cc,z7w];omega
  rw[s2d];simp only[u9n,u0b,hi,Ae,Ad,y7t hi,zTn,y8k hi]
  rw[y7l (by omega),hc]
  rfl)
 simp only[Er] at L1
 have L2:=t2v u92 l (fun a i=>(l,w,a,i)) (fun(a:Hu u1x.den) x=>if y3c x.1 w.1 || z7o x.1 w.1 then a else a++ [x]) (fun a=> .inl a) (fun i a=>a.length≤1048577+i) (fun a ha=>by
  rw[s2e];simp only[u9o,u0b,Am,Ah,Aa]) (fun i hi a ha=>by
  have hc:Nat.ble (a.length+([l[i]] :Hu u1x.den).length) z7w=true:=by
   rw[Nat.ble_eq];simp only[Bc,Cc,z7w];omega
  rw[s2e];simp only[u9o,u0b,hi,Ae,Ad,y7t hi,zTn,y8k hi]
  rw[y7l (by omega),hc]
  cases hq:y3c l[i].1 w.1 || z7o l[i].1 w.1 with
  | true=>simp only[Ap,Aa,Bl];refine⟨by omega,?_⟩;trivial
  | false=>simp only[Bh,Ad,Br,Bk];refine⟨by simp;omega,?_⟩;trivial)
 have key:∀(l:Hu u1x.den) (a:Hu u1x.den),l.foldl (fun(a:Hu u1x.den) x=>if y3c x.1 w.1 || z7o x.1 w.1 then a else a++ [x]) a=a++l.filter (fun x=> !(y3c x.1 w.1 || z7o x.1 w.1)):=by
  intro l
  induction l with
  | nil=>intro a;simp
  | cons x l ih=>
   intro a
   simp only[Bs,ih,Di]
   cases hq:y3c x.1 w.1 || z7o x.1 w.1<;>simp
 have hlen:(l.filter (fun x=>y3c x.1 w.1)).length≤l.length:=Cs _ _
 have L2' :=L2 (l.filter (fun x=>y3c x.1 w.1)++ [w]) (by simp;omega)
 rw[key] at L2'
 have hc:Nat.ble ((l.filter (fun x=>y3c x.1 w.1)).length+([w] :Hu u1x.den).length) z7w=true:=by
  rw[Nat.ble_eq];simp only[Bc,Cc,z7w];omega
 rw[r9d];unfold s65
 simp only[L1,zOb]
 rw[hc]
 simp only[Ad,L2',zOb]
 rfl
theorem r4h {l:Hu u1x.den} {w x:u1x.den} (h:x∈q0t l w):x∈l∨x=w:=by
 unfold q0t at h
 simp only[Bi,Ay,A6,A8,Ep,Em] at h
 rcases h with h | h | h
 ·exact .inl h.1
 ·exact .inr h
 ·exact .inl h.1
theorem q5e (l:Hu u1x.den) (w:u1x.den):(q0t l w).length≤l.length+1:=by
 have:∀l:Hu u1x.den,(l.filter (fun x=>y3c x.1 w.1)).length+(l.filter (fun x=> !(y3c x.1 w.1 || z7o x.1 w.1))).length≤l.length:=by
  intro l
  induction l with
  | nil=>simp
  | cons x l ih=>
   simp only[Di]
   cases y3c x.1 w.1<;>cases z7o x.1 w.1<;>simp only[Ew,Fp,Ap,Bh,Bl,Bk,Br,Bc] <;>omega
 unfold q0t
 have:=this l
 simp only[Ba,Bc,Cc]
 omega
def KD (l:Hu u1x.den):Prop:=l.Pairwise fun a b=>a.1≠b.1
theorem p6v {l:Hu u1x.den} {w:u1x.den} (h:KD l):KD (q0t l w):=by
 unfold KD q0t at*
 rw[Bi,Cg]
 refine⟨h.filter _,?_,fun a ha b hb e=> ?_⟩
 ·rw[Fs,Ch]
  refine⟨fun b hb e=> ?_,h.filter _⟩
  have:=(A6.mp hb).2
  simp[z7o,e] at this
 ·have h1:=(A6.mp ha).2
  rw[Fs,A8] at hb
  rcases hb with rfl | hb
  ·rw[e,u7y] at h1;cases h1
  ·have h2:=(A6.mp hb).2
   rw[←e,h1] at h2
   cases h2
theorem p2j {s:Src} (h:s.ok):Dr (u7s s) (fun y=>y.length≤3∧(∀r∈y,r.1.size≤2∧r.2.1.size≤3)∧KD y):=by
 have key:∀(d i:Nat) (s:Src) (a:Hu u1x.den),s.ok→a.length≤i→4≤i+d→i≤3→(∀r∈a,r.1.size≤2∧r.2.1.size≤3)→KD a→
  ∃(s' :Src) (a' :Hu u1x.den),u2w (s,a,(i:Int))=some (.inl (s',a'))∧s'.ok∧a'.length≤3∧(∀r∈a',r.1.size≤2∧r.2.1.size≤3)∧KD a' :=by
  intro d
  induction d with
  | zero=>intro i s a _ _ h1 h2;omega
  | succ d ih=>
   intro i s a hs ha hd hi hr hk
   obtain⟨y,s1,e1,k1,r1⟩:=u1t hs (n:=4) (by omega)
   rw[t94]
   simp only[u78,e1,zOb]
   by_cases hy:(i:Int)<y
   ·obtain⟨y2,s2,e2,k2,r2⟩:=q9q k1
    simp only[hy,Ae,Ad,e2,zOb,s2s a y2 (by omega)]
    rw[y7l (by omega)]
    exact ih (i+1) s2 (q0t a y2) k2 (by have:=q5e a y2;omega) (by omega) (by omega) (fun r hm=>by
     rcases r4h hm with q | q
     ·exact hr r q
     ·subst q;exact r2) (p6v hk)
   ·simp only[hy,Ah,Aa]
    exact⟨_,_,rfl,k1,by omega,hr,hk⟩
 obtain⟨s',a',e1,k1,r1,r2⟩:=key 4 0 s [] h (by simp) (by omega) (by omega) (fun r hr=>by cases hr) List.Pairwise.nil
 rw[s4d];unfold t55
 have e1:u2w (s, [],0)=_:=e1
 simp only[e1,zOb]
 exact⟨_,_,rfl,k1,r1,r2⟩
def o0q (t:u1b.den):Prop:=t.2.2.2.2.1.length≤3∧(∀r∈t.2.2.2.2.1,r.1.size≤2∧r.2.size≤2)∧t.2.2.2.2.2.1.length≤3∧(∀r∈t.2.2.2.2.2.1,r.1.size≤2∧r.2.1.size≤3)∧t.2.2.2.2.2.2.2.size≤16
def tId (t:u1b.den):Int:=t.1
def tSt (t:u1b.den):Int:=t.2.1
def o0r (t:u1b.den):Int:=t.2.2.1
def tCs (t:u1b.den):Int:=t.2.2.2.1
def p78 (t:u1b.den):Prop:=tSt t=3∧o0r t<tCs t∧KD t.2.2.2.2.2.1
def p8f (l:Hu u1b.den):Prop:=(∀t∈l,p78 t)∧l.Pairwise fun a b=>tId a≠tId b∧tCs a<tCs b
end
section
def o3m (m:Hu PrT):Prop:=m.Pairwise fun a b=>y3c a.1 b.1=true
theorem p4m {l:Hu u2b} {v x:u2b} :x∈p28 l v↔x=v∨x∈l:=by
 unfold p28
 conv=>rhs;rw[←Fe (p:=t33 v) (l:=l)]
 simp only[Ay,Ax]
 constructor
 ·rintro((h | h) | h)
  ·exact .inr (.inl h)
  ·exact .inl h
  ·exact .inr (.inr h)
 ·rintro(h | h | h)
  ·exact .inl (.inr h)
  ·exact .inl (.inl h)
  ·exact .inr h
theorem t3i {x:u2b} :∀(ws:Hu u1x.den) (l:Hu u2b) (cs:Int),x∈t4b l ws cs↔x∈l∨ ∃w∈ws,x=(w.1,w.2.1,w.2.2,cs)
 | [],l,cs=>by simp[t4b]
 | w::ws,l,cs=>by
  have e:t4b l (w::ws) cs=t4b (p28 l (w.1,w.2.1,w.2.2,cs)) ws cs:=rfl
  rw[e,t3i ws,p4m]
  constructor
  ·rintro((h | h) | ⟨y,hy,h⟩)
   ·exact .inr ⟨w,by simp,h⟩
   ·exact .inl h
   ·exact .inr ⟨y,by simp[hy],h⟩
  ·rintro(h | ⟨y,hy,h⟩)
   ·exact .inl (.inr h)
   ·rcases A8.mp hy with rfl | hy
    ·exact .inl (.inl h)
    ·exact .inr ⟨y,hy,h⟩
def vCs (x:u2b):Int:=x.2.2.2
theorem q2v (l:Hu u2b) (k:Hs) (snap:Int):∀n,n≤l.length→
 (r79 l k snap n<0→ ∀(i:Nat) (h:i<l.length),i<n→ ¬(l[i].1=k∧vCs l[i] ≤snap))∧
 (∀a:Nat,r79 l k snap n=(a:Int)→ ∃h:a<l.length,l[a].1=k∧vCs l[a] ≤snap∧ ∀(i:Nat) (h:i<l.length),i<n→l[i].1=k→vCs l[i] ≤snap→vCs l[i] ≤vCs l[a])
 | 0,_=>⟨fun _ i _ h=>absurd h (Ee i),fun a e=>by simp only[r79] at e;omega⟩
 | n+1,hn=>by
  obtain⟨h1,h2⟩:=q2v l k snap n (by omega)
  have hlt:n<l.length:=by omega
  have hr:=r8a l k snap n
  simp only[r79,q9s,y8k (t:=u0d) hlt]
  by_cases hc:z7o l[n].1 k=true∧l[n].2.2.2≤snap∧(r79 l k snap n<0∨l[n].2.2.2 >(rdL u0d l (r79 l k snap n).toNat).2.2.2)
  ·rw[Al hc]
   obtain⟨c1,c2,c3⟩:=hc
   have c1:l[n].1=k:=y7f.mp c1
   refine⟨fun h=>by omega,fun a e=> ?_⟩
   have e:n=a:=by omega
   subst e
   refine⟨hlt,c1,c2,fun i hi hin hk hs=> ?_⟩
   by_cases q:i=n
   ·subst q;exact Bv _
   ·rcases Int.lt_or_le (r79 l k snap n) 0 with z | z
    ·exact absurd ⟨hk,hs⟩ (h1 z i hi (by omega))
    ·obtain⟨b,hb⟩:∃b:Nat,r79 l k snap n=(b:Int):=⟨(r79 l k snap n).toNat,by omega⟩
     obtain⟨hbl,_,_,g3⟩:=h2 b hb
     rcases c3 with c3 | c3
     ·omega
     ·rw[hb,zTn,y8k (t:=u0d) hbl] at c3
      have h5:=g3 i hi (by omega) hk hs
      have c3:vCs l[n] >vCs l[b] :=c3
      omega
  ·rw[Ao hc]
   have hc' :l[n].1=k→vCs l[n] ≤snap→ ∃b:Nat,r79 l k snap n=(b:Int)∧ ∃h:b<l.length,vCs l[n] ≤vCs l[b] :=fun c1 c2=>by
    rcases Int.lt_or_le (r79 l k snap n) 0 with z | z
    ·exact absurd ⟨y7f.mpr c1,c2, .inl z⟩ hc
    ·obtain⟨b,hb⟩:∃b:Nat,r79 l k snap n=(b:Int):=⟨(r79 l k snap n).toNat,by omega⟩
     obtain⟨hbl,_⟩:=h2 b hb
     refine⟨b,hb,hbl,Hk.mp fun z2=>hc ⟨y7f.mpr c1,c2, .inr ?_⟩⟩
     rw[hb,zTn,y8k (t:=u0d) hbl]
     exact z2
   refine⟨fun h i hi hin=> ?_,fun a e=> ?_⟩
   ·by_cases q:i=n
    ·subst q
     rintro⟨z1,z2⟩
     obtain⟨b,hb,_⟩:=hc' z1 z2
     omega
    ·exact h1 h i hi (by omega)
   ·obtain⟨ha,g1,g2,g3⟩:=h2 a e
    refine⟨ha,g1,g2,fun i hi hin hk hs=> ?_⟩
    by_cases q:i=n
    ·subst q
     obtain⟨b,hb,hbl,g4⟩:=hc' hk hs
     have e:b=a:=by omega
     subst e
     exact g4
    ·exact g3 i hi (by omega) hk hs
end
section
theorem twl {E:Type} (p:E→Bool):∀(l:Hu E),(l.takeWhile p).length≤l.length∧(∀(i:Nat) (h:i<l.length),i<(l.takeWhile p).length→p l[i] =true)∧
 (∀(h:(l.takeWhile p).length<l.length),p l[(l.takeWhile p).length] =false)
 | [] =>⟨Au _,fun i h=>absurd h (Ee i),fun h=>absurd h (Ee _)⟩
 | x::l=>by
  obtain⟨h1,h2,h3⟩:=twl p l
  cases hp:p x with
  | false=>
   simp only[F8,hp,Br,Bk,Cc]
   exact⟨Cn _,fun i _ h=>absurd h (Ee i),fun _=>hp⟩
  | true=>
   simp only[F8,hp,Bl,Bc]
   refine⟨by omega,fun i h k=> ?_,fun h=> ?_⟩
   ·cases i with
    | zero=>exact hp
    | succ i=>simpa using h2 i (by simpa using h) (by omega)
   ·simpa using h3 (by omega)
def u1o {E:Type} (p:E→Bool) (l:Hu E):Nat:=(l.takeWhile fun x=> !p x).length
theorem t39 {E:Type} (p:E→Bool) (l:Hu E):u1o p l≤l.length:=(twl _ l).1
theorem t69 {E:Type} {p:E→Bool} {l:Hu E} {i:Nat} (h:i<l.length) (hi:i<u1o p l):p l[i] =false:=by
 have:=(twl (fun x=> !p x) l).2.1 i h hi
 simpa using this
theorem u8z {E:Type} {p:E→Bool} {l:Hu E} (h:u1o p l<l.length):p l[u1o p l] =true:=by
 unfold u1o at h ⊢
 have:=(twl (fun x=> !p x) l).2.2 h
 simpa using this
theorem q8r {E:Type} (p:E→Bool) (l:Hu E):decide (u1o p l<l.length)=l.any p:=by
 cases hc:l.any p with
 | true=>
  obtain⟨x,hx,hp⟩:=Cm.mp hc
  obtain⟨i,hi,rfl⟩:=B7 hx
  have: ¬i<u1o p l:=fun q=>by rw[t69 hi q] at hp;cases hp
  simp only[Ar]
  omega
 | false=>
  simp only[Bu]
  intro h
  have:=u8z h
  have:=Ct.mp hc _ (Ag h)
  contradiction
theorem Q.first {T:Ty} {c:Type} {q:T.den×c→Ht Bool} {p:T.den→Bool} {W:Hu T.den×c×Int×Int→Ht (Unit⊕Int)}
 (hW:∀x,W x=(bif (decide (x.2.2.2<x.2.2.1)) then(bif (y4q x.2.2.2 x.1.length) then((q ((rdL T x.1 (x.2.2.2).toNat),x.2.1)).bind fun(y1:Bool)=>(bif y1 then(some (.inr x.2.2.2)) else(W (x.1,(x.2.1,(x.2.2.1,(IntKind.i64.wrap (x.2.2.2+(1:Int))))))))) else none) else(some (.inl ()))))
 (l:Hu T.den) (k:c) (hl:l.length≤1099511627776) (hq:∀x∈l,q (x,k)=some (p x)):
 W (l,k,(l.length:Int),0)=some (if u1o p l<l.length then .inr ((u1o p l:Nat):Int) else .inl ()):=by
 have hle:=t39 p l
 have:=r7d W (u1o p l) (fun(_:Unit) i=>(l,k,(l.length:Int),i)) (fun _ _=>if u1o p l<l.length then .inr ((u1o p l:Nat):Int) else .inl ()) (fun _ _=>True)
  (fun a _=>by
   rw[hW]
   by_cases hk:u1o p l<l.length
   ·simp only[u0b,hk,Ae,Ad,y7t hk,zTn,y8k hk,hq _ (Ag hk),u8z hk,zOb,Bl]
   ·simp only[u0b,hk,Ah,Aa,Bk])
  (fun i a hi _=> .inr ⟨(),trivial,rfl,by
   have hil:i<l.length:=by omega
   rw[hW]
   simp only[u0b,hil,Ae,Ad,y7t hil,zTn,y8k hil,hq _ (Ag hil),t69 hil hi,zOb,Aa]
   rw[y7l (by omega)]⟩) 0 () (Cn _) trivial
 exact this
end
section
def q91 (x y:u0j):Bool:=decide (x.2.1=3)&&decide (x.2.2.2.1≤y.2.2.1)
def q6o (a b:u0j):Bool:= !decide (a.1=b.1)&&(!q91 a b&& !q91 b a)
def ahead (a b:u0j):Bool:=q6o a b&&q0m a.2.2.2.2.1 b.2.2.2.2.2.1
def q2h (t:u0j) (l:Hu u0j):Bool:=l.any fun x=>decide (x.2.1=3)&&ahead t x
theorem q8a (a b:u0j):s23 (a,b)=some (q6o a b):=by
 rw[q4g];unfold r21 q6o q91
 by_cases h1:a.1=b.1
 ·simp[h1]
 ·by_cases h2:a.2.1=3<;>by_cases h3:a.2.2.2.1≤b.2.2.1<;>by_cases h4:b.2.1=3<;>by_cases h5:b.2.2.2.1≤a.2.2.1<;>simp[h1,h2,h3,h4,h5]
theorem u9d (a b:u0j) (ha:a.2.2.2.2.1.length≤u0l) (hb:b.2.2.2.2.2.1.length≤u0l):u2a (a,b)=some (ahead a b):=by
 rw[q6y];unfold r6f ahead
 have h1:=q8a a b
 have h2:=q6f _ _ ha hb
 simp only[h2,zOb]
 rw[h1]
 cases q6o a b<;>rfl
end
section
def q2c (t:u0j):Prop:=t.2.2.2.2.1.length≤1048576∧t.2.2.2.2.2.1.length≤1048576
def p01 (l:Hu u0j):Prop:=l.length≤4194304∧ ∀t∈l,q2c t
theorem s1c {n:Nat} (h:n≤1048576):n≤u0l:=by unfold u0l;omega
theorem r44 (t:u0j) (l:Hu u0j) (ht:q2c t) (hl:p01 l):t5w (t,l)=some (q2h t l):=by
 obtain⟨l1,l2⟩:=hl
 have L:=s6c t41 l (fun i=>(l,t,i)) (fun x=>decide (x.2.1=3)&&ahead t x) (.inr true) (.inl ())
  (by rw[r1n];simp only[t4u,u0b,Am,Ah,Aa])
  (fun i hi=>by
   have h1:=u9d t l[i] (s1c ht.1) (s1c (l2 _ (Ag hi)).2)
   rw[r1n]
   simp only[t4u,u0b,hi,Ae,Ad,y7t hi,zTn,y8k (t:=u1b) hi,h1,zOb]
   rw[y7l (by omega)]
   cases decide (l[i].2.1=3)<;>cases ahead t l[i] <;>rfl)
 rw[q65];unfold r6m q2h
 simp only[L,zOb]
 cases l.any fun x=>decide (x.2.1=3)&&ahead t x<;>rfl
theorem u63 (t:u0j) (h:q2c t):u0t t=some t:=by
 rw[r05];unfold t96
 simp only[Cc,Co,Cf,u1c (show t.2.2.2.2.1.length≤1099511627776 by have:=h.1;omega),u1c (show t.2.2.2.2.2.1.length≤1099511627776 by have:=h.2;omega),Ad]
theorem r1t (l:Hu u0j) (h:p01 l):t02 l=some l:=by
 have L:=s6n t18 l (fun a i=>(l,a,i)) (fun _=>true) (fun x=>x) (fun a=> .inl a) (by have:=h.1;omega)
  (fun a _=>by rw[s57];simp only[t1v,u0b,Am,Ah,Aa])
  (fun i hi a ha=>by
   have h1:=u63 l[i] (h.2 _ (Ag hi))
   have:=h.1
   rw[s57]
   simp only[t1v,u0b,hi,Ae,Ad,y7t hi,zTn,y8k (t:=u1b) hi,h1,zOb,Aw,u1c (show a.length+1≤1099511627776 by omega)]
   rw[y7l (by omega)])
 rw[q13];unfold r0s
 simp only[L,zOb]
 simp
abbrev u0i:=Hu u2b×Hu u0j×Hu u0j×Int×Int
def fewB (b:u0i):Prop:=b.1.length≤4194304∧p01 b.2.1∧p01 b.2.2.1
theorem t2q (b:u0i) (h:fewB b):u1z b=some b:=by
 have h1:=r1t b.2.1 h.2.1
 have h2:=r1t b.2.2.1 h.2.2
 rw[q12];unfold r0r
 simp only[Cc,Co,Cf,u1c (show b.1.length≤1099511627776 by have:=h.1;omega),Ad,h1,h2,zOb]
end
section
def t7z (b:u0i) (open_:Hu u0j):Int:=open_.foldl (fun m t=>if t.2.2.1<m then t.2.2.1 else m) b.2.2.2.1
theorem q8e (b:u0i) (o:Hu u0j) (h:o.length≤4194304):t8a (b,o)=some (t7z b o):=by
 have L:=t2v u90 o (fun a i=>(o,a,i)) (fun(m:Int) t=>if t.2.2.1<m then t.2.2.1 else m) (fun a=> .inl a) (fun _ _=>True)
  (fun a _=>by rw[s2c];simp only[u9m,u0b,Am,Ah,Aa])
  (fun i hi a _=>by
   refine⟨trivial,?_⟩
   rw[s2c]
   simp only[u9m,u0b,hi,Ae,Ad,y7t hi,zTn,y8k (t:=u1b) hi]
   rw[y7l (by omega)]
   by_cases hc:o[i].2.2.1<a
   ·simp only[hc,Ae,Ad,Bl]
   ·simp only[hc,Ah,Aa,Bk]) b.2.2.2.1 trivial
 rw[r9c];unfold s64
 simp only[L,zOb]
 rfl
def u07 (b:u0i) (n:Hs):Int:=if u1o (fun x:u0j=>z7o x.2.2.2.2.2.2.2 n) b.2.2.1<b.2.2.1.length then((u1o (fun x:u0j=>z7o x.2.2.2.2.2.2.2 n) b.2.2.1:Nat):Int) else -1
theorem t5m (b:u0i) (n:Hs) (h:b.2.2.1.length≤4194304):u1r (b,n)=some (u07 b n):=by
 have L:=r7d u7j (u1o (fun x:u0j=>z7o x.2.2.2.2.2.2.2 n) b.2.2.1) (fun(_:Unit) i=>(n,b,i)) (fun _ _=>if u1o (fun x:u0j=>z7o x.2.2.2.2.2.2.2 n) b.2.2.1<b.2.2.1.length then .inr ((u1o (fun x:u0j=>z7o x.2.2.2.2.2.2.2 n) b.2.2.1:Nat):Int) else .inl ()) (fun _ _=>True)
  (fun a _=>by
   have hle:=t39 (fun x:u0j=>z7o x.2.2.2.2.2.2.2 n) b.2.2.1
   rw[s5y]
   by_cases hk:u1o (fun x:u0j=>z7o x.2.2.2.2.2.2.2 n) b.2.2.1<b.2.2.1.length
   ·have hy:=u8z hk
    simp only[u65,u0b,hk,Ae,Ad,y7t hk,zTn,y8k (t:=u1b) hk,hy,Bl]
   ·simp only[u65,u0b,hk,Ah,Aa,Bk])
  (fun i a hi _=> .inr ⟨(),trivial,rfl,by
   have hle:=t39 (fun x:u0j=>z7o x.2.2.2.2.2.2.2 n) b.2.2.1
   have hil:i<b.2.2.1.length:=by omega
   have hn:=t69 hil hi
   rw[s5y]
   simp only[u65,u0b,hil,Ae,Ad,y7t hil,zTn,y8k (t:=u1b) hil,hn,Aa]
   rw[y7l (by omega)]⟩) 0 () (Cn _) trivial
 have L:u7j (n,b,0)=_:=L
 rw[q1k];unfold s98 u07
 simp only[L,zOb]
 by_cases hk:u1o (fun x:u0j=>z7o x.2.2.2.2.2.2.2 n) b.2.2.1<b.2.2.1.length
 ·simp only[Al hk]
 ·simp only[Ao hk]
end
section
def q48 (l:Hu u2b) (snap:Int) (i:Nat):Bool:=decide ((rdL u0d l i).2.2.2 >snap) || decide (t5t l (rdL u0d l i).1 snap=(i:Int))
def trA (l:Hu u2b) (snap:Int):Nat→Hu u2b
 | 0=> []
 | n+1=>if q48 l snap n=true then trA l snap n++ [rdL u0d l n] else trA l snap n
theorem q5p (l:Hu u2b) (snap:Int):∀n,(trA l snap n).length≤n
 | 0=>Au _
 | n+1=>by
  have:=q5p l snap n
  simp only[trA]
  split
  ·simp;omega
  ·omega
def p5s (l:Hu u2b) (k:Hs):Nat:=(l.filter fun v=>z7o v.1 k).length
def p4i (l:Hu u2b) (snap:Int) (v:u2b):Bool:= !v.2.2.1 || (decide (v.2.2.2 >snap) || decide ((p5s l v.1:Int) >1))
def u2p (l:Hu u2b) (snap:Int):Hu u2b:=(trA l snap l.length).filter (p4i (trA l snap l.length) snap)
theorem p1l (l:Hu u2b) (snap:Int) (hl:l.length≤8388608):u7l (l,snap, [],0)=some (.inl (snap,trA l snap l.length)):=
 p2i u7l l.length (fun a i=>(l,snap,a,i)) (fun i=>trA l snap i) (.inl (snap,trA l snap l.length))
  (by rw[s52];simp only[t1q,u0b,Am,Ah,Aa])
  (fun i hi=>by
   have hL:=r91 l (rdL u0d l i).1 snap (by omega)
   have hn:=q5p l snap i
   rw[s52]
   simp only[t1q,u0b,hi,Ae,Ad,y7t hi,zTn,hL,zOb,Aw,u1c (show(trA l snap i).length+1≤1099511627776 by omega)]
   rw[y7l (by omega)]
   simp only[trA,q48]
   by_cases h1:(rdL u0d l i).2.2.2 >snap
   ·simp[h1]
   ·by_cases h2:t5t l (rdL u0d l i).1 snap=(i:Int)<;>simp[h1,h2])
end
section
theorem q6q (k:Hs):∀(l:Hu u2b) (a:Nat),l.foldl (fun(a:Nat) v=>if z7o v.1 k=true then a+1 else a) a=a+p5s l k
 | [],a=>by simp[p5s]
 | x::l,a=>by
  rw[Bs,q6q k l]
  unfold p5s
  cases hc:z7o x.1 k with
  | true=>simp[Di,hc];omega
  | false=>simp[Di,hc]
theorem p1m (s out:Hu u2b) (snap:Int) (i:Nat) (hi:i<s.length) (hl:s.length≤8388608):
 u54 (snap,s,out,(i:Int),0,0)=some (.inl (snap,s,out,(i:Int),(p5s s s[i].1:Int))):=by
 have L:=t2v u54 s (fun(a:Nat) j=>(snap,s,out,(i:Int),(a:Int),j)) (fun(a:Nat) v=>if z7o v.1 s[i].1=true then a+1 else a) (fun a=> .inl (snap,s,out,(i:Int),(a:Int))) (fun j a=>a≤j)
  (fun a _=>by rw[s2j];simp only[u9t,u0b,Am,Ah,Aa])
  (fun j hj a ha=>by
   rw[s2j]
   simp only[u9t,u0b,hj,Ae,Ad,y7t hj,y7t hi,zTn,y8k (t:=u0d) hj,y8k (t:=u0d) hi]
   rw[y7l (i:=j) (by omega),y7l (i:=a) (by omega)]
   cases z7o s[j].1 s[i].1 with
   | true=>simp only[Ad,Bl];exact⟨by omega,trivial⟩
   | false=>simp only[Aa,Br,Bk];exact⟨by omega,trivial⟩) 0 (Cn _)
 rw[q6q,Co] at L
 exact L
theorem q6g (l:Hu u2b) (snap:Int) (hl:l.length≤8388608):s0i (l,snap)=some (u2p l snap):=by
 have hs:(trA l snap l.length).length≤8388608:=A9 (q5p _ _ _) hl
 obtain⟨s,hse⟩:∃s,s=trA l snap l.length:=⟨_,rfl⟩
 rw[←hse] at hs
 have L:=s6n u93 s (fun a i=>(snap,s,a,i)) (p4i s snap) (fun v=>v) (fun a=> .inl a) (by omega)
  (fun a _=>by rw[s2i];simp only[u9s,u0b,Am,Ah,Aa])
  (fun i hi a ha=>by
   rw[s2i]
   simp only[u9s,u0b,hi,Ae,Ad,p1m s a snap i hi hs,zOb,y7t hi,zTn,y8k (t:=u0d) hi,Aw,u1c (show a.length+1≤1099511627776 by omega)]
   rw[y7l (by omega)]
   unfold p4i
   cases h1:s[i].2.2.1 with
   | false=>simp
   | true=>
    by_cases h2:s[i].2.2.2 >snap
    ·simp[h2]
    ·by_cases h3:(p5s s s[i].1:Int) >1<;>simp[h2,h3])
 rw[Er] at L
 have hA:=p1l l snap hl
 rw[←hse] at hA
 rw[q1o];unfold r0c u2p
 rw[←hse]
 simp only[hA,L,zOb]
theorem q9e (l:Hu u2b) (snap:Int):(u2p l snap).length≤l.length:=A9 (Cs _ _) (q5p _ _ _)
end
section
theorem p5z {E:Type} {r:E→E→Prop} (hi:∀x,¬r x x) (ha:∀x y,r x y→ ¬r y x):∀ {l m:Hu E},l.Pairwise r→m.Pairwise r→(∀x,x∈l↔x∈m)→l=m
 | [], [],_,_,_=>rfl
 | [],y::m,_,_,h=>by have:=(h y).mpr (by simp);simp at this
 | x::l, [],_,_,h=>by have:=(h x).mp (by simp);simp at this
 | x::l,y::m,hl,hm,h=>by
  have hl' :=Ch.mp hl
  have hm' :=Ch.mp hm
  have hxy:x=y:=by
   rcases A8.mp ((h x).mp (by simp)) with e | e
   ·exact e
   ·rcases A8.mp ((h y).mpr (by simp)) with e' | e'
    ·exact e'.symm
    ·exact absurd (hm'.1 x e) (ha _ _ (hl'.1 y e'))
  subst hxy
  congr 1
  refine p5z hi ha hl'.2 hm'.2 fun z=> ?_
  constructor
  ·intro hz
   rcases A8.mp ((h z).mp (by simp[hz])) with e | e
   ·subst e;exact absurd (hl'.1 z hz) (hi z)
   ·exact e
  ·intro hz
   rcases A8.mp ((h z).mpr (by simp[hz])) with e | e
   ·subst e;exact absurd (hm'.1 z hz) (hi z)
   ·exact e
def vLt (a b:u2b):Prop:=y3c a.1 b.1=true∨(a.1=b.1∧vCs a<vCs b)
def VAsc (l:Hu u2b):Prop:=l.Pairwise vLt
theorem q9g (a:u2b): ¬vLt a a:=fun h=>by
 rcases h with h | h
 ·rw[u7y] at h;cases h
 ·omega
theorem p5c (a b:u2b) (h:vLt a b): ¬vLt b a:=fun k=>by
 rcases h with h | ⟨h,h'⟩<;>rcases k with k | ⟨k,k'⟩
 ·rw[s3f h] at k;cases k
 ·rw[k,u7y] at h;cases h
 ·rw[h,u7y] at k;cases k
 ·omega
theorem p64 (a b:u2b) (h: ¬(a.1=b.1∧vCs a=vCs b)):vLt a b∨vLt b a:=by
 rcases r2j a.1 b.1 with c | c | c
 ·exact .inl (.inl c)
 ·rcases Int.lt_trichotomy (vCs a) (vCs b) with d | d | d
  ·exact .inl (.inr ⟨c,d⟩)
  ·exact absurd ⟨c,d⟩ h
  ·exact .inr (.inr ⟨c.symm,d⟩)
 ·exact .inr (.inl c)
theorem VAsc.ext {l m:Hu u2b} (h:VAsc l) (k:VAsc m) (e:∀x,x∈l↔x∈m):l=m:=p5z q9g p5c h k e
theorem VAsc.uni:∀ {l:Hu u2b},VAsc l→ ∀x∈l,∀y∈l,x.1=y.1→vCs x=vCs y→x=y
 | [],_,x,hx=>by cases hx
 | z::l,h,x,hx=>fun y hy e1 e2=>by
  have h' :=Ch.mp h
  have no:∀a b:u2b,a.1=b.1→vCs a=vCs b→ ¬vLt a b:=fun a b e1 e2 k=>by
   rcases k with k | k
   ·rw[e1,u7y] at k;cases k
   ·omega
  rcases A8.mp hx with rfl | hx' <;>rcases A8.mp hy with rfl | hy'
  ·rfl
  ·exact absurd (h'.1 y hy') (no _ _ e1 e2)
  ·exact absurd (h'.1 x hx') (no _ _ e1.symm e2.symm)
  ·exact VAsc.uni h'.2 x hx' y hy' e1 e2
def p4j (l:Hu u2b) (s:Int) (x:u2b):Prop:=vCs x≤s∧ ∀y∈l,y.1=x.1→vCs y≤s→vCs y≤vCs x
theorem q25 {l:Hu u2b} (hA:VAsc l) {s:Int} {i:Nat} (h:i<l.length):t5t l l[i].1 s=(i:Int)↔p4j l s l[i] :=by
 obtain⟨h1,h2⟩:=q2v l l[i].1 s l.length (Au _)
 constructor
 ·intro e
  obtain⟨_,g1,g2,g3⟩:=h2 i e
  refine⟨g2,fun y hy e1 e2=> ?_⟩
  obtain⟨j,hj,rfl⟩:=B7 hy
  exact g3 j hj hj e1 e2
 ·rintro⟨g2,g3⟩
  have hr:=q26 l l[i].1 s
  rcases Int.lt_or_le (t5t l l[i].1 s) 0 with z | z
  ·exact absurd ⟨rfl,g2⟩ (h1 z i h h)
  ·obtain⟨b,hb⟩:∃b:Nat,t5t l l[i].1 s=(b:Int):=⟨(t5t l l[i].1 s).toNat,by omega⟩
   obtain⟨hbl,k1,k2,k3⟩:=h2 b hb
   have m1:=g3 l[b] (Ag hbl) k1 k2
   have m2:=k3 i h h rfl g2
   have e:=VAsc.uni hA l[b] (Ag hbl) l[i] (Ag h) k1 (by omega)
   have hp:l.Nodup:=hA.imp fun h e=>by subst e;exact q9g _ h
   have:b=i:=(List.getElem_inj hp).mp e
   rw[hb,this]
theorem q9d (l:Hu u2b) (s:Int):∀n,n≤l.length→(trA l s n).Sublist (l.take n)
 | 0,_=>by simp[trA]
 | n+1,h=>by
  have ih:=q9d l s n (by omega)
  have hn:n<l.length:=by omega
  rw[B9 hn]
  simp only[trA]
  split
  ·rw[y8k (t:=u0d) hn]
   exact ih.append (Dm _)
  ·exact ih.trans (List.sublist_append_left _ _)
theorem u61 (l:Hu u2b) (s:Int):(u2p l s).Sublist l:=by
 have h:=q9d l s l.length (Au _)
 rw[Cq] at h
 exact Fg.trans h
theorem t4l {l:Hu u2b} (h:VAsc l) (s:Int):VAsc (u2p l s):=h.sublist (u61 l s)
theorem q7j {l:Hu u2b} {s:Int} {x:u2b} :∀n,n≤l.length→(x∈trA l s n↔ ∃(i:Nat) (h:i<l.length),i<n∧l[i] =x∧q48 l s i=true)
 | 0,_=>by simp[trA]
 | n+1,h=>by
  have ih:=q7j (x:=x) (s:=s) n (Nat.le_of_succ_le h)
  have hn:n<l.length:=by omega
  have split:(∃(i:Nat) (h:i<l.length),i<n+1∧l[i] =x∧q48 l s i=true)↔(∃(i:Nat) (h:i<l.length),i<n∧l[i] =x∧q48 l s i=true)∨(l[n] =x∧q48 l s n=true):=by
   constructor
   ·rintro⟨i,hi,h1,h2⟩
    by_cases e:i=n
    ·subst e;exact .inr h2
    ·exact .inl ⟨i,hi,by omega,h2⟩
   ·rintro(⟨i,hi,h1,h2⟩ | h2)
    ·exact⟨i,hi,by omega,h2⟩
    ·exact⟨n,hn,by omega,h2⟩
  rw[split,←ih]
  simp only[trA]
  by_cases c:q48 l s n=true
  ·rw[Al c,y8k (t:=u0d) hn,Ay,Ax]
   simp only[c,and_true]
   exact or_congr Hp eq_comm
  ·rw[Ao c]
   simp[c]
theorem q5d {l:Hu u2b} (hA:VAsc l) {s:Int} {x:u2b} :x∈trA l s l.length↔x∈l∧(vCs x >s∨p4j l s x):=by
 rw[q7j _ (Au _)]
 constructor
 ·rintro⟨i,hi,_,rfl,k⟩
  refine⟨Ag hi,?_⟩
  unfold q48 at k
  rw[y8k (t:=u0d) hi,Cr,Ar,Ar] at k
  rcases k with k | k
  ·exact .inl k
  ·exact .inr ((q25 hA hi).mp k)
 ·rintro⟨hx,k⟩
  obtain⟨i,hi,rfl⟩:=B7 hx
  refine⟨i,hi,hi,rfl,?_⟩
  unfold q48
  rw[y8k (t:=u0d) hi,Cr,Ar,Ar]
  rcases k with k | k
  ·exact .inl k
  ·exact .inr ((q25 hA hi).mpr k)
theorem p1o {E:Type} :∀ {l:Hu E},l.Nodup→1<l.length→ ∀x,∃y∈l,y≠x
 | [],_,h,_=>by simp at h
 | [_],_,h,_=>by simp at h
 | a::b::l,hn,_,x=>by
  by_cases e:a=x
  ·subst e
   refine⟨b,by simp,fun e=> ?_⟩
   subst e
   simp at hn
  ·exact⟨a,by simp,e⟩
theorem p1b {E:Type} {l:Hu E} {x y:E} (hx:x∈l) (hy:y∈l) (h:x≠y):1<l.length:=by
 match l,hx,hy with
 | [a],hx,hy=>rw[Ax] at hx hy;exact absurd (hx.trans hy.symm) h
 | a::b::l,_,_=>simp
theorem u6x {l:Hu u2b} (hA:VAsc l) {s:Int} {x:u2b} :x∈u2p l s↔x∈l∧(vCs x >s∨(p4j l s x∧(x.2.2.1=false∨ ∃y∈l,y.1=x.1∧vCs y >s))):=by
 unfold u2p
 rw[A6,q5d hA]
 unfold p4i
 rw[Cr,Cr,Ar,Ar,Bj]
 have hs:VAsc (trA l s l.length):=by
  have h:=q9d l s l.length (Au _)
  rw[Cq] at h
  exact hA.sublist h
 constructor
 ·rintro⟨⟨hx,h1⟩,h2⟩
  refine⟨hx,?_⟩
  by_cases c:vCs x >s
  ·exact .inl c
  ·rcases h1 with h1 | h1
   ·exact absurd h1 c
   ·refine .inr ⟨h1,?_⟩
    rcases h2 with h2 | h2 | h2
    ·exact .inl h2
    ·exact absurd h2 c
    ·have hn:((trA l s l.length).filter fun v=>z7o v.1 x.1).Nodup:=(hs.filter _).imp fun h e=>by subst e;exact q9g _ h
     have hl:1<((trA l s l.length).filter fun v=>z7o v.1 x.1).length:=by unfold p5s at h2;omega
     obtain⟨y,hy,hne⟩:=p1o hn hl x
     rw[A6,q5d hA] at hy
     obtain⟨⟨hyl,hy1⟩,hy2⟩:=hy
     have hk:=y7f.mp hy2
     refine .inr ⟨y,hyl,hk,?_⟩
     rcases hy1 with hy1 | hy1
     ·exact hy1
     ·have a1:=h1.2 y hyl hk hy1.1
      have a2:=hy1.2 x hx hk.symm h1.1
      exact absurd (VAsc.uni hA y hyl x hx hk (by omega)) hne
 ·rintro⟨hx,h1⟩
  rcases h1 with h1 | ⟨h1,h2⟩
  ·exact⟨⟨hx, .inl h1⟩, .inr (.inl h1)⟩
  ·refine⟨⟨hx, .inr h1⟩,?_⟩
   rcases h2 with h2 | ⟨y,hy,hk,hc⟩
   ·exact .inl h2
   ·refine .inr (.inr ?_)
    have m1:x∈(trA l s l.length).filter fun v=>z7o v.1 x.1:=by rw[A6,q5d hA];exact⟨⟨hx, .inr h1⟩,y7f.mpr rfl⟩
    have m2:y∈(trA l s l.length).filter fun v=>z7o v.1 x.1:=by rw[A6,q5d hA];exact⟨⟨hy, .inl hc⟩,y7f.mpr hk⟩
    have:=p1b m1 m2 (fun e=>by have:=h1.1;subst e;omega)
    unfold p5s
    omega
theorem r4q {l:Hu u2b} (hA:VAsc l) {a b:Int} (hab:a≤b):u2p (u2p l a) b=u2p l b:=by
 have hT:=t4l hA a
 refine(t4l hT b).ext (t4l hA b) fun x=> ?_
 refine Iff.trans (u6x hT) (Iff.trans ?_ (u6x hA).symm)
 have hsub:∀y,y∈u2p l a→y∈l:=fun y hy=>(u61 l a).subset hy
 have hup:∀y,y∈l→vCs y >a→y∈u2p l a:=fun y hy h=>(u6x hA).mpr ⟨hy, .inl h⟩
 constructor
 ·rintro⟨hx,h⟩
  have hxl:=hsub x hx
  refine⟨hxl,?_⟩
  rcases h with h | ⟨h1,h2⟩
  ·exact .inl h
  ·right
   have hL:p4j l b x:=by
    refine⟨h1.1,fun y hy e1 e2=> ?_⟩
    by_cases c:vCs y >a
    ·exact h1.2 y (hup y hy c) e1 e2
    ·by_cases c2:vCs x >a
     ·omega
     ·rcases(u6x hA).mp hx with ⟨_,h3 | ⟨h3,_⟩⟩
      ·exact absurd h3 c2
      ·exact h3.2 y hy e1 (by omega)
   refine⟨hL,?_⟩
   rcases h2 with h2 | ⟨y,hy,e1,e2⟩
   ·exact .inl h2
   ·exact .inr ⟨y,hsub y hy,e1,e2⟩
 ·rintro⟨hxl,h⟩
  rcases h with h | ⟨h1,h2⟩
  ·exact⟨hup x hxl (by omega), .inl h⟩
  ·have hx:x∈u2p l a:=by
    by_cases c:vCs x >a
    ·exact hup x hxl c
    ·refine(u6x hA).mpr ⟨hxl, .inr ⟨⟨by omega,fun y hy e1 e2=>h1.2 y hy e1 (by omega)⟩,?_⟩⟩
     rcases h2 with h2 | ⟨y,hy,e1,e2⟩
     ·exact .inl h2
     ·exact .inr ⟨y,hy,e1,by omega⟩
   refine⟨hx, .inr ⟨⟨h1.1,fun y hy=>h1.2 y (hsub y hy)⟩,?_⟩⟩
   rcases h2 with h2 | ⟨y,hy,e1,e2⟩
   ·exact .inl h2
   ·exact .inr ⟨y,hup y hy (by omega),e1,e2⟩
theorem r6y {l:Hu u2b} (hA:VAsc l) {s:Int} (hs:∀x∈l,vCs x≤s) {x:u2b} :x∈u2p l s↔x∈l∧x.2.2.1=false∧ ∀y∈l,y.1=x.1→vCs y≤vCs x:=by
 rw[u6x hA]
 constructor
 ·rintro⟨hx,h⟩
  refine⟨hx,?_⟩
  rcases h with h | ⟨h1,h2 | ⟨y,hy,_,h2⟩⟩
  ·have:=hs x hx;omega
  ·exact⟨h2,fun y hy e=>h1.2 y hy e (hs y hy)⟩
  ·have:=hs y hy;omega
 ·rintro⟨hx,h1,h2⟩
  exact⟨hx, .inr ⟨⟨hs x hx,fun y hy e _=>h2 y hy e⟩, .inl h1⟩⟩
theorem r5u {l:Hu u2b} (hA:VAsc l) {a:Int} {x:u2b} :(x∈u2p l a∧x.2.2.1=false∧ ∀y∈u2p l a,y.1=x.1→vCs y≤vCs x)↔(x∈l∧x.2.2.1=false∧ ∀y∈l,y.1=x.1→vCs y≤vCs x):=by
 constructor
 ·rintro⟨hx,h1,h2⟩
  have hxl:=(u61 l a).subset hx
  refine⟨hxl,h1,fun y hy e=> ?_⟩
  by_cases c:vCs y >a
  ·exact h2 y ((u6x hA).mpr ⟨hy, .inl c⟩) e
  ·rcases(u6x hA).mp hx with ⟨_,h3 | ⟨h3,_⟩⟩
   ·omega
   ·exact h3.2 y hy e (by omega)
 ·rintro⟨hx,h1,h2⟩
  refine⟨(u6x hA).mpr ⟨hx,?_⟩,h1,fun y hy=>h2 y ((u61 l a).subset hy)⟩
  by_cases c:vCs x >a
  ·exact .inl c
  ·exact .inr ⟨⟨by omega,fun y hy e _=>h2 y hy e⟩, .inl h1⟩
theorem p4v {l:Hu u2b} (hA:VAsc l) {v:u2b} (hn:∀x∈l,¬(x.1=v.1∧vCs x=vCs v)):VAsc (p28 l v):=by
 have le_iff:∀x:u2b,t33 v x=true↔(vLt x v∨(x.1=v.1∧vCs x=vCs v)):=fun x=>by
  unfold t33 vLt
  rw[Cr,Ai,Ar]
  constructor
  ·rintro(h | ⟨h1,h2⟩)
   ·exact .inl (.inl h)
   ·have h1:=y7f.mp h1
    have h2:vCs x≤vCs v:=h2
    rcases Int.lt_or_eq_of_le h2 with h2 | h2
    ·exact .inl (.inr ⟨h1,h2⟩)
    ·exact .inr ⟨h1,h2⟩
  ·rintro((h | ⟨h1,h2⟩) | ⟨h1,h2⟩)
   ·exact .inl h
   ·exact .inr ⟨y7f.mpr h1,Int.le_of_lt h2⟩
   ·exact .inr ⟨y7f.mpr h1,Int.le_of_eq h2⟩
 have tr:∀ {a b c:u2b},vLt a b→vLt b c→vLt a c:=fun {a b c} h k=>by
  rcases h with h | ⟨h,h'⟩<;>rcases k with k | ⟨k,k'⟩
  ·exact .inl (r4l h k)
  ·exact .inl (k ▸ h)
  ·exact .inl (h ▸ k)
  ·exact .inr ⟨h.trans k,by omega⟩
 unfold p28 VAsc
 have hsplit:l.takeWhile (t33 v)++l.dropWhile (t33 v)=l:=Fe
 have hA' :(l.takeWhile (t33 v)++l.dropWhile (t33 v)).Pairwise vLt:=by rw[hsplit];exact hA
 obtain⟨p1,p2,p3⟩:=Cg.mp hA'
 have lo:∀x∈l.takeWhile (t33 v),vLt x v:=fun x hx=>by
  have h1:t33 v x=true:=by
   have:=List.all_takeWhile (p:=t33 v) (l:=l)
   exact Bg.mp this x hx
  have h2:x∈l:=(List.takeWhile_sublist _).subset hx
  rcases(le_iff x).mp h1 with h | h
  ·exact h
  ·exact absurd h (hn x h2)
 have hi:∀x∈l.dropWhile (t33 v),vLt v x:=by
  intro x hx
  match hd:l.dropWhile (t33 v),hx,p2 with
  | [],hx,_=>cases hx
  | y::r,hx,p2=>
   have hy:t33 v y=false:=by
    have:=List.head?_dropWhile_not (t33 v) l
    rw[hd] at this
    simpa using this
   have hyl:y∈l:=(List.dropWhile_sublist (p:=t33 v)).subset (by rw[hd];simp)
   have hvy:vLt v y:=by
    rcases p64 y v (hn y hyl) with h | h
    ·rw[(le_iff y).mpr (.inl h)] at hy;cases hy
    ·exact h
   rcases A8.mp hx with rfl | hx
   ·exact hvy
   ·exact tr hvy ((Ch.mp p2).1 x hx)
 rw[Bi,Cg]
 refine⟨p1,?_,?_⟩
 ·rw[Fs,Ch]
  exact⟨hi,p2⟩
 ·intro x hx y hy
  rcases Ay.mp hy with hy | hy
  ·rw[Ax] at hy;subst hy;exact lo x hx
  ·exact p3 x hx y hy
theorem r4f {cs:Int} :∀(ws:Hu u1x.den) {l:Hu u2b},VAsc l→KD ws→(∀x∈l,∀w∈ws,¬(x.1=w.1∧vCs x=cs))→VAsc (t4b l ws cs)
 | [],l,h,_,_=>h
 | w::ws,l,h,hk,hn=>by
  have hk' :=Ch.mp hk
  have e:t4b l (w::ws) cs=t4b (p28 l (w.1,w.2.1,w.2.2,cs)) ws cs:=rfl
  rw[e]
  refine r4f ws (p4v h fun x hx=>hn x hx w (by simp)) hk'.2 fun x hx z hz=> ?_
  rcases p4m.mp hx with rfl | hx
  ·exact fun q=>hk'.1 z hz q.1
  ·exact hn x hx z (by simp[hz])
theorem p5a {l:Hu u2b} (hA:VAsc l) {ws:Hu u1x.den} (hk:KD ws) {a c:Int} (hl:∀x∈l,vCs x<c):
 u2p (t4b (u2p l a) ws c) c=u2p (t4b l ws c) c:=by
 have hT:=t4l hA a
 have hlT:∀x∈u2p l a,vCs x<c:=fun x hx=>hl x ((u61 l a).subset hx)
 have P1:VAsc (t4b (u2p l a) ws c):=r4f ws hT hk fun x hx w _ q=>by have:=hlT x hx;omega
 have P2:VAsc (t4b l ws c):=r4f ws hA hk fun x hx w _ q=>by have:=hl x hx;omega
 have t1:∀x∈t4b (u2p l a) ws c,vCs x≤c:=fun x hx=>by
  rcases(t3i ws _ c).mp hx with h | ⟨w,_,rfl⟩
  ·have:=hlT x h;omega
  ·exact Bv _
 have t2:∀x∈t4b l ws c,vCs x≤c:=fun x hx=>by
  rcases(t3i ws _ c).mp hx with h | ⟨w,_,rfl⟩
  ·have:=hl x h;omega
  ·exact Bv _
 have key:∀(m:Hu u2b),(∀x∈m,vCs x<c)→ ∀x,(x∈t4b m ws c∧x.2.2.1=false∧ ∀y∈t4b m ws c,y.1=x.1→vCs y≤vCs x)↔
  ((∃w∈ws,x=(w.1,w.2.1,w.2.2,c))∧x.2.2.1=false)∨((∀w∈ws,w.1≠x.1)∧x∈m∧x.2.2.1=false∧ ∀y∈m,y.1=x.1→vCs y≤vCs x):=by
  intro m hm x
  have mp:=fun y=>t3i (x:=y) ws m c
  constructor
  ·rintro⟨h1,h2,h3⟩
   rcases(mp x).mp h1 with h | h
   ·refine .inr ⟨fun w hw e=> ?_,h,h2,fun y hy e=>h3 y ((mp y).mpr (.inl hy)) e⟩
    have q:c≤vCs x:=h3 (w.1,w.2.1,w.2.2,c) ((mp _).mpr (.inr ⟨w,hw,rfl⟩)) e
    have:=hm x h
    omega
   ·exact .inl ⟨h,h2⟩
  ·rintro(⟨h1,h2⟩ | ⟨h1,h2,h3,h4⟩)
   ·refine⟨(mp x).mpr (.inr h1),h2,fun y hy _=> ?_⟩
    obtain⟨w,hw,rfl⟩:=h1
    show vCs y≤c
    rcases(mp y).mp hy with h | ⟨w,_,rfl⟩
    ·have:=hm y h;omega
    ·exact Bv _
   ·refine⟨(mp x).mpr (.inl h2),h3,fun y hy e=> ?_⟩
    rcases(mp y).mp hy with h | ⟨w,hw,rfl⟩
    ·exact h4 y h e
    ·exact absurd e (h1 w hw)
 refine(t4l P1 c).ext (t4l P2 c) fun x=> ?_
 rw[r6y P1 t1,r6y P2 t2,key _ hlT,key _ hl,r5u hA]
end
section
abbrev t80:=Hs×Hs
abbrev WrT:=Hs×Hs×Bool
abbrev u2s:=u0i×Hu u0j
def inB (x lo hi:Int):Bool:=decide (lo≤x)&&decide (x≤hi)
theorem r5s {x lo hi:Int} :inB x lo hi=true↔lo≤x∧x≤hi:=by simp[inB]
def u4z (s:Hs):Bool:=s.data.toList.all (fun b=>decide (97≤b.toNat)&&decide (b.toNat≤122))&&(decide (1≤s.size)&&decide (s.size≤3))
def u18 (r:t80):Bool:=u4z r.1&&(u4z r.2&&(y3c r.1 r.2 || z7o r.1 r.2))
def u19 (w:WrT):Bool:=u4z w.1&&(decide (w.2.1.size≤12)&&(!w.2.2 || decide (w.2.1.size=0)))
def q2u (t:Ty) (lt:t.den→t.den→Bool) (l:Hu t.den):Bool:=(List.range l.length).all fun i=>decide (i=0) || lt (rdL t l (i - 1)) (rdL t l i)
def u22 (l:Hu WrT):Bool:=l.all u19&&(q2u u1x (fun a b=>y3c a.1 b.1) l&&decide (l.length≤8))
def u6h (t:u0j):Bool:=
 inB t.1 1 9999&&(inB t.2.1 1 3&&(inB t.2.2.1 0 9999&&(decide (t.2.2.2.2.1.length≤8)&&(u22 t.2.2.2.2.2.1&&(t.2.2.2.2.1.all u18&&
 ((if t.2.1=3 then inB t.2.2.2.1 (t.2.2.1+1) 9999 else decide (t.2.2.2.1=0))&&((if t.2.1=2 then u4z t.2.2.2.2.2.2.2 else decide (t.2.2.2.2.2.2.2.size=0))&&(!decide (t.2.1=1) || !t.2.2.2.2.2.2.1))))))))
def r2k (v:u2b):Bool:=u4z v.1&&(decide (v.2.1.size≤12)&&((!v.2.2.1 || decide (v.2.1.size=0))&&inB v.2.2.2 1 9999))
def t9u (a b:u2b):Bool:=y3c a.1 b.1 || (z7o a.1 b.1&&decide (a.2.2.2<b.2.2.2))
def u5a (l:Hu u2b):Bool:=l.all r2k&&(q2u u0d t9u l&&decide (l.length≤120))
def r4b (l:Hu Int) (below:Int):Bool:=decide (∀x∈l,x<below)&&decide l.Nodup
def q92 (c:Int) (l:Hu u0j):Bool:=decide (l.length≤12)&&(l.all (fun t=>u6h t&&(decide (t.2.1=3)&&decide (t.2.2.2.1≤c)))&&q2u u1b (fun a b=>decide (a.2.2.2.1<b.2.2.2.1)) l)
def q5k (c:Int) (l:Hu u0j):Bool:=decide (l.length≤3)&&(l.all (fun t=>u6h t&&(decide (t.2.1=2)&&decide (t.2.2.1≤c)))&&q2u u1b (fun a b=>y3c a.2.2.2.2.2.2.2 b.2.2.2.2.2.2.2) l)
def p22 (c:Int) (l:Hu u0j):Bool:=decide (l.length≤4)&&(l.all (fun t=>u6h t&&(decide (t.2.1=1)&&decide (t.2.2.1≤c)))&&q2u u1b (fun a b=>decide (a.1<b.1)) l)
def u28 (l:Hu u0j):Hu Int:=l.map fun t=>t.1
def u4v (b:u0i):Bool:=u5a b.1&&(b.1.all (fun v=>decide (v.2.2.2≤b.2.2.2.1))&&(inB b.2.2.2.1 0 9999&&(inB b.2.2.2.2 1 9999&&(q92 b.2.2.2.1 b.2.1&&(q5k b.2.2.2.1 b.2.2.1&&r4b (u28 (b.2.1++b.2.2.1)) b.2.2.2.2)))))
def p4a (e:u2s):Bool:=u4v e.1&&(p22 e.1.2.2.2.1 e.2&&r4b (u28 (e.1.2.1++e.1.2.2.1++e.2)) e.1.2.2.2.2)
theorem q33 {t:Ty} {lt:t.den→t.den→Bool} (tr:∀a b c,lt a b=true→lt b c=true→lt a c=true) {l:Hu t.den} :q2u t lt l=true↔l.Pairwise fun a b=>lt a b=true:=by
 unfold q2u
 rw[Bg]
 constructor
 ·intro h
  have step:∀(i:Nat) (hi:i+1<l.length),lt l[i] l[i+1] =true:=fun i hi=>by
   have:=h (i+1) (Bq.mpr hi)
   rw[Cr,Ar] at this
   rcases this with q | q
   ·omega
   ·rw[Nat.add_sub_cancel,y8k (show i<l.length by omega),y8k hi] at q
    exact q
  rw[Cp]
  intro i j hi hj hij
  obtain⟨d,rfl⟩:∃d,j=i+1+d:=⟨j - (i+1),by omega⟩
  clear hij
  induction d with
  | zero=>exact step i hj
  | succ d ih=>exact tr _ _ _ (ih (by omega)) (step (i+1+d) hj)
 ·intro h i hi
  have hi:=Bq.mp hi
  rw[Cr,Ar]
  by_cases e:i=0
  ·exact .inl e
  ·refine .inr ?_
   rw[y8k (show i - 1<l.length by omega),y8k hi]
   exact Cp.mp h (i - 1) i (by omega) hi (by omega)
theorem u2q {s:Hs} (h:u4z s=true):1≤s.size∧s.size≤3:=by
 unfold u4z at h
 simp only[Ai,Ar] at h
 exact h.2
structure TxnR (t:u0j):Prop where
 id:1≤t.1∧t.1≤9999
 st:1≤t.2.1∧t.2.1≤3
 snap:0≤t.2.2.1∧t.2.2.1≤9999
 rlen:t.2.2.2.2.1.length≤8
 ws:u22 t.2.2.2.2.2.1=true
 rs:∀r∈t.2.2.2.2.1,u18 r=true
 done:t.2.1=3→t.2.2.1+1≤t.2.2.2.1∧t.2.2.2.1≤9999
 nocs:t.2.1≠3→t.2.2.2.1=0
 name:t.2.1=2→u4z t.2.2.2.2.2.2.2=true
 noname:t.2.1≠2→t.2.2.2.2.2.2.2.size=0
 out:t.2.1=1→t.2.2.2.2.2.2.1=false
theorem r4r {t:u0j} :u6h t=true↔TxnR t:=by
 unfold u6h
 simp only[Ai,Cr,r5s,Ar,Bg,Bj,Bu]
 constructor
 ·rintro⟨h1,h2,h3,h4,h5,h6,h7,h8,h9⟩
  refine⟨h1,h2,h3,h4,h5,h6,fun e=> ?_,fun e=> ?_,fun e=> ?_,fun e=> ?_,fun e=> ?_⟩
  ·rw[Al e,r5s] at h7;exact h7
  ·rw[Ao e,Ar] at h7;exact h7
  ·rw[Al e] at h8;exact h8
  ·rw[Ao e,Ar] at h8;exact h8
  ·rcases h9 with h9 | h9
   ·exact absurd e h9
   ·exact h9
 ·intro h
  refine⟨h.id,h.st,h.snap,h.rlen,h.ws,h.rs,?_,?_,?_⟩
  ·split
   ·rename_i e;rw[r5s];exact h.done e
   ·rename_i e;rw[Ar];exact h.nocs e
  ·split
   ·rename_i e;exact h.name e
   ·rename_i e;rw[Ar];exact h.noname e
  ·by_cases e:t.2.1=1
   ·exact .inr (h.out e)
   ·exact .inl e
theorem p52 {l:Hu WrT} :u22 l=true↔(∀w∈l,u19 w=true)∧(l.Pairwise fun a b=>y3c a.1 b.1=true)∧l.length≤8:=by
 unfold u22
 rw[Ai,Ai,Ar,Bg,q33 (t:=u1x) (lt:=fun a b=>y3c a.1 b.1) (fun a b c h k=>r4l h k)]
theorem q76 {l:Hu WrT} (h:u22 l=true):KD l:=
 (p52.mp h).2.1.imp fun {a b} q e=>by rw[e,u7y] at q;cases q
theorem p1p {a b:u2b} :t9u a b=true↔vLt a b:=by
 unfold t9u vLt vCs
 rw[Cr,Ai,Ar,y7f]
theorem p8w {a b c:u2b} (h:vLt a b) (k:vLt b c):vLt a c:=by
 rcases h with h | ⟨h,h'⟩<;>rcases k with k | ⟨k,k'⟩
 ·exact .inl (r4l h k)
 ·exact .inl (k ▸ h)
 ·exact .inl (h ▸ k)
 ·exact .inr ⟨h.trans k,by omega⟩
theorem p3w {l:Hu u2b} :u5a l=true↔(∀v∈l,r2k v=true)∧VAsc l∧l.length≤120:=by
 unfold u5a
 rw[Ai,Ai,Ar,Bg,q33 (t:=u0d) (lt:=t9u) (fun a b c h k=>p1p.mpr (p8w (p1p.mp h) (p1p.mp k)))]
 unfold VAsc
 simp only[p1p]
theorem s7v {l:Hu Int} {n:Int} :r4b l n=true↔(∀x∈l,x<n)∧l.Nodup:=by
 unfold r4b;rw[Ai,Ar,Ar]
structure BaseR (b:u0i):Prop where
 vs:u5a b.1=true
 vcs:∀v∈b.1,v.2.2.2≤b.2.2.2.1
 cs:0≤b.2.2.2.1∧b.2.2.2.1≤9999
 next:1≤b.2.2.2.2∧b.2.2.2.2≤9999
 plen:b.2.1.length≤12
 past:∀t∈b.2.1,TxnR t∧t.2.1=3∧t.2.2.2.1≤b.2.2.2.1
 pasc:b.2.1.Pairwise fun x y=>x.2.2.2.1<y.2.2.2.1
 rlen:b.2.2.1.length≤3
 ready:∀t∈b.2.2.1,TxnR t∧t.2.1=2∧t.2.2.1≤b.2.2.2.1
 rasc:b.2.2.1.Pairwise fun x y=>y3c x.2.2.2.2.2.2.2 y.2.2.2.2.2.2.2=true
 below:∀x∈u28 (b.2.1++b.2.2.1),x<b.2.2.2.2
 nodup:(u28 (b.2.1++b.2.2.1)).Nodup
theorem o0k {l:Hu u0j} {f:u0j→Int} :q2u u1b (fun a b=>decide (f a<f b)) l=true↔l.Pairwise fun x y=>f x<f y:=by
 rw[q33 (t:=u1b) (lt:=fun a b=>decide (f a<f b)) (fun a b c h k=>by simp only[Ar] at*;omega)]
 simp only[Ar]
theorem o3f {l:Hu u0j} :q2u u1b (fun a b=>y3c a.2.2.2.2.2.2.2 b.2.2.2.2.2.2.2) l=true↔l.Pairwise fun x y=>y3c x.2.2.2.2.2.2.2 y.2.2.2.2.2.2.2=true:=
 q33 (t:=u1b) (lt:=fun a b=>y3c a.2.2.2.2.2.2.2 b.2.2.2.2.2.2.2) (fun a b c h k=>r4l h k)
theorem q2w {b:u0i} :u4v b=true↔BaseR b:=by
 unfold u4v q92 q5k
 simp only[Ai,r5s,Ar,Bg,r4r,s7v,o3f]
 rw[o0k (f:=fun t=>t.2.2.2.1)]
 constructor
 ·rintro⟨h1,h2,h3,h4,⟨h5,h6,h7⟩,⟨h8,h9,h10⟩,h11,h12⟩
  exact⟨h1,h2,h3,h4,h5,h6,h7,h8,h9,h10,h11,h12⟩
 ·intro h
  exact⟨h.vs,h.vcs,h.cs,h.next,⟨h.plen,h.past,h.pasc⟩,⟨h.rlen,h.ready,h.rasc⟩,h.below,h.nodup⟩
structure EngR (e:u2s):Prop where
 base:BaseR e.1
 olen:e.2.length≤4
 open_:∀t∈e.2,TxnR t∧t.2.1=1∧t.2.2.1≤e.1.2.2.2.1
 oasc:e.2.Pairwise fun x y=>x.1<y.1
 below:∀x∈u28 (e.1.2.1++e.1.2.2.1++e.2),x<e.1.2.2.2.2
 nodup:(u28 (e.1.2.1++e.1.2.2.1++e.2)).Nodup
theorem p79 {e:u2s} :p4a e=true↔EngR e:=by
 unfold p4a p22
 simp only[Ai,Ar,Bg,r4r,s7v,q2w]
 rw[o0k (f:=fun t=>t.1)]
 constructor
 ·rintro⟨h1,⟨h2,h3,h4⟩,h5,h6⟩
  exact⟨h1,h2,h3,h4,h5,h6⟩
 ·intro h
  exact⟨h.base,⟨h.olen,h.open_,h.oasc⟩,h.below,h.nodup⟩
end
section
theorem u21 (l:Hu Int):(y7g l).size=l.length:=by
 simp[y7g,ByteArray.size]
theorem q9v {s:Hs} {i:Nat} (h:i<s.size):s.data.toList.getD i 0=s.data.toList[i]'(by simpa using h):=by
 rw[A5,A4 (by simpa using h)]
 rfl
theorem p8t (n m:Nat):Int.tdiv (n:Int) (m:Int)=((n / m:Nat):Int):=(Int.ofNat_tdiv n m).symm
theorem p1k (n m:Nat):Int.tmod (n:Int) (m:Int)=((n % m:Nat):Int):=(Int.ofNat_tmod n m).symm
theorem p5e {n:Nat} (h:n<256):IntKind.u8.wrap (n:Int)=(n:Int):=by
 simp[IntKind.wrap,IntKind.bits,IntKind.signed]
 omega
end
section
abbrev u0k:=Hu Hs×Hu (Int×Hs)
theorem p5t:(⟨#[]⟩:Hs)=emp:=rfl
def s82 (a b c:Int):Bool:=decide (b≤a)&&decide (a≤c)
theorem r4y (a b c:Int):u1p (a,b,c)=some (s82 a b c):=by
 rw[q4e];unfold r2z s82
 simp only[ge_iff_le]
 cases decide (b≤a)<;>rfl
theorem t45 (a b c:Int):u0r (a,b,c)=some (s82 a b c):=by
 rw[q67];unfold r6o s82
 simp only[ge_iff_le]
 cases decide (b≤a)<;>rfl
theorem s09 {d:u0k} :d.1.length≤o3d.wt d:=by simp only[Ty.wt];omega
theorem s7o {d:u0k} :d.2.length≤o3d.wt d:=by simp only[Ty.wt];omega
theorem p44 {d:u0k} {s:Hs} (h:s∈d.1):s.size≤o3d.wt d:=by
 have h1:o3d.wt d=(d.1.length+(d.1.map Ty.str.wt).sum)+(d.2.length+(d.2.map p3v.wt).sum):=rfl
 have h2:=q3o (f:=Ty.str.wt) h
 have h3:Ty.str.wt s=s.size:=rfl
 omega
theorem p4y {d:u0k} {p:Int×Hs} (h:p∈d.2):p.2.size≤o3d.wt d:=by
 have h1:o3d.wt d=(d.1.length+(d.1.map Ty.str.wt).sum)+(d.2.length+(d.2.map p3v.wt).sum):=rfl
 have h2:=q3o (f:=p3v.wt) h
 have h3:p3v.wt p=0+p.2.size:=rfl
 omega
def u82 (c:Hu (Int×Hs)) (at_:Int):Ht Hs:=c.foldl (fun t p=>if p.1=at_ then some p.2 else t) none
def u0h (d:u0k) (at_:Int):Hs×Bool:=if 0≤at_∧at_<d.1.length then((u82 d.2 at_).getD (rdL Ty.str d.1 at_.toNat),true) else(emp,false)
theorem s79 (c:Hu (Int×Hs)) (p:Int×Hs) (at_:Int):u82 (c++ [p]) at_=if p.1=at_ then some p.2 else u82 c at_:=by
 simp[u82,List.foldl_append]
theorem r2d {c:Hu (Int×Hs)} {at_:Int} {s:Hs} (h:u82 c at_=some s):∃p∈c,p.2=s:=by
 have key:∀(c:Hu (Int×Hs)) (z:Ht Hs),c.foldl (fun t p=>if p.1=at_ then some p.2 else t) z=some s→z=some s∨ ∃p∈c,p.2=s:=by
  intro c
  induction c with
  | nil=>intro z h;exact .inl h
  | cons p c ih=>
   intro z h
   rw[Bs] at h
   rcases ih _ h with h | ⟨q,hq,h⟩
   ·split at h
    ·exact .inr ⟨p,by simp,by simpa using h⟩
    ·exact .inl h
   ·exact .inr ⟨q,by simp[hq],h⟩
 rcases key c none h with h | h
 ·cases h
 ·exact h
theorem r63 (d:u0k) (at_:Int):(u0h d at_).1.size≤o3d.wt d:=by
 unfold u0h
 split
 ·rename_i h
  cases hl:u82 d.2 at_ with
  | none=>
   simp only[Eo]
   have hi:at_.toNat<d.1.length:=by omega
   rw[y8k (t:=Ty.str) hi]
   exact p44 (Ag hi)
  | some s=>
   simp only[Eb]
   obtain⟨p,hp,rfl⟩:=r2d hl
   exact p4y hp
 ·show 0≤_;omega
theorem p4h (d:u0k) (at_:Int) (hd:d.1.length≤u0l):s82 at_ 0 (IntKind.i64.wrap ((d.1.length:Int) - 1))=decide (0≤at_∧at_<d.1.length):=by
 unfold u0l at hd
 rw[y4y (by omega) (by omega)]
 unfold s82
 by_cases h:0≤at_∧at_<d.1.length
 ·rw[Bb h,Bb h.1,Bb (by omega)];rfl
 ·rw[A7 h]
  by_cases h0:0≤at_
  ·rw[Bb h0,A7 (by omega)];rfl
  ·rw[A7 h0];rfl
theorem t7c (d:u0k) (at_:Int) (hd:o3d.wt d≤u0l):u4p (d,at_)=some (u0h d at_):=by
 have h1:d.1.length≤u0l:=A9 s09 hd
 have h2:d.2.length≤u0l:=A9 s7o hd
 rw[r5j];unfold s00
 simp only[t45,p4h d at_ h1,zOb]
 unfold u0h
 unfold u0l at h1 h2
 by_cases h:0≤at_∧at_<d.1.length
 ·have hg:y4q at_ d.1.length=true:=by simp[y4q,h]
  have L:∀n:Nat,n≤d.2.length→u6t (at_,d,(n:Int) - 1)=some (match u82 (d.2.take n) at_ with
   | some s=> .inr (s,true)
   | none=> .inl (at_,d)):=by
   intro n
   induction n with
   | zero=>
    intro _
    rw[t8p];simp only[u6o]
    rfl
   | succ n ih=>
    intro hn
    have hlt:n<d.2.length:=by omega
    rw[t8p];simp only[u6o]
    have e0:((n+1:Nat):Int) - 1=(n:Int):=by simp
    have e1:decide ((n:Int)≥0)=true:=by simp
    simp only[e0,e1,Ad,y7t hlt,zTn,y8k (t:=p3v) hlt]
    rw[B9 hlt,s79]
    by_cases hp:(d.2[n]).1=at_
    ·simp only[hp,Ae,Ad,Bl]
    ·simp only[hp,Ah,Aa,Bk]
     rw[y4y (by omega) (by omega)]
     exact ih (by omega)
  have L:=L d.2.length (Au _)
  rw[Cq] at L
  have wl:IntKind.i64.wrap ((d.2.length:Int) - 1)=(d.2.length:Int) - 1:=y4y (by omega) (by omega)
  simp only[h,and_self,Ae,Ap,Aa,Bl]
  rw[wl,L]
  cases u82 d.2 at_ with
  | none=>simp only[zOb,hg,Ad,Eo]
  | some s=>rfl
 ·simp only[h,Ah,Bh,Ad,Bk];rfl
def r50 (d:u0k) (from_:Int):Nat→Nat→Hs→Hs×Bool
 | 0,_,acc=>(acc,true)
 | m+1,i,acc=>if(u0h d (from_+(i:Int))).2 then r50 d from_ m (i+1) (acc++(u0h d (from_+(i:Int))).1) else(emp,false)
def u9a (d:u0k) (from_ n:Int):Hs×Bool:=if 0≤n∧n≤100 then r50 d from_ n.toNat 0 emp else(emp,false)
theorem u58 (s:Hs):(z7t s).length=s.size:=by simp[z7t]
theorem t38 (a b:Hs):z7t (a++b)=z7t a++z7t b:=by simp[z7t,Ft]
theorem t4k (s:Hs):y7g (z7t s)=s:=by
 cases s with
 | mk d=>
  unfold y7g z7t
  simp only[List.map_map]
  have:(d.toList.map ((fun n=>UInt8.ofNat n.toNat) ∘fun b=>(b.toNat:Int)))=d.toList:=by
   conv=>rhs;rw[←List.map_id d.toList]
   apply Ff
   intro b _
   simp
  rw[this]
theorem s7w {a b c:Int} :s82 a b c=decide (b≤a∧a≤c):=by
 unfold s82
 by_cases h:b≤a<;>by_cases g:a≤c<;>simp[h,g]
theorem r8m (d:u0k) (from_ n:Int) (hd:o3d.wt d≤1073741824) (h1: -4611686018427387904≤from_) (h2:from_≤4611686018427387904):t4g (d,from_,n)=some (u9a d from_ n):=by
 have hb:o3d.wt d≤u0l:=by unfold u0l;omega
 rw[r5l];unfold s02 u9a
 simp only[t45,s7w,zOb]
 by_cases h:0≤n∧n≤100
 ·obtain⟨m,rfl⟩:∃m:Nat,n=m:=⟨n.toNat,by omega⟩
  have L:=r7d (fun x=>(u6u x).bind fun r=>match r with
   | .inl o=>some (o,true)
   | .inr z=>some z) m (fun(a:Hs) i=>(from_,(m:Int),d,a,i)) (fun i a=>r50 d from_ (m - i) i a) (fun i a=>a.size≤i*1073741824∧(i=0∨0≤from_))
   (fun a _=>by
    rw[t8q];simp only[u6p,u0b,Am,Ah,Aa,zOb,Dw,r50])
   (fun i a hi ha=>by
    have e:m - i=(m - (i+1))+1:=by omega
    have hs:=r63 d (from_+(i:Int))
    rw[t8q];simp only[u6p,u0b,hi,Ae,Ad]
    rw[e]
    simp only[r50]
    by_cases hf:from_<0∨from_ >(d.1.length:Int)
    ·left
     have hno:(u0h d (from_+(i:Int))).2=false:=by
      unfold u0h
      rw[Ao (by omega)]
     rw[hno]
     by_cases hf1:from_<0
     ·rw[Bb hf1];rfl
     ·have hf2:from_ >(d.1.length:Int):=by omega
      rw[A7 hf1,Bb hf2];rfl
    ·have hf1: ¬from_<0:=by omega
     have hf2: ¬from_ >(d.1.length:Int):=by omega
     rw[A7 hf1,A7 hf2]
     simp only[Aa,zOb]
     rw[y4y (n:=from_+(i:Int)) (by omega) (by omega),t7c d _ hb]
     simp only[zOb]
     cases hr:(u0h d (from_+(i:Int))).2 with
     | false=>left;rfl
     | true=>
      right
      refine⟨a++(u0h d (from_+(i:Int))).1,⟨by rw[Af];omega,by omega⟩,by simp,?_⟩
      simp only[Ap,Aa,Bb (show a.size+(u0h d (from_+(i:Int))).1.size≤140737488355328 by omega),Ad]
      rw[y7l (by omega)]) 0 emp (by omega) ⟨by show 0≤_;omega, .inl rfl⟩
  rw[Bb h,Al h,Ap,Aa]
  exact L
 ·rw[A7 h,Ao h];rfl
end
section
theorem p2n (v:Nat):(bif decide ((v:Int)<97) then some true else some (decide ((v:Int) >122)))=some (!(decide (97≤v)&&decide (v≤122))):=by
 have e1:decide ((v:Int)<97)= !decide (97≤v):=by by_cases h:97≤v<;>simp[h] <;>omega
 have e2:decide ((v:Int) >122)= !decide (v≤122):=by by_cases h:v≤122<;>simp[h] <;>omega
 rw[e1,e2]
 cases decide (97≤v)<;>cases decide (v≤122)<;>rfl
theorem s9c (a b c:Int):u1p (a,b,c)=some (inB a b c):=r4y a b c
theorem s1f (a b c:Int):u0r (a,b,c)=some (inB a b c):=t45 a b c
theorem t2u {X R:Type} (W:X→Ht R) (n:Nat) (mk:Int→X) (ok:Nat→Bool) (yes no:R) (hend:W (mk (n:Int))=some yes)
 (hstep:∀(i:Nat),i<n→W (mk (i:Int))=bif ok i then W (mk ((i+1:Nat):Int)) else some no):W (mk 0)=some (bif (List.range n).all ok then yes else no):=by
 have key:∀d i:Nat,i+d=n→W (mk (i:Int))=some (bif (List.range d).all (fun j=>ok (i+j)) then yes else no):=by
  intro d
  induction d with
  | zero=>intro i hi;have:i=n:=by omega
          subst this;simpa using hend
  | succ d ih=>
   intro i hi
   rw[hstep i (by omega),ih (i+1) (by omega),List.range_succ_eq_map,Gc,List.all_map,Df]
   have e:((fun j=>ok (i+j)) ∘Nat.succ)=fun j=>ok (i+1+j):=by funext j;simp only[Function.comp];congr 1;omega
   rw[e]
   cases ok i<;>rfl
 have:=key n 0 (by omega)
 simpa using this
theorem t7o {t:Ty} (l:Hu t.den) (f:t.den→Bool):((List.range l.length).all fun i=>f (rdL t l i))=l.all f:=by
 rw[Cd,Bg,Bg]
 constructor
 ·intro h x hx
  obtain⟨i,hi,rfl⟩:=B7 hx
  have:=h i (Bq.mpr hi)
  rwa [y8k hi] at this
 ·intro h i hi
  rw[y8k (Bq.mp hi)]
  exact h _ (Ag _)
theorem p2k {α:Type} (l:Hu α) (f g:α→Bool):(l.all fun i=>f i&&g i)=(l.all f&&l.all g):=by
 induction l with
 | nil=>rfl
 | cons x l ih=>simp only[Gc,ih];cases f x<;>cases g x<;>simp
theorem s2x {t:Ty} (l:Hu t.den) (f:t.den→Bool) (lt:t.den→t.den→Bool):
 ((List.range l.length).all fun i=>f (rdL t l i)&&(decide (i=0) || lt (rdL t l (i - 1)) (rdL t l i)))=(l.all f&&q2u t lt l):=by
 rw[p2k (List.range l.length) (fun i=>f (rdL t l i)) (fun i=>decide (i=0) || lt (rdL t l (i - 1)) (rdL t l i)),t7o]
 rfl
theorem t60 (i:Nat):decide ((i:Int) >0)= !decide (i=0):=by by_cases h:i=0<;>simp[h] <;>omega
theorem t35 {i:Nat} (h:i<4611686018427387904) (h0:i≠0):IntKind.i64.wrap ((i:Int) - (1:Int))=((i - 1:Nat):Int):=by
 rw[y4y (by omega) (by omega)];omega
theorem q49 (s:Hs) {i:Nat} (h:i<s.size):s.data.toList.getD i 0=s.data.toList[i]'h:=by
 rw[A5,A4 h];rfl
theorem t68 (s:Hs) (hs:s.size≤u0l):u6j s=some (u4z s):=by
 have hb:u0l=1099511627776:=rfl
 have L:=t2u t4x s.size (fun i=>(s,i)) (fun i=>(fun b:UInt8=>decide (97≤b.toNat)&&decide (b.toNat≤122)) (s.data.toList.getD i 0)) (.inl s) (.inr false)
  (by rw[r1i];simp only[t4p,u0b,Am,Ah,Aa])
  (fun i hi=>by
   rw[r1i];simp only[t4p,u0b,hi,Ae,Ad,y7t hi,zTn,y7l (show i<4611686018427387904 by omega)]
   rw[p2n];simp only[zOb]
   cases (decide (97≤(s.data.toList.getD i 0).toNat)&&decide ((s.data.toList.getD i 0).toNat≤122))<;>rfl)
 have hA:((List.range s.size).all fun i=>(fun b:UInt8=>decide (97≤b.toNat)&&decide (b.toNat≤122)) (s.data.toList.getD i 0))=s.data.toList.all (fun b=>decide (97≤b.toNat)&&decide (b.toNat≤122)):=by
  rw[Cd,Bg,Bg]
  constructor
  ·intro h x hx
   obtain⟨i,hi,rfl⟩:=B7 hx
   have:=h i (Bq.mpr hi)
   rwa [q49 s hi] at this
  ·intro h i hi
   rw[q49 s (Bq.mp hi)]
   exact h _ (Ag _)
 rw[hA] at L
 rw[q6v];unfold r6c
 simp only[L,zOb]
 unfold u4z
 cases s.data.toList.all (fun b=>decide (97≤b.toNat)&&decide (b.toNat≤122))
 ·rfl
 ·simp only[Ad,s9c,zOb,Bz]
  unfold inB
  congr 1
  have e1:decide ((1:Int)≤(s.size:Int))=decide (1≤s.size):=by simp;omega
  have e2:decide ((s.size:Int)≤3)=decide (s.size≤3):=by simp;omega
  rw[e1,e2]
theorem t2r (s:Hs) (hs:s.size≤u0l):u4h s=some (u4z s):=by
 have hb:u0l=1099511627776:=rfl
 have L:=t2u t4z s.size (fun i=>(s,i)) (fun i=>(fun b:UInt8=>decide (97≤b.toNat)&&decide (b.toNat≤122)) (s.data.toList.getD i 0)) (.inl s) (.inr false)
  (by rw[r1k];simp only[t4r,u0b,Am,Ah,Aa])
  (fun i hi=>by
   rw[r1k];simp only[t4r,u0b,hi,Ae,Ad,y7t hi,zTn,y7l (show i<4611686018427387904 by omega)]
   rw[p2n];simp only[zOb]
   cases (decide (97≤(s.data.toList.getD i 0).toNat)&&decide ((s.data.toList.getD i 0).toNat≤122))<;>rfl)
 have hA:((List.range s.size).all fun i=>(fun b:UInt8=>decide (97≤b.toNat)&&decide (b.toNat≤122)) (s.data.toList.getD i 0))=s.data.toList.all (fun b=>decide (97≤b.toNat)&&decide (b.toNat≤122)):=by
  rw[Cd,Bg,Bg]
  constructor
  ·intro h x hx
   obtain⟨i,hi,rfl⟩:=B7 hx
   have:=h i (Bq.mpr hi)
   rwa [q49 s hi] at this
  ·intro h i hi
   rw[q49 s (Bq.mp hi)]
   exact h _ (Ag _)
 rw[hA] at L
 rw[q61];unfold r6i
 simp only[L,zOb]
 unfold u4z
 cases s.data.toList.all (fun b=>decide (97≤b.toNat)&&decide (b.toNat≤122))
 ·rfl
 ·simp only[Ad,s1f,zOb,Bz]
  unfold inB
  congr 1
  have e1:decide ((1:Int)≤(s.size:Int))=decide (1≤s.size):=by simp;omega
  have e2:decide ((s.size:Int)≤3)=decide (s.size≤3):=by simp;omega
  rw[e1,e2]
theorem q59 (r:t80) (h1:r.1.size≤u0l) (h2:r.2.size≤u0l):t99 r=some (u18 r):=by
 rw[q01];unfold s9p u18
 simp only[t68 _ h1,t68 _ h2,zOb]
 cases u4z r.1<;>cases u4z r.2<;>rfl
theorem s6g (r:t80) (h1:r.1.size≤u0l) (h2:r.2.size≤u0l):t0y r=some (u18 r):=by
 rw[q1h];unfold s95 u18
 simp only[t2r _ h1,t2r _ h2,zOb]
 cases u4z r.1<;>cases u4z r.2<;>rfl
theorem u96 (s:Hs):z7o s (⟨#[]⟩:Hs)=decide (s.size=0):=by
 rw[Cd,y7f,Ar]
 constructor
 ·intro h;subst h;rfl
 ·intro h;exact Gf (Fi h)
theorem o2x (s:Hs):decide ((s.size:Int)≤12)=decide (s.size≤12):=by simp;omega
theorem q6j (w:WrT) (h1:w.1.size≤u0l):s0b w=some (u19 w):=by
 rw[q06];unfold s9u u19
 simp only[t68 _ h1,zOb,u96,o2x]
 cases u4z w.1<;>cases decide (w.2.1.size≤12)<;>cases w.2.2<;>rfl
theorem s6o (w:WrT) (h1:w.1.size≤u0l):t0z w=some (u19 w):=by
 rw[q1q];unfold r0e u19
 simp only[t2r _ h1,zOb,u96,o2x]
 cases u4z w.1<;>cases decide (w.2.1.size≤12)<;>cases w.2.2<;>rfl
theorem q3n {l:Hu WrT} {w:WrT} (h:w∈l):w.1.size≤(Ty.sl u1x).wt l∧w.2.1.size≤(Ty.sl u1x).wt l:=by
 have h1:(Ty.sl u1x).wt l=l.length+(l.map u1x.wt).sum:=rfl
 have h2:=q3o (f:=u1x.wt) h
 have h3:u1x.wt w=w.1.size+(w.2.1.size+0):=rfl
 omega
theorem q3a {l:Hu t80} {w:t80} (h:w∈l):w.1.size≤(Ty.sl u8f).wt l∧w.2.size≤(Ty.sl u8f).wt l:=by
 have h1:(Ty.sl u8f).wt l=l.length+(l.map u8f.wt).sum:=rfl
 have h2:=q3o (f:=u8f.wt) h
 have h3:u8f.wt w=w.1.size+w.2.size:=rfl
 omega
theorem t8h {t:Ty} (l:Hu t.den):l.length≤(Ty.sl t).wt l:=by
 have h1:(Ty.sl t).wt l=l.length+(l.map t.wt).sum:=rfl
 omega
theorem le8 (n:Nat):decide ((n:Int)≤8)=decide (n≤8):=by simp;omega
theorem gt8 (n:Nat):decide ((n:Int) >8)= !decide (n≤8):=by by_cases h:n≤8<;>simp[h] <;>omega
theorem q30 (l:Hu WrT) (hl:(Ty.sl u1x).wt l≤u0l):t74 l=some (u22 l):=by
 have hb:u0l=1099511627776:=rfl
 have hn:=t8h (t:=u1x) l
 have L:=t2u u9x l.length (fun i=>(l,l,(l.length:Int),i)) (fun i=>u19 (rdL u1x l i)&&(decide (i=0) || (fun a b:WrT=>y3c a.1 b.1) (rdL u1x l (i - 1)) (rdL u1x l i))) (.inl l) (.inr false)
  (by rw[s17];simp only[u9h,u0b,Am,Ah,Aa])
  (fun i hi=>by
   have hm:rdL u1x l i∈l:=by rw[y8k hi];exact Ag hi
   rw[s17];simp only[u9h,u0b,hi,Ae,Ad,y7t hi,zTn,y7l (show i<4611686018427387904 by omega),q6j _ (A9 (q3n hm).1 hl),zOb,t60]
   by_cases h0:i=0
   ·subst h0;simp only[Ae,Ap,Aa,Dx,Cz]
    cases u19 (rdL u1x l 0)<;>rfl
   ·simp only[h0,Ah,Bh,Ad,Ci,t35 (show i<4611686018427387904 by omega) h0,y7t (show i - 1<l.length by omega),zTn]
    cases u19 (rdL u1x l i)
    ·rfl
    ·simp only[Ap,Aa,zOb,Bz]
     cases y3c (rdL u1x l (i - 1)).1 (rdL u1x l i).1<;>rfl)
 rw[s2x (t:=u1x) l u19 (fun a b=>y3c a.1 b.1)] at L
 rw[r82];unfold s6u
 simp only[L,zOb]
 unfold u22
 cases l.all u19
 ·rfl
 ·cases q2u u1x (fun a b=>y3c a.1 b.1) l
  ·rfl
  ·simp only[Bz,Ad]
   rw[le8]
theorem r2v (l:Hu WrT) (hl:(Ty.sl u1x).wt l≤u0l):t3t l=some (u22 l):=by
 have hb:u0l=1099511627776:=rfl
 have hn:=t8h (t:=u1x) l
 have L:=t2u u94 l.length (fun i=>(l,i)) (fun i=>u19 (rdL u1x l i)&&(decide (i=0) || (fun a b:WrT=>y3c a.1 b.1) (rdL u1x l (i - 1)) (rdL u1x l i))) (.inl l) (.inr false)
  (by rw[s2l];simp only[u9v,u0b,Am,Ah,Aa])
  (fun i hi=>by
   have hm:rdL u1x l i∈l:=by rw[y8k hi];exact Ag hi
   rw[s2l];simp only[u9v,u0b,hi,Ae,Ad,y7t hi,zTn,y7l (show i<4611686018427387904 by omega),s6o _ (A9 (q3n hm).1 hl),zOb,t60]
   by_cases h0:i=0
   ·subst h0;simp only[Ae,Ap,Aa,Dx,Cz]
    cases u19 (rdL u1x l 0)<;>rfl
   ·simp only[h0,Ah,Bh,Ad,Ci,t35 (show i<4611686018427387904 by omega) h0,y7t (show i - 1<l.length by omega),zTn]
    cases u19 (rdL u1x l i)
    ·rfl
    ·simp only[Ap,Aa,zOb,Bz]
     cases y3c (rdL u1x l (i - 1)).1 (rdL u1x l i).1<;>rfl)
 rw[s2x (t:=u1x) l u19 (fun a b=>y3c a.1 b.1)] at L
 rw[r9l];unfold s7e
 simp only[L,zOb]
 unfold u22
 cases l.all u19
 ·rfl
 ·cases q2u u1x (fun a b=>y3c a.1 b.1) l
  ·rfl
  ·simp only[Bz,Ad]
   rw[le8]
theorem p3m (t:u0j):u1b.wt t=0+(0+(0+(0+((Ty.sl u8f).wt t.2.2.2.2.1+((Ty.sl u1x).wt t.2.2.2.2.2.1+(0+t.2.2.2.2.2.2.2.size)))))):=rfl
theorem s0q (t:u0j) (ht:u1b.wt t≤u0l):u6k t=some (u6h t):=by
 have hb:u0l=1099511627776:=rfl
 have hw:=p3m t
 have hn:=t8h (t:=u8f) t.2.2.2.2.1
 have L:=t2u t4y t.2.2.2.2.1.length (fun i=>(t,t.2.2.2.2.1,(t.2.2.2.2.1.length:Int),i)) (fun i=>u18 (rdL u8f t.2.2.2.2.1 i)) (.inl t) (.inr false)
  (by rw[r1j];simp only[t4q,u0b,Am,Ah,Aa])
  (fun i hi=>by
   have hm:rdL u8f t.2.2.2.2.1 i∈t.2.2.2.2.1:=by rw[y8k hi];exact Ag hi
   have hz:=q3a hm
   rw[r1j];simp only[t4q,u0b,hi,Ae,Ad,y7t hi,zTn,y7l (show i<4611686018427387904 by omega),q59 (rdL u8f t.2.2.2.2.1 i) (A9 hz.1 (by omega)) (A9 hz.2 (by omega)),zOb]
   cases u18 (rdL u8f t.2.2.2.2.1 i)<;>rfl)
 rw[t7o (t:=u8f) t.2.2.2.2.1 u18] at L
 rw[q6x];unfold r6e
 have k1:=q30 t.2.2.2.2.2.1 (by omega)
 have k2:=t68 t.2.2.2.2.2.2.2 (by omega)
 simp only[L,zOb]
 unfold u6h
 cases t.2.2.2.2.1.all u18
 ·simp only[Aa,Fx,Fy]
 ·simp only[Ad,s9c,k1,k2,zOb,u96,gt8,Bz]
  cases h3:inB t.2.2.1 0 9999
  ·cases inB t.1 1 9999<;>cases inB t.2.1 1 3<;>simp
  ·have h3' :=r5s.mp h3
   rw[y4y (n:=t.2.2.1+1) (by omega) (by omega)]
   cases inB t.1 1 9999<;>cases inB t.2.1 1 3<;>cases decide (t.2.2.2.2.1.length≤8)<;>cases u22 t.2.2.2.2.2.1<;>simp
   generalize inB t.2.2.2.1 (t.2.2.1+1) 9999=b1
   generalize u4z t.2.2.2.2.2.2.2=b2
   by_cases e3:t.2.1=3
   ·cases t.2.2.2.2.2.2.1<;>cases b1<;>simp[e3]
   ·by_cases e2:t.2.1=2
    ·cases t.2.2.2.2.2.2.1<;>cases b2<;>by_cases e5:t.2.2.2.1=0<;>simp[e2,e5]
    ·by_cases e1:t.2.1=1<;>cases t.2.2.2.2.2.2.1<;>by_cases e5:t.2.2.2.1=0<;>simp[e1,e2,e3,e5]
theorem t2t (t:u0j) (ht:u1b.wt t≤u0l):u4j t=some (u6h t):=by
 have hb:u0l=1099511627776:=rfl
 have hw:=p3m t
 have hn:=t8h (t:=u8f) t.2.2.2.2.1
 have L:=t2u t42 t.2.2.2.2.1.length (fun i=>(t,i)) (fun i=>u18 (rdL u8f t.2.2.2.2.1 i)) (.inl t) (.inr false)
  (by rw[r1o];simp only[t4v,u0b,Am,Ah,Aa])
  (fun i hi=>by
   have hm:rdL u8f t.2.2.2.2.1 i∈t.2.2.2.2.1:=by rw[y8k hi];exact Ag hi
   have hz:=q3a hm
   rw[r1o];simp only[t4v,u0b,hi,Ae,Ad,y7t hi,zTn,y7l (show i<4611686018427387904 by omega),s6g (rdL u8f t.2.2.2.2.1 i) (A9 hz.1 (by omega)) (A9 hz.2 (by omega)),zOb]
   cases u18 (rdL u8f t.2.2.2.2.1 i)<;>rfl)
 rw[t7o (t:=u8f) t.2.2.2.2.1 u18] at L
 rw[q66];unfold r6n
 have k1:=r2v t.2.2.2.2.2.1 (by omega)
 have k2:=t2r t.2.2.2.2.2.2.2 (by omega)
 simp only[L,s1f,k1,k2,zOb,u96,gt8]
 unfold u6h
 cases t.2.2.2.2.1.all u18
 ·cases inB t.1 1 9999<;>cases inB t.2.1 1 3<;>cases inB t.2.2.1 0 9999<;>cases decide (t.2.2.2.2.1.length≤8)<;>cases u22 t.2.2.2.2.2.1<;>simp
 ·simp only[Ad,Bz,s1f,k2,zOb,u96]
  cases h3:inB t.2.2.1 0 9999
  ·cases inB t.1 1 9999<;>cases inB t.2.1 1 3<;>simp
  ·have h3' :=r5s.mp h3
   rw[y4y (n:=t.2.2.1+1) (by omega) (by omega)]
   cases inB t.1 1 9999<;>cases inB t.2.1 1 3<;>cases decide (t.2.2.2.2.1.length≤8)<;>cases u22 t.2.2.2.2.2.1<;>try rfl
   generalize decide (t.2.2.2.2.2.2.2.size=0)=b4
   generalize inB t.2.2.2.1 (t.2.2.1+1) 9999=b1
   generalize u4z t.2.2.2.2.2.2.2=b2
   by_cases e3:t.2.1=3
   ·cases t.2.2.2.2.2.2.1<;>cases b1<;>cases b4<;>simp[e3]
   ·by_cases e2:t.2.1=2
    ·cases t.2.2.2.2.2.2.1<;>cases b2<;>by_cases e5:t.2.2.2.1=0<;>simp[e2,e5]
    ·by_cases e1:t.2.1=1<;>cases t.2.2.2.2.2.2.1<;>cases b4<;>by_cases e5:t.2.2.2.1=0<;>simp[e1,e2,e3,e5]
end
section
section
variable {l:Hu u1b.den} (hl:p8f l) {u:Hu Nat} (ho:o0n l=some u)
include hl
include ho
def pre (l:Hu u1b.den) (u:Hu Nat) (a:Nat):Hu u1b.den:=(u.take a).map fun i=>rdL u1b l i
end
end
section
theorem p46 (l:Hu Int):(y7g l).size=l.length:=by
 simp[y7g,ByteArray.size]
theorem p19 (n:Nat) (b:Int) (hn:n≤1000000):∃t,u7v ((n:Int),b)=some t∧t.size=n:=by
 have key:∀(r i:Nat) (a:Hu Int),a.length=n→i+r=n→ ∃a' :Hu Int,u3x ((n:Int),b,a,(i:Int))=some (.inl a')∧a'.length=n:=by
  intro r
  induction r with
  | zero=>
   intro i a ha hi
   have:i=n:=by omega
   subst this
   rw[t2g]
   simp only[u66,u0b,Am,Ah,Aa]
   exact⟨a,rfl,ha⟩
  | succ r ih=>
   intro i a ha hi
   have hlt:i<n:=by omega
   rw[t2g]
   simp only[u66,u0b,hlt,Ae,Ad,y7t (show i<a.length by omega)]
   rw[y7l (by omega)]
   exact ih (i+1) _ (by simp[ha]) (by omega)
 obtain⟨a',e1,h1⟩:=key n 0 (List.replicate n (Ty.int .u8).zero) (by simp) (by omega)
 have e1:u3x ((n:Int),b,List.replicate n (Ty.int .u8).zero,0)=_:=e1
 have hc:(decide (0≤(n:Int))&&decide ((n:Int)≤1099511627776))=true:=by simp;omega
 rw[r03];unfold t95
 rw[hc,Ad]
 simp only[zTn,e1,zOb]
 exact⟨_,rfl,by rw[p46];exact h1⟩
def p9n (w:u1x.den):Prop:=w.1.size≤4∧w.2.1.size≤13
theorem p7z {s:Src} (h:s.ok):Dr (s3a s) p9n:=by
 rw[q4x];unfold r3i
 obtain⟨w,s1,e1,k1,r1⟩:=q9q h
 obtain⟨y2,s2,e2,k2,r2⟩:=u1t k1 (n:=8) (by omega)
 simp only[e1,e2,zOb]
 by_cases c0:y2=0
 ·obtain⟨y3,s3,e3,k3,r3⟩:=s6f k2 (l:= [(⟨#[]⟩:Hs),(⟨#[65]⟩:Hs),(⟨#[97,98,99,100]⟩:Hs),(⟨#[97,98,99]⟩:Hs)]) (by decide)
  simp only[c0,Ae,Ad,e3,zOb]
  have hz:y3.size≤4:=by
   simp only[A8,Ep,Em] at r3
   rcases r3 with rfl | rfl | rfl | rfl<;>decide
  exact⟨_,_,rfl,k3,hz,by show w.2.1.size≤13;omega⟩
 ·simp only[c0,Ah,Aa]
  by_cases c1:y2=1
  ·obtain⟨y4,s4,e4,k4,r4⟩:=u1t k2 (n:=2) (by omega)
   have hw:IntKind.i64.wrap (12+y4)=(((12+y4).toNat:Nat):Int):=by rw[y4y (by omega) (by omega)];omega
   obtain⟨t,e5,h5⟩:=p19 (12+y4).toNat 97 (by omega)
   simp only[c1,Ae,Ad,e4,zOb,hw,e5]
   exact⟨_,_,rfl,k4,by show w.1.size≤4;omega,by show t.size≤13;omega⟩
  ·simp only[c1,Ah,Aa]
   by_cases c2:y2=2
   ·simp only[c2,Ae,Ad]
    exact⟨_,_,rfl,k2,by show w.1.size≤4;omega,by show w.2.1.size≤13;omega⟩
   ·simp only[c2,Ah,Aa]
    exact⟨_,_,rfl,k2,by show w.1.size≤4;omega,by show w.2.1.size≤13;omega⟩
def midTx (n:Nat) (t:u1b.den):Prop:=t.2.2.2.2.1.length≤n∧(∀r∈t.2.2.2.2.1,r.1.size≤2∧r.2.size≤2)∧t.2.2.2.2.2.1.length≤n∧(∀r∈t.2.2.2.2.2.1,p9n r)∧t.2.2.2.2.2.2.2.size≤16
theorem p2g {s:Src} (h:s.ok):Dr (t3y s) (midTx 3):=by
 rw[q41];unfold r3m
 obtain⟨y1,s1,e1,k1,r1⟩:=u1t h (n:=6) (by omega)
 obtain⟨y2,s2,e2,k2,r2⟩:=u1t k1 (n:=3) (by omega)
 obtain⟨y3,s3,e3,k3,r3⟩:=u1t k2 (n:=6) (by omega)
 obtain⟨y4,s4,e4,k4,r4⟩:=p2c k3
 obtain⟨y5,s5,e5,k5,r5⟩:=p2j k4
 have hw:∀r∈y5,p9n r:=fun r hr=>by have:=r5.2.1 r hr;exact⟨by omega,by omega⟩
 simp only[e1,e2,e3,e4,e5,zOb]
 cases decide (IntKind.i64.wrap (1+y2)=2) with
 | true=>
  obtain⟨y6,s6,e6,k6,r6⟩:=q9k k5
  obtain⟨y7,s7,e7,k7,r7⟩:=s2q k6 (n:=2) (by omega)
  simp only[Ad,e6,e7,zOb]
  exact⟨_,_,rfl,k7,r4.1,r4.2,r5.1,hw,by show y6.size≤16;omega⟩
 | false=>
  simp only[Aa]
  cases decide (IntKind.i64.wrap (1+y2)=3) with
  | true=>
   obtain⟨y8,s8,e8,k8,r8⟩:=u1t k5 (n:=4) (by omega)
   obtain⟨y9,s9,e9,k9,r9⟩:=s2q k8 (n:=2) (by omega)
   simp only[Ad,e8,e9,zOb]
   exact⟨_,_,rfl,k9,r4.1,r4.2,r5.1,hw,by show ByteArray.size ⟨#[]⟩≤16;decide⟩
  | false=>
   exact⟨_,_,rfl,k5,r4.1,r4.2,r5.1,hw,by show ByteArray.size ⟨#[]⟩≤16;decide⟩
theorem p6g (t:u1b.den) (h1:t.2.2.2.2.1.length≤1000000) (h2:t.2.2.2.2.2.1.length≤1000000):u0t t=some t:=by
 rw[r05];unfold t96
 simp only[Cc,Co,Cf,u1c (show t.2.2.2.2.1.length≤1099511627776 by omega),u1c (show t.2.2.2.2.2.1.length≤1099511627776 by omega),Ad]
theorem p2u {y:Int} (h:0≤y):y4q (Int.tmod y 3) 3=true:=by
 have:=s9a h (n:=3) (by omega)
 exact y7s.mpr ⟨this.1,by simpa using this.2⟩
theorem q3x {s:Src} (h:s.ok):Dr (t3x s) (midTx 4):=by
 rw[q4z];unfold r3k
 obtain⟨y1,s1,e1,k1,r1⟩:=u1t h (n:=12) (by omega)
 obtain⟨y2,s2,e2,k2,r2⟩:=u1t k1 (n:=60) (by omega)
 obtain⟨t,s3,e3,k3,m1,m2,m3,m4,m5⟩:=p2g k2
 have hc:=p6g t (by omega) (by omega)
 have hi:=p2u r2.1
 simp only[e1,e2,e3,hc,zOb,Bc,Cc,Co,Nat.reduceAdd,hi,Ad]
 have base:midTx 4 t:=⟨by omega,m2,by omega,m4,m5⟩
 obtain⟨b1,b2,b3,b4,b5⟩:=base
 cases decide (y1=0) with
 | true=>exact⟨_,_,rfl,k3,b1,b2,b3,b4,b5⟩
 | false=>
  simp only[Aa]
  cases decide (y1=1) with
  | true=>exact⟨_,_,rfl,k3,b1,b2,b3,b4,b5⟩
  | false=>
   simp only[Aa]
   cases decide (y1=2) with
   | true=>exact⟨_,_,rfl,k3,b1,b2,b3,b4,b5⟩
   | false=>
    simp only[Aa]
    cases decide (y1=3) with
    | true=>
     refine⟨_,_,rfl,k3,b1,b2,b3,b4,?_⟩
     show(rdL Ty.str _ _).size≤16
     have hr:=s9a r2.1 (n:=3) (by omega)
     have:(Int.tmod y2 3).toNat=0∨(Int.tmod y2 3).toNat=1∨(Int.tmod y2 3).toNat=2:=by omega
     rcases this with q | q | q<;>rw[q] <;>decide
    | false=>
     simp only[Aa]
     cases decide (y1=4) with
     | true=>
      simp only[Ad,u1c (show t.2.2.2.2.1.length+1≤1099511627776 by omega)]
      refine⟨_,_,rfl,k3,by show(t.2.2.2.2.1++ [_]).length≤4;simp;omega,?_,b3,b4,b5⟩
      intro r hr
      rcases Ay.mp hr with q | q
      ·exact b2 r q
      ·simp only[Ax] at q
       subst q
       exact⟨by decide,by decide⟩
     | false=>
      simp only[Aa]
      cases decide (y1=5) with
      | true=>
       obtain⟨w,s4,e4,k4,r4⟩:=p7z k3
       simp only[Ad,e4,zOb,u1c (show t.2.2.2.2.2.1.length+1≤1099511627776 by omega)]
       refine⟨_,_,rfl,k4,b1,b2,by show(t.2.2.2.2.2.1++ [_]).length≤4;simp;omega,?_,b5⟩
       intro r hr
       rcases Ay.mp hr with q | q
       ·exact b4 r q
       ·simp only[Ax] at q
        subst q
        exact r4
      | false=>
       simp only[Aa]
       cases decide (y1=6) with
       | true=>exact⟨_,_,rfl,k3,b1,b2,b3,b4,b5⟩
       | false=>exact⟨_,_,rfl,k3,b1,b2,b3,b4,b5⟩
end
section
theorem p0f {l:Hu u2b} {w:u2b} (h:w∈l):w.1.size≤(Ty.sl u0d).wt l∧w.2.1.size≤(Ty.sl u0d).wt l:=by
 have h1:(Ty.sl u0d).wt l=l.length+(l.map u0d.wt).sum:=rfl
 have h2:=q3o (f:=u0d.wt) h
 have h3:u0d.wt w=w.1.size+(w.2.1.size+(0+0)):=rfl
 omega
theorem p9k (n:Nat):decide ((n:Int) >12)= !decide (n≤12):=by by_cases h:n≤12<;>simp[h] <;>omega
theorem p8d (n:Nat):decide ((n:Int)≤120)=decide (n≤120):=by simp;omega
theorem r9u (a b:Int):decide (a≥b)= !decide (a<b):=by
 by_cases h:a<b
 ·have: ¬a≥b:=by omega
  simp[h,this]
 ·have:a≥b:=by omega
  simp[h,this]
theorem r9w (a b:Int):decide (a >b)= !decide (a≤b):=by
 by_cases h:a≤b
 ·have: ¬a >b:=by omega
  simp[h,this]
 ·have:a >b:=by omega
  simp[h,this]
theorem p6o (a b:u2b):∃r,u5k (a,b)=some r∧decide (r≥0)= !t9u a b:=by
 rw[s7p];unfold t5n t9u
 simp only[p0k,zOb]
 rcases r2j a.1 b.1 with h | h | h
 ·exact⟨-1,by simp[h],by simp[h]⟩
 ·simp only[h,u7y,y6l,Br,Bk,Bl,Ae,Ap,Aa,p6f,zOb,Ci,Bz]
  refine⟨_,rfl,?_⟩
  by_cases h3:a.2.2.2<b.2.2.2
  ·simp[h3]
  ·by_cases h4:a.2.2.2 >b.2.2.2<;>simp[h3,h4]
 ·have e1:=s3f h
  have e2:z7o a.1 b.1=false:=q89.mpr (fun e=>by rw[e,u7y] at h;cases h)
  exact⟨1,by simp[e1,e2],by simp[e1,e2]⟩
theorem r8n (l:Hu u2b) (hl:(Ty.sl u0d).wt l≤u0l):t4d l=some (u5a l):=by
 have hb:u0l=1099511627776:=rfl
 have hn:=t8h (t:=u0d) l
 have L:=t2u u6r l.length (fun i=>(l,l,(l.length:Int),i)) (fun i=>r2k (rdL u0d l i)&&(decide (i=0) || t9u (rdL u0d l (i - 1)) (rdL u0d l i))) (.inl l) (.inr false)
  (by rw[t8m];simp only[u6l,u0b,Am,Ah,Aa])
  (fun i hi=>by
   have hm:rdL u0d l i∈l:=by rw[y8k hi];exact Ag hi
   rw[t8m];simp only[u6l,u0b,hi,Ae,Ad,y7t hi,zTn,y7l (show i<4611686018427387904 by omega),t68 _ (A9 (p0f hm).1 hl),s9c,zOb,t60,u96,p9k]
   unfold r2k
   generalize u4z (rdL u0d l i).1=b1
   generalize decide ((rdL u0d l i).2.1.size≤12)=b2
   generalize decide ((rdL u0d l i).2.1.size=0)=b3
   generalize (rdL u0d l i).2.2.1=b4
   generalize inB (rdL u0d l i).2.2.2 1 9999=b5
   by_cases h0:i=0
   ·subst h0;simp only[Ae,Ap,Aa,Dx,Cz]
    cases b1<;>cases b2<;>cases b3<;>cases b4<;>cases b5<;>rfl
   ·obtain⟨r,hr,hr2⟩:=p6o (rdL u0d l (i - 1)) (rdL u0d l i)
    simp only[h0,Ah,Bh,Ad,Ci,t35 (show i<4611686018427387904 by omega) h0,y7t (show i - 1<l.length by omega),zTn,hr,hr2,zOb]
    cases t9u (rdL u0d l (i - 1)) (rdL u0d l i)<;>cases b1<;>cases b2<;>cases b3<;>cases b4<;>cases b5<;>rfl)
 rw[s2x (t:=u0d) l r2k t9u] at L
 rw[r5d];unfold s0u
 simp only[L,zOb]
 unfold u5a
 cases l.all r2k
 ·rfl
 ·cases q2u u0d t9u l
  ·rfl
  ·simp only[Bz,Ad]
   rw[p8d]
theorem r8o (l:Hu u2b) (hl:(Ty.sl u0d).wt l≤u0l):t4h l=some (u5a l):=by
 have hb:u0l=1099511627776:=rfl
 have hn:=t8h (t:=u0d) l
 have L:=t2u u6v l.length (fun i=>(l,i)) (fun i=>r2k (rdL u0d l i)&&(decide (i=0) || t9u (rdL u0d l (i - 1)) (rdL u0d l i))) (.inl l) (.inr false)
  (by rw[t8r];simp only[u6q,u0b,Am,Ah,Aa])
  (fun i hi=>by
   have hm:rdL u0d l i∈l:=by rw[y8k hi];exact Ag hi
   rw[t8r];simp only[u6q,u0b,hi,Ae,Ad,y7t hi,zTn,y7l (show i<4611686018427387904 by omega),t2r _ (A9 (p0f hm).1 hl),s1f,zOb,t60,u96,p9k]
   unfold r2k t9u
   generalize u4z (rdL u0d l i).1=b1
   generalize decide ((rdL u0d l i).2.1.size≤12)=b2
   generalize decide ((rdL u0d l i).2.1.size=0)=b3
   generalize (rdL u0d l i).2.2.1=b4
   generalize inB (rdL u0d l i).2.2.2 1 9999=b5
   by_cases h0:i=0
   ·subst h0;simp only[Ae,Ap,Aa,Dx,Cz]
    cases b1<;>cases b2<;>cases b3<;>cases b4<;>cases b5<;>rfl
   ·simp only[h0,Ah,Bh,Ad,Ci,t35 (show i<4611686018427387904 by omega) h0,y7t (show i - 1<l.length by omega),zTn,zOb]
    rcases r2j (rdL u0d l (i - 1)).1 (rdL u0d l i).1 with h | h | h
    ·have e2:z7o (rdL u0d l (i - 1)).1 (rdL u0d l i).1=false:=q89.mpr (fun e=>by rw[e,u7y] at h;cases h)
     rw[h,e2]
     cases b1<;>cases b2<;>cases b3<;>cases b4<;>cases b5<;>rfl
    ·rw[h,u7y,y6l]
     rw[r9u]
     cases decide ((rdL u0d l (i - 1)).2.2.2<(rdL u0d l i).2.2.2)<;>cases b1<;>cases b2<;>cases b3<;>cases b4<;>cases b5<;>rfl
    ·have e1:=s3f h
     have e2:z7o (rdL u0d l (i - 1)).1 (rdL u0d l i).1=false:=q89.mpr (fun e=>by rw[e,u7y] at h;cases h)
     rw[e1,e2]
     cases b1<;>cases b2<;>cases b3<;>cases b4<;>cases b5<;>rfl)
 rw[s2x (t:=u0d) l r2k t9u] at L
 rw[r5m];unfold s03
 simp only[L,zOb]
 unfold u5a
 cases l.all r2k
 ·rfl
 ·cases q2u u0d t9u l
  ·rfl
  ·simp only[Bz,Ad]
   rw[p8d]
theorem p30 (n:Nat) (hn:n≤1099511627776):u7x ((),(n:Int))=some [] :=by
 rw[s6e];unfold t36
 have e0:IntKind.i64.wrap ((0:Int) - (0:Int))=0:=by rw[y4y (by omega) (by omega)];rfl
 have e1:IntKind.i64.wrap ((n:Int) - 0)=(n:Int):=by rw[y4y (by omega) (by omega)];omega
 have e2:decide ((n:Int)<0)=false:=A7 (by omega)
 simp only[e0,e1,e2,Aa]
 by_cases h:n=0
 ·subst h;simp
 ·have e3:decide ((n:Int) >0)=true:=by simp;omega
  have e4:(decide ((1:Int)≤(n:Int))&&decide ((n:Int)≤1099511627776))=true:=by simp;omega
  simp only[e3,e4,Ad]
  simp
theorem p0l (ls:Hu (Hu u0j)) (h:ls.flatten.length≤1099511627776) (hn:ls.length≤1099511627776):u3q ls=some ls.flatten:=by
 have fl:∀(i:Nat),i≤ls.length→(ls.take i).flatten.length≤ls.flatten.length:=fun i _=>by
  have:=En i ls
  have h2:ls.flatten=(ls.take i).flatten++(ls.drop i).flatten:=by rw[←Ga,this]
  rw[h2,Ba];omega
 have st:∀(i:Nat) (hi:i<ls.length),(ls.take (i+1)).flatten=(ls.take i).flatten++ls[i] :=fun i hi=>by
  rw[Gm,A4 hi,Ga];simp
 have L1:=r7d u14 ls.length (fun(n:Nat) i=>(ls,(n:Int),ls,(ls.length:Int),i)) (fun _ _=> .inl (ls,(ls.flatten.length:Int))) (fun i n=>n=(ls.take i).flatten.length)
  (fun n hP=>by
   rw[Cq] at hP;subst hP
   rw[t0k];simp only[u24,u0b,Am,Ah,Aa])
  (fun i n hi hP=> .inr ⟨(ls.take (i+1)).flatten.length,rfl,rfl,by
   have h1:=fl (i+1) (by omega)
   have h2:(ls.take (i+1)).flatten.length=n+ls[i].length:=by rw[st i hi,Ba,hP]
   have e1:IntKind.i64.wrap ((n:Int)+((ls[i].length:Nat):Int))=((n+ls[i].length:Nat):Int):=by rw[y4y (by omega) (by omega)];omega
   have e2:decide (((n+ls[i].length:Nat):Int)<0)=false:=by simp;omega
   rw[t0k];simp only[u24,u0b,hi,Ae,Ad,y7t hi,zTn,y8k (t:=Ty.sl u1b) hi,y7l (show i<4611686018427387904 by omega),h2]
   rw[e1,e2];rfl⟩) 0 0 (by omega) rfl
 have L2:=r7d u1w ls.length (fun(a:Hu u0j) i=>(a,ls,(ls.length:Int),i)) (fun _ _=> .inl ls.flatten) (fun i a=>a=(ls.take i).flatten)
  (fun a hP=>by
   rw[Cq] at hP;subst hP
   rw[u9c];simp only[u2v,u0b,Am,Ah,Aa])
  (fun i a hi hP=> .inr ⟨(ls.take (i+1)).flatten,rfl,rfl,by
   have h1:=fl (i+1) (by omega)
   have h2:(ls.take (i+1)).flatten.length=a.length+ls[i].length:=by rw[st i hi,Ba,hP]
   rw[u9c];simp only[u2v,u0b,hi,Ae,Ad,y7t hi,zTn,y8k (t:=Ty.sl u1b) hi,y7l (show i<4611686018427387904 by omega)]
   rw[u1c (show a.length+ls[i].length≤1099511627776 by omega),st i hi,hP];rfl⟩) 0 [] (by omega) rfl
 rw[s1a];unfold t2w
 have L1' :u14 (ls,(0:Int),ls,(ls.length:Int),0)=some (.inl (ls,(ls.flatten.length:Int))):=L1
 have L2' :u1w ([],ls,(ls.length:Int),0)=some (.inl ls.flatten):=L2
 simp only[L1',zOb,p30 _ h,L2']
end
section
theorem p2v (l:Hu u0j) (n:Int):((List.range l.length).all fun i=>decide ((rdL u1b l i).1<n)&& !((l.take i).any fun y=>decide (y.1=(rdL u1b l i).1)))=r4b (u28 l) n:=by
 rw[Cd,Bg,s7v]
 unfold u28
 constructor
 ·intro h
  constructor
  ·intro x hx
   obtain⟨t,ht,rfl⟩:=Bx.mp hx
   obtain⟨i,hi,rfl⟩:=B7 ht
   have:=h i (Bq.mpr hi)
   rw[Ai,Ar,y8k hi] at this
   exact this.1
  ·rw[D8,Dl,Cp]
   intro i j hi hj hij e
   have:=h j (Bq.mpr hj)
   rw[Ai,Bj,y8k hj] at this
   have hm:l[i] ∈l.take j:=by
    rw[Gy]
    exact⟨i,by simp;omega,by simp⟩
   have:=Ct.mp this.2 _ hm
   simp only[Ar] at this
   exact this e
 ·rintro⟨h1,h2⟩ i hi
  have hi:=Bq.mp hi
  rw[Ai,Ar,y8k hi,Bj]
  refine⟨h1 _ (Bx.mpr ⟨_,Ag hi,rfl⟩),?_⟩
  rw[Ct]
  intro y hy
  rw[Gy] at hy
  obtain⟨j,hj,rfl⟩:=hy
  simp only[Ec] at hj
  rw[D8,Dl,Cp] at h2
  simp only[Fc,Ar]
  exact h2 j i (by omega) hi (by omega)
theorem q2d (l:Hu u0j) (n:Int) (hl:l.length≤1099511627776):t2b (l,n)=some (r4b (u28 l) n):=by
 have hsome:∀(m:Hu u0j) (t:u0j),m.length≤1099511627776→u4c (m,t)=some (m.any fun y=>decide (y.1=t.1)):=by
  intro m t hm
  have L:=Q.first (T:=u1b) (c:=u0j) (W:=u0y) (q:=t3o) (p:=fun y:u0j=>decide (y.1=t.1)) (fun x=>u5p x) m t (by omega) (fun x _=>by rw[r3x];rfl)
  simp only[t6z,u8e,u5o,u2c,u6g,u2t,L,zOb]
  rw[←q8r]
  by_cases h:u1o (fun y:u0j=>decide (y.1=t.1)) m<m.length
  ·simp[h]
  ·simp[h]
 have L:=t2u u8a l.length (fun i=>(l,n,l,(l.length:Int),i)) (fun i=>decide ((rdL u1b l i).1<n)&& !((l.take i).any fun y=>decide (y.1=(rdL u1b l i).1))) (.inl ()) (.inr false)
  (by rw[t9w];simp only[u70,u0b,Am,Ah,Aa])
  (fun i hi=>by
   have e1:(decide ((0:Int)≤0)&&decide ((0:Int)≤(i:Int))&&decide ((i:Int)≤(l.length:Int)))=true:=by simp;omega
   have e2:(l.take i).drop ((0:Int)).toNat=l.take i:=by simp
   have e3:=hsome (l.take i) (rdL u1b l i) (by simp;omega)
   rw[t9w];simp only[u70,u0b,hi,Ae,Ad,y7t hi,zTn,y7l (show i<4611686018427387904 by omega),r9u (rdL u1b l i).1 n,e1]
   rw[e2,e3]
   cases decide ((rdL u1b l i).1<n)
   ·rfl
   ·simp only[Ap,Aa,zOb,Bz]
    cases (l.take i).any fun y=>decide (y.1=(rdL u1b l i).1)<;>rfl)
 rw[p2v] at L
 rw[r7j];unfold s3t
 simp only[L,zOb]
 cases r4b (u28 l) n<;>rfl
theorem r1v (b:u0i):p73.wt b=(Ty.sl u0d).wt b.1+((Ty.sl u1b).wt b.2.1+((Ty.sl u1b).wt b.2.2.1+(0+0))):=rfl
theorem r52 {l:Hu u0j} {t:u0j} (h:t∈l):u1b.wt t≤(Ty.sl u1b).wt l:=by
 have h1:(Ty.sl u1b).wt l=l.length+(l.map u1b.wt).sum:=rfl
 have h2:=q3o (f:=u1b.wt) h
 omega
theorem gt3 (n:Nat):decide ((n:Int) >3)= !decide (n≤3):=by by_cases h:n≤3<;>simp[h] <;>omega
theorem gt4 (n:Nat):decide ((n:Int) >4)= !decide (n≤4):=by by_cases h:n≤4<;>simp[h] <;>omega
theorem r6x (t:u0j):t48 t=some (decide (t.2.1=2)):=by rw[q07];rfl
theorem r1s (b:u0i) (hw:p73.wt b≤u0l):t3l b=some (u4v b):=by
 have hb:u0l=1099511627776:=rfl
 have hbw:=r1v b
 have n1:=t8h (t:=u0d) b.1
 have n2:=t8h (t:=u1b) b.2.1
 have n3:=t8h (t:=u1b) b.2.2.1
 have L1:=t2u u8q b.1.length (fun i=>(b,b.1,(b.1.length:Int),i)) (fun i=>(fun v:u2b=>decide (v.2.2.2≤b.2.2.2.1)) (rdL u0d b.1 i)) (.inl b) (.inr false)
  (by rw[s8p];simp only[t22,u0b,Am,Ah,Aa])
  (fun i hi=>by
   rw[s8p];simp only[t22,u0b,hi,Ae,Ad,y7t hi,zTn,y7l (show i<4611686018427387904 by omega),r9w (rdL u0d b.1 i).2.2.2 b.2.2.2.1]
   cases decide ((rdL u0d b.1 i).2.2.2≤b.2.2.2.1)<;>rfl)
 rw[t7o (t:=u0d) b.1 (fun v:u2b=>decide (v.2.2.2≤b.2.2.2.1))] at L1
 have L2:=t2u u68 b.2.1.length (fun i=>(b,b.2.1,(b.2.1.length:Int),i)) (fun i=>(fun t:u0j=>u6h t&&(decide (t.2.1=3)&&decide (t.2.2.2.1≤b.2.2.2.1))) (rdL u1b b.2.1 i)&&(decide (i=0) || (fun x y:u0j=>decide (x.2.2.2.1<y.2.2.2.1)) (rdL u1b b.2.1 (i - 1)) (rdL u1b b.2.1 i))) (.inl b) (.inr false)
  (by rw[s5g];simp only[t06,u0b,Am,Ah,Aa])
  (fun i hi=>by
   have hm:rdL u1b b.2.1 i∈b.2.1:=by rw[y8k hi];exact Ag hi
   have ht:=r52 hm
   have hk:=s0q (rdL u1b b.2.1 i) (by omega)
   rw[s5g];simp only[t06,u0b,hi,Ae,Ad,y7t hi,zTn,y7l (show i<4611686018427387904 by omega),r9w (rdL u1b b.2.1 i).2.2.2.1 b.2.2.2.1,t60,r9x,zOb]
   rw[hk]
   simp only[zOb]
   generalize u6h (rdL u1b b.2.1 i)=b1
   generalize decide ((rdL u1b b.2.1 i).2.1=3)=b2
   generalize decide ((rdL u1b b.2.1 i).2.2.2.1≤b.2.2.2.1)=b3
   by_cases h0:i=0
   ·subst h0;simp only[Ae,Ap,Aa,Dx,Cz]
    cases b1<;>cases b2<;>cases b3<;>rfl
   ·simp only[h0,Ah,Bh,Ad,Ci,t35 (show i<4611686018427387904 by omega) h0,y7t (show i - 1<b.2.1.length by omega),zTn,r9u (rdL u1b b.2.1 (i - 1)).2.2.2.1 (rdL u1b b.2.1 i).2.2.2.1]
    generalize decide ((rdL u1b b.2.1 (i - 1)).2.2.2.1<(rdL u1b b.2.1 i).2.2.2.1)=b4
    cases b1<;>cases b2<;>cases b3<;>cases b4<;>rfl)
 rw[s2x (t:=u1b) b.2.1 (fun t:u0j=>u6h t&&(decide (t.2.1=3)&&decide (t.2.2.2.1≤b.2.2.2.1))) (fun x y:u0j=>decide (x.2.2.2.1<y.2.2.2.1))] at L2
 have L3:=t2u u69 b.2.2.1.length (fun i=>(b,b.2.2.1,(b.2.2.1.length:Int),i)) (fun i=>(fun t:u0j=>u6h t&&(decide (t.2.1=2)&&decide (t.2.2.1≤b.2.2.2.1))) (rdL u1b b.2.2.1 i)&&(decide (i=0) || (fun x y:u0j=>y3c x.2.2.2.2.2.2.2 y.2.2.2.2.2.2.2) (rdL u1b b.2.2.1 (i - 1)) (rdL u1b b.2.2.1 i))) (.inl b) (.inr false)
  (by rw[s5h];simp only[t07,u0b,Am,Ah,Aa])
  (fun i hi=>by
   have hm:rdL u1b b.2.2.1 i∈b.2.2.1:=by rw[y8k hi];exact Ag hi
   have ht:=r52 hm
   have hk:=s0q (rdL u1b b.2.2.1 i) (by omega)
   rw[s5h];simp only[t07,u0b,hi,Ae,Ad,y7t hi,zTn,y7l (show i<4611686018427387904 by omega),r9w (rdL u1b b.2.2.1 i).2.2.1 b.2.2.2.1,t60,r6x,zOb]
   rw[hk]
   simp only[zOb]
   generalize u6h (rdL u1b b.2.2.1 i)=b1
   generalize decide ((rdL u1b b.2.2.1 i).2.1=2)=b2
   generalize decide ((rdL u1b b.2.2.1 i).2.2.1≤b.2.2.2.1)=b3
   by_cases h0:i=0
   ·subst h0;simp only[Ae,Ap,Aa,Dx,Cz]
    cases b1<;>cases b2<;>cases b3<;>rfl
   ·simp only[h0,Ah,Bh,Ad,Ci,t35 (show i<4611686018427387904 by omega) h0,y7t (show i - 1<b.2.2.1.length by omega),zTn]
    generalize y3c (rdL u1b b.2.2.1 (i - 1)).2.2.2.2.2.2.2 (rdL u1b b.2.2.1 i).2.2.2.2.2.2.2=b4
    cases b1<;>cases b2<;>cases b3<;>cases b4<;>rfl)
 rw[s2x (t:=u1b) b.2.2.1 (fun t:u0j=>u6h t&&(decide (t.2.1=2)&&decide (t.2.2.1≤b.2.2.2.1))) (fun x y:u0j=>y3c x.2.2.2.2.2.2.2 y.2.2.2.2.2.2.2)] at L3
 have hC:=p0l [b.2.1,b.2.2.1] (by simp only[List.flatten_cons,List.flatten_nil,Bw,Ba];omega) (by simp)
 have hf: [b.2.1,b.2.2.1].flatten=b.2.1++b.2.2.1:=by simp
 rw[hf] at hC
 have hI:=q2d (b.2.1++b.2.2.1) b.2.2.2.2 (by rw[Ba];omega)
 have hV:=r8n b.1 (by omega)
 rw[q4b];unfold r2w
 rw[hV]
 simp only[s9c,p9k,gt3,zOb]
 unfold u4v q92 q5k
 generalize u5a b.1=c1
 generalize inB b.2.2.2.1 0 9999=c3
 generalize inB b.2.2.2.2 1 9999=c4
 generalize decide (b.2.1.length≤12)=c5
 generalize decide (b.2.2.1.length≤3)=c6
 generalize ha1:b.1.all (fun v:u2b=>decide (v.2.2.2≤b.2.2.2.1))=a1 at L1
 generalize ha2:b.2.1.all (fun t:u0j=>u6h t&&(decide (t.2.1=3)&&decide (t.2.2.2.1≤b.2.2.2.1)))=a2 at L2
 generalize ha3:q2u u1b (fun x y:u0j=>decide (x.2.2.2.1<y.2.2.2.1)) b.2.1=a3 at L2
 generalize ha4:b.2.2.1.all (fun t:u0j=>u6h t&&(decide (t.2.1=2)&&decide (t.2.2.1≤b.2.2.2.1)))=a4 at L3
 generalize ha5:q2u u1b (fun x y:u0j=>y3c x.2.2.2.2.2.2.2 y.2.2.2.2.2.2.2) b.2.2.1=a5 at L3
 generalize r4b (u28 (b.2.1++b.2.2.1)) b.2.2.2.2=a6 at hI
 have hR:((u8q (b,b.1,(b.1.length:Int),0)).bind fun r5=>match r5 with
  | .inl o6=>(u68 (o6,o6.2.1,(o6.2.1.length:Int),0)).bind fun r10=>match r10 with
   | .inl o11=>(u69 (o11,o11.2.2.1,(o11.2.2.1.length:Int),0)).bind fun r15=>match r15 with
    | .inl o16=>(u3q [o16.2.1,o16.2.2.1]).bind fun y17=>(t2b (y17,o16.2.2.2.2)).bind fun y18=>some y18
    | .inr z19=>some z19
   | .inr z20=>some z20
  | .inr z21=>some z21)=some (a1&&((a2&&a3)&&((a4&&a5)&&a6))):=by
  rw[L1]
  cases a1
  ·rfl
  ·simp only[Ad,zOb,Bz]
   rw[L2]
   cases (a2&&a3)
   ·rfl
   ·simp only[Ad,zOb,Bz]
    rw[L3]
    cases (a4&&a5)
    ·rfl
    ·simp only[Ad,zOb,Bz]
     rw[hC]
     simp only[zOb]
     rw[hI];rfl
 cases c1<;>cases c3<;>cases c4<;>cases c5<;>cases c6<;>simp only[Ap,Bh,Ad,Aa,zOb,Fx,Fy,Bz,Cz]
 exact hR
theorem p06 (l:Hu Int) (n:Int):((List.range l.length).all fun i=>((List.range i).all fun j=> !decide (rdL (Ty.int .i64) l j=rdL (Ty.int .i64) l i))&&decide (rdL (Ty.int .i64) l i<n))=r4b l n:=by
 rw[Cd,Bg,s7v]
 constructor
 ·intro h
  constructor
  ·intro x hx
   obtain⟨i,hi,rfl⟩:=B7 hx
   have:=h i (Bq.mpr hi)
   rw[Ai,Ar,y8k (t:=Ty.int .i64) hi] at this
   exact this.2
  ·rw[D8,Cp]
   intro i j hi hj hij e
   have:=h j (Bq.mpr hj)
   rw[Ai,Bg] at this
   have:=this.1 i (Bq.mpr hij)
   rw[y8k (t:=Ty.int .i64) hi,y8k (t:=Ty.int .i64) hj,Bj,Bu] at this
   exact this e
 ·rintro⟨h1,h2⟩ i hi
  have hi:=Bq.mp hi
  rw[Ai,Ar,y8k (t:=Ty.int .i64) hi,Bg]
  refine⟨fun j hj=> ?_,h1 _ (Ag hi)⟩
  have hj:=Bq.mp hj
  rw[D8,Cp] at h2
  rw[y8k (t:=Ty.int .i64) (show j<l.length by omega),Bj,Bu]
  exact h2 j i (by omega) hi hj
theorem q52 (b:u0i) (l:Hu Int) (hl:l.length≤1099511627776):u41 (b,l,0)=some (bif r4b l b.2.2.2.2 then .inl () else .inr false):=by
 have inner:∀i:Nat,i<l.length→u7d (b,l,(i:Int),0)=some (bif (List.range i).all (fun j=> !decide (rdL (Ty.int .i64) l j=rdL (Ty.int .i64) l i)) then .inl (b,l,(i:Int)) else .inr false):=by
  intro i hi
  exact t2u u7d i (fun j=>(b,l,(i:Int),j)) (fun j=> !decide (rdL (Ty.int .i64) l j=rdL (Ty.int .i64) l i)) (.inl (b,l,(i:Int))) (.inr false)
   (by rw[s5p];simp only[t1f,u0b,Am,Ah,Aa])
   (fun j hj=>by
    rw[s5p];simp only[t1f,u0b,hj,Ae,Ad,y7t hi,y7t (show j<l.length by omega),zTn,y7l (show j<4611686018427387904 by omega)]
    by_cases e:rdL (Ty.int .i64) l j=rdL (Ty.int .i64) l i
    ·rw[Bb e];rfl
    ·rw[A7 e];rfl)
 have L:=t2u u41 l.length (fun i=>(b,l,i)) (fun i=>((List.range i).all fun j=> !decide (rdL (Ty.int .i64) l j=rdL (Ty.int .i64) l i))&&decide (rdL (Ty.int .i64) l i<b.2.2.2.2)) (.inl ()) (.inr false)
  (by rw[s5o];simp only[t1e,u0b,Am,Ah,Aa])
  (fun i hi=>by
   rw[s5o];simp only[t1e,u0b,hi,Ae,Ad]
   rw[inner i hi]
   cases (List.range i).all fun j=> !decide (rdL (Ty.int .i64) l j=rdL (Ty.int .i64) l i)
   ·rfl
   ·simp only[Ad,zOb,y7t hi,zTn,y7l (show i<4611686018427387904 by omega),Bz]
    rw[r9u]
    cases decide (rdL (Ty.int .i64) l i<b.2.2.2.2)<;>rfl)
 rw[p06] at L
 exact L
theorem q9y (l:Hu u0j) {i:Nat} (h:i<l.length):u28 (l.take i)++ [(rdL u1b l i).1] =u28 (l.take (i+1)):=by
 rw[y8k h];unfold u28
 rw[Gm,A4 h,Dh];rfl
theorem t2h (b:u0i) (hw:p73.wt b≤549755813888):u2l b=some (u4v b):=by
 have hb:u0l=1099511627776:=rfl
 have hbw:=r1v b
 have n1:=t8h (t:=u0d) b.1
 have n2:=t8h (t:=u1b) b.2.1
 have n3:=t8h (t:=u1b) b.2.2.1
 have L1:=t2u u8r b.1.length (fun i=>(b,i)) (fun i=>(fun v:u2b=>decide (v.2.2.2≤b.2.2.2.1)) (rdL u0d b.1 i)) (.inl b) (.inr false)
  (by rw[s8q];simp only[t23,u0b,Am,Ah,Aa])
  (fun i hi=>by
   rw[s8q];simp only[t23,u0b,hi,Ae,Ad,y7t hi,zTn,y7l (show i<4611686018427387904 by omega),r9w (rdL u0d b.1 i).2.2.2 b.2.2.2.1]
   cases decide ((rdL u0d b.1 i).2.2.2≤b.2.2.2.1)<;>rfl)
 rw[t7o (t:=u0d) b.1 (fun v:u2b=>decide (v.2.2.2≤b.2.2.2.1))] at L1
 have il:∀(l:Hu u0j) (i:Nat),i≤l.length→(u28 (l.take i)).length=i:=fun l i h=>by unfold u28;simp;omega
 have L2:=t2u u40 b.2.1.length (fun i=>(b,u28 (b.2.1.take i.toNat),i)) (fun i=>(fun t:u0j=>u6h t&&(decide (t.2.1=3)&&decide (t.2.2.2.1≤b.2.2.2.1))) (rdL u1b b.2.1 i)&&(decide (i=0) || (fun x y:u0j=>decide (x.2.2.2.1<y.2.2.2.1)) (rdL u1b b.2.1 (i - 1)) (rdL u1b b.2.1 i))) (.inl (b,u28 b.2.1)) (.inr false)
  (by rw[s5m];simp only[t1c,u0b,Am,Ah,Aa,zTn,Cq])
  (fun i hi=>by
   have hm:rdL u1b b.2.1 i∈b.2.1:=by rw[y8k hi];exact Ag hi
   have ht:=r52 hm
   have hk:=t2t (rdL u1b b.2.1 i) (by omega)
   rw[s5m];simp only[t1c,u0b,hi,Ae,Ad,y7t hi,zTn,y7l (show i<4611686018427387904 by omega),r9w (rdL u1b b.2.1 i).2.2.2.1 b.2.2.2.1,t60,zOb]
   rw[hk]
   have hc:Nat.ble ((u28 (b.2.1.take i)).length+ [(rdL u1b b.2.1 i).1].length) z7w=true:=u1c (by rw[il _ _ (by omega)];simp;omega)
   simp only[zOb]
   rw[hc,q9y _ hi]
   generalize u6h (rdL u1b b.2.1 i)=b1
   generalize decide ((rdL u1b b.2.1 i).2.1=3)=b2
   generalize decide ((rdL u1b b.2.1 i).2.2.2.1≤b.2.2.2.1)=b3
   by_cases h0:i=0
   ·subst h0;simp only[Ae,Ap,Aa,Dx,Cz]
    cases b1<;>cases b2<;>cases b3<;>rfl
   ·simp only[h0,Ah,Bh,Ad,Ci,t35 (show i<4611686018427387904 by omega) h0,y7t (show i - 1<b.2.1.length by omega),zTn,r9u (rdL u1b b.2.1 (i - 1)).2.2.2.1 (rdL u1b b.2.1 i).2.2.2.1]
    generalize decide ((rdL u1b b.2.1 (i - 1)).2.2.2.1<(rdL u1b b.2.1 i).2.2.2.1)=b4
    cases b1<;>cases b2<;>cases b3<;>cases b4<;>rfl)
 rw[s2x (t:=u1b) b.2.1 (fun t:u0j=>u6h t&&(decide (t.2.1=3)&&decide (t.2.2.2.1≤b.2.2.2.1))) (fun x y:u0j=>decide (x.2.2.2.1<y.2.2.2.1))] at L2
 have L3:=t2u u7c b.2.2.1.length (fun i=>(b,u28 b.2.1++u28 (b.2.2.1.take i.toNat),i)) (fun i=>(fun t:u0j=>u6h t&&(decide (t.2.1=2)&&decide (t.2.2.1≤b.2.2.2.1))) (rdL u1b b.2.2.1 i)&&(decide (i=0) || (fun x y:u0j=>y3c x.2.2.2.2.2.2.2 y.2.2.2.2.2.2.2) (rdL u1b b.2.2.1 (i - 1)) (rdL u1b b.2.2.1 i))) (.inl (b,u28 (b.2.1++b.2.2.1))) (.inr false)
  (by rw[s5n];simp only[t1d,u0b,Am,Ah,Aa,zTn,Cq];unfold u28;rw[Dh])
  (fun i hi=>by
   have hm:rdL u1b b.2.2.1 i∈b.2.2.1:=by rw[y8k hi];exact Ag hi
   have ht:=r52 hm
   have hk:=t2t (rdL u1b b.2.2.1 i) (by omega)
   rw[s5n];simp only[t1d,u0b,hi,Ae,Ad,y7t hi,zTn,y7l (show i<4611686018427387904 by omega),r9w (rdL u1b b.2.2.1 i).2.2.1 b.2.2.2.1,t60,zOb]
   rw[hk]
   have hz:(u28 b.2.1).length=b.2.1.length:=by unfold u28;simp
   have hc:Nat.ble ((u28 b.2.1++u28 (b.2.2.1.take i)).length+ [(rdL u1b b.2.2.1 i).1].length) z7w=true:=u1c (by rw[Ba,il _ _ (by omega),hz];simp;omega)
   simp only[zOb]
   rw[hc,Bi,q9y _ hi]
   generalize u6h (rdL u1b b.2.2.1 i)=b1
   generalize decide ((rdL u1b b.2.2.1 i).2.1=2)=b2
   generalize decide ((rdL u1b b.2.2.1 i).2.2.1≤b.2.2.2.1)=b3
   by_cases h0:i=0
   ·subst h0;simp only[Ae,Ap,Aa,Dx,Cz]
    cases b1<;>cases b2<;>cases b3<;>rfl
   ·simp only[h0,Ah,Bh,Ad,Ci,t35 (show i<4611686018427387904 by omega) h0,y7t (show i - 1<b.2.2.1.length by omega),zTn]
    generalize y3c (rdL u1b b.2.2.1 (i - 1)).2.2.2.2.2.2.2 (rdL u1b b.2.2.1 i).2.2.2.2.2.2.2=b4
    cases b1<;>cases b2<;>cases b3<;>cases b4<;>rfl)
 rw[s2x (t:=u1b) b.2.2.1 (fun t:u0j=>u6h t&&(decide (t.2.1=2)&&decide (t.2.2.1≤b.2.2.2.1))) (fun x y:u0j=>y3c x.2.2.2.2.2.2.2 y.2.2.2.2.2.2.2)] at L3
 have L2' :u40 (b, [],0)=_:=L2
 have e:u28 b.2.1++u28 (b.2.2.1.take (0:Int).toNat)=u28 b.2.1:=by simp[u28]
 rw[e] at L3
 have hI:=q52 b (u28 (b.2.1++b.2.2.1)) (by unfold u28;rw[Da,Ba];omega)
 have hV:=r8o b.1 (by omega)
 rw[q4f];unfold r20
 rw[hV]
 simp only[s1f,p9k,gt3,zOb]
 unfold u4v q92 q5k
 generalize u5a b.1=c1
 generalize inB b.2.2.2.1 0 9999=c3
 generalize inB b.2.2.2.2 1 9999=c4
 generalize decide (b.2.1.length≤12)=c5
 generalize decide (b.2.2.1.length≤3)=c6
 generalize ha1:b.1.all (fun v:u2b=>decide (v.2.2.2≤b.2.2.2.1))=a1 at L1
 generalize ha2:b.2.1.all (fun t:u0j=>u6h t&&(decide (t.2.1=3)&&decide (t.2.2.2.1≤b.2.2.2.1)))=a2 at L2'
 generalize ha3:q2u u1b (fun x y:u0j=>decide (x.2.2.2.1<y.2.2.2.1)) b.2.1=a3 at L2'
 generalize ha4:b.2.2.1.all (fun t:u0j=>u6h t&&(decide (t.2.1=2)&&decide (t.2.2.1≤b.2.2.2.1)))=a4 at L3
 generalize ha5:q2u u1b (fun x y:u0j=>y3c x.2.2.2.2.2.2.2 y.2.2.2.2.2.2.2) b.2.2.1=a5 at L3
 generalize r4b (u28 (b.2.1++b.2.2.1)) b.2.2.2.2=a6 at hI
 have hR:((u8r (b,0)).bind fun r5=>match r5 with
  | .inl o6=>(u40 (o6, [],0)).bind fun r9=>match r9 with
   | .inl o10=>(u7c (o10.1,o10.2,0)).bind fun r13=>match r13 with
    | .inl o14=>(u41 (o14.1,o14.2,0)).bind fun r18=>match r18 with
     | .inl o19=>some true
     | .inr z20=>some z20
    | .inr z21=>some z21
   | .inr z22=>some z22
  | .inr z23=>some z23)=some (a1&&((a2&&a3)&&((a4&&a5)&&a6))):=by
  rw[L1]
  cases a1
  ·rfl
  ·simp only[Ad,zOb,Bz]
   rw[L2']
   cases (a2&&a3)
   ·rfl
   ·simp only[Ad,zOb,Bz]
    rw[L3]
    cases (a4&&a5)
    ·rfl
    ·simp only[Ad,zOb,Bz]
     rw[hI]
     cases a6<;>rfl
 cases c1<;>cases c3<;>cases c4<;>cases c5<;>cases c6<;>simp only[Ap,Bh,Ad,Aa,zOb,Fx,Fy,Bz,Cz]
 exact hR
theorem p5u (e:u2s):o0f.wt e=p73.wt e.1+(Ty.sl u1b).wt e.2:=rfl
theorem p4d {b:u0i} {o:Hu u0j} (hb:r4b (u28 (b.2.1++b.2.2.1)) b.2.2.2.2=true) (ho:q2u u1b (fun x y:u0j=>decide (x.1<y.1)) o=true):
 r4b (u28 (b.2.1++b.2.2.1++o)) b.2.2.2.2=o.all (fun t=>decide (t.1<b.2.2.2.2)&&((b.2.1.all fun x=> !decide (x.1=t.1))&&(b.2.2.1.all fun x=> !decide (x.1=t.1)))):=by
 rw[o0k (f:=fun t=>t.1)] at ho
 obtain⟨h1,h2⟩:=s7v.mp hb
 rw[Cd,s7v,Bg]
 simp only[Ai,Ar,Bg,Bj,Bu]
 unfold u28 at*
 constructor
 ·rintro⟨k1,k2⟩ t ht
  rw[Dh,Gp] at k2
  refine⟨k1 _ (Bx.mpr ⟨t,by simp[ht],rfl⟩),fun x hx=> ?_,fun x hx=> ?_⟩
  ·exact k2.2.2 _ (Bx.mpr ⟨x,by simp[hx],rfl⟩) _ (Bx.mpr ⟨t,ht,rfl⟩)
  ·exact k2.2.2 _ (Bx.mpr ⟨x,by simp[hx],rfl⟩) _ (Bx.mpr ⟨t,ht,rfl⟩)
 ·intro k
  constructor
  ·intro x hx
   obtain⟨t,ht,rfl⟩:=Bx.mp hx
   rcases Ay.mp ht with q | q
   ·exact h1 _ (Bx.mpr ⟨t,q,rfl⟩)
   ·exact(k t q).1
  ·rw[Dh,Gp]
   refine⟨h2,?_,?_⟩
   ·rw[D8,Dl]
    exact ho.imp fun {a b} q e=>by omega
   ·intro a ha c hc e
    obtain⟨x,hx,rfl⟩:=Bx.mp ha
    obtain⟨t,ht,rfl⟩:=Bx.mp hc
    rcases Ay.mp hx with q | q
    ·exact(k t ht).2.1 x q e
    ·exact(k t ht).2.2 x q e
theorem q3r (e:u2s) (hw:o0f.wt e≤549755813888):t78 e=some (p4a e):=by
 have hb:u0l=1099511627776:=rfl
 have hew:=p5u e
 have hbw:=r1v e.1
 have n1:=t8h (t:=u1b) e.2
 have n2:=t8h (t:=u1b) e.1.2.1
 have n3:=t8h (t:=u1b) e.1.2.2.1
 have I1:∀(j:Int) (t:u0j),u5g (e,j,t,0)=some (bif (e.1.2.1.all fun x=> !decide (x.1=t.1)) then .inl (e,j,t) else .inr false):=fun j t=>by
  have L:=t2u u5g e.1.2.1.length (fun i=>(e,j,t,i)) (fun i=>(fun x:u0j=> !decide (x.1=t.1)) (rdL u1b e.1.2.1 i)) (.inl (e,j,t)) (.inr false)
   (by rw[t9y];simp only[u72,u0b,Am,Ah,Aa])
   (fun i hi=>by
    rw[t9y];simp only[u72,u0b,hi,Ae,Ad,y7t hi,zTn,y7l (show i<4611686018427387904 by omega)]
    cases decide ((rdL u1b e.1.2.1 i).1=t.1)<;>rfl)
  rw[t7o (t:=u1b) e.1.2.1 (fun x:u0j=> !decide (x.1=t.1))] at L
  exact L
 have I2:∀(j:Int) (t:u0j),u3l (e,j,t,0)=some (bif (e.1.2.2.1.all fun x=> !decide (x.1=t.1)) then .inl (e,j) else .inr false):=fun j t=>by
  have L:=t2u u3l e.1.2.2.1.length (fun i=>(e,j,t,i)) (fun i=>(fun x:u0j=> !decide (x.1=t.1)) (rdL u1b e.1.2.2.1 i)) (.inl (e,j)) (.inr false)
   (by rw[t9z];simp only[u73,u0b,Am,Ah,Aa])
   (fun i hi=>by
    rw[t9z];simp only[u73,u0b,hi,Ae,Ad,y7t hi,zTn,y7l (show i<4611686018427387904 by omega)]
    cases decide ((rdL u1b e.1.2.2.1 i).1=t.1)<;>rfl)
  rw[t7o (t:=u1b) e.1.2.2.1 (fun x:u0j=> !decide (x.1=t.1))] at L
  exact L
 have L:=t2u u4n e.2.length (fun i=>(e,i)) (fun i=>(fun t:u0j=>(u6h t&&(decide (t.2.1=1)&&decide (t.2.2.1≤e.1.2.2.2.1)))&&(decide (t.1<e.1.2.2.2.2)&&((e.1.2.1.all fun x=> !decide (x.1=t.1))&&(e.1.2.2.1.all fun x=> !decide (x.1=t.1))))) (rdL u1b e.2 i)&&(decide (i=0) || (fun x y:u0j=>decide (x.1<y.1)) (rdL u1b e.2 (i - 1)) (rdL u1b e.2 i))) (.inl ()) (.inr false)
  (by rw[s2b];simp only[u9l,u0b,Am,Ah,Aa])
  (fun i hi=>by
   have hm:rdL u1b e.2 i∈e.2:=by rw[y8k hi];exact Ag hi
   have ht:=r52 hm
   have hk:=t2t (rdL u1b e.2 i) (by omega)
   have k1:=I1 (i:Int) (rdL u1b e.2 i)
   have k2:=I2 (i:Int) (rdL u1b e.2 i)
   rw[s2b];simp only[u9l,u0b,hi,Ae,Ad,y7t hi,zTn,y7l (show i<4611686018427387904 by omega),r9w (rdL u1b e.2 i).2.2.1 e.1.2.2.2.1,r9u (rdL u1b e.2 i).1 e.1.2.2.2.2,t60,zOb]
   rw[hk,k1]
   simp only[zOb]
   generalize u6h (rdL u1b e.2 i)=b1
   generalize decide ((rdL u1b e.2 i).2.1=1)=b2
   generalize decide ((rdL u1b e.2 i).2.2.1≤e.1.2.2.2.1)=b3
   generalize decide ((rdL u1b e.2 i).1<e.1.2.2.2.2)=b5
   generalize (e.1.2.1.all fun x=> !decide (x.1=(rdL u1b e.2 i).1))=b6
   generalize (e.1.2.2.1.all fun x=> !decide (x.1=(rdL u1b e.2 i).1))=b7 at k2 ⊢
   have tail:((bif b6 then Sum.inl (e,(i:Int),rdL u1b e.2 i) else Sum.inr false:(u2s×Int×u0j)⊕Bool) |>fun r5=>(match r5 with
    | .inl o6=>(u3l (o6.1,o6.2.1,o6.2.2,0)).bind fun r7=>match r7 with
     | .inl o8=>u4n (o8.1,IntKind.i64.wrap (o8.2+1))
     | .inr z9=>some (.inr z9)
    | .inr z10=>some (.inr z10)))=bif b6&&b7 then u4n (e,((i+1:Nat):Int)) else some (.inr false):=by
    cases b6
    ·rfl
    ·simp only[Ad]
     rw[k2]
     cases b7
     ·rfl
     ·simp only[Ad,zOb,y7l (show i<4611686018427387904 by omega)];rfl
   by_cases h0:i=0
   ·subst h0;simp only[Ae,Ap,Aa,Dx,Cz]
    cases b1<;>cases b2<;>cases b3<;>cases b5<;>try rfl
    exact tail
   ·simp only[h0,Ah,Bh,Ad,Ci,t35 (show i<4611686018427387904 by omega) h0,y7t (show i - 1<e.2.length by omega),zTn,r9u (rdL u1b e.2 (i - 1)).1 (rdL u1b e.2 i).1]
    generalize decide ((rdL u1b e.2 (i - 1)).1<(rdL u1b e.2 i).1)=b4
    cases b1<;>cases b2<;>cases b3<;>cases b5<;>cases b4<;>(first | rfl | (rw[Fy];rfl) | (rw[Cz];exact tail)))
 rw[s2x (t:=u1b) e.2 (fun t:u0j=>(u6h t&&(decide (t.2.1=1)&&decide (t.2.2.1≤e.1.2.2.2.1)))&&(decide (t.1<e.1.2.2.2.2)&&((e.1.2.1.all fun x=> !decide (x.1=t.1))&&(e.1.2.2.1.all fun x=> !decide (x.1=t.1))))) (fun x y:u0j=>decide (x.1<y.1)),p2k] at L
 have hB:=t2h e.1 (by omega)
 rw[r89];unfold s61
 rw[hB]
 simp only[zOb,gt4]
 rw[L]
 unfold p4a p22
 cases h1:u4v e.1
 ·rfl
 ·have hbi:r4b (u28 (e.1.2.1++e.1.2.2.1)) e.1.2.2.2.2=true:=by
   have:=q2w.mp h1
   exact s7v.mpr ⟨this.below,this.nodup⟩
  cases ha:q2u u1b (fun x y:u0j=>decide (x.1<y.1)) e.2
  ·cases decide (e.2.length≤4)<;>simp
  ·rw[p4d hbi ha]
   cases decide (e.2.length≤4)
   ·rfl
   ·simp only[Ap,Aa,zOb,Bz,Cz]
    cases (e.2.all fun t:u0j=>u6h t&&(decide (t.2.1=1)&&decide (t.2.2.1≤e.1.2.2.2.1)))
    ·rfl
    ·simp only[Bz]
     cases (e.2.all fun t:u0j=>decide (t.1<e.1.2.2.2.2)&&((e.1.2.1.all fun x=> !decide (x.1=t.1))&&(e.1.2.2.1.all fun x=> !decide (x.1=t.1))))<;>rfl
end
section
theorem t7r {E:Type} (p:E→Bool) (l:Hu E):(l.filter p).length≤l.length:=Cs _ _
end
section
def u4y (b:u0i) (o:Hu u0j):u0i:=(u2p b.1 (t7z b o),b.2.1.filter (fun x=> !decide (x.2.2.2.1≤t7z b o)),b.2.2)
theorem s2v (b:u0i) (o:Hu u0j) (hb:fewB b) (ho:o.length≤4194304):t0e (b,o)=some (u4y b o):=by
 have h1:=t2q b hb
 have h2:=q8e b o ho
 have h4:=q6g b.1 (t7z b o) (by have:=hb.1;omega)
 have hl:=hb.2.1.1
 have L:=s6n t3d b.2.1 (fun a i=>(b,(([], [], [],0,0):u0i),(b.1,a,b.2.2),t7z b o,i)) (fun x=> !decide (x.2.2.2.1≤t7z b o)) (fun x=>x) (fun a=> .inl (b,(([], [], [],0,0):u0i),(b.1,a,b.2.2),t7z b o)) (by omega)
  (fun a _=>by rw[s8w];simp only[t27,u0b,Am,Ah,Aa])
  (fun i hi a ha=>by
   have hc:=u63 b.2.1[i] (hb.2.1.2 _ (Ag hi))
   rw[s8w]
   simp only[t27,u0b,hi,Ae,Ad,y7t hi,zTn,y8k (t:=u1b) hi,hc,zOb,Aw,u1c (show a.length+1≤1099511627776 by omega)]
   rw[y7l (by omega)]
   by_cases h:b.2.1[i].2.2.2.1≤t7z b o
   ·have h' : ¬b.2.1[i].2.2.2.1 >t7z b o:=Hk.mpr h
    simp[h,h']
   ·have h' :b.2.1[i].2.2.2.1 >t7z b o:=Int.not_le.mp h
    simp[h,h'])
 rw[Er] at L
 rw[q4t];unfold r3e u4y
 simp only[h1,h2,zOb,L,h4]
end
section
def p04 (d x:u0j):u0j:=(x.1,x.2.1,x.2.2.1,x.2.2.2.1,x.2.2.2.2.1,x.2.2.2.2.2.1,(x.2.2.2.2.2.2.1 || ahead x d),x.2.2.2.2.2.2.2)
end
section
def q6u (b:u0i) (t:u0j):u0j:=(t.1,(3:Int),t.2.2.1,IntKind.i64.wrap (b.2.2.2.1+1),t.2.2.2.2.1,t.2.2.2.2.2.1,(t.2.2.2.2.2.2.1 || q2h t b.2.1),(⟨#[]⟩:Hs))
def s3h (b:u0i) (t:u0j):u0i:=
 (t4b b.1 t.2.2.2.2.2.1 (IntKind.i64.wrap (b.2.2.2.1+1)),b.2.1++ [q6u b t],(b.2.2.1.filter fun x=> !decide (x.1=t.1)).map (p04 (q6u b t)),IntKind.i64.wrap (b.2.2.2.1+1),y8h b.2.2.2.2 (IntKind.i64.wrap (t.1+1)))
end
section
def r8f (b:u0i) (t:u0j):u0i:=
 ((s3h b t).1,(s3h b t).2.1,(s3h b t).2.2.1,(s3h b t).2.2.2.1,if t.1≥b.2.2.2.2 then IntKind.i64.wrap (t.1+1) else b.2.2.2.2)
theorem q6e (b:u0i) (t:u0j) (b0:u0i) (v:Hu u2b) (p:Hu u0j) (c n:Int) (d:u0j) (hb:fewB b) (hd:q2c d):
 u4o (b,t,b0,(v,p, [],c,n),d,0)=some (.inl (t,b0,(v,p,(b.2.2.1.filter fun x=> !decide (x.1=t.1)).map (p04 d),c,n))):=by
 have hl:=hb.2.2.1
 exact s6n u4o b.2.2.1 (fun a i=>(b,t,b0,((v,p,a,c,n):u0i),d,i)) (fun x=> !decide (x.1=t.1)) (p04 d) (fun a=> .inl (t,b0,((v,p,a,c,n):u0i))) (by omega)
  (fun a _=>by rw[s2h];simp only[u9r,u0b,Am,Ah,Aa])
  (fun i hi a ha=>by
   have h1:=u63 b.2.2.1[i] (hb.2.2.2 _ (Ag hi))
   have h2:=u9d b.2.2.1[i] d (s1c (hb.2.2.2 _ (Ag hi)).1) (s1c hd.2)
   rw[s2h]
   simp only[u9r,u0b,hi,Ae,Ad,y7t hi,zTn,y8k (t:=u1b) hi,h1,h2,zOb,Aw,u1c (show a.length+1≤1099511627776 by omega)]
   rw[y7l (by omega)]
   cases decide (b.2.2.1[i].1=t.1) with
   | true=>rfl
   | false=>
    simp only[Aa,Bh,Ad]
    unfold p04
    cases ahead b.2.2.1[i] d with
    | true=>simp
    | false=>simp)
end
section
theorem r6b (b:u0i) (t:u0j) (hb:fewB b) (ht:q2c t):u4i (b,t)=some (r8f b t):=by
 have h1:=t2q b hb
 have h2:=u63 t ht
 have h3:=s3m b.1 t.2.2.2.2.2.1 (IntKind.i64.wrap (b.2.2.2.1+1)) (by have:=hb.1;have:=ht.2;omega)
 have h5:=r44 t b.2.1 ht hb.2.1
 have hp:=hb.2.1.1
 have hc:∀d:u0j,Nat.ble (b.2.1.length+([d] :Hu u0j).length) z7w=true:=fun d=>u1c (by simp;omega)
 rw[q1m];unfold r0a r8f s3h q6u
 simp only[h1,h2,h3,h5,zOb]
 cases ho:t.2.2.2.2.2.2.1 with
 | true=>
  have hd:q2c ((t.1,(3:Int),t.2.2.1,IntKind.i64.wrap (b.2.2.2.1+1),t.2.2.2.2.1,t.2.2.2.2.2.1,true,(⟨#[]⟩:Hs)):u0j):=ht
  have L:=fun p=>q6e b t ([], [], [],0,0) (t4b b.1 t.2.2.2.2.2.1 (IntKind.i64.wrap (b.2.2.2.1+1))) p (IntKind.i64.wrap (b.2.2.2.1+1)) b.2.2.2.2 _ hb hd
  simp only[Ad,L,zOb,hc,Dx]
  by_cases h:t.1≥b.2.2.2.2<;>simp[h]
 | false=>
  have hd:q2c ((t.1,(3:Int),t.2.2.1,IntKind.i64.wrap (b.2.2.2.1+1),t.2.2.2.2.1,t.2.2.2.2.2.1,q2h t b.2.1,(⟨#[]⟩:Hs)):u0j):=ht
  have L:=fun p=>q6e b t ([], [], [],0,0) (t4b b.1 t.2.2.2.2.2.1 (IntKind.i64.wrap (b.2.2.2.1+1))) p (IntKind.i64.wrap (b.2.2.2.1+1)) b.2.2.2.2 _ hb hd
  simp only[Aa,Ad,h5,zOb,L,hc,Ci]
  by_cases h:t.1≥b.2.2.2.2<;>simp[h]
end
section
def o2z (b:u0i):Prop:=b.1.length≤1048576∧(b.2.1.length≤1048576∧ ∀t∈b.2.1,q2c t)∧b.2.2.1.length≤1048576∧ ∀t∈b.2.2.1,q2c t
end
section
def r5r (b:u0i):Bool:=decide ((b.2.1.length:Int)≥12) || (decide ((b.1.length:Int) >100) || decide (b.2.2.2.1≥9999))
theorem q7c (b:u0i):t5i b=some (r5r b):=by
 rw[q17];unfold r0w r5r
 cases decide ((b.2.1.length:Int)≥12)<;>cases decide ((b.1.length:Int) >100)<;>rfl
theorem p1h (b:u0i) {n:Hs} {i:Nat} (hi:i<b.2.2.1.length) (hn:b.2.2.1[i].2.2.2.2.2.2.2=n):∃k:Nat,k<b.2.2.1.length∧u07 b n=(k:Int):=by
 have h:u1o (fun x:u0j=>z7o x.2.2.2.2.2.2.2 n) b.2.2.1<b.2.2.1.length:=by
  rcases B8 (u1o (fun x:u0j=>z7o x.2.2.2.2.2.2.2 n) b.2.2.1) b.2.2.1.length with q | q
  ·exact q
  ·have:=t69 (p:=fun x:u0j=>z7o x.2.2.2.2.2.2.2 n) hi (by omega)
   rw[y7f.mpr hn] at this
   cases this
 exact⟨_,h,Al h⟩
end
end
end Go.Proofs.YtkdpclfhapphhaaGreat.Ab
