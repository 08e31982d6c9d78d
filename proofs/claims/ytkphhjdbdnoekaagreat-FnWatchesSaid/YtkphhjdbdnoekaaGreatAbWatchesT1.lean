import Derived.Test.YtkphhjdbdnoekaaGreatAbWatchesG3
import Derived.Test.YtkphhjdbdnoekaaGreatAbK2
import Derived.Test.YtkphhjdbdnoekaaGreatAbF4
import Derived.Test.YtkphhjdbdnoekaaGreatAbS2
namespace Go.Proofs.YtkphhjdbdnoekaaGreat.Ab
open Go Go.IntKind
set_option linter.unusedVariables false
set_option linter.unusedSimpArgs false
set_option linter.unnecessarySimpa false
set_option linter.unusedSectionVars false
theorem j5w (n:Int):u8.wrap n=n % 256:=by
 simp[IntKind.wrap,IntKind.bits,IntKind.signed]
theorem u0b (a b:Nat):decide ((a:Int)<(b:Int))=decide (a<b):=by simp
theorem s86 {X R A:Type} (W:X->Ht R) (n:Nat) (mk:A->Int->X) (res:Nat->A->R) (P:Nat->A->Prop)
 (hend:∀a,P n a->W (mk a (n:Int))=some (res n a))
 (hstep:∀(i:Nat) a,i<n->P i a->W (mk a (i:Int))=some (res i a)\/ ∃a',P (i+1) a' /\res (i+1) a' =res i a/\W (mk a (i:Int))=W (mk a' ((i+1:Nat):Int))):
 ∀(i:Nat) a,i<=n->P i a->W (mk a (i:Int))=some (res i a):=by
 intro i a hi hP;obtain⟨d,hd⟩:∃d,i+d=n:=⟨n - i,by omega⟩;clear hi
 induction d generalizing i a with
 | zero=>
  have:i=n:=by omega
  subst this;exact hend a hP
 | succ d ih=>
  rcases hstep i a (by omega) hP with h | ⟨a',h1,h2,h3⟩
  .exact h
  .rw[h3,ih (i+1) a' h1 (by omega),h2]
def j71 {E A R:Type} (f:Nat->E->A->A⊕R) (fin:A->R):Nat->Hu E->A->R
 | _, [],a=>fin a | i,x::l,a=>match f i x a with
  | .inl a' =>j71 f fin (i+1) l a' | .inr r=>r
theorem o6l {X R A E:Type} (W:X->Ht R) (l:Hu E) (mk:A->Int->X) (f:Nat->E->A->A⊕R) (fin:A->R) (P:Nat->A->Prop)
 (hend:∀a,P l.length a->W (mk a (l.length:Int))=some (fin a))
 (hstep:∀(i:Nat) (h:i<l.length) a,P i a->match f i l[i] a with
  | .inl a' =>P (i+1) a' /\W (mk a (i:Int))=W (mk a' ((i+1:Nat):Int)) | .inr r=>W (mk a (i:Int))=some r) (a:A) (hP:P 0 a):W (mk a 0)=some (j71 f fin 0 l a):=by
 have key:=s86 W l.length mk (fun i a=>j71 f fin i (l.drop i) a) P (fun a h=>by
  rw[hend a h,Dp (Au _)];rfl) (fun i a hi hP=>by
   have hs:=hstep i hi a hP;have hd:l.drop i=l[i] ::l.drop (i+1):=Ce hi;rw[hd];simp only[j71];cases hf:f i l[i] a with
   | inl a' =>
    rw[hf] at hs;exact .inr ⟨a',hs.1,rfl,hs.2⟩
   | inr r=>
    rw[hf] at hs;exact .inl hs) 0 a (Cn _) hP
 exact key
def szr (b:Int) (w:Nat):Int:=if(w:Int)<=b then b - w else -1
def Ty.wt:(t:Ty)->t.den->Nat
 | .int _,_=>0 | .bool,_=>0 | .str,s=>s.size | .sl e,l=>l.length+(l.map e.wt).sum | .pair a b,x=>a.wt x.1+b.wt x.2
theorem s6r {X R E:Type} (W:X->Ht R) (l:Hu E) (mk:Int->X) (p:E->Bool) (yes no:R) (hend:W (mk (l.length:Int))=some no)
 (hstep:∀(i:Nat) (h:i<l.length),W (mk (i:Int))=bif p l[i] then some yes else W (mk ((i+1:Nat):Int))):W (mk 0)=some (bif l.any p then yes else no):=by
 have:=o6l W l (fun(_:Unit) i=>mk i) (fun _ x _=>if p x then .inr yes else .inl ()) (fun _=>no) (fun _ _=>True) (fun _ _=>hend) (fun i h a _=>by
  have hs:=hstep i h;cases hp:p l[i] with
  | true=>simp only[hp,Ad] at hs;simp only[Bl];exact hs | false=>simp only[hp,Aa] at hs;simp only[Br,Bk];exact⟨trivial,hs⟩) () trivial
 rw[this];congr 1;have key:∀(l:Hu E) (i:Nat),j71 (fun _ x (_:Unit)=>if p x then .inr yes else .inl ()) (fun _=>no) i l ()=bif l.any p then yes else no:=by
  intro l
  induction l with
  | nil=>intro i;rfl | cons x l ih=>
   intro i;simp only[j71,Gd];cases hp:p x with
   | true=>simp | false=>simp only[Br,Bk,Ci];exact ih _
 exact key l 0
theorem u8m {X R E A:Type} (W:X->Ht R) (l:Hu E) (mk:A->Int->X) (f:A->E->A) (fin:A->R) (P:Nat->A->Prop)
 (hend:∀a,P l.length a->W (mk a (l.length:Int))=some (fin a))
 (hstep:∀(i:Nat) (h:i<l.length) a,P i a->P (i+1) (f a l[i])/\W (mk a (i:Int))=W (mk (f a l[i]) ((i+1:Nat):Int))) (a:A) (hP:P 0 a):W (mk a 0)=some (fin (l.foldl f a)):=by
 have:=o6l W l mk (fun _ x a=> .inl (f a x)) fin P hend (fun i h a hp=>hstep i h a hp) a hP;rw[this];congr 1;have key:∀(l:Hu E) (i:Nat) (a:A),j71 (fun _ x a=>(.inl (f a x):A⊕R)) fin i l a=fin (l.foldl f a):=by
  intro l
  induction l with
  | nil=>intro i a;rfl | cons x l ih=>intro i a;simp only[j71,Bs];exact ih _ _
 exact key l 0 a
theorem s1k {X R E B:Type} (W:X->Ht R) (l:Hu E) (mk:Hu B->Int->X) (p:E->Bool) (g:E->B) (fin:Hu B->R) (hl:l.length<=1099511627776)
 (hend:∀a:Hu B,a.length<=l.length->W (mk a (l.length:Int))=some (fin a))
 (hstep:∀(i:Nat) (h:i<l.length) (a:Hu B),a.length<=i->W (mk a (i:Int))=bif p l[i] then W (mk (a++ [g l[i]]) ((i+1:Nat):Int)) else W (mk a ((i+1:Nat):Int))):W (mk [] 0)=some (fin ((l.filter p).map g)):=by
 have:=u8m W l mk (fun a x=>if p x then a++ [g x] else a) fin (fun i a=>a.length<=i) hend (fun i h a hp=>by
  have hs:=hstep i h a hp;cases hc:p l[i] with
  | true=>
   simp only[hc,Ad] at hs;simp only[Bl];exact⟨by simp;omega,hs⟩
  | false=>
   simp only[hc,Aa] at hs;simp only[Br,Bk];exact⟨by omega,hs⟩) [] (Au 0)
 rw[this];congr 1;have key:∀(l:Hu E) (a:Hu B),l.foldl (fun a x=>if p x then a++ [g x] else a) a=a++(l.filter p).map g:=by
  intro l
  induction l with
  | nil=>intro a;simp | cons x l ih=>
   intro a;simp only[Bs,ih,Di];cases hp:p x<;>simp
 rw[key];simp
theorem o7n (b:Hs):b.toList=toS b:=by rw[ByteArray.toList_eq];rfl
theorem d5w {a b:Hs} (h:toS a=toS b):a=b:=by rw[←y8j a,h,y8j]
theorem p7e:∀(x y:Hu UInt8),Op.bytesLess x y=decide (x<y)
 | x, [] =>by simp[Op.bytesLess]
 | [],y::ys=>by simp[Op.bytesLess]
 | x::xs,y::ys=>by
  rw[Op.bytesLess,p7e xs ys,Cd];simp[List.cons_lt_cons_iff]
theorem d05 {a b:Hs} :y3b a b=true↔toS a<toS b:=by
 unfold y3b;rw[o7n,o7n,p7e];simp
theorem d9v {a b:Hs} :y3b a b=false↔ ¬toS a<toS b:=by
 rw[←d05];simp
theorem d72 (x:Hu UInt8): ¬x<x:=List.lt_irrefl x
theorem d73 {x y z:Hu UInt8} (h:x<y) (k:y<z):x<z:=List.lt_trans h k
theorem d74 (x y:Hu UInt8):x<y\/x=y\/y<x:=by
 rcases List.le_total x y with h | h
 .rcases Fv.mp h with h | h
  .exact .inl h
  .exact .inr (.inl h)
 .rcases Fv.mp h with h | h
  .exact .inr (.inr h)
  .exact .inr (.inl h.symm)
theorem t4f (a:Hs):y3b a a=false:=d9v.mpr (d72 _)
theorem p4c {a b c:Hs} (h:y3b a b=true) (k:y3b b c=true):y3b a c=true:=d05.mpr (d73 (d05.mp h) (d05.mp k))
theorem p08 (a b:Hs):y3b a b=true\/a=b\/y3b b a=true:=by
 rcases d74 (toS a) (toS b) with h | h | h
 .exact .inl (d05.mpr h)
 .exact .inr (.inl (d5w h))
 .exact .inr (.inr (d05.mpr h))
theorem r8e {a b:Hs} (h:y3b a b=true):y3b b a=false:=by
 cases k:y3b b a with
 | false=>rfl | true=>exact absurd (p4c h k) (by rw[t4f];exact Hf)
theorem j5q {a b:Hs} :z7n a b=false↔a≠b:=by
 rw[←Ey,y7b]
theorem j2r {a b:Hs} :(!(y3b a b || z7n a b))=y3b b a:=by
 rcases p08 a b with h | h | h
 .rw[h,r8e h];rfl
 .subst h;rw[t4f,y6k];rfl
 .rw[r8e h,h];have:z7n a b=false:=j5q.mpr (fun e=>by subst e;rw[t4f] at h;cases h);rw[this];rfl
def Asc (l:Hu Hs):Prop:=l.Pairwise fun a b=>y3b a b=true
theorem Asc.ext:∀ {l m:Hu Hs},Asc l->Asc m->(∀x,x∈l↔x∈m)->l=m
 | [], [],_,_,_=>rfl | [],y::m,_,_,h=>by have:=(h y).mpr (by simp);simp at this
 | x::l, [],_,_,h=>by have:=(h x).mp (by simp);simp at this
 | x::l,y::m,hl,hm,h=>by
  have hl' :=Ch.mp hl;have hm' :=Ch.mp hm;have hxy:x=y:=by
   rcases A8.mp ((h x).mp (by simp)) with e | e
   .exact e
   .rcases A8.mp ((h y).mpr (by simp)) with e' | e'
    .exact e'.symm
    .have:=p4c (hm'.1 x e) (hl'.1 y e');rw[t4f] at this;cases this
  subst hxy;congr 1;refine Asc.ext hl'.2 hm'.2 fun z=> ?_
  constructor
  .intro hz;rcases A8.mp ((h z).mp (by simp[hz])) with e | e
   .subst e;have:=hl'.1 z hz;rw[t4f] at this;cases this
   .exact e
  .intro hz;rcases A8.mp ((h z).mpr (by simp[hz])) with e | e
   .subst e;have:=hm'.1 z hz;rw[t4f] at this;cases this
   .exact e
theorem Asc.filter {l:Hu Hs} (h:Asc l) (p:Hs->Bool):Asc (l.filter p):=Dz p h
def j8z (k:Hs) (l:Hu Hs):Hu Hs:=l.filter (fun x=>y3b x k)++ [k] ++l.filter (fun x=> !(y3b x k || z7n x k))
theorem d2k {k x:Hs} {l:Hu Hs} :x∈j8z k l↔x=k\/x∈l:=by
 simp only[j8z,Ay,A6,Ax,j2r];constructor
 .rintro((h | h) | h)
  .exact .inr h.1
  .exact .inl h
  .exact .inr h.1
 .rintro(h | h)
  .exact .inl (.inr h)
  .rcases p08 x k with e | e | e
   .exact .inl (.inl ⟨h,e⟩)
   .exact .inl (.inr e)
   .exact .inr ⟨h,e⟩
theorem d2b {k:Hs} {l:Hu Hs} (h:Asc l):Asc (j8z k l):=by
 unfold Asc j8z;rw[Cg,Cg];refine⟨⟨h.filter _,by simp,fun a ha b hb=> ?_⟩,h.filter _,fun a ha b hb=> ?_⟩
 .simp only[Ax] at hb;subst hb;exact(A6.mp ha).2
 .have hb:=(A6.mp hb).2;rw[j2r] at hb;rcases Ay.mp ha with ha | ha
  .exact p4c (A6.mp ha).2 hb
  .simp only[Ax] at ha;subst ha;exact hb
theorem j94 {l:Hu Hs} :∀ {a:Hu Hs},Asc a->Asc (l.foldl (fun a k=>j8z k a) a)/\ ∀x,x∈l.foldl (fun a k=>j8z k a) a↔x∈l\/x∈a:=by
 induction l with
 | nil=>intro a h;exact⟨h,fun x=>by simp⟩ | cons k l ih=>
  intro a h;obtain⟨h1,h2⟩:=ih (d2b (k:=k) h);refine⟨h1,fun x=> ?_⟩;rw[Bs,h2,d2k,A8];constructor
  .rintro(q | q | q)
   .exact .inl (.inr q)
   .exact .inl (.inl q)
   .exact .inr q
  .rintro((q | q) | q)
   .exact .inr (.inl q)
   .exact .inl q
   .exact .inr (.inr q)
theorem p7g (d:Array (Hu UInt8)) (hs:∀i j:Nat,i<=j->j<d.size->d[i]! <=d[j]!):∀m,m<=d.size->(Lib.compactUpTo d m).Pairwise (·< ·)/\(∀x,x∈Lib.compactUpTo d m↔ ∃i,i<m/\d[i]! =x)
 | 0,_=>by simp[Lib.compactUpTo]
 | m+1,hm=>by
  obtain⟨h1,h2⟩:=p7g d hs m (by omega);rw[Lib.compactUpTo_succ];by_cases hk:Lib.keeps d m=true
  .rw[Al hk];constructor
   .rw[Cg];refine⟨h1,by simp,fun a ha b hb=> ?_⟩;simp only[Ax] at hb;subst hb;obtain⟨i,hi,rfl⟩:=(h2 a).mp ha;unfold Lib.keeps at hk;have hk:=Ej hk;rcases hk with hk | hk
    .omega
    .have l1:=hs i (m - 1) (by omega) (by omega);have l2:=hs (m - 1) m (by omega) (by omega);rcases Fv.mp l2 with l2 | l2
     .rcases Fv.mp l1 with l1 | l1
      .exact d73 l1 l2
      .rw[l1];exact l2
     .exact absurd l2.symm hk
   .intro x;simp only[Ay,Ax,h2];constructor
    .rintro(⟨i,hi,rfl⟩ | rfl)
     .exact⟨i,by omega,rfl⟩
     .exact⟨m,by omega,rfl⟩
    .rintro⟨i,hi,rfl⟩
     rcases B8 i m with q | q
     .exact .inl ⟨i,q,rfl⟩
     .exact .inr (by rw[show i=m by omega])
  .rw[Ao hk,Bw];refine⟨h1,fun x=> ?_⟩;rw[h2];unfold Lib.keeps at hk;simp only[Ar,Hr,ne_eq,Decidable.not_not] at hk;constructor
   .rintro⟨i,hi,rfl⟩;exact⟨i,by omega,rfl⟩
   .rintro⟨i,hi,rfl⟩
    rcases B8 i m with q | q
    .exact⟨i,q,rfl⟩
    .have:i=m:=by omega
     subst this;exact⟨i - 1,by omega,hk.2.symm⟩
def p0w (l:Hu Hs):Hu Hs:=y6p (y4g l)
theorem p53 (l:Hu Hs):Asc (p0w l)/\ ∀x,x∈p0w l↔x∈l:=by
 obtain⟨d,hd⟩:∃d,d=(l.map toS).mergeSort fun x y=>decide (x<=y):=⟨_,rfl⟩
 have hk:p0w l=(Lib.compact d).map unS:=by
  unfold p0w y6p y4g;rw[←hd,List.map_map];have:(toS ∘unS)=id:=by funext x;rfl
  rw[this,List.map_id]
 have hsort:d.Pairwise (·<= ·):=by
  rw[hd];have:=List.pairwise_mergeSort (le:=fun(x y:Hu UInt8)=>decide (x<=y)) (fun a b c h1 h2=>by
   simp only[Ar] at h1 h2 ⊢;exact List.le_trans h1 h2) (fun a b=>by
   simp only[Cr,Ar];exact List.le_total a b) (l.map toS)
  exact this.imp (fun h=>by simpa using h)
 have hmem:∀x,x∈d↔x∈l.map toS:=fun x=>by rw[hd];exact(List.mergeSort_perm _ _).mem_iff
 have hs:∀i j:Nat,i<=j->j<d.toArray.size->d.toArray[i]! <=d.toArray[j]! :=fun i j hij hj=>by
  have hj' :j<d.length:=by simpa using hj
  have hi' :i<d.length:=by omega
  rw[Fl _ i (by simpa using hi'),Fl _ j hj];simp only[List.getElem_toArray];rcases B8 i j with q | q
  .exact Cp.mp hsort i j hi' hj' q
  .have:i=j:=by omega
   subst this;exact List.le_refl _
 obtain⟨h1,h2⟩:=p7g d.toArray hs d.length (by simp);rw[hk];constructor
 .unfold Asc;rw[Dl];exact h1.imp (fun h=>d05.mpr h)
 .intro x;rw[Bx];constructor
  .rintro⟨y,hy,rfl⟩
   obtain⟨i,hi,rfl⟩:=(h2 y).mp hy;rw[Fl _ i (by simpa using hi)];have:d[i] ∈l.map toS:=(hmem _).mp (Ag hi);obtain⟨z,hz,e⟩:=Bx.mp this;simp only[List.getElem_toArray];rw[←e,y8j];exact hz
  .intro hx;have:toS x∈d:=(hmem _).mpr (Bx.mpr ⟨x,hx,rfl⟩);obtain⟨i,hi,e⟩:=Gy.mp this;refine⟨toS x,(h2 _).mpr ⟨i,hi,?_⟩,y8j x⟩;rw[Fl _ i (by simpa using hi)];simpa using e
theorem j3v (l:Hu Hs):(y4g l).length=l.length:=by simp[y4g]
theorem d5c (l:Hu Hs) (p:Hs->Bool):(l.filter p).foldl (fun a k=>j8z k a) [] =(p0w l).filter p:=by
 obtain⟨h1,h2⟩:=j94 (l:=l.filter p) (a:= []) List.Pairwise.nil;obtain⟨k1,k2⟩:=p53 l;refine Asc.ext h1 (k1.filter p) fun x=> ?_
 rw[h2,A6,A6,k2];simp
def u0m:Nat:=1099511627776
theorem o7t {α:Type} {f:α->Nat} {l:Hu α} {x:α} (h:x∈l):f x<=(l.map f).sum:=by
 induction l with
 | nil=>cases h | cons y l ih=>
  simp only[C8,Ge];rcases A8.mp h with rfl | h
  .omega
  .have:=ih h;omega
abbrev t3k:Ty:=(.pair .str .str)
abbrev u2l:Ty:=(.pair .str (.pair .str .bool))
abbrev u0c:Ty:=(.pair .str (.pair .str (.pair .bool (.int .i64))))
abbrev j9q:Ty:=(.pair .str .str)
abbrev p47:Ty:=(.pair .str .str)
abbrev j4b:Ty:=(.pair (.int .i64) .str)
abbrev c08:Ty:=(.pair (.sl .str) (.sl j4b))
abbrev u0v:Ty:=(.pair (.int .i64) (.pair (.int .i64) (.pair (.int .i64) (.pair (.int .i64) (.pair (.sl t3k) (.pair (.sl u2l) (.pair .bool .str)))))))
abbrev d7k:Ty:=(.pair (.sl u0c) (.pair (.sl u0v) (.pair (.sl u0v) (.pair (.int .i64) (.int .i64)))))
abbrev c09:Ty:=(.pair (.int .i64) (.pair u0v (.pair .str (.pair .bool d7k))))
abbrev d42:Ty:=(.pair d7k (.sl u0v))
abbrev d7l:Ty:=(.pair d42 c08)
abbrev d3n:Ty:=(.pair (.int .i64) (.pair (.int .i64) (.pair .str (.pair .str (.sl (.int .i64))))))
abbrev c13:Ty:=(.pair d7l (.pair (.sl u0v) (.pair (.sl (.int .i64)) (.sl .str))))
abbrev u0i:=Int×Int×Int×Int×Hu (Hs×Hs)×Hu (Hs×Hs×Bool)×Bool×Hs
theorem u0q {n:Nat} (h:n<=1099511627776):Nat.ble n z7v=true:=Nat.ble_eq_true_of_le h
def inR (r:Hs×Hs) (k:Hs):Bool:= !y3b k r.1&&(y3b k r.2 || z7n k r.2)
theorem q2m (r:Hs×Hs) (k:Hs):t82 (r,k)=some (inR r k):=by
 rw[o43];unfold q76 inR;cases y3b k r.1<;>rfl
theorem q2l (r:Hs×Hs) (k:Hs):t8x (r,k)=some (inR r k):=by
 rw[o4h];unfold q7k inR;cases y3b k r.1<;>rfl
def r0n (r:Hu t3k.den) (w:Hu u2l.den):Bool:=r.any fun x=>w.any fun y=>inR x y.1
def p00 (a b:Hu u2l.den):Bool:=a.any fun x=>b.any fun y=>z7n x.1 y.1
def r6d (m:Hu p47.den) (r:t3k.den):Hu j9q.den:=m.filter fun c=>inR r c.1
theorem o0k (m:Hu p47.den) (r:t3k.den) (hm:m.length<=1099511627775):s8s (m,r)=some (r6d m r):=by
 have L:=s1k s2n m (fun a i=>(m,r,a,i)) (fun c=>inR r c.1) (fun c=>c) (fun a=> .inl a) (by omega)
  (fun a _=>by rw[q6h];simp only[s2a,u0b,Am,Ah,Aa])
  (fun i hi a ha=>by
   rw[q6h];simp only[s2a,u0b,hi,Ae,Ad,y7p hi,zTn,y8f hi,q2m,zOb,Aw,u0q (show a.length+1<=1099511627776 by omega)];rw[y7h (by omega)])
 rw[Er] at L;rw[o9j];unfold p2k;simp only[L,zOb];rfl
theorem o0j (m:Hu p47.den) (r:t3k.den) (hm:m.length<=1099511627775):s8l (m,r)=some (r6d m r):=by
 have L:=s1k s2g m (fun a i=>(r,a,m,(m.length:Int),i)) (fun c=>inR r c.1) (fun c=>c) (fun a=> .inl a) (by omega)
  (fun a _=>by rw[q56];simp only[s11,u0b,Am,Ah,Aa])
  (fun i hi a ha=>by
   rw[q56];simp only[s11,u0b,hi,Ae,Ad,y7p hi,zTn,y8f hi,q2l,zOb,Aw,u0q (show a.length+1<=1099511627776 by omega)];rw[y7h (by omega)])
 rw[Er] at L;rw[o8z];unfold p1y;simp only[L,zOb];rfl
theorem p0h {X R A:Type} (W:X->Ht R) (n:Nat) (mk:A->Int->X) (v:Nat->A) (r:R) (hend:W (mk (v n) (n:Int))=some r)
 (hstep:∀i,i<n->W (mk (v i) (i:Int))=W (mk (v (i+1)) ((i+1:Nat):Int))):W (mk (v 0) 0)=some r:=by
 have:=s86 W n (fun(_:Unit) i=>mk (v i.toNat) i) (fun _ _=>r) (fun _ _=>True) (fun _ _=>by simpa using hend) (fun i a hi _=> .inr ⟨(),trivial,rfl,by
  have h:=hstep i hi;have e:((i:Int)+1).toNat=i+1:=by omega
  simp only[zTn];exact h⟩) 0 () (Cn _) trivial
 simpa using this
theorem j6e {α:Type} (p:α->Bool):∀(l a:Hu α),l.foldl (fun a x=>if p x=true then a++ [x] else a) a=a++l.filter p
 | [],a=>by simp
 | x::l,a=>by
  rw[Bs,j6e p l];cases hc:p x<;>simp[hc]
abbrev u17:=Hs×Hs×Bool×Int
def emp:Hs:=⟨#[]⟩
def j1p (l:Hu u17) (k:Hs) (snap out:Int) (i:Nat):Int:=
 if z7n (rdL u0c l i).1 k=true/\(rdL u0c l i).2.2.2<=snap/\(out<0\/(rdL u0c l i).2.2.2 >(rdL u0c l out.toNat).2.2.2) then(i:Int) else out
def p23 (l:Hu u17) (k:Hs) (snap:Int):Nat->Int
 | 0=> -1 | n+1=>j1p l k snap (p23 l k snap n) n
def t8a (l:Hu u17) (k:Hs) (snap:Int):Int:=p23 l k snap l.length
theorem p24 (l:Hu u17) (k:Hs) (snap:Int):∀n,-1<=p23 l k snap n/\p23 l k snap n<(n:Int)
 | 0=>by simp[p23]
 | n+1=>by
  have:=p24 l k snap n;simp only[p23,j1p];split<;>omega
theorem p54 (l:Hu u17) (k:Hs) (snap:Int): -1<=t8a l k snap/\t8a l k snap<(l.length:Int):=p24 l k snap l.length
theorem o20 (l:Hu u17) (k:Hs) (snap:Int) (hl:l.length<=1099511627776):r2q (l,k,snap)=some (t8a l k snap):=by
 have L:=p0h t8q l.length (fun a i=>(l,k,snap,a,i)) (fun i=>p23 l k snap i) (.inl (t8a l k snap))
  (by rw[p0c];simp only[s4p,u0b,Am,Ah,Aa];rfl)
  (fun i hi=>by
   have hr:=p24 l k snap i;rw[p0c];simp only[s4p,u0b,hi,Ae,Ad,y7p hi,zTn,p23,j1p];rw[y7h (by omega)];cases h1:z7n (rdL u0c l i).1 k with
   | false=>simp[h1] | true=>
    by_cases h2:(rdL u0c l i).2.2.2<=snap
    .by_cases h3:p23 l k snap i<0
     .simp[h1,h2,h3]
     .have hg:y4o (p23 l k snap i) l.length=true:=y7o.mpr ⟨by omega,by omega⟩;by_cases h4:(rdL u0c l i).2.2.2 >(rdL u0c l (p23 l k snap i).toNat).2.2.2
      .simp[h1,h2,h3,h4,hg]
      .simp[h1,h2,h3,h4,hg]
    .simp[h1,h2])
 have L:t8q (l,k,snap,-1,0)=_:=L;rw[j2k];unfold p69;simp only[L,zOb]
theorem o2z (l:Hu u17) (k:Hs) (snap:Int) (hl:l.length<=1099511627776):s8m (l,k,snap)=some (t8a l k snap):=by
 have L:=p0h t5m l.length (fun a i=>(l,k,snap,a,l,(l.length:Int),i)) (fun i=>p23 l k snap i) (.inl (t8a l k snap))
  (by rw[q58];simp only[s13,u0b,Am,Ah,Aa];rfl)
  (fun i hi=>by
   have hr:=p24 l k snap i;rw[q58];simp only[s13,u0b,hi,Ae,Ad,y7p hi,zTn,p23,j1p];rw[y7h (by omega)];cases h1:z7n (rdL u0c l i).1 k with
   | false=>simp[h1] | true=>
    by_cases h2:(rdL u0c l i).2.2.2<=snap
    .by_cases h3:p23 l k snap i<0
     .simp[h1,h2,h3]
     .have hg:y4o (p23 l k snap i) l.length=true:=y7o.mpr ⟨by omega,by omega⟩;by_cases h4:(rdL u0c l i).2.2.2 >(rdL u0c l (p23 l k snap i).toNat).2.2.2
      .simp[h1,h2,h3,h4,hg]
      .simp[h1,h2,h3,h4,hg]
    .simp[h1,h2])
 have L:t5m (l,k,snap,-1,l,(l.length:Int),0)=_:=L;rw[o82];unfold p12;simp only[L,zOb]
def r2r (l:Hu u17) (k:Hs) (snap:Int):Hs×Bool:=
 if t8a l k snap<0\/(rdL u0c l (t8a l k snap).toNat).2.2.1=true then(emp,false) else((rdL u0c l (t8a l k snap).toNat).2.1,true)
theorem j3q (l:Hu u17) (k:Hs) (snap:Int) (y:Int) (hy:y=t8a l k snap):
 (((bif decide (y<0) then some true else(bif y4o y l.length then some (rdL u0c l y.toNat).2.2.1 else none)):Ht Bool).bind fun j2=>(bif j2 then some ((⟨#[]⟩:Hs),false) else(bif y4o y l.length then some ((rdL u0c l y.toNat).2.1,true) else none)))=some (r2r l k snap):=by
 subst hy;have hr:=p54 l k snap;unfold r2r;by_cases h:t8a l k snap<0
 .simp[h,emp]
 .have hg:y4o (t8a l k snap) l.length=true:=y7o.mpr ⟨by omega,by omega⟩;cases h2:(rdL u0c l (t8a l k snap).toNat).2.2.1<;>simp[h,hg,h2,emp]
theorem o0g (l:Hu u17) (k:Hs) (snap:Int) (hl:l.length<=1099511627776):s8r (l,k,snap)=some (r2r l k snap):=by
 rw[o9g];unfold p2h;simp only[o20 l k snap hl,zOb];exact j3q l k snap _ rfl
theorem j4x (l:Hu u17) (k:Hs) (snap:Int) (hl:l.length<=1099511627776):r7z (l,k,snap)=some (r2r l k snap):=by
 rw[o8w];unfold p1v;simp only[o2z l k snap hl,zOb];exact j3q l k snap _ rfl
theorem j9g (l:Hu u17) (hl:l.length<=1099511627775):r70 l=some (p0w (l.map fun v=>v.1)):=by
 have L:=s1k s2h l (fun a i=>(a,l,(l.length:Int),i)) (fun _=>true) (fun v=>v.1) (fun a=> .inl a) (by omega)
  (fun a _=>by rw[q57];simp only[s12,u0b,Am,Ah,Aa])
  (fun i hi a ha=>by
   rw[q57];simp only[s12,u0b,hi,Ae,Ad,y7p hi,zTn,y8f (t:=u0c) hi,Aw,u0q (show a.length+1<=1099511627776 by omega)];rw[y7h (by omega)])
 have hf:l.filter (fun _=>true)=l:=by simp
 rw[hf] at L;have h1:y6w (l.map fun v=>v.1)=some (y4g (l.map fun v=>v.1)):=by
  unfold y6w;rw[Da,u0q (by omega)];rfl
 have h2:y0l (y4g (l.map fun v=>v.1))=some (p0w (l.map fun v=>v.1)):=by
  unfold y0l;rw[j3v,Da,u0q (by omega)];rfl
 rw[o81];unfold p11;simp only[L,zOb,s9h,s5u];simp only[h1,h2,zOb]
theorem q4q (l:Hu Hs):(p0w l).length<=l.length:=by
 have:=z6g (y4g l);rw[j3v] at this;exact this
theorem j49 (k:Hs) (r:Hs×Hs) (l:Hu u17) (j:Int) (out:Hu Hs) (ho:out.length<=1099511627775):
 t3g (l,r,out,j,k, [],0)=some (.inl (l,r,out,j,k,out.filter fun x=>y3b x k)):=by
 have L:=s1k t3g out (fun a i=>(l,r,out,j,k,a,i)) (fun x=>y3b x k) (fun x=>x) (fun a=> .inl (l,r,out,j,k,a)) (by omega)
  (fun a _=>by rw[q14];simp only[s0a,u0b,Am,Ah,Aa])
  (fun i hi a ha=>by
   rw[q14];simp only[s0a,u0b,hi,Ae,Ad,y7p hi,zTn,y8f (t:=Ty.str) hi,Aw,u0q (show a.length+1<=1099511627776 by omega)];rw[y7h (by omega)])
 rw[Er] at L;exact L
theorem j2x (k:Hs) (r:Hs×Hs) (l:Hu u17) (j:Int) (out a0:Hu Hs) (ho:out.length+a0.length<=1099511627775):
 t0x (l,r,out,j,k,a0,0)=some (.inl (l,r,j,a0++out.filter fun x=> !(y3b x k || z7n x k))):=by
 have L:=u8m t0x out (fun a i=>(l,r,out,j,k,a,i)) (fun a x=>if(!(y3b x k || z7n x k))=true then a++ [x] else a) (fun a=> .inl (l,r,j,a)) (fun i a=>a.length<=a0.length+i)
  (fun a _=>by rw[r64];simp only[t69,u0b,Am,Ah,Aa])
  (fun i hi a ha=>by
   rw[r64];simp only[t69,u0b,hi,Ae,Ad,y7p hi,zTn,y8f (t:=Ty.str) hi,Aw,u0q (show a.length+1<=1099511627776 by omega)];rw[y7h (by omega)];cases hc:(!(y3b out[i] k || z7n out[i] k)) with
   | true=>simp;omega | false=>simp;omega) a0 (by simp)
 rw[j6e (fun x=> !(y3b x k || z7n x k))] at L;exact L
theorem d2c (k:Hs) (l:Hu Hs):(j8z k l).length<=l.length+1:=by
 unfold j8z;have h:(fun x=> !(y3b x k || z7n x k))=fun x=>y3b k x:=by funext x;exact j2r
 rw[h];have:(l.filter fun x=>y3b x k).length+(l.filter fun x=>y3b k x).length<=l.length:=by
  induction l with
  | nil=>simp | cons x l ih=>
   simp only[Di];cases h1:y3b x k with
   | true=>rw[r8e h1];simp;omega | false=>cases h2:y3b k x<;>simp<;>omega
 simp;omega
theorem j05 (l:Hu u17) (r:Hs×Hs) (hl:l.length<=500000000000):s5e (l,r)=some ((p0w (l.map fun v=>v.1)).filter fun k=>inR r k):=by
 have L:=u8m s0t l (fun a i=>(l,r,a,i)) (fun a v=>if inR r v.1=true then j8z v.1 a else a) (fun a=> .inl a) (fun i a=>a.length<=i)
  (fun a _=>by rw[q13];simp only[t99,u0b,Am,Ah,Aa])
  (fun i hi a ha=>by
   rw[q13];simp only[t99,u0b,hi,Ae,Ad,y7p hi,zTn,y8f (t:=u0c) hi,q2m,zOb];cases hc:inR r l[i].1 with
   | false=>
    simp only[Bh,Ad,Br,Bk];rw[y7h (by omega)];exact⟨by omega,rfl⟩
   | true=>
    have hlow:(a.filter fun x=>y3b x l[i].1).length<=a.length:=Cs _ _
    simp only[Ap,Aa,Bl,j49 l[i].1 r l (i:Int) a (by omega),zOb,Aw,u0q (show(a.filter fun x=>y3b x l[i].1).length+1<=1099511627776 by omega),Ad,
     j2x l[i].1 r l (i:Int) a (a.filter (fun x=>y3b x l[i].1)++ [l[i].1]) (by simp;omega)]
    rw[y7h (by omega)];exact⟨A9 (d2c _ _) (by omega),rfl⟩) [] (by simp)
 rw[o5r];unfold q8v;simp only[L,zOb];have hfold:∀(m:Hu u17) (a:Hu Hs),m.foldl (fun a v=>if inR r v.1=true then j8z v.1 a else a) a=((m.map fun v=>v.1).filter fun k=>inR r k).foldl (fun a k=>j8z k a) a:=by
  intro m
  induction m with
  | nil=>intro a;rfl | cons x m ih=>
   intro a;rw[Bs,ih];cases hc:inR r x.1<;>simp[hc]
 rw[hfold,d5c]
def s3w (l:Hu u17) (r:Hs×Hs) (snap:Int):Hu (Hs×Hs):=
 ((p0w (l.map fun v=>v.1)).filter fun k=>(r2r l k snap).2&&inR r k).map fun k=>(k,(r2r l k snap).1)
theorem r7f (l:Hu u17) (r:Hs×Hs) (snap:Int) (hl:l.length<=500000000000):u34 (l,r,snap)=some (s3w l r snap):=by
 obtain⟨ks,hks⟩:∃ks,ks=(p0w (l.map fun v=>v.1)).filter fun k=>inR r k:=⟨_,rfl⟩
 have hkl:ks.length<=l.length:=by
  rw[hks];refine A9 (Cs _ _) (A9 (q4q _) (by simp))
 have L:=s1k s2l ks (fun a i=>(l,snap,a,ks,i)) (fun k=>(r2r l k snap).2) (fun k=>(k,(r2r l k snap).1)) (fun a=> .inl a) (by omega)
  (fun a _=>by rw[q6f];simp only[s18,u0b,Am,Ah,Aa])
  (fun i hi a ha=>by
   rw[q6f];simp only[s18,u0b,hi,Ae,Ad,y7p hi,zTn,y8f (t:=Ty.str) hi,o0g l _ snap (show l.length<=1099511627776 by omega),zOb,Aw,u0q (show a.length+1<=1099511627776 by omega)];rw[y7h (by omega)])
 rw[o9e];unfold p2f;simp only[j05 l r hl,zOb];rw[←hks];simp only[L,zOb];rw[hks,List.filter_filter];rfl
theorem r7e (l:Hu u17) (r:Hs×Hs) (snap:Int) (hl:l.length<=500000000000):t7w (l,r,snap)=some (s3w l r snap):=by
 obtain⟨ks,hks⟩:∃ks,ks=p0w (l.map fun v=>v.1):=⟨_,rfl⟩;have hkl:ks.length<=l.length:=by
  rw[hks];refine A9 (q4q _) (by simp)
 have L:=s1k s2f ks (fun a i=>(l,snap,r,a,ks,(ks.length:Int),i)) (fun k=>(r2r l k snap).2&&inR r k) (fun k=>(k,(r2r l k snap).1)) (fun a=> .inl a) (by omega)
  (fun a _=>by rw[q55];simp only[s10,u0b,Am,Ah,Aa])
  (fun i hi a ha=>by
   rw[q55];simp only[s10,u0b,hi,Ae,Ad,y7p hi,zTn,y8f (t:=Ty.str) hi,j4x l _ snap (show l.length<=1099511627776 by omega),q2l,zOb,Aw,u0q (show a.length+1<=1099511627776 by omega)];rw[y7h (by omega)];cases (r2r l ks[i] snap).2<;>rfl)
 rw[o8u];unfold p1t;simp only[j9g l (show l.length<=1099511627775 by omega),zOb];rw[←hks];simp only[L,zOb];rw[hks];rfl
theorem o7i (l:Hu u17) (r:Hs×Hs) (snap:Int):(s3w l r snap).length<=l.length:=by
 unfold s3w;rw[Da];refine A9 (Cs _ _) (A9 (q4q _) (by simp))
theorem q6z {E:Type} (p:E->Bool):∀(l:Hu E),(l.takeWhile p).length<=l.length/\(∀(i:Nat) (h:i<l.length),i<(l.takeWhile p).length->p l[i] =true)/\
 (∀(h:(l.takeWhile p).length<l.length),p l[(l.takeWhile p).length] =false)/\l.takeWhile p=l.take (l.takeWhile p).length/\l.dropWhile p=l.drop (l.takeWhile p).length
 | [] =>⟨Au _,fun i h=>absurd h (Ee i),fun h=>absurd h (Ee _),rfl,rfl⟩ | x::l=>by
  obtain⟨h1,h2,h3,h4,h5⟩:=q6z p l;cases hp:p x with
  | false=>
   simp only[F8,hp,List.dropWhile_cons,Br,Bk,Cc];exact⟨Cn _,fun i _ h=>absurd h (Ee i),fun _=>hp,rfl,rfl⟩
  | true=>
   simp only[F8,hp,List.dropWhile_cons,Bl,Bc];refine⟨by omega,fun i h k=> ?_,fun h=> ?_,?_,?_⟩
   .cases i with
    | zero=>exact hp | succ i=>simpa using h2 i (by simpa using h) (by omega)
   .simpa using h3 (by omega)
   .rw[List.take_succ_cons,←h4]
   .rw[List.drop_succ_cons,←h5]
theorem d7j {X R E:Type} (W:X->Ht R) (l:Hu E) (mk:Hu E->Int->X) (p:E->Bool) (fin:Hu E->Int->R)
 (hend:W (mk l (l.length:Int))=some (fin l (l.length:Int)))
 (hstep:∀(i:Nat) (h:i<l.length),W (mk (l.take i) (i:Int))=bif p l[i] then W (mk (l.take (i+1)) ((i+1:Nat):Int)) else some (fin (l.take i) (i:Int))):
 W (mk [] 0)=some (fin (l.takeWhile p) ((l.takeWhile p).length:Int)):=by
 obtain⟨h1,h2,h3,h4,_⟩:=q6z p l
 have:=s86 W (l.takeWhile p).length (fun(a:Hu E) i=>mk a i) (fun _ _=>fin (l.takeWhile p) ((l.takeWhile p).length:Int)) (fun i a=>a=l.take i)
  (fun a ha=>by
   rw[ha];by_cases hk:(l.takeWhile p).length<l.length
   .rw[hstep _ hk,h3 hk,Aa,←h4]
   .have e:(l.takeWhile p).length=l.length:=by omega
    have e2:l.takeWhile p=l:=by rw[h4,e];exact Cq
    rw[e2,Cq];exact hend)
  (fun i a hi ha=> .inr ⟨_,rfl,rfl,by rw[ha,hstep i (by omega),h2 i (by omega) hi,Ad]⟩) 0 [] (Cn _) (by simp)
 exact this
theorem d40 {X R E:Type} (W:X->Ht R) (l:Hu E) (mk:Int->X) (p:E->Bool) (yes:Int->R) (no:R)
 (hend:W (mk (l.length:Int))=some no)
 (hstep:∀(i:Nat) (h:i<l.length),W (mk (i:Int))=bif p l[i] then W (mk ((i+1:Nat):Int)) else some (yes (i:Int))):
 W (mk 0)=some (if(l.takeWhile p).length<l.length then yes ((l.takeWhile p).length:Int) else no):=by
 obtain⟨h1,h2,h3,_,_⟩:=q6z p l
 have:=s86 W (l.takeWhile p).length (fun(_:Unit) i=>mk i) (fun _ _=>if(l.takeWhile p).length<l.length then yes ((l.takeWhile p).length:Int) else no) (fun _ _=>True)
  (fun a _=>by
   by_cases hk:(l.takeWhile p).length<l.length
   .rw[hstep _ hk,h3 hk,Aa,Al hk]
   .have e:(l.takeWhile p).length=l.length:=by omega
    rw[Ao hk,e];exact hend)
  (fun i a hi _=> .inr ⟨(),trivial,rfl,by rw[hstep i (by omega),h2 i (by omega) hi,Ad]⟩) 0 () (Cn _) trivial
 exact this
def u94 (v y:u17):Bool:=y3b y.1 v.1 || (z7n y.1 v.1&&decide (y.2.2.2<=v.2.2.2))
def j6r (l:Hu u17) (v:u17):Hu u17:=l.takeWhile (u94 v)++ [v] ++l.dropWhile (u94 v)
def s1d (l:Hu u17) (ws:Hu u2l.den) (cs:Int):Hu u17:=ws.foldl (fun l w=>j6r l (w.1,w.2.1,w.2.2,cs)) l
theorem o99 (l:Hu u17) (v:u17):(j6r l v).length=l.length+1:=by
 have:l.length=(l.takeWhile (u94 v)).length+(l.dropWhile (u94 v)).length:=by rw[←Ba,Fe]
 simp[j6r];omega
theorem s56:∀(ws:Hu u2l.den) (l:Hu u17) (cs:Int),(s1d l ws cs).length=l.length+ws.length
 | [],l,cs=>rfl | w::ws,l,cs=>by
  have:=s56 ws (j6r l (w.1,w.2.1,w.2.2,cs)) cs;unfold s1d at this ⊢;rw[Bs,this,o99];simp;omega
theorem d5m (l:Hu u17) (v:u17):j6r l v=l.take (l.takeWhile (u94 v)).length++ [v] ++l.drop (l.takeWhile (u94 v)).length:=by
 obtain⟨_,_,_,h4,h5⟩:=q6z (u94 v) l;unfold j6r;rw[←h4,←h5]
theorem o6c (a b:Hs):t8i (a,b)=some (if y3b a b then -1 else if z7n a b then 0 else 1):=by
 have ns:∀x,t49 x=some false:=fun x=>by
  rw[p29];unfold r07;have:z7n x x=true:=by simp[z7n]
  rw[this];rfl
 rw[q63];unfold s69;simp only[ns,zOb,Aa];cases y3b a b<;>cases z7n a b<;>rfl
theorem j86 (a b:Int):s34 (a,b)=some (if a<b then -1 else if a >b then 1 else 0):=by
 have ns:∀x,s2w x=some false:=fun x=>by
  rw[o0z];unfold q2x;simp
 rw[p5d];unfold r4g;simp only[ns,zOb,Aa];by_cases h:a<b
 .simp[h]
 .by_cases h2:a >b<;>simp[h,h2]
theorem d4p (y v:u17):t8j (y,v)=some (!u94 v y):=by
 rw[q64];unfold s7a;rw[s5t];unfold t5v;simp only[o6c,zOb];unfold u94;cases h1:y3b y.1 v.1 with
 | true=>simp | false=>
  cases h2:z7n y.1 v.1 with
  | false=>simp | true=>
   simp only[Br,Bk,Bl,Ae,Ap,Aa,j86,zOb,Ci,Bz];by_cases h3:y.2.2.2<v.2.2.2
   .have:y.2.2.2<=v.2.2.2:=by omega
    simp[h3,this]
   .by_cases h4:y.2.2.2 >v.2.2.2
    .have: ¬y.2.2.2<=v.2.2.2:=by omega
     simp[h3,h4,this]
    .have:y.2.2.2<=v.2.2.2:=by omega
     simp[h3,h4,this]
theorem j9f (l:Hu u17) (v:u17) (hl:l.length<=1099511627775):u10 (l,v)=some (if(l.takeWhile (u94 v)).length<l.length then((l.takeWhile (u94 v)).length:Int) else -1):=by
 have L:=d40 u03 l (fun i=>(l,v,(l.length:Int),i)) (u94 v) (fun i=> .inr i) (.inl ())
  (by rw[u2v];simp only[u02,u0b,Am,Ah,Aa])
  (fun i hi=>by
   rw[u2v];simp only[u02,u0b,hi,Ae,Ad,y7p hi,zTn,y8f (t:=u0c) hi,d4p,zOb];rw[y7h (by omega)];cases u94 v l[i] <;>rfl)
 rw[u8r];unfold u24;simp only[L,zOb];by_cases h:(l.takeWhile (u94 v)).length<l.length
 .simp only[Al h]
 .simp only[Ao h]
theorem o6e (l:Hu u17) (v:u17) (k:Nat) (hk:k<=l.length) (hl:l.length<=1099511627775):u4m (l,(k:Int), [v])=some (l.take k++ [v] ++l.drop k):=by
 rw[s8h];unfold y2p;have h1:decide ((0:Int)<=(k:Int))=true:=by simp
 have h2:decide ((k:Int)<=(l.length:Int))=true:=by simpa using hk
 simp only[h1,h2,u0q (show l.length+1<=1099511627776 by omega),Bz,Aw,zTn];rfl
theorem r8j (l:Hu u17) (ws:Hu u2l.den) (cs:Int) (hl:l.length+ws.length<=1000000000000):u9p (l,ws,cs)=some (s1d l ws cs):=by
 have L:=u8m t0i ws (fun a i=>(cs,a,ws,(ws.length:Int),i)) (fun l w=>j6r l (w.1,w.2.1,w.2.2,cs)) (fun a=> .inl a) (fun i a=>a.length=l.length+i)
  (fun a _=>by rw[s7z];simp only[u97,u0b,Am,Ah,Aa])
  (fun i hi a ha=>by
   have hal:a.length<=1099511627775:=by omega
   rw[s7z];simp only[u97,u0b,hi,Ae,Ad,y7p hi,zTn,y8f (t:=u2l) hi,j9f a _ hal,zOb];refine⟨by rw[o99];omega,?_⟩;obtain⟨t1,_⟩:=q6z (u94 (ws[i].1,ws[i].2.1,ws[i].2.2,cs)) a;rw[d5m,y7h (by omega)];by_cases hk:(a.takeWhile (u94 (ws[i].1,ws[i].2.1,ws[i].2.2,cs))).length<a.length
   .rw[Al hk];have:decide (((a.takeWhile (u94 (ws[i].1,ws[i].2.1,ws[i].2.2,cs))).length:Int)<0)=false:=by simp
    simp only[this,Aa,o6e a _ _ t1 hal,zOb]
   .rw[Ao hk];have e:(a.takeWhile (u94 (ws[i].1,ws[i].2.1,ws[i].2.2,cs))).length=a.length:=by omega
    have:decide ((-1:Int)<0)=true:=by decide
    simp only[this,Ad,o6e a _ _ (Au _) hal,zOb];rw[e]) l (by simp)
 rw[p3a];unfold r08;simp only[u0q (show l.length<=1099511627776 by omega),Ad,L,zOb];rfl
theorem d10 (ws:Hu u2l.den) (cs:Int) (l:Hu u17) (j:Int) (v:u17) (hl:l.length<=1000000000000):
 u7m (ws,cs,l,j,v, [],0)=some (.inl (ws,cs,l,j,v,l.takeWhile (u94 v),((l.takeWhile (u94 v)).length:Int))):=
 d7j u7m l (fun a i=>(ws,cs,l,j,v,a,i)) (u94 v) (fun a i=> .inl (ws,cs,l,j,v,a,i))
  (by rw[s74];simp only[t0c,u0b,Am,Ah,Aa,zOb])
  (fun i hi=>by
   rw[s74];have hb:((l.take i).length+ [l[i]].length)<=1099511627776:=by simp;omega
   simp only[t0c,u0b,hi,Ae,Ad,y7p hi,zTn,y8f (t:=u0c) hi,u0q hb];rw[y7h (by omega),B9 hi];unfold u94;cases h1:y3b l[i].1 v.1 with
   | true=>simp | false=>
    cases h2:z7n l[i].1 v.1 with
    | false=>simp | true=>
     by_cases h3:l[i].2.2.2<=v.2.2.2<;>simp[h3])
theorem s6n (l:Hu u17) (ws:Hu u2l.den) (cs:Int) (hl:l.length+ws.length<=1000000000000):u65 (l,ws,cs)=some (s1d l ws cs):=by
 have L:=u8m t0j ws (fun a i=>(ws,cs,a,i)) (fun l w=>j6r l (w.1,w.2.1,w.2.2,cs)) (fun a=> .inl a) (fun i a=>a.length=l.length+i)
  (fun a _=>by rw[s73];simp only[t0b,u0b,Am,Ah,Aa])
  (fun i hi a ha=>by
   have hal:a.length<=1000000000000:=by omega
   rw[s73];simp only[t0b,u0b,hi,Ae,Ad,y7p hi,zTn,y8f (t:=u2l) hi,d10 ws cs a _ _ hal,zOb];obtain⟨v,hv⟩:∃v:u17,v=(ws[i].1,ws[i].2.1,ws[i].2.2,cs):=⟨_,rfl⟩;rw[←hv];obtain⟨t1,_,_,t4,t5⟩:=q6z (u94 v) a;refine⟨by rw[o99];omega,?_⟩;have g1:decide ((0:Int)<=((a.takeWhile (u94 v)).length:Int))=true:=by simp
   have g2:decide (((a.takeWhile (u94 v)).length:Int)<=(a.length:Int))=true:=by simpa using t1
   have g3:decide ((a.length:Int)<=(a.length:Int))=true:=by simp
   have b1:(a.takeWhile (u94 v)).length+ [v].length<=1099511627776:=by simp;omega
   have b2:(a.takeWhile (u94 v)++ [v]).length+(a.drop (a.takeWhile (u94 v)).length).length<=1099511627776:=by simp;omega
   simp only[g1,g2,g3,Bz,u0q b1,Ad,Cq,u0q b2];rw[y7h (by omega),←t5];rfl) l (by simp)
 rw[p3k];unfold r1e;simp only[Cc,Co,Cf,u0q (show l.length<=1099511627776 by omega),Ad,L,zOb];rfl
abbrev PrT:=Hs×Hs
theorem j3c {a b:Hu PrT} (h:a.length=b.length):(bif (a.zip b).any (fun p=> !(z7n p.1.1 p.2.1&&(z7n p.1.2 p.2.2&&true))) then false else true)=decide (a=b):=by
 induction a generalizing b with
 | nil=>
  cases b with
  | nil=>rfl | cons _ _=>simp at h
 | cons x a ih=>
  cases b with
  | nil=>simp at h | cons y b=>
   have ih:=ih (b:=b) (by simpa using h);simp only[List.zip_cons_cons,Gd];by_cases h1:x.1=y.1
   .by_cases h2:x.2=y.2
    .have hxy:x=y:=Prod.ext h1 h2;subst hxy;rw[y6k,y6k];simp only[Dt,Ap,Ci,ih];simp
    .have:=j5q.mpr h2;rw[this];have hne: ¬(x::a=y::b):=fun e=>h2 (by injection e with e;rw[e])
     simp[hne]
   .have:=j5q.mpr h1;rw[this];have hne: ¬(x::a=y::b):=fun e=>h1 (by injection e with e;rw[e])
    simp[hne]
theorem p44 (a b:Hu PrT) (ha:a.length<=1099511627776):u6q (a,b)=some (decide (a=b)):=by
 rw[o2g];unfold q35;by_cases h:a.length=b.length
 .have hz:(a.zip b).length=a.length:=by simp[h]
  have L:=s6r t7r (a.zip b) (fun i=>(a,b,i)) (fun p=> !(z7n p.1.1 p.2.1&&(z7n p.1.2 p.2.2&&true))) (.inr false) (.inl ())
   (by rw[r65,hz];simp only[t7a,u0b,Am,Ah,Aa])
   (fun i hi=>by
    have hi1:i<a.length:=by omega
    have hi2:i<b.length:=by omega
    rw[r65];simp only[t7a,u0b,hi1,Ae,Ad,y7p hi1,y7p hi2,zTn,y8f (t:=j9q) hi1,y8f (t:=j9q) hi2,List.getElem_zip];rw[y7h (by omega)])
  have e1:decide ((a.length:Int)=(b.length:Int))=true:=by simp[h]
  simp only[e1,Ap,Aa,L,zOb];rw[←j3c h];cases (a.zip b).any fun p=> !(z7n p.1.1 p.2.1&&(z7n p.1.2 p.2.2&&true))<;>rfl
 .have e1:decide ((a.length:Int)=(b.length:Int))=false:=by simp;omega
  have e2:decide (a=b)=false:=by
   rw[Bu];intro e;exact h (by rw[e])
  rw[e1,e2];rfl
theorem p43 (a b:Hu PrT) (ha:a.length<=1099511627776):u4g (a,b)=some (decide (a=b)):=by
 rw[r47];unfold s1n;by_cases h:a.length=b.length
 .have hz:(a.zip b).length=a.length:=by simp[h]
  have L:=s6r u5x (a.zip b) (fun i=>(a,b,(a.length:Int),i)) (fun p=> !(z7n p.1.1 p.2.1&&(z7n p.1.2 p.2.2&&true))) (.inr false) (.inl ())
   (by rw[t8d,hz];simp only[u5w,u0b,Am,Ah,Aa])
   (fun i hi=>by
    have hi1:i<a.length:=by omega
    have hi2:i<b.length:=by omega
    rw[t8d];simp only[u5w,u0b,hi1,Ae,Ad,y7p hi1,y7p hi2,zTn,y8f (t:=j9q) hi1,y8f (t:=j9q) hi2,List.getElem_zip];rw[y7h (by omega)])
  have e1:decide ((a.length:Int)=(b.length:Int))=true:=by simp[h]
  simp only[e1,Ap,Aa,L,zOb];rw[←j3c h];cases (a.zip b).any fun p=> !(z7n p.1.1 p.2.1&&(z7n p.1.2 p.2.2&&true))<;>rfl
 .have e1:decide ((a.length:Int)=(b.length:Int))=false:=by simp;omega
  have e2:decide (a=b)=false:=by
   rw[Bu];intro e;exact h (by rw[e])
  rw[e1,e2];rfl
theorem q2t (r:Hu t3k.den) (w:Hu u2l.den) (hr:r.length<=u0m) (hw:w.length<=u0m):t84 (r,w)=some (r0n r w):=by
 unfold u0m at hr hw;have inner:∀(i:Nat) (hi:i<r.length),t3c (r,w,(i:Int),0)=some (bif w.any (fun y=>inR r[i] y.1) then .inr true else .inl (r,w,(i:Int))):=fun i hi=>
  s6r t3c w (fun j=>(r,w,(i:Int),j)) (fun y=>inR r[i] y.1) _ _ (by
   rw[q1z];simp only[t95,u0b,Am,Ah,Aa]) (fun j hj=>by
   rw[q1z];simp only[t95,u0b,hj,Ae,Ad,y7p hi,y7p hj,zTn,y8f hi,y8f hj,q2m,zOb];rw[y7h (by omega)])
 have outer:=s6r s0s r (fun i=>(r,w,i)) (fun x=>w.any fun y=>inR x y.1) (.inr true) (.inl ()) (by
  rw[q1y];simp only[t94,u0b,Am,Ah,Aa]) (fun i hi=>by
  rw[q1y];simp only[t94,u0b,hi,Ae,Ad,inner i hi,zOb];have ws:=y7h (i:=i) (by omega);cases w.any fun y=>inR r[i] y.1<;>simp only[Ad,Aa,ws])
 rw[o5f];unfold q8i;simp only[outer,zOb];unfold r0n;cases r.any fun x=>w.any fun y=>inR x y.1<;>rfl
theorem o6h (r w:Hu u2l.den) (hr:r.length<=u0m) (hw:w.length<=u0m):s57 (r,w)=some (p00 r w):=by
 unfold u0m at hr hw;have inner:∀(i:Nat) (hi:i<r.length),t8p (r,w,(i:Int),0)=some (bif w.any (fun y=>z7n r[i].1 y.1) then .inr true else .inl (r,w,(i:Int))):=fun i hi=>
  s6r t8p w (fun j=>(r,w,(i:Int),j)) (fun y=>z7n r[i].1 y.1) _ _ (by
   rw[q99];simp only[s4m,u0b,Am,Ah,Aa]) (fun j hj=>by
   rw[q99];simp only[s4m,u0b,hj,Ae,Ad,y7p hi,y7p hj,zTn,y8f hi,y8f hj,zOb];rw[y7h (by omega)])
 have outer:=s6r s4u r (fun i=>(r,w,i)) (fun x=>w.any fun y=>z7n x.1 y.1) (.inr true) (.inl ()) (by
  rw[q98];simp only[s4l,u0b,Am,Ah,Aa]) (fun i hi=>by
  rw[q98];simp only[s4l,u0b,hi,Ae,Ad,inner i hi,zOb];have ws:=y7h (i:=i) (by omega);cases w.any fun y=>z7n r[i].1 y.1<;>simp only[Ad,Aa,ws])
 rw[j2h];unfold p66;simp only[outer,zOb];unfold p00;cases r.any fun x=>w.any fun y=>z7n x.1 y.1<;>rfl
theorem q2s (r:Hu t3k.den) (w:Hu u2l.den) (hr:r.length<=u0m) (hw:w.length<=u0m):u77 (r,w)=some (r0n r w):=by
 unfold u0m at hr hw;have inner:∀(i:Nat) (hi:i<r.length),t21 (w,r[i],r,(r.length:Int),(i:Int),w,(w.length:Int),0)=some (bif w.any (fun y=>inR r[i] y.1) then .inr true else .inl (w,r,(r.length:Int),(i:Int))):=fun i hi=>
  s6r t21 w (fun j=>(w,r[i],r,(r.length:Int),(i:Int),w,(w.length:Int),j)) (fun y=>inR r[i] y.1) _ _ (by
   rw[q1g];simp only[t9m,u0b,Am,Ah,Aa]) (fun j hj=>by
   rw[q1g];simp only[t9m,u0b,hj,Ae,Ad,y7p hi,y7p hj,zTn,y8f hi,y8f hj,q2l,zOb];rw[y7h (by omega)])
 have outer:=s6r s0k r (fun i=>(w,r,(r.length:Int),i)) (fun x=>w.any fun y=>inR x y.1) (.inr true) (.inl ()) (by
  rw[q1f];simp only[t9l,u0b,Am,Ah,Aa]) (fun i hi=>by
  rw[q1f];simp only[t9l,u0b,hi,Ae,Ad,y7p hi,zTn,y8f hi,inner i hi,zOb];have ws:=y7h (i:=i) (by omega);cases w.any fun y=>inR r[i] y.1<;>simp only[Ad,Aa,ws])
 rw[o4r];unfold q7u;simp only[outer,zOb];unfold r0n;cases r.any fun x=>w.any fun y=>inR x y.1<;>rfl
theorem j7i (r w:Hu u2l.den) (hr:r.length<=u0m) (hw:w.length<=u0m):r2m (r,w)=some (p00 r w):=by
 unfold u0m at hr hw;have inner:∀(i:Nat) (hi:i<r.length),t8o (w,r[i],r,(r.length:Int),(i:Int),w,(w.length:Int),0)=some (bif w.any (fun y=>z7n r[i].1 y.1) then .inr true else .inl (w,r,(r.length:Int),(i:Int))):=fun i hi=>
  s6r t8o w (fun j=>(w,r[i],r,(r.length:Int),(i:Int),w,(w.length:Int),j)) (fun y=>z7n r[i].1 y.1) _ _ (by
   rw[q95];simp only[s4i,u0b,Am,Ah,Aa]) (fun j hj=>by
   rw[q95];simp only[s4i,u0b,hj,Ae,Ad,y7p hi,y7p hj,zTn,y8f hi,y8f hj,zOb];rw[y7h (by omega)])
 have outer:=s6r s4r r (fun i=>(w,r,(r.length:Int),i)) (fun x=>w.any fun y=>z7n x.1 y.1) (.inr true) (.inl ()) (by
  rw[q94];simp only[s4h,u0b,Am,Ah,Aa]) (fun i hi=>by
  rw[q94];simp only[s4h,u0b,hi,Ae,Ad,y7p hi,zTn,y8f hi,inner i hi,zOb];have ws:=y7h (i:=i) (by omega);cases w.any fun y=>z7n r[i].1 y.1<;>simp only[Ad,Aa,ws])
 rw[j1z];unfold p6w;simp only[outer,zOb];unfold p00;cases r.any fun x=>w.any fun y=>z7n x.1 y.1<;>rfl
def r1o (a b:u0v.den):Bool:=
 decide (a.2.1=3)&&decide (b.2.1=3)&& !decide (a.1=b.1)&&
 (decide (a.2.2.2.1<=b.2.2.1)&&r0n b.2.2.2.2.1 a.2.2.2.2.2.1 || decide (a.2.2.2.1<b.2.2.2.1)&&p00 a.2.2.2.2.2.1 b.2.2.2.2.2.1 || decide (b.2.2.2.1 >a.2.2.1)&&r0n a.2.2.2.2.1 b.2.2.2.2.2.1)
theorem p92 {a:u0v.den} :a.2.2.2.2.1.length<=u0v.wt a:=by simp only[Ty.wt];omega
theorem s6k {a:u0v.den} :a.2.2.2.2.2.1.length<=u0v.wt a:=by simp only[Ty.wt];omega
theorem p0u (a:u0v.den):u9r a=some (decide (a.2.1=3)):=by
 rw[r7q];rfl
theorem j4j (a b:u0v.den) (ha:u0v.wt a<=u0m) (hb:u0v.wt b<=u0m):s8n (a,b)=some (r1o a b):=by
 have t1:=q2t b.2.2.2.2.1 a.2.2.2.2.2.1 (A9 p92 hb) (A9 s6k ha);have t2:=q2t a.2.2.2.2.1 b.2.2.2.2.2.1 (A9 p92 ha) (A9 s6k hb);have t3:=o6h a.2.2.2.2.2.1 b.2.2.2.2.2.1 (A9 s6k ha) (A9 s6k hb);rw[o84];unfold p15;simp only[t1,t2,t3,zOb];unfold r1o;generalize r0n b.2.2.2.2.1 a.2.2.2.2.2.1=u1;generalize r0n a.2.2.2.2.1 b.2.2.2.2.2.1=u2;generalize p00 a.2.2.2.2.2.1 b.2.2.2.2.2.1=u3;cases decide (a.1=b.1)<;>cases decide (a.2.1=3)<;>cases decide (b.2.1=3)<;>cases decide (a.2.2.2.1<=b.2.2.1)<;>cases decide (a.2.2.2.1<b.2.2.2.1)<;>cases decide (b.2.2.2.1 >a.2.2.1)<;>cases u1<;>cases u2<;>cases u3<;>rfl
theorem j4i (a b:u0v.den) (ha:u0v.wt a<=u0m) (hb:u0v.wt b<=u0m):s8k (a,b)=some (r1o a b):=by
 have t1:=q2s b.2.2.2.2.1 a.2.2.2.2.2.1 (A9 p92 hb) (A9 s6k ha);have t2:=q2s a.2.2.2.2.1 b.2.2.2.2.2.1 (A9 p92 ha) (A9 s6k hb);have t3:=j7i a.2.2.2.2.2.1 b.2.2.2.2.2.1 (A9 s6k ha) (A9 s6k hb);rw[o8o];unfold p1n;simp only[t1,t2,t3,p0u,zOb];unfold r1o;generalize r0n b.2.2.2.2.1 a.2.2.2.2.2.1=u1;generalize r0n a.2.2.2.2.1 b.2.2.2.2.2.1=u2;generalize p00 a.2.2.2.2.2.1 b.2.2.2.2.2.1=u3;cases decide (a.1=b.1)<;>cases decide (a.2.1=3)<;>cases decide (b.2.1=3)<;>cases decide (a.2.2.2.1<=b.2.2.1)<;>cases decide (a.2.2.2.1<b.2.2.2.1)<;>cases decide (b.2.2.2.1 >a.2.2.1)<;>cases u1<;>cases u2<;>cases u3<;>rfl
theorem p06 {n i:Nat} (h:i<n):(List.range n).drop i=i::(List.range n).drop (i+1):=by
 have:=Ce (l:=List.range n) (i:=i) (by simpa using h);simpa using this
theorem d3m {X R:Type} (W:X->Ht R) (n:Nat) (mk:Int->X) (p:Nat->Bool) (yes:Nat->R) (no:R) (hend:W (mk (n:Int))=some no)
 (hstep:∀i,i<n->W (mk (i:Int))=bif p i then some (yes i) else W (mk ((i+1:Nat):Int))):W (mk 0)=some (match (List.range n).find? p with
  | some i=>yes i | none=>no):=by
 have:=s86 W n (fun(_:Unit) i=>mk i) (fun i _=>match ((List.range n).drop i).find? p with
  | some i=>yes i | none=>no) (fun _ _=>True) (fun _ _=>by
   rw[hend,Dp (by simp)];rfl) (fun i a hi _=>by
   have hs:=hstep i hi;rw[p06 hi,List.find?_cons];cases hp:p i with
   | true=>rw[hp,Ad] at hs;exact .inl hs | false=>rw[hp,Aa] at hs;exact .inr ⟨(),trivial,rfl,hs⟩) 0 () (Cn _) trivial
 exact this
theorem d7i {X R:Type} (W:X->Ht R) (n:Nat) (mk:Bool->Int->X) (p:Nat->Bool) (fin:Bool->R) (hend:∀b,W (mk b (n:Int))=some (fin b))
 (hstep:∀b i,i<n->W (mk b (i:Int))=W (mk (b || p i) ((i+1:Nat):Int))) (b:Bool):W (mk b 0)=some (fin (b || (List.range n).any p)):=by
 have:=s86 W n mk (fun i b=>fin (b || ((List.range n).drop i).any p)) (fun _ _=>True) (fun b _=>by
  rw[hend,Dp (by simp)];simp) (fun i b hi _=> .inr ⟨b || p i,trivial,by
  rw[p06 hi,Gd,Bool.or_assoc],hstep b i hi⟩) 0 b (Cn _) trivial
 exact this
theorem d41 {X R:Type} (W:X->Ht R) (n:Nat) (mk:Bool->Int->X) (p:Nat->Bool) (fin:Bool->R) (hend:∀b,W (mk b (n:Int))=some (fin b)) (hstop:∀i,i<n->W (mk false (i:Int))=some (fin false))
 (hstep:∀i,i<n->W (mk true (i:Int))=W (mk (p i) ((i+1:Nat):Int))) (b:Bool):W (mk b 0)=some (fin (b&&(List.range n).all p)):=by
 have:=s86 W n mk (fun i b=>fin (b&&((List.range n).drop i).all p)) (fun _ _=>True) (fun b _=>by
  rw[hend,Dp (by simp)];simp) (fun i b hi _=>by
  cases b with
  | false=>exact .inl (by rw[hstop i hi];simp) | true=>exact .inr ⟨p i,trivial,by rw[p06 hi,Gc,Bz],hstep i hi⟩) 0 b (Cn _) trivial
 exact this
def u0x (t:Hu Nat):Hu Int:=t.map fun i:Nat=>(i:Int)
theorem u3p (t:Hu Nat):(u0x t).length=t.length:=by simp[u0x]
theorem p6j (t:Hu Nat) (j:Nat) (ht:t.length<=1099511627776):u2q (u0x t,(j:Int))=some (t.contains j):=by
 have key:∀(d i:Nat),i+d=t.length->(u2g (u0x t,(j:Int),(t.length:Int),(i:Int))=some (.inl ())/\(t.drop i).contains j=false)\/
  ∃k:Nat,u2g (u0x t,(j:Int),(t.length:Int),(i:Int))=some (.inr (k:Int))/\(t.drop i).contains j=true:=by
  intro d
  induction d with
  | zero=>
   intro i hi;have:i=t.length:=by omega
   subst this;left;rw[s1v];simp only[u6w,u0b,Am,Ah,Aa,F5];exact⟨trivial,rfl⟩
  | succ d ih=>
   intro i hi;have h:i<t.length:=by omega
   have h' :i<(u0x t).length:=by simpa[u0x] using h
   have hr:rdL (Ty.int .i64) (u0x t) i=(t[i] :Int):=by
    rw[y8f (t:=Ty.int .i64) h'];simp[u0x]
   rw[s1v,Ce h,List.contains_cons];simp only[u6w,u0b,h,Ae,Ad,y7p h',zTn,hr];by_cases e:j=t[i]
   .right;refine⟨i,?_,?_⟩
    .simp[e,u3p,h]
    .simp[e]
   .have e1:decide ((j:Int)=(t[i] :Int))=false:=by simp;omega
    have e2:(j==t[i])=false:=by simpa using e
    rw[e1,Aa,y7h (by omega),e2,Ci];exact ih (i+1) (by omega)
 rw[r3p];unfold t8r;rw[q2d];unfold s3t;simp only[u3p];rcases key t.length 0 (by omega) with ⟨h1,h2⟩ | ⟨k,h1,h2⟩
 .have h1:u2g (u0x t,(j:Int),(t.length:Int),0)=_:=h1;rw[Fh] at h2;simp only[h1,zOb,h2];rfl
 .have h1:u2g (u0x t,(j:Int),(t.length:Int),0)=_:=h1;rw[Fh] at h2;simp only[h1,zOb,h2];simp
def j0v (l:Hu u0v.den) (j i:Nat):Bool:=r1o (rdL u0v l j) (rdL u0v l i)
def q9x (l:Hu u0v.den) (t:Hu Nat) (i:Nat):Bool:= !t.contains i&& !(List.range l.length).any (fun j=> !decide (j=i)&&(!t.contains j&&j0v l j i))
def r7s (l:Hu u0v.den) (t:Hu Nat):Ht Nat:=(List.range l.length).find? (q9x l t)
def o57 (l:Hu u0v.den):Nat->Hu Nat->Ht (Hu Nat)
 | 0,t=>some t | k+1,t=>match r7s l t with
  | none=>none | some i=>o57 l k (t++ [i])
def o96 (l:Hu u0v.den):Ht (Hu Nat):=o57 l l.length []
def j6m:Ht (Hu Nat)->Hu Int×Bool
 | some t=>(u0x t,true) | none=>([],false)
theorem o0s (t:Hu Nat) (i:Nat):u0x t++ [(i:Int)] =u0x (t++ [i]):=by simp[u0x]
section
variable {l:Hu u0v.den} (hw:∀x∈l,u0v.wt x<=u0m) (hl:l.length<=1048576)
include hw hl
theorem j1r (t:Hu Nat) (ht:t.length<=l.length) (m:Bool) (i:Nat) (hi:i<l.length) (l2:Hu u0v.den) (n2 i2:Int) (b:Bool):
 u6g (l,u0x t,m,(i:Int),l[i],b,l2,n2,i2,l,(l.length:Int),0)=some (.inl (l,u0x t,m,(i:Int),b || (List.range l.length).any (fun j=> !decide (j=i)&&(!t.contains j&&j0v l j i)),l2,n2,i2)):=by
 have:=d7i u6g l.length (fun b j=>(l,u0x t,m,(i:Int),l[i],b,l2,n2,i2,l,(l.length:Int),j)) (fun j=> !decide (j=i)&&(!t.contains j&&j0v l j i)) (fun b=> .inl (l,u0x t,m,(i:Int),b,l2,n2,i2))
  (fun b=>by
   rw[s6e];simp only[u9a,u0b,Am,Ah,Aa])
  (fun b j hj=>by
   have hc:u2q (u0x t,(j:Int))=some (t.contains j):=p6j t j (by omega);have hb:s8k (l[j],l[i])=some (j0v l j i):=by
    rw[j4i _ _ (hw _ (Ag hj)) (hw _ (Ag hi))];unfold j0v;rw[y8f hj,y8f hi]
   rw[s6e];simp only[u9a,u0b,hj,Ae,Ad,y7p hj,zTn,y8f hj,hc,hb,zOb];have he:decide ((j:Int)=(i:Int))=decide (j=i):=by by_cases e:j=i<;>simp[e] <;>omega
   rw[y7h (by omega),he];cases b<;>cases decide (j=i)<;>cases t.contains j<;>cases j0v l j i<;>rfl) b
 exact this
theorem d0n (t:Hu Nat) (ht:t.length<=l.length) (m:Bool):
 u7k (l,u0x t,m,l,(l.length:Int),0)=some (match r7s l t with
  | some i=> .inl (l,u0x (t++ [i]),true) | none=> .inl (l,u0x t,m)):=by
 have:=d3m u7k l.length (fun i=>(l,u0x t,m,l,(l.length:Int),i)) (q9x l t) (fun i=> .inl (l,u0x (t++ [i]),true)) (.inl (l,u0x t,m))
  (by rw[s71];simp only[u99,u0b,Am,Ah,Aa])
  (fun i hi=>by
   have hc:u2q (u0x t,(i:Int))=some (t.contains i):=p6j t i (by omega);have hk:Nat.ble ((u0x t).length+([(i:Int)] :Hu Int).length) z7v=true:=by
    rw[Nat.ble_eq,u3p];simp only[Bc,Cc,z7v];omega
   rw[s71];simp only[u99,u0b,hi,Ae,Ad,y7p hi,zTn,y8f hi,hc,zOb,j1r hw hl t ht m i hi l (l.length:Int) (i:Int) false,hk,Ci,o0s];rw[y7h (by omega)];unfold q9x;cases t.contains i<;>cases (List.range l.length).any (fun j=> !decide (j=i)&&(!t.contains j&&j0v l j i))<;>rfl)
 rw[this];unfold r7s;cases (List.range l.length).find? (q9x l t)<;>rfl
theorem j99:∀(k:Nat) (t:Hu Nat),t.length+k=l.length->u7j (l,u0x t)=some (match o57 l k t with
 | some t=> .inl (u0x t) | none=> .inr ([],false))
 | 0,t,h=>by
  rw[s70];have: ¬((u0x t).length:Int)<(l.length:Int):=by rw[u3p];omega
  simp only[u98,this,Ah,Aa];rfl
 | k+1,t,h=>by
  rw[s70];have:((u0x t).length:Int)<(l.length:Int):=by rw[u3p];omega
  simp only[u98,this,Ae,Ad,d0n hw hl t (by omega) false,zOb,o57];cases hp:r7s l t with
  | none=>rfl | some i=>
   simp only[Ap,Aa];exact j99 k (t++ [i]) (by simp;omega)
theorem p73:s20 l=some (j6m (o96 l)):=by
 have h:u7j (l, [])=_:=j99 hw hl l.length [] (by simp);rw[p3b];unfold r09;simp only[h,zOb];unfold o96;cases o57 l l.length [] <;>rfl
def t1m (n:Nat) (t:Hu Nat):Hu Bool:=(List.range n).map fun i=> !t.contains i
omit hw hl in
theorem o62 {n:Nat} {t:Hu Nat} {i:Nat} (h:i<n):rdL Ty.bool (t1m n t) i= !t.contains i:=by
 have h' :i<(t1m n t).length:=by simp[t1m,h]
 rw[y8f (t:=Ty.bool) h'];simp[t1m]
omit hw hl in
theorem p56 {n:Nat} {t:Hu Nat} :(t1m n t).length=n:=by simp[t1m]
omit hw hl in
theorem j75 {n:Nat} {t:Hu Nat} {i:Nat} :(t1m n t).set i false=t1m n (t++ [i]):=by
 apply Gw
 .simp[t1m]
 .intro j h1 h2;rw[List.getElem_set];simp only[t1m,F6,List.getElem_range,List.contains_eq_mem,Ay,A8,Ep,Em];by_cases e:i=j
  .simp[e]
  .have: ¬j=i:=fun z=>e z.symm
   simp[e,this]
omit hw hl in
theorem j74 {n:Nat} :t1m n [] =List.replicate n true:=by
 apply Gw
 .simp[t1m]
 .intro j h1 h2;simp[t1m]
theorem j96 (t:Hu Nat) (nx:Int) (i:Nat) (hi:i<l.length) (b:Bool):
 u6j (l,t1m l.length t,u0x t,nx,(i:Int),b,0)=some (.inl (l,t1m l.length t,u0x t,nx,(i:Int),b&&(List.range l.length).all (fun j=>t.contains j || decide (j=i) || !j0v l j i))):=by
 exact d41 u6j l.length (fun b j=>(l,t1m l.length t,u0x t,nx,(i:Int),b,j)) (fun j=>t.contains j || decide (j=i) || !j0v l j i) (fun b=> .inl (l,t1m l.length t,u0x t,nx,(i:Int),b))
  (fun b=>by
   rw[t6g];simp only[u6f,u0b,Am,Ah,Aa,zOb])
  (fun j hj=>by
   rw[t6g];simp only[u6f,u0b,hj,Ae,Ad,zOb,Aa])
  (fun j hj=>by
   have hb:s8n (l[j],l[i])=some (j0v l j i):=by
    rw[j4j _ _ (hw _ (Ag hj)) (hw _ (Ag hi))];unfold j0v;rw[y8f hj,y8f hi]
   rw[t6g];simp only[u6f,u0b,hj,Ae,Ad,y7p hj,y7p hi,p56,zTn,y8f hj,y8f hi,o62 hj,hb,zOb,Bool.not_not];have he:decide ((j:Int)=(i:Int))=decide (j=i):=by by_cases e:j=i<;>simp[e] <;>omega
   rw[y7h (by omega),he];cases decide (j=i)<;>cases t.contains j<;>cases j0v l j i<;>rfl) b
omit hw hl in
theorem j27 (t:Hu Nat) (i:Nat):(!t.contains i&&(List.range l.length).all (fun j=>t.contains j || decide (j=i) || !j0v l j i))=q9x l t i:=by
 unfold q9x;congr 1;rw[List.all_eq_not_any_not];congr 2
 funext j
 cases decide (j=i)<;>cases t.contains j<;>cases j0v l j i<;>rfl
theorem d0o (t:Hu Nat):u4a (l,t1m l.length t,u0x t,-1,0)=some (.inl (l,t1m l.length t,u0x t,match r7s l t with
 | some i=>(i:Int) | none=> -1)):=by
 have done:∀(i:Nat) (j:Nat),j<=l.length->u4a (l,t1m l.length t,u0x t,(i:Int),(j:Int))=some (.inl (l,t1m l.length t,u0x t,(i:Int))):=fun i j hj=>by
  rw[t6f];have h0:decide ((i:Int)<0)=false:=by simp
  simp only[u6e,u0b,h0];cases decide (j<l.length)<;>rfl
 have:=d3m u4a l.length (fun i=>(l,t1m l.length t,u0x t,-1,i)) (q9x l t) (fun i=> .inl (l,t1m l.length t,u0x t,(i:Int))) (.inl (l,t1m l.length t,u0x t,-1))
  (by rw[t6f];simp only[u6e,u0b,Am,Ah,Aa,zOb])
  (fun i hi=>by
   rw[t6f];have h0:decide ((-1:Int)<0)=true:=rfl;simp only[u6e,u0b,hi,Ae,Ad,zOb,h0,y7p hi,p56,zTn,o62 hi,j96 hw hl t (-1) i hi,j27];rw[y7h (by omega),done i (i+1) (by omega)];have hnf:=j27 (l:=l) t i;rw[hnf])
 rw[this];unfold r7s;cases (List.range l.length).find? (q9x l t)<;>rfl
theorem d0a:∀(k:Nat) (t:Hu Nat),t.length+k=l.length->u5e (l,t1m l.length t,u0x t)=some (match o57 l k t with
 | some t=> .inl (u0x t) | none=> .inr ([],false))
 | 0,t,h=>by
  rw[s77];have: ¬((u0x t).length:Int)<(l.length:Int):=by rw[u3p];omega
  simp only[t0f,this,Ah,Aa];rfl
 | k+1,t,h=>by
  rw[s77];have:((u0x t).length:Int)<(l.length:Int):=by rw[u3p];omega
  simp only[t0f,this,Ae,Ad,d0o hw hl t,zOb,o57];cases hp:r7s l t with
  | none=>rfl | some i=>
   have hi:i<l.length:=by
    have:=List.mem_of_find?_eq_some hp;simpa using this
   have h0:decide ((i:Int)<0)=false:=by simp
   have hk:Nat.ble ((u0x t).length+([(i:Int)] :Hu Int).length) z7v=true:=by
    rw[Nat.ble_eq,u3p];simp only[Bc,Cc,z7v];omega
   simp only[h0,Aa,y7p hi,p56,Ad,hk,zTn,j75,o0s];exact d0a k (t++ [i]) (by simp;omega)
omit hw in
theorem d15:u5d (l,List.replicate l.length false,0)=some (.inl (l,List.replicate l.length true)):=by
 have:=s86 u5d l.length (fun(_:Unit) i=>(l,List.replicate i.toNat true++List.replicate (l.length - i.toNat) false,i)) (fun _ _=> .inl (l,List.replicate l.length true)) (fun _ _=>True)
  (fun a _=>by
   rw[s76];simp[t0e])
  (fun i a h _=> .inr ⟨(),trivial,rfl,by
   rw[s76];have h1:(List.replicate i true++List.replicate (l.length - i) false).length=l.length:=by simp;omega
   have h2:(List.replicate i true++List.replicate (l.length - i) false).set i true=List.replicate (i+1) true++List.replicate (l.length - (i+1)) false:=by
    rw[List.set_append_right _ _ (by simp)];have:l.length - i=(l.length - (i+1))+1:=by omega
    simp only[Fq,Dw];rw[this,List.replicate_succ,Hj,List.replicate_succ'];simp
   simp only[t0e,zTn,h1,u0b,h,Ae,Ad,y7p h,h2];rw[y7h (by omega)]⟩) 0 () (Cn _) trivial
 simpa using this
theorem p74:s3d l=some (j6m (o96 l)):=by
 have h:u5e (l,t1m l.length [],u0x [])=_:=d0a hw hl l.length [] (by simp);rw[j74] at h;have h:u5e (l,List.replicate l.length true, [])=_:=h;have hn:(decide (0<=(l.length:Int))&&decide ((l.length:Int)<=1099511627776))=true:=by simp;omega
 rw[p3m];unfold r1g;rw[hn,Ad,zTn];have h3:u5d (l,List.replicate l.length (Ty.bool).zero,0)=_:=d15 hl;simp only[h3,zOb,h];unfold o96;cases o57 l l.length [] <;>rfl
end
theorem o66 {l:Hu u0v.den} :∀(k:Nat) (t u:Hu Nat),o57 l k t=some u->(∀i∈t,i<l.length)->t.Nodup->(∀(a b:Nat) (ha:a<b) (hb:b<t.length),j0v l t[b] t[a] =false)->
 (∀(a:Nat) (ha:a<t.length) (j:Nat),j<l.length->j ∉ t->j0v l j t[a] =false)->
 u.length=t.length+k/\(∀i∈u,i<l.length)/\u.Nodup/\(∀(a b:Nat) (ha:a<b) (hb:b<u.length),j0v l u[b] u[a] =false)
 | 0,t,u,h,h1,h2,h3,h4=>by
  cases h;exact⟨rfl,h1,h2,h3⟩
 | k+1,t,u,h,h1,h2,h3,h4=>by
  simp only[o57] at h;split at h
  .cases h
  .rename_i i hp;have hi:i<l.length:=by
    have:=List.mem_of_find?_eq_some hp;simpa using this
   have hok:q9x l t i=true:=by
    have:=Gz hp;exact this
   unfold q9x at hok;simp only[Ai,Bj,List.contains_eq_mem,Bu,Ct,Bq,not_and,Ey,Ar] at hok;obtain⟨hni,hfree⟩:=hok;have g:=o66 k (t++ [i]) u h (fun x hx=>by
    rcases Ay.mp hx with q | q
    .exact h1 x q
    .simp at q;subst q;exact hi) (by
    rw[Gp];exact⟨h2,by simp,fun x hx y hy=>by simp at hy;subst hy;intro z;subst z;exact hni hx⟩) (fun a b hab hb=>by
    simp only[Ba,Bc,Cc] at hb;by_cases hbt:b<t.length
    .rw[Ck hbt,Ck (by omega)];exact h3 a b hab hbt
    .have hbe:b=t.length:=by omega
     subst hbe;rw[Cv (Au _),Ck hab];simp only[Dw,Gn];exact h4 a hab i hi hni) (fun a ha j hj hnj=>by
    simp only[Ay,A8,Ep,Em,Hr] at hnj;by_cases hat:a<t.length
    .rw[Ck hat];exact h4 a hat j hj hnj.1
    .simp only[Ba,Bc,Cc] at ha;have hae:a=t.length:=by omega
     subst hae;rw[Cv (Au _)];simp only[Dw,Gn];have:=hfree j hj;exact this (by simpa using hnj.2) (by simpa using hnj.1))
   exact⟨by rw[g.1];simp;omega,g.2.1,g.2.2.1,g.2.2.2⟩
theorem o67 {l:Hu u0v.den} {u:Hu Nat} (h:o96 l=some u):u.length=l.length/\(∀i∈u,i<l.length)/\u.Nodup/\(∀(a b:Nat) (ha:a<b) (hb:b<u.length),j0v l u[b] u[a] =false):=by
 have:=o66 l.length [] u h (fun i hi=>by cases hi) List.nodup_nil (fun a b _ hb=>by simp at hb) (fun a ha=>by simp at ha);simpa using this
def j4d (m:Hu p47.den) (w:u2l.den):Hu p47.den:=
 m.filter (fun c=>y3b c.1 w.1)++(if w.2.2 then[] else[(w.1,w.2.1)])++m.filter (fun c=> !(y3b c.1 w.1 || z7n c.1 w.1))
def t5z (m:Hu p47.den) (ws:Hu u2l.den):Hu p47.den:=ws.foldl j4d m
theorem p0r {α:Type} (p:α->Bool):∀(l a:Hu α),l.foldl (fun a x=>if p x then a++ [x] else a) a=a++l.filter p
 | [],a=>by simp
 | x::l,a=>by
  simp only[Bs,p0r p l,Di];cases p x<;>simp
theorem s9i {α:Type} (p q:α->Bool) (h:∀x,p x=true->q x=true):∀l:Hu α,(l.filter p).length+(l.filter (fun x=> !q x)).length<=l.length
 | [] =>by simp
 | x::l=>by
  have:=s9i p q h l;have hx:=h x;simp only[Di];cases hp:p x<;>cases hq:q x
  .simp;omega
  .simp;omega
  .rw[hp,hq] at hx;exact absurd (hx rfl) (by simp)
  .simp;omega
theorem o2o {α:Type} (f:α->Nat) (p q:α->Bool) (h:∀x,p x=true->q x=true):∀l:Hu α,((l.filter p).map f).sum+((l.filter (fun x=> !q x)).map f).sum<=(l.map f).sum
 | [] =>by simp
 | x::l=>by
  have:=o2o f p q h l;have hx:=h x;simp only[Di];cases hp:p x<;>cases hq:q x
  .simp;omega
  .simp;omega
  .rw[hp,hq] at hx;exact absurd (hx rfl) (by simp)
  .simp;omega
theorem p9x (m:Hu p47.den) (w:u2l.den):(j4d m w).length<=m.length+1:=by
 have:=s9i (fun c:p47.den=>y3b c.1 w.1) (fun c=>y3b c.1 w.1 || z7n c.1 w.1) (fun x h=>by simp[h]) m;unfold j4d;simp only[Ba];split<;>simp only[Cc,Bc] <;>omega
theorem d5l (m:Hu p47.den) (w:u2l.den):(Ty.sl p47).wt (j4d m w)<=(Ty.sl p47).wt m+1+u2l.wt w:=by
 have h1:=p9x m w;have h2:=o2o p47.wt (fun c:p47.den=>y3b c.1 w.1) (fun c=>y3b c.1 w.1 || z7n c.1 w.1) (fun x h=>by simp[h]) m;have e1:(Ty.sl p47).wt (j4d m w)=(j4d m w).length+((j4d m w).map p47.wt).sum:=rfl;have e2:(Ty.sl p47).wt m=m.length+(m.map p47.wt).sum:=rfl;have e3:u2l.wt w=w.1.size+(w.2.1.size+0):=rfl;have e4:((j4d m w).map p47.wt).sum<=(m.map p47.wt).sum+(w.1.size+w.2.1.size):=by
  unfold j4d;simp only[Dh,Fn];split
  .simp only[Eh,Gq];omega
  .have:([(w.1,w.2.1)].map p47.wt).sum=w.1.size+w.2.1.size:=by simp[Ty.wt]
   rw[this];omega
 omega
theorem o69:∀(ws:Hu u2l.den) (m:Hu p47.den),(Ty.sl p47).wt (t5z m ws)<=(Ty.sl p47).wt m+(Ty.sl u2l).wt ws
 | [],m=>by simp[t5z]
 | w::ws,m=>by
  have h1:=d5l m w;have h2:=o69 ws (j4d m w);have e:(Ty.sl u2l).wt (w::ws)=(ws.length+1)+(u2l.wt w+(ws.map u2l.wt).sum):=rfl;have e2:(Ty.sl u2l).wt ws=ws.length+(ws.map u2l.wt).sum:=rfl;have e3:t5z m (w::ws)=t5z (j4d m w) ws:=rfl;rw[e3];omega
theorem d1g {t:Ty} {l:Hu t.den} :l.length<=(Ty.sl t).wt l:=by
 have:(Ty.sl t).wt l=l.length+(l.map t.wt).sum:=rfl;omega
theorem d0f (a:Hu p47.den) (w:u2l.den) (h:a.length<=1099511627775):(a.filter (fun c=>y3b c.1 w.1)).length+1<=1099511627776:=by
 have:(a.filter (fun c=>y3b c.1 w.1)).length<=a.length:=Cs _ _;omega
theorem j6i (a:Hu p47.den) (w:u2l.den) (x:p47.den):(a.filter (fun c=>y3b c.1 w.1)++ [x]).length<=a.length+1 - (a.filter (fun c=> !(y3b c.1 w.1 || z7n c.1 w.1))).length:=by
 have:=s9i (fun c:p47.den=>y3b c.1 w.1) (fun c=>y3b c.1 w.1 || z7n c.1 w.1) (fun x h=>by simp[h]) a;simp only[Ba,Aw];omega
theorem j6j (a:Hu p47.den) (w:u2l.den):(a.filter (fun c=>y3b c.1 w.1)).length<=a.length+1 - (a.filter (fun c=> !(y3b c.1 w.1 || z7n c.1 w.1))).length:=by
 have:=s9i (fun c:p47.den=>y3b c.1 w.1) (fun c=>y3b c.1 w.1 || z7n c.1 w.1) (fun x h=>by simp[h]) a;omega
section
variable (t:u0v.den) (w:u2l.den) (m:Hu p47.den) (hm:m.length<=500000000000)
include hm
theorem d2j (j:Int):t29 (t,m,j,w, [],0)=some (.inl (t,m,j,w,m.filter (fun c=>y3b c.1 w.1))):=by
 have:=s1k t29 m (fun a i=>(t,m,j,w,a,i)) (fun c=>y3b c.1 w.1) (fun c=>c) (fun a=> .inl (t,m,j,w,a)) (by omega)
  (fun a _=>by rw[q1t];simp only[t90,u0b,Am,Ah,Aa])
  (fun i hi a ha=>by
   rw[q1t];simp only[t90,u0b,hi,Ae,Ad,y7p hi,zTn,y8f hi,Aw,u0q (show a.length+1<=1099511627776 by omega)];rw[y7h (by omega)])
 rw[Er] at this;exact this
theorem j2t (j:Int) (a:Hu p47.den) (ha:a.length<=m.length+1 - (m.filter (fun c=> !(y3b c.1 w.1 || z7n c.1 w.1))).length):u8g (t,m,j,w,a,0)=some (.inl (t,j,a++m.filter (fun c=> !(y3b c.1 w.1 || z7n c.1 w.1)))):=by
 have:=u8m u8g m (fun a i=>(t,m,j,w,a,i)) (fun a c=>if !(y3b c.1 w.1 || z7n c.1 w.1) then a++ [c] else a) (fun a=> .inl (t,j,a)) (fun i a=>a.length<=m.length+1+i)
  (fun a _=>by rw[r6s];simp only[t6x,u0b,Am,Ah,Aa])
  (fun i hi a ha=>by
   rw[r6s];simp only[t6x,u0b,hi,Ae,Ad,y7p hi,zTn,y8f hi,Aw,u0q (show a.length+1<=1099511627776 by omega)];rw[y7h (by omega)];cases !(y3b m[i].1 w.1 || z7n m[i].1 w.1) with
   | true=>simp only[Ad,Bl];refine⟨by simp;omega,?_⟩;simp only[u0q (show a.length+1<=1099511627776 by omega),Ad] | false=>simp only[Aa,Br,Bk];refine⟨by omega,?_⟩;trivial) a (by omega)
 rw[p0r] at this;exact this
theorem d2i (l:Hu u2l.den) (n j:Int):t2z (m,w, [],l,n,j,m,(m.length:Int),0)=some (.inl (m,w,m.filter (fun c=>y3b c.1 w.1),l,n,j)):=by
 have:=s1k t2z m (fun a i=>(m,w,a,l,n,j,m,(m.length:Int),i)) (fun c=>y3b c.1 w.1) (fun c=>c) (fun a=> .inl (m,w,a,l,n,j)) (by omega)
  (fun a _=>by rw[q1b];simp only[t9h,u0b,Am,Ah,Aa])
  (fun i hi a ha=>by
   rw[q1b];simp only[t9h,u0b,hi,Ae,Ad,y7p hi,zTn,y8f hi,Aw,u0q (show a.length+1<=1099511627776 by omega)];rw[y7h (by omega)])
 rw[Er] at this;exact this
theorem j2s (l:Hu u2l.den) (n j:Int) (a:Hu p47.den) (ha:a.length<=m.length+1 - (m.filter (fun c=> !(y3b c.1 w.1 || z7n c.1 w.1))).length):u8e (w,a,l,n,j,m,(m.length:Int),0)=some (.inl (a++m.filter (fun c=> !(y3b c.1 w.1 || z7n c.1 w.1)),l,n,j)):=by
 have:=u8m u8e m (fun a i=>(w,a,l,n,j,m,(m.length:Int),i)) (fun a c=>if !(y3b c.1 w.1 || z7n c.1 w.1) then a++ [c] else a) (fun a=> .inl (a,l,n,j)) (fun i a=>a.length<=m.length+1+i)
  (fun a _=>by rw[r6h];simp only[t6m,u0b,Am,Ah,Aa])
  (fun i hi a ha=>by
   rw[r6h];simp only[t6m,u0b,hi,Ae,Ad,y7p hi,zTn,y8f hi,Aw,u0q (show a.length+1<=1099511627776 by omega)];rw[y7h (by omega)];cases !(y3b m[i].1 w.1 || z7n m[i].1 w.1) with
   | true=>simp only[Ad,Bl];refine⟨by simp;omega,?_⟩;simp only[u0q (show a.length+1<=1099511627776 by omega),Ad] | false=>simp only[Aa,Br,Bk];refine⟨by omega,?_⟩;trivial) a (by omega)
 rw[p0r] at this;exact this
end
theorem j3d (m:Hu p47.den) (w:u2l.den):(m.filter (fun c=>y3b c.1 w.1)).length+(m.filter (fun c=> !(y3b c.1 w.1 || z7n c.1 w.1))).length<=m.length:=
 s9i (fun c:p47.den=>y3b c.1 w.1) (fun c=>y3b c.1 w.1 || z7n c.1 w.1) (fun x h=>by simp[h]) m
theorem p6n (m:Hu p47.den) (t:u0v.den) (h:m.length+t.2.2.2.2.2.1.length<=400000000000):s47 (m,t)=some (t5z m t.2.2.2.2.2.1):=by
 have L:=u8m s0o t.2.2.2.2.2.1 (fun a i=>(t,a,i)) j4d (fun a=> .inl a) (fun i a=>a.length<=m.length+i)
  (fun a _=>by rw[q1s];simp only[t9z,u0b,Am,Ah,Aa])
  (fun i hi a ha=>by
   have hl:=p9x a t.2.2.2.2.2.1[i];have hp:=j3d a t.2.2.2.2.2.1[i];rw[q1s]
   simp only[t9z,u0b,hi,Ae,Ad,y7p hi,zTn,y8f hi,d2j t _ a (by omega),zOb,Aw,u0q (d0f a t.2.2.2.2.2.1[i] (by omega)),
    j2t t t.2.2.2.2.2.1[i] a (by omega) (i:Int) (a.filter (fun c=>y3b c.1 t.2.2.2.2.2.1[i].1)++ [(t.2.2.2.2.2.1[i].1,t.2.2.2.2.2.1[i].2.1)]) (j6i ..),j2t t t.2.2.2.2.2.1[i] a (by omega) (i:Int) (a.filter (fun c=>y3b c.1 t.2.2.2.2.2.1[i].1)) (j6j ..)]
   rw[y7h (by omega)];refine⟨by omega,?_⟩;unfold j4d;cases t.2.2.2.2.2.1[i].2.2<;>simp) m (by omega)
 rw[o46];unfold q79;have h0:Nat.ble (([] :Hu p47.den).length+m.length) z7v=true:=u0q (by simp;omega);simp only[h0,Ad,Cf,L,zOb];rfl
theorem p6m (m:Hu p47.den) (t:u0v.den) (h:m.length+t.2.2.2.2.2.1.length<=400000000000):s43 (m,t)=some (t5z m t.2.2.2.2.2.1):=by
 have L:=u8m s0g t.2.2.2.2.2.1 (fun a i=>(a,t.2.2.2.2.2.1,(t.2.2.2.2.2.1.length:Int),i)) j4d (fun a=> .inl a) (fun i a=>a.length<=m.length+i)
  (fun a _=>by rw[q1a];simp only[t9g,u0b,Am,Ah,Aa])
  (fun i hi a ha=>by
   have hl:=p9x a t.2.2.2.2.2.1[i];have hp:=j3d a t.2.2.2.2.2.1[i];rw[q1a]
   simp only[t9g,u0b,hi,Ae,Ad,y7p hi,zTn,y8f hi,d2i _ a (by omega),zOb,Aw,u0q (d0f a t.2.2.2.2.2.1[i] (by omega)),
    j2s t.2.2.2.2.2.1[i] a (by omega) t.2.2.2.2.2.1 (t.2.2.2.2.2.1.length:Int) (i:Int) (a.filter (fun c=>y3b c.1 t.2.2.2.2.2.1[i].1)++ [(t.2.2.2.2.2.1[i].1,t.2.2.2.2.2.1[i].2.1)]) (j6i ..),j2s t.2.2.2.2.2.1[i] a (by omega) t.2.2.2.2.2.1 (t.2.2.2.2.2.1.length:Int) (i:Int) (a.filter (fun c=>y3b c.1 t.2.2.2.2.2.1[i].1)) (j6j ..)]
   rw[y7h (by omega)];refine⟨by omega,?_⟩;unfold j4d;cases t.2.2.2.2.2.1[i].2.2<;>simp) m (by omega)
 rw[o4k];unfold q7n;simp only[u0q (show m.length<=1099511627776 by omega),Ad,L,zOb];rfl
def o3u (a:Hu u17) (t:u0v.den):Hu u17:=s1d a t.2.2.2.2.2.1 t.2.2.2.1
def q2h (l:Hu u0v.den):Hu u17:=l.foldl o3u []
def r8b (vs:Hu u17) (m:Hu PrT) (t:u0v.den):Bool:=t.2.2.2.2.1.any fun r=> !decide (r6d m r=s3w vs r t.2.2.1)
def d0p (l:Hu u0v.den) (vs:Hu u17) (i:Nat) (x:Int) (m:Hu PrT):Hu PrT⊕(Unit⊕Bool):=
 if r8b vs m (rdL u0v l x.toNat)=true then .inr (.inr false) else .inl (t5z m (rdL u0v l x.toNat).2.2.2.2.2.1)
def j3g (l:Hu u0v.den) (u:Hu Nat):Unit⊕Bool:=j71 (d0p l (q2h l)) (fun _=> .inl ()) 0 (u0x u) []
def j8f (l:Hu u0v.den):Bool:=match o96 l with
 | none=>false | some u=>match j3g l u with
  | .inl _=>true | .inr b=>b
def s3r (l:Hu u0v.den):Nat:=(l.map fun t=>t.2.2.2.2.2.1.length).sum
theorem d36:∀(l:Hu u0v.den) (a:Hu u17),(l.foldl o3u a).length=a.length+s3r l
 | [],a=>rfl | t::l,a=>by
  rw[Bs,d36 l];unfold o3u;rw[s56];simp only[s3r,C8,Ge];omega
theorem c5y (a b:Nat) (h:a+b<=1048576):a*b<=274877906944:=by
 have key:4*(a*b)<=(a+b)*(a+b):=by
  rcases Nat.le_total a b with q | q
  .obtain⟨d,rfl⟩:=Nat.exists_eq_add_of_le q;simp only[Nat.mul_add,Cl];have e:d*a=a*d:=Fk d a;have:0<=d*d:=Cn _;omega
  .obtain⟨d,rfl⟩:=Nat.exists_eq_add_of_le q;simp only[Nat.mul_add,Cl];have e:d*b=b*d:=Fk d b;have:0<=d*d:=Cn _;omega
 have:=Ei h h;omega
theorem j5i (m:Hu PrT) (ws:Hu u2l.den):(t5z m ws).length<=m.length+ws.length:=by
 induction ws generalizing m with
 | nil=>exact Au _ | cons w ws ih=>
  have h:=ih (j4d m w);have h2:=p9x m w;unfold t5z at h ⊢;rw[Bs];simp only[Bc];omega
theorem d51 {l:Hu u0v.den} {i:Nat} (h:i<l.length):l[i].2.2.2.2.2.1.length<=s3r l:=by
 unfold s3r
 induction l generalizing i with
 | nil=>exact absurd h (Ee i) | cons t l ih=>
  simp only[C8,Ge];cases i with
  | zero=>simp | succ i=>
   have:=ih (i:=i) (by simpa using h);simp only[List.getElem_cons_succ];omega
section
variable {l:Hu u0v.den} (hw:∀x∈l,u0v.wt x<=u0m) (hl:l.length+s3r l<=1048576) (hr:∀x∈l,x.2.2.2.2.1.length<=1048576)
include hl
theorem o8a:s3l l=some (q2h l):=by
 have L:=u8m t0k l (fun a i=>(l,a,i)) o3u (fun a=> .inl a) (fun i a=>a.length=s3r (l.take i))
  (fun a _=>by rw[s79];simp only[t0h,u0b,Am,Ah,Aa])
  (fun i hi a ha=>by
   have h1:=d51 hi;have h2:s3r (l.take (i+1))=s3r (l.take i)+l[i].2.2.2.2.2.1.length:=by
    unfold s3r;rw[B9 hi,Dh,Fn];simp
   have h3:s3r (l.take i)<=s3r l:=by
    unfold s3r
    conv=>rhs;rw[←En i l]
    rw[Dh,Fn];omega
   rw[s79];simp only[t0h,u0b,hi,Ae,Ad,y7p hi,zTn,y8f (t:=u0v) hi,s6n a l[i].2.2.2.2.2.1 l[i].2.2.2.1 (by omega),zOb];rw[y7h (by omega)];refine⟨?_,rfl⟩;unfold o3u;rw[s56];omega) [] (by simp[s3r])
 rw[p3v];unfold r1n;simp only[L,zOb];rfl
theorem o79 (t:Hu Int):u7l (l,t, [],l,(l.length:Int),0)=some (.inl (l,t,q2h l)):=
 u8m u7l l (fun a i=>(l,t,a,l,(l.length:Int),i)) o3u (fun a=> .inl (l,t,a)) (fun i a=>a.length=s3r (l.take i))
  (fun a _=>by rw[s72];simp only[t0a,u0b,Am,Ah,Aa])
  (fun i hi a ha=>by
   have h1:=d51 hi;have h2:s3r (l.take (i+1))=s3r (l.take i)+l[i].2.2.2.2.2.1.length:=by
    unfold s3r;rw[B9 hi,Dh,Fn];simp
   have h3:s3r (l.take i)<=s3r l:=by
    unfold s3r
    conv=>rhs;rw[←En i l]
    rw[Dh,Fn];omega
   rw[s72];simp only[t0a,u0b,hi,Ae,Ad,y7p hi,zTn,y8f (t:=u0v) hi,r8j a l[i].2.2.2.2.2.1 l[i].2.2.2.1 (by omega),zOb];rw[y7h (by omega)];refine⟨?_,rfl⟩;unfold o3u;rw[s56];omega) [] (by simp[s3r])
theorem j60:(q2h l).length<=1048576:=by
 unfold q2h;rw[d36];simp;omega
theorem o7a {u:Hu Nat} (hu:u.length=l.length) {i:Nat} (hi:i<u.length) {m:Hu PrT} (hm:m.length<=i*s3r l) {k:Nat} (hk:k<l.length):
 m.length<=300000000000/\m.length+l[k].2.2.2.2.2.1.length<=400000000000/\(t5z m l[k].2.2.2.2.2.1).length<=(i+1)*s3r l:=by
 have h1:=d51 hk;have h2:=c5y i (s3r l) (by omega);have h3:=j5i m l[k].2.2.2.2.2.1;rw[C7];exact⟨by omega,by omega,by omega⟩
include hr
theorem d0r {u:Hu Nat} (hu:u.length=l.length) (hin:∀i∈u,i<l.length):u3d (l,u0x u,q2h l, [],0)=some (j3g l u):=by
 have hv:=j60 hl
 refine o6l u3d (u0x u) (fun a i=>(l,u0x u,q2h l,a,i)) (d0p l (q2h l)) (fun _=> .inl ()) (fun i m=>m.length<=i*s3r l)
  (fun a _=>by rw[s78];simp only[t0g,u0b,Am,Ah,Aa])
  (fun i hi m hm=> ?_) [] (by simp)
 rw[u3p] at hi;have hx:(u0x u)[i]'(by rw[u3p];exact hi)=(u[i] :Int):=by simp[u0x]
 have hk:u[i] <l.length:=hin _ (Ag hi);obtain⟨p1,p2,p3⟩:=o7a hl hu hi hm hk;have hrr:=hr _ (Ag hk)
 have inner:u6k (l,u0x u,q2h l,m,(i:Int),l[u[i]],0)=some (bif r8b (q2h l) m l[u[i]] then .inr false else .inl (l,u0x u,q2h l,m,(i:Int),l[u[i]])):=
  s6r u6k l[u[i]].2.2.2.2.1 (fun j=>(l,u0x u,q2h l,m,(i:Int),l[u[i]],j)) (fun r=> !decide (r6d m r=s3w (q2h l) r l[u[i]].2.2.1)) (.inr false) (.inl (l,u0x u,q2h l,m,(i:Int),l[u[i]]))
   (by rw[s6i];simp only[u9e,u0b,Am,Ah,Aa])
   (fun j hj=>by
    have hvl:(r6d m l[u[i]].2.2.2.2.1[j]).length<=1099511627776:=A9 (Cs _ _) (by omega);rw[s6i];simp only[u9e,u0b,hj,Ae,Ad,y7p hj,zTn,y8f (t:=t3k) hj,o0k m _ (show m.length<=1099511627775 by omega),r7f (q2h l) _ _ (show(q2h l).length<=500000000000 by omega),zOb,p44 _ _ hvl];rw[y7h (by omega)])
 have hg:y4o (i:Int) (u0x u).length=true:=by rw[u3p];exact y7p hi
 have hlt:decide ((i:Int)<((u0x u).length:Int))=true:=by rw[u3p];simpa using hi
 have hrd:rdL (Ty.int .i64) (u0x u) i=(u[i] :Int):=by
  rw[y8f (t:=Ty.int .i64) (by rw[u3p];exact hi)];exact hx
 have hstep:u3d (l,u0x u,q2h l,m,(i:Int))=bif r8b (q2h l) m l[u[i]] then some (.inr false) else u3d (l,u0x u,q2h l,t5z m l[u[i]].2.2.2.2.2.1,((i+1:Nat):Int)):=by
  rw[s78];simp only[t0g,hlt,Ad,hg,zTn,hrd,y7p hk,y8f (t:=u0v) hk,inner,zOb];cases r8b (q2h l) m l[u[i]] with
  | true=>rfl | false=>
   simp only[Aa,p6n m l[u[i]] p2,zOb];rw[y7h (by omega)]
 unfold d0p;simp only[hx,zTn,y8f (t:=u0v) hk];rw[hstep];cases r8b (q2h l) m l[u[i]] with
 | true=>rfl | false=>exact⟨p3,rfl⟩
theorem d0q {u:Hu Nat} (hu:u.length=l.length) (hin:∀i∈u,i<l.length):u2w (l,q2h l, [],u0x u,((u0x u).length:Int),0)=some (j3g l u):=by
 have hv:=j60 hl
 refine o6l u2w (u0x u) (fun a i=>(l,q2h l,a,u0x u,((u0x u).length:Int),i)) (d0p l (q2h l)) (fun _=> .inl ()) (fun i m=>m.length<=i*s3r l)
  (fun a _=>by rw[s6f];simp only[u9b,u0b,Am,Ah,Aa])
  (fun i hi m hm=> ?_) [] (by simp)
 rw[u3p] at hi;have hx:(u0x u)[i]'(by rw[u3p];exact hi)=(u[i] :Int):=by simp[u0x]
 have hk:u[i] <l.length:=hin _ (Ag hi);obtain⟨p1,p2,p3⟩:=o7a hl hu hi hm hk;have hrr:=hr _ (Ag hk)
 have inner:u6h (l,q2h l,m,l[u[i]],u0x u,((u0x u).length:Int),(i:Int),l[u[i]].2.2.2.2.1,(l[u[i]].2.2.2.2.1.length:Int),0)=some (bif r8b (q2h l) m l[u[i]] then .inr false else .inl (l,q2h l,m,l[u[i]],u0x u,((u0x u).length:Int),(i:Int))):=
  s6r u6h l[u[i]].2.2.2.2.1 (fun j=>(l,q2h l,m,l[u[i]],u0x u,((u0x u).length:Int),(i:Int),l[u[i]].2.2.2.2.1,(l[u[i]].2.2.2.2.1.length:Int),j)) (fun r=> !decide (r6d m r=s3w (q2h l) r l[u[i]].2.2.1)) (.inr false) (.inl (l,q2h l,m,l[u[i]],u0x u,((u0x u).length:Int),(i:Int)))
   (by rw[s6g];simp only[u9c,u0b,Am,Ah,Aa])
   (fun j hj=>by
    have hvl:(r6d m l[u[i]].2.2.2.2.1[j]).length<=1099511627776:=A9 (Cs _ _) (by omega);rw[s6g];simp only[u9c,u0b,hj,Ae,Ad,y7p hj,zTn,y8f (t:=t3k) hj,o0j m _ (show m.length<=1099511627775 by omega),r7e (q2h l) _ _ (show(q2h l).length<=500000000000 by omega),zOb,p43 _ _ hvl];rw[y7h (by omega)])
 have hg:y4o (i:Int) (u0x u).length=true:=by rw[u3p];exact y7p hi
 have hlt:decide ((i:Int)<((u0x u).length:Int))=true:=by rw[u3p];simpa using hi
 have hrd:rdL (Ty.int .i64) (u0x u) i=(u[i] :Int):=by
  rw[y8f (t:=Ty.int .i64) (by rw[u3p];exact hi)];exact hx
 have hstep:u2w (l,q2h l,m,u0x u,((u0x u).length:Int),(i:Int))=bif r8b (q2h l) m l[u[i]] then some (.inr false) else u2w (l,q2h l,t5z m l[u[i]].2.2.2.2.2.1,u0x u,((u0x u).length:Int),((i+1:Nat):Int)):=by
  rw[s6f];simp only[u9b,hlt,Ad,hg,zTn,hrd,y7p hk,y8f (t:=u0v) hk,inner,zOb];cases r8b (q2h l) m l[u[i]] with
  | true=>rfl | false=>
   simp only[Aa,p6m m l[u[i]] p2,zOb];rw[y7h (by omega)]
 unfold d0p;simp only[hx,zTn,y8f (t:=u0v) hk];rw[hstep];cases r8b (q2h l) m l[u[i]] with
 | true=>rfl | false=>exact⟨p3,rfl⟩
include hw
theorem p76:s3e l=some (j8f l):=by
 rw[p3n];unfold r1h;simp only[p74 hw (show l.length<=1048576 by omega),zOb,o8a hl];unfold j8f;cases ho:o96 l with
 | none=>rfl | some u=>
  obtain⟨g1,g2,_,_⟩:=o67 ho;simp only[j6m,Ap,Aa,d0r hl hr g1 g2,zOb];cases j3g l u<;>rfl
theorem p75:s21 l=some (j8f l):=by
 rw[p3c];unfold r1a;simp only[p73 hw (show l.length<=1048576 by omega),zOb];unfold j8f;cases ho:o96 l with
 | none=>rfl | some u=>
  obtain⟨g1,g2,_,_⟩:=o67 ho;simp only[j6m,Ap,Aa,o79 hl,zOb,d0q hl hr g1 g2];cases j3g l u<;>rfl
end
abbrev Src:=Hu Int×Int×Int
def Src.ok (s:Src):Prop:=s.1.length<=1048576/\0<=s.2.1/\s.2.1<=(s.1.length:Int)
def Dr {T:Type} (F:Ht (T×Src)) (p:T->Prop):Prop:= ∃y s,F=some (y,s)/\s.ok/\p y
theorem j6a (v:BitVec i64.bits):0<=i64.wrap ((v&&&BitVec.ofInt i64.bits 255).toNat:Int)/\i64.wrap ((v&&&BitVec.ofInt i64.bits 255).toNat:Int)<256:=by
 have h:(v&&&BitVec.ofInt i64.bits 255).toNat<=255:=by
  rw[BitVec.toNat_and];exact A9 Nat.and_le_right (by decide)
 rw[y4x (by omega) (by omega)];omega
theorem p4y {s:Src} (h:s.ok):Dr (u8c s) (fun y=>0<=y/\y<256):=by
 obtain⟨l,p,z⟩:=s;obtain⟨h1,h2,h3⟩:=h;simp only at h1 h2 h3;rw[o5j];unfold q8m;simp only;by_cases hp:p<(l.length:Int)
 .have hg:y4o p l.length=true:=by simp[y4o,h2,hp]
  simp only[hp,Ae,Ad,hg];exact⟨_,_,rfl,⟨h1,by simp only;rw[y4x (by omega) (by omega)];omega,by simp only;rw[y4x (by omega) (by omega)];omega⟩,j6a _⟩
 .simp only[hp,Ah,Aa];exact⟨_,_,rfl,⟨h1,h2,h3⟩,j6a _⟩
theorem q6y {a n:Int} (ha:0<=a) (hn:0<n):0<=Int.tmod a n/\Int.tmod a n<n:=⟨Int.tmod_nonneg _ ha,Int.tmod_lt_of_pos _ hn⟩
theorem u1m {s:Src} (h:s.ok) {n:Int} (hn:0<n):Dr (u0g (s,n)) (fun y=>0<=y/\y<n):=by
 rw[o2d];unfold q31;have h0:decide (n<=0)=false:=by simp;omega
 have h0' :(!decide (n=0))=true:=by simp;omega
 simp only[h0,Aa,h0',Ad];by_cases h1:n<=256
 .simp only[h1,Ae,Ad];obtain⟨y,s1,e1,k1,r1⟩:=p4y h;simp only[e1,zOb];exact⟨_,_,rfl,k1,q6y r1.1 hn⟩
 .simp only[h1,Ah,Aa];obtain⟨y1,s1,e1,k1,r1⟩:=p4y h;obtain⟨y2,s2,e2,k2,r2⟩:=p4y k1;obtain⟨y3,s3,e3,k3,r3⟩:=p4y k2;obtain⟨y4,s4,e4,k4,r4⟩:=p4y k3;simp only[e1,e2,e3,e4,zOb];refine⟨_,_,rfl,k4,q6y ?_ hn⟩
  rw[y4x (n:=y1*16777216) (by omega) (by omega),y4x (n:=y2*65536) (by omega) (by omega),y4x (n:=y3*256) (by omega) (by omega),y4x (n:=y1*16777216+y2*65536) (by omega) (by omega),
   y4x (n:=y1*16777216+y2*65536+y3*256) (by omega) (by omega),y4x (n:=y1*16777216+y2*65536+y3*256+y4) (by omega) (by omega)]
  omega
theorem s6m {s:Src} (h:s.ok) {n:Int} (hn:0<n):Dr (u05 (s,n)) (fun _=>True):=by
 rw[o5k];unfold q8n;obtain⟨y,s1,e1,k1,r1⟩:=u1m h hn;simp only[e1,zOb];exact⟨_,_,rfl,k1,trivial⟩
theorem s30 {s:Src} (h:s.ok) {l:Hu Hs} (hl:0<l.length):Dr (u0n (s,l)) (fun y=>y∈l):=by
 rw[o5l];unfold q8o;obtain⟨y,s1,e1,k1,r1⟩:=u1m h (n:=(l.length:Int)) (by omega);obtain⟨i,rfl⟩:∃i:Nat,y=(i:Int):=⟨y.toNat,by omega⟩;have hi:i<l.length:=by omega
 simp only[e1,zOb,y7p hi,Ad,zTn];exact⟨_,_,rfl,k1,by show rdL Ty.str l i∈l;have h:rdL Ty.str l i=l[i] :=y8f (t:=Ty.str) (l:=l) hi;rw[h];exact Ag hi⟩
theorem d3j {l:Hu Int} (hl:l.length<=1048576):∃s:Src,s8t l=some s/\s.ok:=by
 have key:∀(d i:Nat) (z:Int),i<=l.length->l.length - i<=d-> ∃z',t5r (l,z,(i:Int))=some (.inl (l,z')):=by
  intro d
  induction d with
  | zero=>
   intro i z hi hd;have:i=l.length:=by omega
   subst this;rw[r0z];simp only[t5j,u0b,Am,Ah,Aa,zOb];exact⟨_,rfl⟩
  | succ d ih=>
   intro i z hi hd;by_cases h:i<l.length
   .rw[r0z];simp only[t5j,u0b,h,Ae,Ad,zOb,y7p h];rw[y7h (by omega)];cases decide ((i:Int)<4000) with
    | false=>exact⟨_,rfl⟩ | true=>exact ih (i+1) _ (by omega) (by omega)
   .have:i=l.length:=by omega
    subst this;rw[r0z];simp only[t5j,u0b,Am,Ah,Aa,zOb];exact⟨_,rfl⟩
 obtain⟨z',hz⟩:=key l.length 0 (i64.wrap (77601+(l.length:Int))) (Cn _) (by omega);rw[o9k];unfold p2l;have hz' :t5r (l,i64.wrap (77601+(l.length:Int)),0)=_:=hz;simp only[hz',zOb];exact⟨_,rfl,hl,Bv _,by simp only;omega⟩
theorem j5z {s:Src} (h:s.ok):Dr (u3a s) (fun y=>y.size<=2):=by
 rw[p3p];unfold r7l;obtain⟨y,s1,e1,k1,r1⟩:=s30 h (l:= [(⟨#[97]⟩:Hs),(⟨#[98]⟩:Hs),(⟨#[99]⟩:Hs),(⟨#[100]⟩:Hs),(⟨#[97,98]⟩:Hs)]) (by decide);simp only[e1,zOb];refine⟨_,_,rfl,k1,?_⟩;simp only[A8,Ep,Em] at r1;rcases r1 with rfl | rfl | rfl | rfl | rfl<;>decide
theorem d11 {s:Src} (h:s.ok):Dr (u3x s) (fun y=>y.1.size<=2/\y.2.size<=2):=by
 rw[q4j];unfold s9b;obtain⟨y1,s1,e1,k1,r1⟩:=j5z h;obtain⟨y2,s2,e2,k2,r2⟩:=s6m k1 (n:=2) (by omega);obtain⟨y3,s3,e3,k3,r3⟩:=j5z k2;simp only[e1,e2,e3,zOb];cases y2 with
 | true=>exact⟨_,_,rfl,k2,r1,r1⟩ | false=>
  simp only[Aa];cases y3b y3 y1 with
  | true=>exact⟨_,_,rfl,k3,r3,r1⟩ | false=>exact⟨_,_,rfl,k3,r1,r3⟩
theorem j1e {s:Src} (h:s.ok):Dr (s08 s) (fun y=>y.length<=3/\ ∀r∈y,r.1.size<=2/\r.2.size<=2):=by
 have key:∀(d i:Nat) (s:Src) (a:Hu t3k.den),s.ok->a.length=i->4<=i+d->i<=3->(∀r∈a,r.1.size<=2/\r.2.size<=2)->
  ∃(s' :Src) (a' :Hu t3k.den),u9k (s,a,(i:Int))=some (.inl (s',a'))/\s'.ok/\a'.length<=3/\ ∀r∈a',r.1.size<=2/\r.2.size<=2:=by
  intro d
  induction d with
  | zero=>intro i s a _ _ h1 h2;omega | succ d ih=>
   intro i s a hs ha hd hi hr;obtain⟨y,s1,e1,k1,r1⟩:=u1m hs (n:=4) (by omega);rw[p4n];simp only[s2b,e1,zOb];by_cases hy:(i:Int)<y
   .obtain⟨y2,s2,e2,k2,r2⟩:=d11 k1;have hc:Nat.ble (a.length+([y2] :Hu t3k.den).length) z7v=true:=by
     rw[Nat.ble_eq,ha];simp only[Bc,Cc,z7v];omega
    simp only[hy,Ae,Ad,e2,zOb];rw[hc,y7h (by omega)];exact ih (i+1) s2 (a++ [y2]) k2 (by simp[ha]) (by omega) (by omega) (fun r hm=>by
     rcases Ay.mp hm with q | q
     .exact hr r q
     .simp only[A8,Ep,Em] at q;subst q;exact r2)
   .simp only[hy,Ah,Aa];exact⟨_,_,rfl,k1,by omega,hr⟩
 obtain⟨s',a',e1,k1,r1,r2⟩:=key 4 0 s [] h rfl (by omega) (by omega) (fun r hr=>by cases hr);rw[p88];unfold r9j;have e1:u9k (s, [],0)=_:=e1;simp only[e1,zOb];exact⟨_,_,rfl,k1,r1,r2⟩
theorem j54 {s:Src} (h:s.ok):Dr (u2z s) (fun y=>y.1.size<=2/\y.2.1.size<=3):=by
 rw[q4k];unfold s9c;obtain⟨y1,s1,e1,k1,r1⟩:=j5z h;obtain⟨y2,s2,e2,k2,r2⟩:=s30 k1 (l:= [(⟨#[111,110,101]⟩:Hs),(⟨#[116,119,111]⟩:Hs),(⟨#[]⟩:Hs),(⟨#[120,0]⟩:Hs)]) (by decide);obtain⟨y3,s3,e3,k3,r3⟩:=s6m k2 (n:=5) (by omega);simp only[e1,e2,e3,zOb];have hz:y2.size<=3:=by
  simp only[A8,Ep,Em] at r2;rcases r2 with rfl | rfl | rfl | rfl<;>decide
 cases y3 with
 | true=>exact⟨_,_,rfl,k3,r1,by show ByteArray.size ⟨#[]⟩<=3;decide⟩ | false=>exact⟨_,_,rfl,k3,r1,hz⟩
def o3z (l:Hu u2l.den) (w:u2l.den):Hu u2l.den:=l.filter (fun x=>y3b x.1 w.1)++ [w] ++l.filter (fun x=> !(y3b x.1 w.1 || z7n x.1 w.1))
theorem r7c (l:Hu u2l.den) (w:u2l.den) (hl:l.length<=1048576):s28 (l,w)=some (o3z l w):=by
 have L1:=s1k t7m l (fun a i=>(l,w,a,i)) (fun x=>y3b x.1 w.1) (fun x=>x) (fun a=> .inl (l,w,a)) (by omega) (fun a ha=>by
  rw[r6t];simp only[t6y,u0b,Am,Ah,Aa]) (fun i hi a ha=>by
  have hc:Nat.ble (a.length+([l[i]] :Hu u2l.den).length) z7v=true:=by
   rw[Nat.ble_eq];simp only[Bc,Cc,z7v];omega
  rw[r6t];simp only[t6y,u0b,hi,Ae,Ad,y7p hi,zTn,y8f hi];rw[y7h (by omega),hc];rfl)
 simp only[Er] at L1;have L2:=u8m t7n l (fun a i=>(l,w,a,i)) (fun(a:Hu u2l.den) x=>if y3b x.1 w.1 || z7n x.1 w.1 then a else a++ [x]) (fun a=> .inl a) (fun i a=>a.length<=1048577+i) (fun a ha=>by
  rw[r6u];simp only[t6z,u0b,Am,Ah,Aa]) (fun i hi a ha=>by
  have hc:Nat.ble (a.length+([l[i]] :Hu u2l.den).length) z7v=true:=by
   rw[Nat.ble_eq];simp only[Bc,Cc,z7v];omega
  rw[r6u];simp only[t6z,u0b,hi,Ae,Ad,y7p hi,zTn,y8f hi];rw[y7h (by omega),hc];cases hq:y3b l[i].1 w.1 || z7n l[i].1 w.1 with
  | true=>simp only[Ap,Aa,Bl];refine⟨by omega,?_⟩;trivial | false=>simp only[Bh,Ad,Br,Bk];refine⟨by simp;omega,?_⟩;trivial)
 have key:∀(l:Hu u2l.den) (a:Hu u2l.den),l.foldl (fun(a:Hu u2l.den) x=>if y3b x.1 w.1 || z7n x.1 w.1 then a else a++ [x]) a=a++l.filter (fun x=> !(y3b x.1 w.1 || z7n x.1 w.1)):=by
  intro l
  induction l with
  | nil=>intro a;simp | cons x l ih=>
   intro a;simp only[Bs,ih,Di];cases hq:y3b x.1 w.1 || z7n x.1 w.1<;>simp
 have hlen:(l.filter (fun x=>y3b x.1 w.1)).length<=l.length:=Cs _ _;have L2' :=L2 (l.filter (fun x=>y3b x.1 w.1)++ [w]) (by simp;omega);rw[key] at L2';have hc:Nat.ble ((l.filter (fun x=>y3b x.1 w.1)).length+([w] :Hu u2l.den).length) z7v=true:=by
  rw[Nat.ble_eq];simp only[Bc,Cc,z7v];omega
 rw[o1s];unfold q3p;simp only[L1,zOb];rw[hc];simp only[Ad,L2',zOb];rfl
theorem p37 {l:Hu u2l.den} {w x:u2l.den} (h:x∈o3z l w):x∈l\/x=w:=by
 unfold o3z at h;simp only[Bi,Ay,A6,A8,Ep,Em] at h;rcases h with h | h | h
 .exact .inl h.1
 .exact .inr h
 .exact .inl h.1
theorem j0a (l:Hu u2l.den) (w:u2l.den):(o3z l w).length<=l.length+1:=by
 have:∀l:Hu u2l.den,(l.filter (fun x=>y3b x.1 w.1)).length+(l.filter (fun x=> !(y3b x.1 w.1 || z7n x.1 w.1))).length<=l.length:=by
  intro l
  induction l with
  | nil=>simp | cons x l ih=>
   simp only[Di];cases y3b x.1 w.1<;>cases z7n x.1 w.1<;>simp only[Ew,Fp,Ap,Bh,Bl,Bk,Br,Bc] <;>omega
 unfold o3z;have:=this l;simp only[Ba,Bc,Cc];omega
def KD (l:Hu u2l.den):Prop:=l.Pairwise fun a b=>a.1≠b.1
theorem d5n {l:Hu u2l.den} {w:u2l.den} (h:KD l):KD (o3z l w):=by
 unfold KD o3z at*;rw[Bi,Cg];refine⟨h.filter _,?_,fun a ha b hb e=> ?_⟩
 .rw[Fs,Ch];refine⟨fun b hb e=> ?_,h.filter _⟩;have:=(A6.mp hb).2;simp[z7n,e] at this
 .have h1:=(A6.mp ha).2;rw[Fs,A8] at hb;rcases hb with rfl | hb
  .rw[e,t4f] at h1;cases h1
  .have h2:=(A6.mp hb).2;rw[←e,h1] at h2;cases h2
theorem o0m {s:Src} (h:s.ok):Dr (u7h s) (fun y=>y.length<=3/\(∀r∈y,r.1.size<=2/\r.2.1.size<=3)/\KD y):=by
 have key:∀(d i:Nat) (s:Src) (a:Hu u2l.den),s.ok->a.length<=i->4<=i+d->i<=3->(∀r∈a,r.1.size<=2/\r.2.1.size<=3)->KD a->
  ∃(s' :Src) (a' :Hu u2l.den),u41 (s,a,(i:Int))=some (.inl (s',a'))/\s'.ok/\a'.length<=3/\(∀r∈a',r.1.size<=2/\r.2.1.size<=3)/\KD a' :=by
  intro d
  induction d with
  | zero=>intro i s a _ _ h1 h2;omega | succ d ih=>
   intro i s a hs ha hd hi hr hk;obtain⟨y,s1,e1,k1,r1⟩:=u1m hs (n:=4) (by omega);rw[r3d];simp only[t4w,e1,zOb];by_cases hy:(i:Int)<y
   .obtain⟨y2,s2,e2,k2,r2⟩:=j54 k1;simp only[hy,Ae,Ad,e2,zOb,r7c a y2 (by omega)];rw[y7h (by omega)];exact ih (i+1) s2 (o3z a y2) k2 (by have:=j0a a y2;omega) (by omega) (by omega) (fun r hm=>by
     rcases p37 hm with q | q
     .exact hr r q
     .subst q;exact r2) (d5n hk)
   .simp only[hy,Ah,Aa];exact⟨_,_,rfl,k1,by omega,hr,hk⟩
 obtain⟨s',a',e1,k1,r1,r2⟩:=key 4 0 s [] h (by simp) (by omega) (by omega) (fun r hr=>by cases hr) List.Pairwise.nil;rw[r9r];unfold s6t;have e1:u41 (s, [],0)=_:=e1;simp only[e1,zOb];exact⟨_,_,rfl,k1,r1,r2⟩
def smallTx (t:u0v.den):Prop:=t.2.2.2.2.1.length<=3/\(∀r∈t.2.2.2.2.1,r.1.size<=2/\r.2.size<=2)/\t.2.2.2.2.2.1.length<=3/\(∀r∈t.2.2.2.2.2.1,r.1.size<=2/\r.2.1.size<=3)/\t.2.2.2.2.2.2.2.size<=16
def tId (t:u0v.den):Int:=t.1
def tSt (t:u0v.den):Int:=t.2.1
def d8a (t:u0v.den):Int:=t.2.2.1
def tCs (t:u0v.den):Int:=t.2.2.2.1
def d3w (t:u0v.den):Prop:=tSt t=3/\d8a t<tCs t/\KD t.2.2.2.2.2.1
def o63 (l:Hu u0v.den):Prop:=(∀t∈l,d3w t)/\l.Pairwise fun a b=>tId a≠tId b/\tCs a<tCs b
theorem j5d {l:Hu u0v.den} {t:u0v.den} (h:o63 l) (ht:d3w t) (hq:∀x∈l,tId x≠tId t/\tCs x<tCs t):o63 (l++ [t]):=by
 refine⟨fun x hx=> ?_,?_⟩
 .rcases Ay.mp hx with q | q
  .exact h.1 x q
  .simp only[A8,Ep,Em] at q;subst q;exact ht
 .rw[Cg];refine⟨h.2,Eu _ _,fun a ha b hb=> ?_⟩;simp only[A8,Ep,Em] at hb;subst hb;exact hq a ha
theorem j9i {s:Src} (h:s.ok):Dr (r4e s) (fun y=>y.length<=5/\(∀t∈y,smallTx t)/\o63 y):=by
 have key:∀(d i:Nat) (s:Src) (a:Hu u0v.den) (c:Int),s.ok->a.length=i->6<=i+d->i<=5->(∀t∈a,smallTx t)->o63 a->(∀t∈a,tId t<=(i:Int)/\tCs t<=c)->0<=c->c<=3*(i:Int)->
  ∃(s' :Src) (a' :Hu u0v.den),t3i (s,a,c,(i:Int))=some (.inl (s',a'))/\s'.ok/\a'.length<=5/\(∀t∈a',smallTx t)/\o63 a' :=by
  intro d
  induction d with
  | zero=>intro i s a c _ _ h1 h2;omega | succ d ih=>
   intro i s a c hs ha hd hi hr hk hq hc0 hc1;obtain⟨y,s1,e1,k1,r1⟩:=u1m hs (n:=6) (by omega);rw[p9n];simp only[s6p,e1,zOb];by_cases hy:(i:Int)<y
   .obtain⟨y2,s2,e2,k2,r2⟩:=j1e k1;obtain⟨y3,s3,e3,k3,r3⟩:=o0m k2;obtain⟨y4,s4,e4,k4,r4⟩:=u1m k3 (n:=2) (by omega);have w1:i64.wrap (i64.wrap (c+1)+y4)=c+1+y4:=by rw[y4x (n:=c+1) (by omega) (by omega),y4x (by omega) (by omega)]
    obtain⟨y5,s5,e5,k5,r5⟩:=u1m k4 (n:=c+1+y4) (by omega);have hc:∀y:u0v.den,Nat.ble (a.length+([y] :Hu u0v.den).length) z7v=true:=fun y=>by
     rw[Nat.ble_eq,ha];simp only[Bc,Cc,z7v];omega
    simp only[hy,Ae,Ad,e2,e3,e4,zOb,w1,e5];rw[hc,y7h (by omega)];exact ih (i+1) s5 _ _ k5 (by simp[ha]) (by omega) (by omega) (fun r hm=>by
     rcases Ay.mp hm with q | q
     .exact hr r q
     .simp only[A8,Ep,Em] at q;subst q;exact⟨r2.1,r2.2,r3.1,r3.2.1,by show ByteArray.size ⟨#[]⟩<=16;decide⟩) (j5d hk ⟨rfl,by have:=r5.2;simpa[d8a,tCs] using this,r3.2.2⟩ (fun x hx=>by
      have:=hq x hx;have e1:i64.wrap (1+(i:Int))=1+(i:Int):=y4x (by omega) (by omega);refine⟨fun e=> ?_,?_⟩
      .have e:tId x=i64.wrap (1+(i:Int)):=e;omega
      .show tCs x<c+1+y4;omega)) (fun x hx=>by
     have e1:i64.wrap (1+(i:Int))=1+(i:Int):=y4x (by omega) (by omega);rcases Ay.mp hx with q | q
     .have:=hq x q;exact⟨by omega,by omega⟩
     .simp only[A8,Ep,Em] at q;subst q;refine⟨?_,?_⟩
      .show i64.wrap (1+(i:Int))<=_;omega
      .show c+1+y4<=c+1+y4;omega) (by omega) (by omega)
   .simp only[hy,Ah,Aa];exact⟨_,_,rfl,k1,by omega,hr,hk⟩
 obtain⟨s',a',e1,k1,r1,r2⟩:=key 6 0 s [] 0 h rfl (by omega) (by omega) (fun r hr=>by cases hr) ⟨(fun t ht=>by cases ht),List.Pairwise.nil⟩ (fun t ht=>by cases ht) (by omega) (by omega);rw[o51];unfold q85;have e1:t3i (s, [],0,0)=_:=e1;simp only[e1,zOb];exact⟨_,_,rfl,k1,r1,r2⟩
def c56 (m:Hu PrT):Prop:=m.Pairwise fun a b=>y3b a.1 b.1=true
def c1l (P:Hu u0v.den):Hu PrT:=P.foldl (fun m t=>t5z m t.2.2.2.2.2.1) []
theorem d2l {l:Hu u17} {v x:u17} :x∈j6r l v↔x=v\/x∈l:=by
 unfold j6r
 conv=>rhs;rw[←Fe (p:=u94 v) (l:=l)]
 simp only[Ay,Ax];constructor
 .rintro((h | h) | h)
  .exact .inr (.inl h)
  .exact .inl h
  .exact .inr (.inr h)
 .rintro(h | h | h)
  .exact .inl (.inr h)
  .exact .inl (.inl h)
  .exact .inr h
theorem s2t {x:u17} :∀(ws:Hu u2l.den) (l:Hu u17) (cs:Int),x∈s1d l ws cs↔x∈l\/ ∃w∈ws,x=(w.1,w.2.1,w.2.2,cs)
 | [],l,cs=>by simp[s1d]
 | w::ws,l,cs=>by
  have e:s1d l (w::ws) cs=s1d (j6r l (w.1,w.2.1,w.2.2,cs)) ws cs:=rfl;rw[e,s2t ws,d2l];constructor
  .rintro((h | h) | ⟨y,hy,h⟩)
   .exact .inr ⟨w,by simp,h⟩
   .exact .inl h
   .exact .inr ⟨y,by simp[hy],h⟩
  .rintro(h | ⟨y,hy,h⟩)
   .exact .inl (.inr h)
   .rcases A8.mp hy with rfl | hy
    .exact .inl (.inl h)
    .exact .inr ⟨y,hy,h⟩
def vCs (x:u17):Int:=x.2.2.2
theorem o6p (l:Hu u17) (k:Hs) (snap:Int):∀n,n<=l.length->
 (p23 l k snap n<0-> ∀(i:Nat) (h:i<l.length),i<n-> ¬(l[i].1=k/\vCs l[i] <=snap))/\
 (∀a:Nat,p23 l k snap n=(a:Int)-> ∃h:a<l.length,l[a].1=k/\vCs l[a] <=snap/\ ∀(i:Nat) (h:i<l.length),i<n->l[i].1=k->vCs l[i] <=snap->vCs l[i] <=vCs l[a])
 | 0,_=>⟨fun _ i _ h=>absurd h (Ee i),fun a e=>by simp only[p23] at e;omega⟩ | n+1,hn=>by
  obtain⟨h1,h2⟩:=o6p l k snap n (by omega);have hlt:n<l.length:=by omega
  have hr:=p24 l k snap n;simp only[p23,j1p,y8f (t:=u0c) hlt];by_cases hc:z7n l[n].1 k=true/\l[n].2.2.2<=snap/\(p23 l k snap n<0\/l[n].2.2.2 >(rdL u0c l (p23 l k snap n).toNat).2.2.2)
  .rw[Al hc];obtain⟨c1,c2,c3⟩:=hc;have c1:l[n].1=k:=y7b.mp c1;refine⟨fun h=>by omega,fun a e=> ?_⟩;have e:n=a:=by omega
   subst e;refine⟨hlt,c1,c2,fun i hi hin hk hs=> ?_⟩;by_cases q:i=n
   .subst q;exact Bv _
   .rcases Int.lt_or_le (p23 l k snap n) 0 with z | z
    .exact absurd ⟨hk,hs⟩ (h1 z i hi (by omega))
    .obtain⟨b,hb⟩:∃b:Nat,p23 l k snap n=(b:Int):=⟨(p23 l k snap n).toNat,by omega⟩;obtain⟨hbl,_,_,g3⟩:=h2 b hb;rcases c3 with c3 | c3
     .omega
     .rw[hb,zTn,y8f (t:=u0c) hbl] at c3;have h5:=g3 i hi (by omega) hk hs;have c3:vCs l[n] >vCs l[b] :=c3;omega
  .rw[Ao hc];have hc' :l[n].1=k->vCs l[n] <=snap-> ∃b:Nat,p23 l k snap n=(b:Int)/\ ∃h:b<l.length,vCs l[n] <=vCs l[b] :=fun c1 c2=>by
    rcases Int.lt_or_le (p23 l k snap n) 0 with z | z
    .exact absurd ⟨y7b.mpr c1,c2, .inl z⟩ hc
    .obtain⟨b,hb⟩:∃b:Nat,p23 l k snap n=(b:Int):=⟨(p23 l k snap n).toNat,by omega⟩;obtain⟨hbl,_⟩:=h2 b hb;refine⟨b,hb,hbl,Hk.mp fun z2=>hc ⟨y7b.mpr c1,c2, .inr ?_⟩⟩;rw[hb,zTn,y8f (t:=u0c) hbl];exact z2
   refine⟨fun h i hi hin=> ?_,fun a e=> ?_⟩
   .by_cases q:i=n
    .subst q
     rintro⟨z1,z2⟩
     obtain⟨b,hb,_⟩:=hc' z1 z2;omega
    .exact h1 h i hi (by omega)
   .obtain⟨ha,g1,g2,g3⟩:=h2 a e;refine⟨ha,g1,g2,fun i hi hin hk hs=> ?_⟩;by_cases q:i=n
    .subst q;obtain⟨b,hb,hbl,g4⟩:=hc' hk hs;have e:b=a:=by omega
     subst e;exact g4
    .exact g3 i hi (by omega) hk hs
theorem twl {E:Type} (p:E->Bool):∀(l:Hu E),(l.takeWhile p).length<=l.length/\(∀(i:Nat) (h:i<l.length),i<(l.takeWhile p).length->p l[i] =true)/\
 (∀(h:(l.takeWhile p).length<l.length),p l[(l.takeWhile p).length] =false)
 | [] =>⟨Au _,fun i h=>absurd h (Ee i),fun h=>absurd h (Ee _)⟩ | x::l=>by
  obtain⟨h1,h2,h3⟩:=twl p l;cases hp:p x with
  | false=>
   simp only[F8,hp,Br,Bk,Cc];exact⟨Cn _,fun i _ h=>absurd h (Ee i),fun _=>hp⟩
  | true=>
   simp only[F8,hp,Bl,Bc];refine⟨by omega,fun i h k=> ?_,fun h=> ?_⟩
   .cases i with
    | zero=>exact hp | succ i=>simpa using h2 i (by simpa using h) (by omega)
   .simpa using h3 (by omega)
def u0y {E:Type} (p:E->Bool) (l:Hu E):Nat:=(l.takeWhile fun x=> !p x).length
theorem s1p {E:Type} (p:E->Bool) (l:Hu E):u0y p l<=l.length:=(twl _ l).1
theorem t32 {E:Type} {p:E->Bool} {l:Hu E} {i:Nat} (h:i<l.length) (hi:i<u0y p l):p l[i] =false:=by
 have:=(twl (fun x=> !p x) l).2.1 i h hi;simpa using this
theorem u9z {E:Type} {p:E->Bool} {l:Hu E} (h:u0y p l<l.length):p l[u0y p l] =true:=by
 unfold u0y at h ⊢;have:=(twl (fun x=> !p x) l).2.2 h;simpa using this
theorem o2p {E:Type} (p:E->Bool) (l:Hu E):decide (u0y p l<l.length)=l.any p:=by
 cases hc:l.any p with
 | true=>
  obtain⟨x,hx,hp⟩:=Cm.mp hc;obtain⟨i,hi,rfl⟩:=B7 hx;have: ¬i<u0y p l:=fun q=>by rw[t32 hi q] at hp;cases hp
  simp only[Ar];omega
 | false=>
  simp only[Bu];intro h;have:=u9z h;have:=Ct.mp hc _ (Ag h);contradiction
theorem Q.first {T:Ty} {c:Type} {q:T.den×c->Ht Bool} {p:T.den->Bool} {W:Hu T.den×c×Int×Int->Ht (Unit⊕Int)}
 (hW:∀x,W x=(bif (decide (x.2.2.2<x.2.2.1)) then(bif (y4o x.2.2.2 x.1.length) then((q ((rdL T x.1 (x.2.2.2).toNat),x.2.1)).bind fun(y1:Bool)=>(bif y1 then(some (.inr x.2.2.2)) else(W (x.1,(x.2.1,(x.2.2.1,(i64.wrap (x.2.2.2+(1:Int))))))))) else none) else(some (.inl ()))))
 (l:Hu T.den) (k:c) (hl:l.length<=1099511627776) (hq:∀x∈l,q (x,k)=some (p x)):
 W (l,k,(l.length:Int),0)=some (if u0y p l<l.length then .inr ((u0y p l:Nat):Int) else .inl ()):=by
 have hle:=s1p p l
 have:=s86 W (u0y p l) (fun(_:Unit) i=>(l,k,(l.length:Int),i)) (fun _ _=>if u0y p l<l.length then .inr ((u0y p l:Nat):Int) else .inl ()) (fun _ _=>True)
  (fun a _=>by
   rw[hW];by_cases hk:u0y p l<l.length
   .simp only[u0b,hk,Ae,Ad,y7p hk,zTn,y8f hk,hq _ (Ag hk),u9z hk,zOb,Bl]
   .simp only[u0b,hk,Ah,Aa,Bk])
  (fun i a hi _=> .inr ⟨(),trivial,rfl,by
   have hil:i<l.length:=by omega
   rw[hW];simp only[u0b,hil,Ae,Ad,y7p hil,zTn,y8f hil,hq _ (Ag hil),t32 hil hi,zOb,Aa];rw[y7h (by omega)]⟩) 0 () (Cn _) trivial
 exact this
theorem Q.delete {T:Ty} {c R:Type} {q:T.den×c->Ht Bool} {p:T.den->Bool} {W:Hu T.den×c×Int×Int->Ht ((Hu T.den×Int)⊕R)}
 (hW:∀x,W x=(bif (decide (x.2.2.2<(x.1.length:Int))) then(bif (y4o x.2.2.2 x.1.length) then((q ((rdL T x.1 (x.2.2.2).toNat),x.2.1)).bind fun(y2:Bool)=>(bif (!y2) then(bif (y4o x.2.2.1 x.1.length) then(W ((x.1.set (x.2.2.1).toNat (rdL T x.1 (x.2.2.2).toNat)),(x.2.1,((i64.wrap (x.2.2.1+(1:Int))),(i64.wrap (x.2.2.2+(1:Int))))))) else none) else(W (x.1,(x.2.1,(x.2.2.1,(i64.wrap (x.2.2.2+(1:Int))))))))) else none) else(some (.inl (x.1,x.2.2.1)))))
 (l:Hu T.den) (k:c) (hl:l.length<=1099511627776) (hq:∀x∈l,q (x,k)=some (p x)) (hf:u0y p l<l.length):
 ∃a:Hu T.den,W (l,k,((u0y p l:Nat):Int),((u0y p l+1:Nat):Int))=some (.inl (a,((l.filter fun x=> !p x).length:Int)))/\a.length=l.length/\a.take (l.filter fun x=> !p x).length=l.filter fun x=> !p x:=by
 have key:∀(d j:Nat) (a:Hu T.den),j+d=l.length->a.length=l.length->a.drop j=l.drop j->((l.take j).filter fun x=> !p x).length<=j->((l.take j).filter fun x=> !p x).length<l.length->a.take ((l.take j).filter fun x=> !p x).length=(l.take j).filter (fun x=> !p x)->
  ((l.take j).filter fun x=> !p x).length<j->
  ∃a' :Hu T.den,W (a,k,(((l.take j).filter fun x=> !p x).length:Int),(j:Int))=some (.inl (a',((l.filter fun x=> !p x).length:Int)))/\a'.length=l.length/\a'.take (l.filter fun x=> !p x).length=l.filter fun x=> !p x:=by
  intro d
  induction d with
  | zero=>
   intro j a hj ha h1 h2 h3 h4 h5;have e:j=l.length:=by omega
   subst e;rw[Cq] at h4 ⊢;rw[hW];simp only[ha,u0b,Am,Ah,Aa];exact⟨a,rfl,ha,h4⟩
  | succ d ih=>
   intro j a hj ha h1 h2 h3 h4 h5;have hjl:j<l.length:=by omega
   have hja:j<a.length:=by omega
   have haj:a[j] =l[j] :=by
    have e1:=Ce hja;have e2:=Ce hjl;rw[h1,e2] at e1;injection e1 with e1 _
    exact e1.symm
   have hs:l.take (j+1)=l.take j++ [l[j]] :=B9 hjl;have hd:a.drop (j+1)=l.drop (j+1):=by
    have:=Dj List.tail h1;simpa using this
   rw[hW];simp only[u0b,hja,Ae,Ad,y7p hja,zTn,y8f hja,haj,hq _ (Ag hjl),zOb];rw[y7h (i:=j) (by omega)];cases hp:p l[j] with
   | true=>
    simp only[Ap,Aa];have e:(l.take (j+1)).filter (fun x=> !p x)=(l.take j).filter fun x=> !p x:=by rw[hs,Hl,Di];simp only[hp,Ap,Br,Bk,List.filter_nil,Bw]
    have:=ih (j+1) a (by omega) ha hd (by rw[e];omega) (by rw[e];exact h3) (by rw[e];exact h4) (by rw[e];omega)
    rwa [e] at this
   | false=>
    have e:(l.take (j+1)).filter (fun x=> !p x)=(l.take j).filter (fun x=> !p x)++ [l[j]] :=by rw[hs,Hl,Di];simp only[hp,Bh,Bl,List.filter_nil]
    have el:((l.take (j+1)).filter fun x=> !p x).length=((l.take j).filter fun x=> !p x).length+1:=by rw[e];simp
    have hia:((l.take j).filter fun x=> !p x).length<a.length:=by omega
    simp only[Bh,Ad,y7p hia];rw[y7h (i:=((l.take j).filter fun x=> !p x).length) (by omega)];have:=ih (j+1) (a.set ((l.take j).filter fun x=> !p x).length l[j]) (by omega) (by simpa using ha) (by
     rw[List.drop_set_of_lt (by omega)];exact hd) (by rw[el];omega) (by rw[el];omega) (by
     rw[el,B9 (by simpa using hia),e];congr 1
     .rw[List.take_set_of_le (Au _)];exact h4
     .simp) (by rw[el];omega)
    rwa [el] at this
 have hk:=s1p p l;have e:(l.take (u0y p l+1)).filter (fun x=> !p x)=l.take (u0y p l):=by
  rw[B9 hf,Hl];have h1:(l.take (u0y p l)).filter (fun x=> !p x)=l.take (u0y p l):=by
   rw[F9];intro x hx;obtain⟨i,hi,rfl⟩:=B7 hx;have hi' :i<u0y p l:=by have:=hi;rw[Ec] at this;omega
   rw[Fc,t32 (by omega) hi'];rfl
  rw[h1];simp[u9z hf]
 have el:((l.take (u0y p l+1)).filter fun x=> !p x).length=u0y p l:=by rw[e,Ec];omega
 have:=key (l.length - (u0y p l+1)) (u0y p l+1) l (by omega) rfl rfl (by rw[el];omega) (by rw[el];exact hf) (by rw[el,e]) (by rw[el];omega)
 rwa [el] at this
def j3f (x y:u0i):Bool:=decide (x.2.1=3)&&decide (x.2.2.2.1<=y.2.2.1)
def p7d (a b:u0i):Bool:= !decide (a.1=b.1)&&(!j3f a b&& !j3f b a)
def ahead (a b:u0i):Bool:=p7d a b&&r0n a.2.2.2.2.1 b.2.2.2.2.2.1
def p59 (t:u0i) (l:Hu u0i):Bool:=l.any fun x=>decide (x.2.1=3)&&ahead t x
theorem j4l (a b:u0i):r71 (a,b)=some (p7d a b):=by
 rw[o85];unfold p16 p7d j3f;by_cases h1:a.1=b.1
 .simp[h1]
 .by_cases h2:a.2.1=3<;>by_cases h3:a.2.2.2.1<=b.2.2.1<;>by_cases h4:b.2.1=3<;>by_cases h5:b.2.2.2.1<=a.2.2.1<;>simp[h1,h2,h3,h4,h5]
theorem j4k (a b:u0i):r7u (a,b)=some (p7d a b):=by
 rw[o8p];unfold p1o;simp only[o02,q20];unfold p7d j3f;by_cases h1:a.1=b.1
 .simp[h1]
 .by_cases h2:a.2.1=3<;>by_cases h3:a.2.2.2.1<=b.2.2.1<;>by_cases h4:b.2.1=3<;>by_cases h5:b.2.2.2.1<=a.2.2.1<;>simp[h1,h2,h3,h4,h5]
theorem t6i (a b:u0i) (ha:a.2.2.2.2.1.length<=u0m) (hb:b.2.2.2.2.2.1.length<=u0m):u3o (a,b)=some (ahead a b):=by
 rw[j2b];unfold p60 ahead;have h1:=j4l a b;have h2:=q2t _ _ ha hb;simp only[h2,zOb];rw[h1];cases p7d a b<;>rfl
theorem o6b (a b:u0i) (ha:a.2.2.2.2.1.length<=u0m) (hb:b.2.2.2.2.2.1.length<=u0m):r2k (a,b)=some (ahead a b):=by
 rw[j1w];unfold p6t ahead;have h1:=j4k a b;have h2:=q2s _ _ ha hb;simp only[h2,zOb];rw[h1];cases p7d a b<;>rfl
def q2e (t:u0i):Prop:=t.2.2.2.2.1.length<=1048576/\t.2.2.2.2.2.1.length<=1048576
def o3y (l:Hu u0i):Prop:=l.length<=4194304/\ ∀t∈l,q2e t
theorem s8i {n:Nat} (h:n<=1048576):n<=u0m:=by unfold u0m;omega
theorem p42 (t:u0i) (l:Hu u0i) (ht:q2e t) (hl:o3y l):s58 (t,l)=some (p59 t l):=by
 obtain⟨l1,l2⟩:=hl
 have L:=s6r s4v l (fun i=>(l,t,i)) (fun x=>decide (x.2.1=3)&&ahead t x) (.inr true) (.inl ())
  (by rw[p0a];simp only[s4n,u0b,Am,Ah,Aa])
  (fun i hi=>by
   have h1:=t6i t l[i] (s8i ht.1) (s8i (l2 _ (Ag hi)).2);rw[p0a];simp only[s4n,u0b,hi,Ae,Ad,y7p hi,zTn,y8f (t:=u0v) hi,h1,zOb];rw[y7h (by omega)];cases decide (l[i].2.1=3)<;>cases ahead t l[i] <;>rfl)
 rw[j2i];unfold p67 p59;simp only[L,zOb];cases l.any fun x=>decide (x.2.1=3)&&ahead t x<;>rfl
theorem o6i (t:u0i) (l:Hu u0i) (ht:q2e t) (hl:o3y l):r2n (t,l)=some (p59 t l):=by
 obtain⟨l1,l2⟩:=hl;have hq:∀x∈l,s42 (x,t)=some (decide (x.2.1=3)&&ahead t x):=fun x hx=>by
  have h1:=o6b t x (s8i ht.1) (s8i (l2 x hx).2);rw[o4i];unfold q7l;simp only[r7q,r7i,zOb,h1];cases decide (x.2.1=3)<;>rfl
 have L:=Q.first (T:=u0v) (c:=u0i) (W:=u1w) (q:=s42) (p:=fun x:u0i=>decide (x.2.1=3)&&ahead t x) (fun x=>t3z x) l t (by omega) hq;rw[j17];unfold p6x p59;simp only[r45,s1l,t2a,u42,t5d,u6a,L,zOb];rw[←o2p];by_cases h:u0y (fun x:u0i=>decide (x.2.1=3)&&ahead t x) l<l.length
 .simp[h]
 .simp[h]
theorem t2q (t:u0i) (h:q2e t):u00 t=some t:=by
 rw[r3s];unfold s4y;simp only[Cc,Co,Cf,u0q (show t.2.2.2.2.1.length<=1099511627776 by have:=h.1;omega),u0q (show t.2.2.2.2.2.1.length<=1099511627776 by have:=h.2;omega),Ad]
theorem p95 (t:u0i) (h:q2e t):t81 t=some t:=by
 rw[o4w];unfold q7z;simp only[u0q (show t.2.2.2.2.1.length<=1099511627776 by have:=h.1;omega),u0q (show t.2.2.2.2.2.1.length<=1099511627776 by have:=h.2;omega),Ad]
theorem p0f (l:Hu u0i) (h:o3y l):t87 l=some l:=by
 have L:=s1k s0u l (fun a i=>(l,a,i)) (fun _=>true) (fun x=>x) (fun a=> .inl a) (by have:=h.1;omega)
  (fun a _=>by rw[q15];simp only[s0b,u0b,Am,Ah,Aa])
  (fun i hi a ha=>by
   have h1:=t2q l[i] (h.2 _ (Ag hi));have:=h.1;rw[q15];simp only[s0b,u0b,hi,Ae,Ad,y7p hi,zTn,y8f (t:=u0v) hi,h1,zOb,Aw,u0q (show a.length+1<=1099511627776 by omega)];rw[y7h (by omega)])
 rw[o5u];unfold q8y;simp only[L,zOb];simp
theorem p0e (l:Hu u0i) (h:o3y l):t54 l=some l:=by
 have L:=s1k t7j l (fun a i=>(a,l,(l.length:Int),i)) (fun _=>true) (fun x=>x) (fun a=> .inl a) (by have:=h.1;omega)
  (fun a _=>by rw[r6n];simp only[t6s,u0b,Am,Ah,Aa])
  (fun i hi a ha=>by
   have h1:=p95 l[i] (h.2 _ (Ag hi));have:=h.1;rw[r6n];simp only[t6s,u0b,hi,Ae,Ad,y7p hi,zTn,y8f (t:=u0v) hi,h1,zOb,Aw,u0q (show a.length+1<=1099511627776 by omega)];rw[y7h (by omega)])
 rw[o1h];unfold q3e;simp only[L,zOb];simp
abbrev u0j:=Hu u17×Hu u0i×Hu u0i×Int×Int
def fewB (b:u0j):Prop:=b.1.length<=4194304/\o3y b.2.1/\o3y b.2.2.1
theorem s1g (b:u0j) (h:fewB b):u22 b=some b:=by
 have h1:=p0f b.2.1 h.2.1;have h2:=p0f b.2.2.1 h.2.2;rw[o5t];unfold q8x;simp only[Cc,Co,Cf,u0q (show b.1.length<=1099511627776 by have:=h.1;omega),Ad,h1,h2,zOb]
theorem s3z (b:u0j) (h:fewB b):u1y b=some b:=by
 have h1:=p0e b.2.1 h.2.1;have h2:=p0e b.2.2.1 h.2.2;rw[o1f];unfold q3c;simp only[u0q (show b.1.length<=1099511627776 by have:=h.1;omega),Ad,h1,h2,zOb]
def s3u (b:u0j) (open_:Hu u0i):Int:=open_.foldl (fun m t=>if t.2.2.1<m then t.2.2.1 else m) b.2.2.2.1
theorem j4u (b:u0j) (o:Hu u0i) (h:o.length<=4194304):r0b (b,o)=some (s3u b o):=by
 have L:=u8m t7l o (fun a i=>(o,a,i)) (fun(m:Int) t=>if t.2.2.1<m then t.2.2.1 else m) (fun a=> .inl a) (fun _ _=>True)
  (fun a _=>by rw[r6r];simp only[t6w,u0b,Am,Ah,Aa])
  (fun i hi a _=>by
   refine⟨trivial,?_⟩;rw[r6r];simp only[t6w,u0b,hi,Ae,Ad,y7p hi,zTn,y8f (t:=u0v) hi];rw[y7h (by omega)];by_cases hc:o[i].2.2.1<a
   .simp only[hc,Ae,Ad,Bl]
   .simp only[hc,Ah,Aa,Bk]) b.2.2.2.1 trivial
 rw[o1r];unfold q3o;simp only[L,zOb];rfl
theorem j4t (b:u0j) (o:Hu u0i) (h:o.length<=4194304):s92 (b,o)=some (s3u b o):=by
 have L:=u8m t7e o (fun a i=>(a,o,(o.length:Int),i)) (fun(m:Int) t=>if t.2.2.1<m then t.2.2.1 else m) (fun a=> .inl a) (fun _ _=>True)
  (fun a _=>by rw[r6g];simp only[t6l,u0b,Am,Ah,Aa])
  (fun i hi a _=>by
   refine⟨trivial,?_⟩;rw[r6g];simp only[t6l,u0b,hi,Ae,Ad,y7p hi,zTn,y8f (t:=u0v) hi];rw[y7h (by omega)];have e:y8e a o[i].2.2.1=if o[i].2.2.1<a then o[i].2.2.1 else a:=by
    unfold y8e;split<;>rfl
   rw[e]) b.2.2.2.1 trivial
 rw[o06];unfold q24;simp only[L,zOb];rfl
def u0o (b:u0j) (n:Hs):Int:=if u0y (fun x:u0i=>z7n x.2.2.2.2.2.2.2 n) b.2.2.1<b.2.2.1.length then((u0y (fun x:u0i=>z7n x.2.2.2.2.2.2.2 n) b.2.2.1:Nat):Int) else -1
theorem q2p (b:u0j) (n:Hs) (h:b.2.2.1.length<=4194304):t8z (b,n)=some (u0o b n):=by
 have hq:∀x∈b.2.2.1,s0z (x,n)=some (z7n x.2.2.2.2.2.2.2 n):=fun x _=>by
  rw[p8i];unfold r8u;rfl
 have L:=Q.first (T:=u0v) (c:=Hs) (W:=u1p) (q:=s0z) (p:=fun x:u0i=>z7n x.2.2.2.2.2.2.2 n) (fun x=>t1j x) b.2.2.1 n (by omega) hq;rw[o4n];unfold q7q u0o;simp only[t3o,u5j,L,zOb];by_cases hk:u0y (fun x:u0i=>z7n x.2.2.2.2.2.2.2 n) b.2.2.1<b.2.2.1.length
 .simp only[Al hk,zOb]
 .simp only[Ao hk,zOb]
theorem t5g (b:u0j) (n:Hs) (h:b.2.2.1.length<=4194304):u18 (b,n)=some (u0o b n):=by
 have L:=s86 t3b (u0y (fun x:u0i=>z7n x.2.2.2.2.2.2.2 n) b.2.2.1) (fun(_:Unit) i=>(n,b,i)) (fun _ _=>if u0y (fun x:u0i=>z7n x.2.2.2.2.2.2.2 n) b.2.2.1<b.2.2.1.length then .inr ((u0y (fun x:u0i=>z7n x.2.2.2.2.2.2.2 n) b.2.2.1:Nat):Int) else .inl ()) (fun _ _=>True)
  (fun a _=>by
   have hle:=s1p (fun x:u0i=>z7n x.2.2.2.2.2.2.2 n) b.2.2.1;rw[q1w];by_cases hk:u0y (fun x:u0i=>z7n x.2.2.2.2.2.2.2 n) b.2.2.1<b.2.2.1.length
   .have hy:=u9z hk;simp only[t2t,u0b,hk,Ae,Ad,y7p hk,zTn,y8f (t:=u0v) hk,hy,Bl]
   .simp only[t2t,u0b,hk,Ah,Aa,Bk])
  (fun i a hi _=> .inr ⟨(),trivial,rfl,by
   have hle:=s1p (fun x:u0i=>z7n x.2.2.2.2.2.2.2 n) b.2.2.1;have hil:i<b.2.2.1.length:=by omega
   have hn:=t32 hil hi;rw[q1w];simp only[t2t,u0b,hil,Ae,Ad,y7p hil,zTn,y8f (t:=u0v) hil,hn,Aa];rw[y7h (by omega)]⟩) 0 () (Cn _) trivial
 have L:t3b (n,b,0)=_:=L;rw[o5b];unfold q8e u0o;simp only[L,zOb];by_cases hk:u0y (fun x:u0i=>z7n x.2.2.2.2.2.2.2 n) b.2.2.1<b.2.2.1.length
 .simp only[Al hk]
 .simp only[Ao hk]
def o56 (l:Hu u17) (snap:Int) (i:Nat):Bool:=decide ((rdL u0c l i).2.2.2 >snap) || decide (t8a l (rdL u0c l i).1 snap=(i:Int))
def trA (l:Hu u17) (snap:Int):Nat->Hu u17
 | 0=> [] | n+1=>if o56 l snap n=true then trA l snap n++ [rdL u0c l n] else trA l snap n
theorem p6e (l:Hu u17) (snap:Int):∀n,(trA l snap n).length<=n
 | 0=>Au _ | n+1=>by
  have:=p6e l snap n;simp only[trA];split
  .simp;omega
  .omega
def d1o (l:Hu u17) (k:Hs):Nat:=(l.filter fun v=>z7n v.1 k).length
def j72 (l:Hu u17) (snap:Int) (v:u17):Bool:= !v.2.2.1 || (decide (v.2.2.2 >snap) || decide ((d1o l v.1:Int) >1))
def u3h (l:Hu u17) (snap:Int):Hu u17:=(trA l snap l.length).filter (j72 (trA l snap l.length) snap)
theorem j8l (l:Hu u17) (snap:Int) (hl:l.length<=8388608):t3d (l,snap, [],0)=some (.inl (snap,trA l snap l.length)):=
 p0h t3d l.length (fun a i=>(l,snap,a,i)) (fun i=>trA l snap i) (.inl (snap,trA l snap l.length))
  (by rw[q10];simp only[t96,u0b,Am,Ah,Aa])
  (fun i hi=>by
   have hL:=o20 l (rdL u0c l i).1 snap (by omega);have hn:=p6e l snap i;rw[q10];simp only[t96,u0b,hi,Ae,Ad,y7p hi,zTn,hL,zOb,Aw,u0q (show(trA l snap i).length+1<=1099511627776 by omega)];rw[y7h (by omega)];simp only[trA,o56];by_cases h1:(rdL u0c l i).2.2.2 >snap
   .simp[h1]
   .by_cases h2:t8a l (rdL u0c l i).1 snap=(i:Int)<;>simp[h1,h2])
theorem j8k (l:Hu u17) (snap:Int) (hl:l.length<=8388608):t22 (l,snap, [],l,(l.length:Int),0)=some (.inl (snap,trA l snap l.length)):=
 p0h t22 l.length (fun a i=>(l,snap,a,l,(l.length:Int),i)) (fun i=>trA l snap i) (.inl (snap,trA l snap l.length))
  (by rw[q1h];simp only[t9n,u0b,Am,Ah,Aa])
  (fun i hi=>by
   have hL:=o2z l (rdL u0c l i).1 snap (by omega);have hn:=p6e l snap i;rw[q1h];simp only[t9n,u0b,hi,Ae,Ad,y7p hi,zTn,hL,zOb,Aw,u0q (show(trA l snap i).length+1<=1099511627776 by omega)];rw[y7h (by omega)];simp only[trA,o56];by_cases h1:(rdL u0c l i).2.2.2 >snap
   .simp[h1]
   .by_cases h2:t8a l (rdL u0c l i).1 snap=(i:Int)<;>simp[h1,h2])
theorem o0v (k:Hs):∀(l:Hu u17) (a:Nat),l.foldl (fun(a:Nat) v=>if z7n v.1 k=true then a+1 else a) a=a+d1o l k
 | [],a=>by simp[d1o]
 | x::l,a=>by
  rw[Bs,o0v k l];unfold d1o;cases hc:z7n x.1 k with
  | true=>simp[Di,hc];omega | false=>simp[Di,hc]
theorem j8n (s out:Hu u17) (snap:Int) (i:Nat) (hi:i<s.length) (hl:s.length<=8388608):
 t0v (snap,s,out,(i:Int),0,0)=some (.inl (snap,s,out,(i:Int),(d1o s s[i].1:Int))):=by
 have L:=u8m t0v s (fun(a:Nat) j=>(snap,s,out,(i:Int),(a:Int),j)) (fun(a:Nat) v=>if z7n v.1 s[i].1=true then a+1 else a) (fun a=> .inl (snap,s,out,(i:Int),(a:Int))) (fun j a=>a<=j)
  (fun a _=>by rw[r61];simp only[t66,u0b,Am,Ah,Aa])
  (fun j hj a ha=>by
   rw[r61];simp only[t66,u0b,hj,Ae,Ad,y7p hj,y7p hi,zTn,y8f (t:=u0c) hj,y8f (t:=u0c) hi];rw[y7h (i:=j) (by omega),y7h (i:=a) (by omega)];cases z7n s[j].1 s[i].1 with
   | true=>simp only[Ad,Bl];exact⟨by omega,trivial⟩ | false=>simp only[Aa,Br,Bk];exact⟨by omega,trivial⟩) 0 (Cn _)
 rw[o0v,Co] at L;exact L
theorem j8m (s:Hu u17) (k:Hs) (hl:s.length<=8388608):s6x (k,s)=some (d1o s k:Int):=by
 have L:=u8m u9g s (fun(a:Nat) j=>(k,(a:Int),s,(s.length:Int),j)) (fun(a:Nat) v=>if z7n v.1 k=true then a+1 else a) (fun a=> .inl (a:Int)) (fun j a=>a<=j)
  (fun a _=>by rw[r2y];simp only[t4j,u0b,Am,Ah,Aa])
  (fun j hj a ha=>by
   rw[r2y];simp only[t4j,u0b,hj,Ae,Ad,y7p hj,zTn,y8f (t:=u0c) hj];rw[y7h (i:=j) (by omega),y7h (i:=a) (by omega)];cases z7n s[j].1 k with
   | true=>simp only[Ad,Bl];exact⟨by omega,trivial⟩ | false=>simp only[Aa,Br,Bk];exact⟨by omega,trivial⟩) 0 (Cn _)
 rw[o0v,Co] at L;have L:u9g (k,0,s,(s.length:Int),0)=_:=L;rw[p8m];unfold r8x;simp only[L,zOb]
theorem j1l (l:Hu u17) (snap:Int) (hl:l.length<=8388608):r39 (l,snap)=some (u3h l snap):=by
 have hs:(trA l snap l.length).length<=8388608:=A9 (p6e _ _ _) hl;obtain⟨s,hse⟩:∃s,s=trA l snap l.length:=⟨_,rfl⟩;rw[←hse] at hs
 have L:=s1k t7p s (fun a i=>(snap,s,a,i)) (j72 s snap) (fun v=>v) (fun a=> .inl a) (by omega)
  (fun a _=>by rw[r60];simp only[t65,u0b,Am,Ah,Aa])
  (fun i hi a ha=>by
   rw[r60];simp only[t65,u0b,hi,Ae,Ad,j8n s a snap i hi hs,zOb,y7p hi,zTn,y8f (t:=u0c) hi,Aw,u0q (show a.length+1<=1099511627776 by omega)];rw[y7h (by omega)];unfold j72;cases h1:s[i].2.2.1 with
   | false=>simp | true=>
    by_cases h2:s[i].2.2.2 >snap
    .simp[h2]
    .by_cases h3:(d1o s s[i].1:Int) >1<;>simp[h2,h3])
 rw[Er] at L;have hA:=j8l l snap hl;rw[←hse] at hA;rw[o5g];unfold q8j u3h;rw[←hse];simp only[hA,L,zOb]
theorem j1k (l:Hu u17) (snap:Int) (hl:l.length<=8388608):r3z (l,snap)=some (u3h l snap):=by
 have hs:(trA l snap l.length).length<=8388608:=A9 (p6e _ _ _) hl;obtain⟨s,hse⟩:∃s,s=trA l snap l.length:=⟨_,rfl⟩;rw[←hse] at hs
 have L:=s1k t7h s (fun a i=>(snap,s,a,s,(s.length:Int),i)) (j72 s snap) (fun v=>v) (fun a=> .inl a) (by omega)
  (fun a _=>by rw[r6k];simp only[t6p,u0b,Am,Ah,Aa])
  (fun i hi a ha=>by
   rw[r6k];simp only[t6p,u0b,hi,Ae,Ad,j8m s _ hs,zOb,y7p hi,zTn,y8f (t:=u0c) hi,Aw,u0q (show a.length+1<=1099511627776 by omega)];rw[y7h (by omega)];unfold j72;cases h1:s[i].2.2.1 with
   | false=>simp | true=>
    by_cases h2:s[i].2.2.2 >snap
    .simp[h2]
    .by_cases h3:(d1o s s[i].1:Int) >1<;>simp[h2,h3])
 rw[Er] at L;have hA:=j8k l snap hl;rw[←hse] at hA;rw[o4s];unfold q7v u3h;rw[←hse];simp only[hA,L,zOb]
theorem j5t (l:Hu u17) (snap:Int):(u3h l snap).length<=l.length:=A9 (Cs _ _) (p6e _ _ _)
theorem d33 {E:Type} {r:E->E->Prop} (hi:∀x,¬r x x) (ha:∀x y,r x y-> ¬r y x):∀ {l m:Hu E},l.Pairwise r->m.Pairwise r->(∀x,x∈l↔x∈m)->l=m
 | [], [],_,_,_=>rfl | [],y::m,_,_,h=>by have:=(h y).mpr (by simp);simp at this
 | x::l, [],_,_,h=>by have:=(h x).mp (by simp);simp at this
 | x::l,y::m,hl,hm,h=>by
  have hl' :=Ch.mp hl;have hm' :=Ch.mp hm;have hxy:x=y:=by
   rcases A8.mp ((h x).mp (by simp)) with e | e
   .exact e
   .rcases A8.mp ((h y).mpr (by simp)) with e' | e'
    .exact e'.symm
    .exact absurd (hm'.1 x e) (ha _ _ (hl'.1 y e'))
  subst hxy;congr 1;refine d33 hi ha hl'.2 hm'.2 fun z=> ?_
  constructor
  .intro hz;rcases A8.mp ((h z).mp (by simp[hz])) with e | e
   .subst e;exact absurd (hl'.1 z hz) (hi z)
   .exact e
  .intro hz;rcases A8.mp ((h z).mpr (by simp[hz])) with e | e
   .subst e;exact absurd (hm'.1 z hz) (hi z)
   .exact e
def vLt (a b:u17):Prop:=y3b a.1 b.1=true\/(a.1=b.1/\vCs a<vCs b)
def VAsc (l:Hu u17):Prop:=l.Pairwise vLt
theorem j5u (a:u17): ¬vLt a a:=fun h=>by
 rcases h with h | h
 .rw[t4f] at h;cases h
 .omega
theorem d3a (a b:u17) (h:vLt a b): ¬vLt b a:=fun k=>by
 rcases h with h | ⟨h,h'⟩<;>rcases k with k | ⟨k,k'⟩
 .rw[r8e h] at k;cases k
 .rw[k,t4f] at h;cases h
 .rw[h,t4f] at k;cases k
 .omega
theorem d5y (a b:u17) (h: ¬(a.1=b.1/\vCs a=vCs b)):vLt a b\/vLt b a:=by
 rcases p08 a.1 b.1 with c | c | c
 .exact .inl (.inl c)
 .rcases Int.lt_trichotomy (vCs a) (vCs b) with d | d | d
  .exact .inl (.inr ⟨c,d⟩)
  .exact absurd ⟨c,d⟩ h
  .exact .inr (.inr ⟨c.symm,d⟩)
 .exact .inr (.inl c)
theorem VAsc.ext {l m:Hu u17} (h:VAsc l) (k:VAsc m) (e:∀x,x∈l↔x∈m):l=m:=d33 j5u d3a h k e
theorem VAsc.uni:∀ {l:Hu u17},VAsc l-> ∀x∈l,∀y∈l,x.1=y.1->vCs x=vCs y->x=y
 | [],_,x,hx=>by cases hx
 | z::l,h,x,hx=>fun y hy e1 e2=>by
  have h' :=Ch.mp h;have no:∀a b:u17,a.1=b.1->vCs a=vCs b-> ¬vLt a b:=fun a b e1 e2 k=>by
   rcases k with k | k
   .rw[e1,t4f] at k;cases k
   .omega
  rcases A8.mp hx with rfl | hx' <;>rcases A8.mp hy with rfl | hy'
  .rfl
  .exact absurd (h'.1 y hy') (no _ _ e1 e2)
  .exact absurd (h'.1 x hx') (no _ _ e1.symm e2.symm)
  .exact VAsc.uni h'.2 x hx' y hy' e1 e2
def d2e (l:Hu u17) (s:Int) (x:u17):Prop:=vCs x<=s/\ ∀y∈l,y.1=x.1->vCs y<=s->vCs y<=vCs x
theorem o61 {l:Hu u17} (hA:VAsc l) {s:Int} {i:Nat} (h:i<l.length):t8a l l[i].1 s=(i:Int)↔d2e l s l[i] :=by
 obtain⟨h1,h2⟩:=o6p l l[i].1 s l.length (Au _);constructor
 .intro e;obtain⟨_,g1,g2,g3⟩:=h2 i e;refine⟨g2,fun y hy e1 e2=> ?_⟩;obtain⟨j,hj,rfl⟩:=B7 hy;exact g3 j hj hj e1 e2
 .rintro⟨g2,g3⟩
  have hr:=p54 l l[i].1 s;rcases Int.lt_or_le (t8a l l[i].1 s) 0 with z | z
  .exact absurd ⟨rfl,g2⟩ (h1 z i h h)
  .obtain⟨b,hb⟩:∃b:Nat,t8a l l[i].1 s=(b:Int):=⟨(t8a l l[i].1 s).toNat,by omega⟩;obtain⟨hbl,k1,k2,k3⟩:=h2 b hb;have m1:=g3 l[b] (Ag hbl) k1 k2;have m2:=k3 i h h rfl g2;have e:=VAsc.uni hA l[b] (Ag hbl) l[i] (Ag h) k1 (by omega);have hp:l.Nodup:=hA.imp fun h e=>by subst e;exact j5u _ h
   have:b=i:=(List.getElem_inj hp).mp e;rw[hb,this]
theorem j5s (l:Hu u17) (s:Int):∀n,n<=l.length->(trA l s n).Sublist (l.take n)
 | 0,_=>by simp[trA]
 | n+1,h=>by
  have ih:=j5s l s n (by omega);have hn:n<l.length:=by omega
  rw[B9 hn];simp only[trA];split
  .rw[y8f (t:=u0c) hn];exact ih.append (Dm _)
  .exact ih.trans (List.sublist_append_left _ _)
theorem t2o (l:Hu u17) (s:Int):(u3h l s).Sublist l:=by
 have h:=j5s l s l.length (Au _);rw[Cq] at h;exact Fg.trans h
theorem s4e {l:Hu u17} (h:VAsc l) (s:Int):VAsc (u3h l s):=h.sublist (t2o l s)
theorem j24 {l:Hu u17} {s:Int} {x:u17} :∀n,n<=l.length->(x∈trA l s n↔ ∃(i:Nat) (h:i<l.length),i<n/\l[i] =x/\o56 l s i=true)
 | 0,_=>by simp[trA]
 | n+1,h=>by
  have ih:=j24 (x:=x) (s:=s) n (Nat.le_of_succ_le h);have hn:n<l.length:=by omega
  have split:(∃(i:Nat) (h:i<l.length),i<n+1/\l[i] =x/\o56 l s i=true)↔(∃(i:Nat) (h:i<l.length),i<n/\l[i] =x/\o56 l s i=true)\/(l[n] =x/\o56 l s n=true):=by
   constructor
   .rintro⟨i,hi,h1,h2⟩
    by_cases e:i=n
    .subst e;exact .inr h2
    .exact .inl ⟨i,hi,by omega,h2⟩
   .rintro(⟨i,hi,h1,h2⟩ | h2)
    .exact⟨i,hi,by omega,h2⟩
    .exact⟨n,hn,by omega,h2⟩
  rw[split,←ih];simp only[trA];by_cases c:o56 l s n=true
  .rw[Al c,y8f (t:=u0c) hn,Ay,Ax];simp only[c,and_true];exact or_congr Hp eq_comm
  .rw[Ao c];simp[c]
theorem o95 {l:Hu u17} (hA:VAsc l) {s:Int} {x:u17} :x∈trA l s l.length↔x∈l/\(vCs x >s\/d2e l s x):=by
 rw[j24 _ (Au _)];constructor
 .rintro⟨i,hi,_,rfl,k⟩
  refine⟨Ag hi,?_⟩;unfold o56 at k;rw[y8f (t:=u0c) hi,Cr,Ar,Ar] at k;rcases k with k | k
  .exact .inl k
  .exact .inr ((o61 hA hi).mp k)
 .rintro⟨hx,k⟩
  obtain⟨i,hi,rfl⟩:=B7 hx;refine⟨i,hi,hi,rfl,?_⟩;unfold o56;rw[y8f (t:=u0c) hi,Cr,Ar,Ar];rcases k with k | k
  .exact .inl k
  .exact .inr ((o61 hA hi).mpr k)
theorem j8p {E:Type} :∀ {l:Hu E},l.Nodup->1<l.length-> ∀x,∃y∈l,y≠x
 | [],_,h,_=>by simp at h
 | [_],_,h,_=>by simp at h
 | a::b::l,hn,_,x=>by
  by_cases e:a=x
  .subst e;refine⟨b,by simp,fun e=> ?_⟩;subst e;simp at hn
  .exact⟨a,by simp,e⟩
theorem j77 {E:Type} {l:Hu E} {x y:E} (hx:x∈l) (hy:y∈l) (h:x≠y):1<l.length:=by
 match l,hx,hy with
 | [a],hx,hy=>rw[Ax] at hx hy;exact absurd (hx.trans hy.symm) h | a::b::l,_,_=>simp
theorem t2d {l:Hu u17} (hA:VAsc l) {s:Int} {x:u17} :x∈u3h l s↔x∈l/\(vCs x >s\/(d2e l s x/\(x.2.2.1=false\/ ∃y∈l,y.1=x.1/\vCs y >s))):=by
 unfold u3h;rw[A6,o95 hA];unfold j72;rw[Cr,Cr,Ar,Ar,Bj];have hs:VAsc (trA l s l.length):=by
  have h:=j5s l s l.length (Au _);rw[Cq] at h;exact hA.sublist h
 constructor
 .rintro⟨⟨hx,h1⟩,h2⟩
  refine⟨hx,?_⟩;by_cases c:vCs x >s
  .exact .inl c
  .rcases h1 with h1 | h1
   .exact absurd h1 c
   .refine .inr ⟨h1,?_⟩;rcases h2 with h2 | h2 | h2
    .exact .inl h2
    .exact absurd h2 c
    .have hn:((trA l s l.length).filter fun v=>z7n v.1 x.1).Nodup:=(hs.filter _).imp fun h e=>by subst e;exact j5u _ h
     have hl:1<((trA l s l.length).filter fun v=>z7n v.1 x.1).length:=by unfold d1o at h2;omega
     obtain⟨y,hy,hne⟩:=j8p hn hl x;rw[A6,o95 hA] at hy;obtain⟨⟨hyl,hy1⟩,hy2⟩:=hy;have hk:=y7b.mp hy2;refine .inr ⟨y,hyl,hk,?_⟩;rcases hy1 with hy1 | hy1
     .exact hy1
     .have a1:=h1.2 y hyl hk hy1.1;have a2:=hy1.2 x hx hk.symm h1.1;exact absurd (VAsc.uni hA y hyl x hx hk (by omega)) hne
 .rintro⟨hx,h1⟩
  rcases h1 with h1 | ⟨h1,h2⟩
  .exact⟨⟨hx, .inl h1⟩, .inr (.inl h1)⟩
  .refine⟨⟨hx, .inr h1⟩,?_⟩;rcases h2 with h2 | ⟨y,hy,hk,hc⟩
   .exact .inl h2
   .refine .inr (.inr ?_);have m1:x∈(trA l s l.length).filter fun v=>z7n v.1 x.1:=by rw[A6,o95 hA];exact⟨⟨hx, .inr h1⟩,y7b.mpr rfl⟩
    have m2:y∈(trA l s l.length).filter fun v=>z7n v.1 x.1:=by rw[A6,o95 hA];exact⟨⟨hy, .inl hc⟩,y7b.mpr hk⟩
    have:=j77 m1 m2 (fun e=>by have:=h1.1;subst e;omega);unfold d1o;omega
theorem p4f {l:Hu u17} (hA:VAsc l) {a b:Int} (hab:a<=b):u3h (u3h l a) b=u3h l b:=by
 have hT:=s4e hA a;refine(s4e hT b).ext (s4e hA b) fun x=> ?_
 refine Iff.trans (t2d hT) (Iff.trans ?_ (t2d hA).symm);have hsub:∀y,y∈u3h l a->y∈l:=fun y hy=>(t2o l a).subset hy
 have hup:∀y,y∈l->vCs y >a->y∈u3h l a:=fun y hy h=>(t2d hA).mpr ⟨hy, .inl h⟩
 constructor
 .rintro⟨hx,h⟩
  have hxl:=hsub x hx;refine⟨hxl,?_⟩;rcases h with h | ⟨h1,h2⟩
  .exact .inl h
  .right;have hL:d2e l b x:=by
    refine⟨h1.1,fun y hy e1 e2=> ?_⟩;by_cases c:vCs y >a
    .exact h1.2 y (hup y hy c) e1 e2
    .by_cases c2:vCs x >a
     .omega
     .rcases(t2d hA).mp hx with ⟨_,h3 | ⟨h3,_⟩⟩
      .exact absurd h3 c2
      .exact h3.2 y hy e1 (by omega)
   refine⟨hL,?_⟩;rcases h2 with h2 | ⟨y,hy,e1,e2⟩
   .exact .inl h2
   .exact .inr ⟨y,hsub y hy,e1,e2⟩
 .rintro⟨hxl,h⟩
  rcases h with h | ⟨h1,h2⟩
  .exact⟨hup x hxl (by omega), .inl h⟩
  .have hx:x∈u3h l a:=by
    by_cases c:vCs x >a
    .exact hup x hxl c
    .refine(t2d hA).mpr ⟨hxl, .inr ⟨⟨by omega,fun y hy e1 e2=>h1.2 y hy e1 (by omega)⟩,?_⟩⟩;rcases h2 with h2 | ⟨y,hy,e1,e2⟩
     .exact .inl h2
     .exact .inr ⟨y,hy,e1,by omega⟩
   refine⟨hx, .inr ⟨⟨h1.1,fun y hy=>h1.2 y (hsub y hy)⟩,?_⟩⟩;rcases h2 with h2 | ⟨y,hy,e1,e2⟩
   .exact .inl h2
   .exact .inr ⟨y,hup y hy (by omega),e1,e2⟩
theorem p7p {l:Hu u17} (hA:VAsc l) {s:Int} (hs:∀x∈l,vCs x<=s) {x:u17} :x∈u3h l s↔x∈l/\x.2.2.1=false/\ ∀y∈l,y.1=x.1->vCs y<=vCs x:=by
 rw[t2d hA];constructor
 .rintro⟨hx,h⟩
  refine⟨hx,?_⟩;rcases h with h | ⟨h1,h2 | ⟨y,hy,_,h2⟩⟩
  .have:=hs x hx;omega
  .exact⟨h2,fun y hy e=>h1.2 y hy e (hs y hy)⟩
  .have:=hs y hy;omega
 .rintro⟨hx,h1,h2⟩
  exact⟨hx, .inr ⟨⟨hs x hx,fun y hy e _=>h2 y hy e⟩, .inl h1⟩⟩
theorem p57 {l:Hu u17} (hA:VAsc l) {a:Int} {x:u17} :(x∈u3h l a/\x.2.2.1=false/\ ∀y∈u3h l a,y.1=x.1->vCs y<=vCs x)↔(x∈l/\x.2.2.1=false/\ ∀y∈l,y.1=x.1->vCs y<=vCs x):=by
 constructor
 .rintro⟨hx,h1,h2⟩
  have hxl:=(t2o l a).subset hx;refine⟨hxl,h1,fun y hy e=> ?_⟩;by_cases c:vCs y >a
  .exact h2 y ((t2d hA).mpr ⟨hy, .inl c⟩) e
  .rcases(t2d hA).mp hx with ⟨_,h3 | ⟨h3,_⟩⟩
   .omega
   .exact h3.2 y hy e (by omega)
 .rintro⟨hx,h1,h2⟩
  refine⟨(t2d hA).mpr ⟨hx,?_⟩,h1,fun y hy=>h2 y ((t2o l a).subset hy)⟩;by_cases c:vCs x >a
  .exact .inl c
  .exact .inr ⟨⟨by omega,fun y hy e _=>h2 y hy e⟩, .inl h1⟩
theorem d2s {l:Hu u17} (hA:VAsc l) {v:u17} (hn:∀x∈l,¬(x.1=v.1/\vCs x=vCs v)):VAsc (j6r l v):=by
 have le_iff:∀x:u17,u94 v x=true↔(vLt x v\/(x.1=v.1/\vCs x=vCs v)):=fun x=>by
  unfold u94 vLt;rw[Cr,Ai,Ar];constructor
  .rintro(h | ⟨h1,h2⟩)
   .exact .inl (.inl h)
   .have h1:=y7b.mp h1;have h2:vCs x<=vCs v:=h2;rcases Int.lt_or_eq_of_le h2 with h2 | h2
    .exact .inl (.inr ⟨h1,h2⟩)
    .exact .inr ⟨h1,h2⟩
  .rintro((h | ⟨h1,h2⟩) | ⟨h1,h2⟩)
   .exact .inl h
   .exact .inr ⟨y7b.mpr h1,Int.le_of_lt h2⟩
   .exact .inr ⟨y7b.mpr h1,Int.le_of_eq h2⟩
 have tr:∀ {a b c:u17},vLt a b->vLt b c->vLt a c:=fun {a b c} h k=>by
  rcases h with h | ⟨h,h'⟩<;>rcases k with k | ⟨k,k'⟩
  .exact .inl (p4c h k)
  .exact .inl (k ▸ h)
  .exact .inl (h ▸ k)
  .exact .inr ⟨h.trans k,by omega⟩
 unfold j6r VAsc;have hsplit:l.takeWhile (u94 v)++l.dropWhile (u94 v)=l:=Fe;have hA' :(l.takeWhile (u94 v)++l.dropWhile (u94 v)).Pairwise vLt:=by rw[hsplit];exact hA
 obtain⟨p1,p2,p3⟩:=Cg.mp hA';have lo:∀x∈l.takeWhile (u94 v),vLt x v:=fun x hx=>by
  have h1:u94 v x=true:=by
   have:=List.all_takeWhile (p:=u94 v) (l:=l);exact Bg.mp this x hx
  have h2:x∈l:=(List.takeWhile_sublist _).subset hx;rcases(le_iff x).mp h1 with h | h
  .exact h
  .exact absurd h (hn x h2)
 have hi:∀x∈l.dropWhile (u94 v),vLt v x:=by
  intro x hx
  match hd:l.dropWhile (u94 v),hx,p2 with
  | [],hx,_=>cases hx | y::r,hx,p2=>
   have hy:u94 v y=false:=by
    have:=List.head?_dropWhile_not (u94 v) l;rw[hd] at this;simpa using this
   have hyl:y∈l:=(List.dropWhile_sublist (p:=u94 v)).subset (by rw[hd];simp);have hvy:vLt v y:=by
    rcases d5y y v (hn y hyl) with h | h
    .rw[(le_iff y).mpr (.inl h)] at hy;cases hy
    .exact h
   rcases A8.mp hx with rfl | hx
   .exact hvy
   .exact tr hvy ((Ch.mp p2).1 x hx)
 rw[Bi,Cg];refine⟨p1,?_,?_⟩
 .rw[Fs,Ch];exact⟨hi,p2⟩
 .intro x hx y hy;rcases Ay.mp hy with hy | hy
  .rw[Ax] at hy;subst hy;exact lo x hx
  .exact p3 x hx y hy
theorem p36 {cs:Int} :∀(ws:Hu u2l.den) {l:Hu u17},VAsc l->KD ws->(∀x∈l,∀w∈ws,¬(x.1=w.1/\vCs x=cs))->VAsc (s1d l ws cs)
 | [],l,h,_,_=>h | w::ws,l,h,hk,hn=>by
  have hk' :=Ch.mp hk;have e:s1d l (w::ws) cs=s1d (j6r l (w.1,w.2.1,w.2.2,cs)) ws cs:=rfl;rw[e];refine p36 ws (d2s h fun x hx=>hn x hx w (by simp)) hk'.2 fun x hx z hz=> ?_
  rcases d2l.mp hx with rfl | hx
  .exact fun q=>hk'.1 z hz q.1
  .exact hn x hx z (by simp[hz])
theorem d28 {l:Hu u17} (hA:VAsc l) {ws:Hu u2l.den} (hk:KD ws) {a c:Int} (hl:∀x∈l,vCs x<c):
 u3h (s1d (u3h l a) ws c) c=u3h (s1d l ws c) c:=by
 have hT:=s4e hA a;have hlT:∀x∈u3h l a,vCs x<c:=fun x hx=>hl x ((t2o l a).subset hx)
 have P1:VAsc (s1d (u3h l a) ws c):=p36 ws hT hk fun x hx w _ q=>by have:=hlT x hx;omega
 have P2:VAsc (s1d l ws c):=p36 ws hA hk fun x hx w _ q=>by have:=hl x hx;omega
 have t1:∀x∈s1d (u3h l a) ws c,vCs x<=c:=fun x hx=>by
  rcases(s2t ws _ c).mp hx with h | ⟨w,_,rfl⟩
  .have:=hlT x h;omega
  .exact Bv _
 have t2:∀x∈s1d l ws c,vCs x<=c:=fun x hx=>by
  rcases(s2t ws _ c).mp hx with h | ⟨w,_,rfl⟩
  .have:=hl x h;omega
  .exact Bv _
 have key:∀(m:Hu u17),(∀x∈m,vCs x<c)-> ∀x,(x∈s1d m ws c/\x.2.2.1=false/\ ∀y∈s1d m ws c,y.1=x.1->vCs y<=vCs x)↔
  ((∃w∈ws,x=(w.1,w.2.1,w.2.2,c))/\x.2.2.1=false)\/((∀w∈ws,w.1≠x.1)/\x∈m/\x.2.2.1=false/\ ∀y∈m,y.1=x.1->vCs y<=vCs x):=by
  intro m hm x;have mp:=fun y=>s2t (x:=y) ws m c
  constructor
  .rintro⟨h1,h2,h3⟩
   rcases(mp x).mp h1 with h | h
   .refine .inr ⟨fun w hw e=> ?_,h,h2,fun y hy e=>h3 y ((mp y).mpr (.inl hy)) e⟩;have q:c<=vCs x:=h3 (w.1,w.2.1,w.2.2,c) ((mp _).mpr (.inr ⟨w,hw,rfl⟩)) e;have:=hm x h;omega
   .exact .inl ⟨h,h2⟩
  .rintro(⟨h1,h2⟩ | ⟨h1,h2,h3,h4⟩)
   .refine⟨(mp x).mpr (.inr h1),h2,fun y hy _=> ?_⟩;obtain⟨w,hw,rfl⟩:=h1;show vCs y<=c;rcases(mp y).mp hy with h | ⟨w,_,rfl⟩
    .have:=hm y h;omega
    .exact Bv _
   .refine⟨(mp x).mpr (.inl h2),h3,fun y hy e=> ?_⟩;rcases(mp y).mp hy with h | ⟨w,hw,rfl⟩
    .exact h4 y h e
    .exact absurd e (h1 w hw)
 refine(s4e P1 c).ext (s4e P2 c) fun x=> ?_
 rw[p7p P1 t1,p7p P2 t2,key _ hlT,key _ hl,p57 hA]
end Go.Proofs.YtkphhjdbdnoekaaGreat.Ab
