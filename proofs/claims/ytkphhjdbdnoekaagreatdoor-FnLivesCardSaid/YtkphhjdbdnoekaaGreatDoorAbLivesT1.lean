import Derived.Test.YtkphhjdbdnoekaaGreatDoorAbLivesG3
import Derived.Test.YtkphhjdbdnoekaaGreatDoorAbK2
import Derived.Test.YtkphhjdbdnoekaaGreatDoorAbF4
import Derived.Test.YtkphhjdbdnoekaaGreatDoorAbS2
import Derived.Test.YtkphhjdbdnoekaaGreatDoorAbS4
import Derived.Test.YtkphhjdbdnoekaaGreatDoorAbS6
namespace Go.Proofs.YtkphhjdbdnoekaaGreatDoor.Ab
open Go Go.IntKind
set_option linter.unusedVariables false
set_option linter.unusedSimpArgs false
set_option linter.unnecessarySimpa false
set_option linter.unusedSectionVars false
theorem j6g (n:Int):u8.wrap n=n % 256:=by
 simp[IntKind.wrap,IntKind.bits,IntKind.signed]
theorem u0b (a b:Nat):decide ((a:Int)<(b:Int))=decide (a<b):=by simp
theorem q4a {X R A:Type} (W:X->Ht R) (n:Nat) (mk:A->Int->X) (res:Nat->A->R) (P:Nat->A->Prop)
 (hend:∀a,P n a->W (mk a (n:Int))=some (res n a))
 (hstep:∀(i:Nat) a,i<n->P i a->W (mk a (i:Int))=some (res i a)\/ ∃a',P (i+1) a' /\res (i+1) a' =res i a/\W (mk a (i:Int))=W (mk a' ((i+1:Nat):Int))):
 ∀(i:Nat) a,i<=n->P i a->W (mk a (i:Int))=some (res i a):=by
 intro i a hi hP;obtain⟨d,hd⟩:∃d,i+d=n:=⟨n - i,by omega⟩;clear hi
 induction d generalizing i a with
 | zero=>
  have:i=n:=by omega
  subst this;exact hend a hP
 | succ d ih=>
  rcases hstep i a (by omega) hP with h | ⟨a',h1,h2,h3⟩
  .exact h
  .rw[h3,ih (i+1) a' h1 (by omega),h2]
def d30 {E A R:Type} (f:Nat->E->A->A⊕R) (fin:A->R):Nat->Hu E->A->R
 | _, [],a=>fin a | i,x::l,a=>match f i x a with
  | .inl a' =>d30 f fin (i+1) l a' | .inr r=>r
theorem d3r {X R A E:Type} (W:X->Ht R) (l:Hu E) (mk:A->Int->X) (f:Nat->E->A->A⊕R) (fin:A->R) (P:Nat->A->Prop)
 (hend:∀a,P l.length a->W (mk a (l.length:Int))=some (fin a))
 (hstep:∀(i:Nat) (h:i<l.length) a,P i a->match f i l[i] a with
  | .inl a' =>P (i+1) a' /\W (mk a (i:Int))=W (mk a' ((i+1:Nat):Int)) | .inr r=>W (mk a (i:Int))=some r) (a:A) (hP:P 0 a):W (mk a 0)=some (d30 f fin 0 l a):=by
 have key:=q4a W l.length mk (fun i a=>d30 f fin i (l.drop i) a) P (fun a h=>by
  rw[hend a h,Dp (Au _)];rfl) (fun i a hi hP=>by
   have hs:=hstep i hi a hP;have hd:l.drop i=l[i] ::l.drop (i+1):=Ce hi;rw[hd];simp only[d30];cases hf:f i l[i] a with
   | inl a' =>
    rw[hf] at hs;exact .inr ⟨a',hs.1,rfl,hs.2⟩
   | inr r=>
    rw[hf] at hs;exact .inl hs) 0 a (Cn _) hP
 exact key
def szr (b:Int) (w:Nat):Int:=if(w:Int)<=b then b - w else -1
def Ty.wt:(t:Ty)->t.den->Nat
 | .int _,_=>0 | .bool,_=>0 | .str,s=>s.size | .sl e,l=>l.length+(l.map e.wt).sum | .pair a b,x=>a.wt x.1+b.wt x.2
theorem s5c {X R E:Type} (W:X->Ht R) (l:Hu E) (mk:Int->X) (p:E->Bool) (yes no:R) (hend:W (mk (l.length:Int))=some no)
 (hstep:∀(i:Nat) (h:i<l.length),W (mk (i:Int))=bif p l[i] then some yes else W (mk ((i+1:Nat):Int))):W (mk 0)=some (bif l.any p then yes else no):=by
 have:=d3r W l (fun(_:Unit) i=>mk i) (fun _ x _=>if p x then .inr yes else .inl ()) (fun _=>no) (fun _ _=>True) (fun _ _=>hend) (fun i h a _=>by
  have hs:=hstep i h;cases hp:p l[i] with
  | true=>simp only[hp,Ad] at hs;simp only[Bl];exact hs | false=>simp only[hp,Aa] at hs;simp only[Br,Bk];exact⟨trivial,hs⟩) () trivial
 rw[this];congr 1;have key:∀(l:Hu E) (i:Nat),d30 (fun _ x (_:Unit)=>if p x then .inr yes else .inl ()) (fun _=>no) i l ()=bif l.any p then yes else no:=by
  intro l
  induction l with
  | nil=>intro i;rfl | cons x l ih=>
   intro i;simp only[d30,Gd];cases hp:p x with
   | true=>simp | false=>simp only[Br,Bk,Ci];exact ih _
 exact key l 0
theorem t13 {X R E A:Type} (W:X->Ht R) (l:Hu E) (mk:A->Int->X) (f:A->E->A) (fin:A->R) (P:Nat->A->Prop)
 (hend:∀a,P l.length a->W (mk a (l.length:Int))=some (fin a))
 (hstep:∀(i:Nat) (h:i<l.length) a,P i a->P (i+1) (f a l[i])/\W (mk a (i:Int))=W (mk (f a l[i]) ((i+1:Nat):Int))) (a:A) (hP:P 0 a):W (mk a 0)=some (fin (l.foldl f a)):=by
 have:=d3r W l mk (fun _ x a=> .inl (f a x)) fin P hend (fun i h a hp=>hstep i h a hp) a hP;rw[this];congr 1;have key:∀(l:Hu E) (i:Nat) (a:A),d30 (fun _ x a=>(.inl (f a x):A⊕R)) fin i l a=fin (l.foldl f a):=by
  intro l
  induction l with
  | nil=>intro i a;rfl | cons x l ih=>intro i a;simp only[d30,Bs];exact ih _ _
 exact key l 0 a
theorem s98 {X R E B:Type} (W:X->Ht R) (l:Hu E) (mk:Hu B->Int->X) (p:E->Bool) (g:E->B) (fin:Hu B->R) (hl:l.length<=1099511627776)
 (hend:∀a:Hu B,a.length<=l.length->W (mk a (l.length:Int))=some (fin a))
 (hstep:∀(i:Nat) (h:i<l.length) (a:Hu B),a.length<=i->W (mk a (i:Int))=bif p l[i] then W (mk (a++ [g l[i]]) ((i+1:Nat):Int)) else W (mk a ((i+1:Nat):Int))):W (mk [] 0)=some (fin ((l.filter p).map g)):=by
 have:=t13 W l mk (fun a x=>if p x then a++ [g x] else a) fin (fun i a=>a.length<=i) hend (fun i h a hp=>by
  have hs:=hstep i h a hp;cases hc:p l[i] with
  | true=>
   simp only[hc,Ad] at hs;simp only[Bl];exact⟨by simp;omega,hs⟩
  | false=>
   simp only[hc,Aa] at hs;simp only[Br,Bk];exact⟨by omega,hs⟩) [] (Au 0)
 rw[this];congr 1;have key:∀(l:Hu E) (a:Hu B),l.foldl (fun a x=>if p x then a++ [g x] else a) a=a++(l.filter p).map g:=by
  intro l
  induction l with
  | nil=>intro a;simp | cons x l ih=>
   intro a;simp only[Bs,ih,Di];cases hp:p x<;>simp
 rw[key];simp
theorem o8i (b:Hs):b.toList=toS b:=by rw[ByteArray.toList_eq];rfl
theorem d5w {a b:Hs} (h:toS a=toS b):a=b:=by rw[←y9g a,h,y9g]
theorem p7r:∀(x y:Hu UInt8),Op.bytesLess x y=decide (x<y)
 | x, [] =>by simp[Op.bytesLess]
 | [],y::ys=>by simp[Op.bytesLess]
 | x::xs,y::ys=>by
  rw[Op.bytesLess,p7r xs ys,Cd];simp[List.cons_lt_cons_iff]
theorem d0y {a b:Hs} :y3i a b=true↔toS a<toS b:=by
 unfold y3i;rw[o8i,o8i,p7r];simp
theorem d9w {a b:Hs} :y3i a b=false↔ ¬toS a<toS b:=by
 rw[←d0y];simp
theorem d73 (x:Hu UInt8): ¬x<x:=List.lt_irrefl x
theorem d74 {x y z:Hu UInt8} (h:x<y) (k:y<z):x<z:=List.lt_trans h k
theorem d75 (x y:Hu UInt8):x<y\/x=y\/y<x:=by
 rcases List.le_total x y with h | h
 .rcases Fv.mp h with h | h
  .exact .inl h
  .exact .inr (.inl h)
 .rcases Fv.mp h with h | h
  .exact .inr (.inr h)
  .exact .inr (.inl h.symm)
theorem s8n (a:Hs):y3i a a=false:=d9w.mpr (d73 _)
theorem p0x {a b c:Hs} (h:y3i a b=true) (k:y3i b c=true):y3i a c=true:=d0y.mpr (d74 (d0y.mp h) (d0y.mp k))
theorem p6j (a b:Hs):y3i a b=true\/a=b\/y3i b a=true:=by
 rcases d75 (toS a) (toS b) with h | h | h
 .exact .inl (d0y.mpr h)
 .exact .inr (.inl (d5w h))
 .exact .inr (.inr (d0y.mpr h))
theorem p4n {a b:Hs} (h:y3i a b=true):y3i b a=false:=by
 cases k:y3i b a with
 | false=>rfl | true=>exact absurd (p0x h k) (by rw[s8n];exact Hf)
theorem o4h {a b:Hs} :z7q a b=false↔a≠b:=by
 rw[←Ey,y7r]
theorem q7u (a b:Hs):z7q a b=z7q b a:=by
 rw[Cd,y7r,y7r];exact⟨Eq.symm,Eq.symm⟩
theorem j3q {a b:Hs} :(!(y3i a b || z7q a b))=y3i b a:=by
 rcases p6j a b with h | h | h
 .rw[h,p4n h];rfl
 .subst h;rw[s8n,y6w];rfl
 .rw[p4n h,h];have:z7q a b=false:=o4h.mpr (fun e=>by subst e;rw[s8n] at h;cases h);rw[this];rfl
def Asc (l:Hu Hs):Prop:=l.Pairwise fun a b=>y3i a b=true
theorem Asc.ext:∀ {l m:Hu Hs},Asc l->Asc m->(∀x,x∈l↔x∈m)->l=m
 | [], [],_,_,_=>rfl | [],y::m,_,_,h=>by have:=(h y).mpr (by simp);simp at this
 | x::l, [],_,_,h=>by have:=(h x).mp (by simp);simp at this
 | x::l,y::m,hl,hm,h=>by
  have hl' :=Ch.mp hl;have hm' :=Ch.mp hm;have hxy:x=y:=by
   rcases A8.mp ((h x).mp (by simp)) with e | e
   .exact e
   .rcases A8.mp ((h y).mpr (by simp)) with e' | e'
    .exact e'.symm
    .have:=p0x (hm'.1 x e) (hl'.1 y e');rw[s8n] at this;cases this
  subst hxy;congr 1;refine Asc.ext hl'.2 hm'.2 fun z=> ?_
  constructor
  .intro hz;rcases A8.mp ((h z).mp (by simp[hz])) with e | e
   .subst e;have:=hl'.1 z hz;rw[s8n] at this;cases this
   .exact e
  .intro hz;rcases A8.mp ((h z).mpr (by simp[hz])) with e | e
   .subst e;have:=hm'.1 z hz;rw[s8n] at this;cases this
   .exact e
theorem Asc.filter {l:Hu Hs} (h:Asc l) (p:Hs->Bool):Asc (l.filter p):=Dz p h
def j82 (k:Hs) (l:Hu Hs):Hu Hs:=l.filter (fun x=>y3i x k)++ [k] ++l.filter (fun x=> !(y3i x k || z7q x k))
theorem d2h {k x:Hs} {l:Hu Hs} :x∈j82 k l↔x=k\/x∈l:=by
 simp only[j82,Ay,A6,Ax,j3q];constructor
 .rintro((h | h) | h)
  .exact .inr h.1
  .exact .inl h
  .exact .inr h.1
 .rintro(h | h)
  .exact .inl (.inr h)
  .rcases p6j x k with e | e | e
   .exact .inl (.inl ⟨h,e⟩)
   .exact .inl (.inr e)
   .exact .inr ⟨h,e⟩
theorem d19 {k:Hs} {l:Hu Hs} (h:Asc l):Asc (j82 k l):=by
 unfold Asc j82;rw[Cg,Cg];refine⟨⟨h.filter _,by simp,fun a ha b hb=> ?_⟩,h.filter _,fun a ha b hb=> ?_⟩
 .simp only[Ax] at hb;subst hb;exact(A6.mp ha).2
 .have hb:=(A6.mp hb).2;rw[j3q] at hb;rcases Ay.mp ha with ha | ha
  .exact p0x (A6.mp ha).2 hb
  .simp only[Ax] at ha;subst ha;exact hb
theorem j97 {l:Hu Hs} :∀ {a:Hu Hs},Asc a->Asc (l.foldl (fun a k=>j82 k a) a)/\ ∀x,x∈l.foldl (fun a k=>j82 k a) a↔x∈l\/x∈a:=by
 induction l with
 | nil=>intro a h;exact⟨h,fun x=>by simp⟩ | cons k l ih=>
  intro a h;obtain⟨h1,h2⟩:=ih (d19 (k:=k) h);refine⟨h1,fun x=> ?_⟩;rw[Bs,h2,d2h,A8];constructor
  .rintro(q | q | q)
   .exact .inl (.inr q)
   .exact .inl (.inl q)
   .exact .inr q
  .rintro((q | q) | q)
   .exact .inr (.inl q)
   .exact .inl q
   .exact .inr (.inr q)
theorem p7t (d:Array (Hu UInt8)) (hs:∀i j:Nat,i<=j->j<d.size->d[i]! <=d[j]!):∀m,m<=d.size->(Lib.compactUpTo d m).Pairwise (·< ·)/\(∀x,x∈Lib.compactUpTo d m↔ ∃i,i<m/\d[i]! =x)
 | 0,_=>by simp[Lib.compactUpTo]
 | m+1,hm=>by
  obtain⟨h1,h2⟩:=p7t d hs m (by omega);rw[Lib.compactUpTo_succ];by_cases hk:Lib.keeps d m=true
  .rw[Al hk];constructor
   .rw[Cg];refine⟨h1,by simp,fun a ha b hb=> ?_⟩;simp only[Ax] at hb;subst hb;obtain⟨i,hi,rfl⟩:=(h2 a).mp ha;unfold Lib.keeps at hk;have hk:=Ej hk;rcases hk with hk | hk
    .omega
    .have l1:=hs i (m - 1) (by omega) (by omega);have l2:=hs (m - 1) m (by omega) (by omega);rcases Fv.mp l2 with l2 | l2
     .rcases Fv.mp l1 with l1 | l1
      .exact d74 l1 l2
      .rw[l1];exact l2
     .exact absurd l2.symm hk
   .intro x;simp only[Ay,Ax,h2];constructor
    .rintro(⟨i,hi,rfl⟩ | rfl)
     .exact⟨i,by omega,rfl⟩
     .exact⟨m,by omega,rfl⟩
    .rintro⟨i,hi,rfl⟩
     rcases B8 i m with q | q
     .exact .inl ⟨i,q,rfl⟩
     .exact .inr (by rw[show i=m by omega])
  .rw[Ao hk,Bw];refine⟨h1,fun x=> ?_⟩;rw[h2];unfold Lib.keeps at hk;simp only[Ar,Hr,ne_eq,Decidable.not_not] at hk;constructor
   .rintro⟨i,hi,rfl⟩;exact⟨i,by omega,rfl⟩
   .rintro⟨i,hi,rfl⟩
    rcases B8 i m with q | q
    .exact⟨i,q,rfl⟩
    .have:i=m:=by omega
     subst this;exact⟨i - 1,by omega,hk.2.symm⟩
def q3y (l:Hu Hs):Hu Hs:=y7b (y4n l)
theorem s5p (l:Hu Hs):Asc (q3y l)/\ ∀x,x∈q3y l↔x∈l:=by
 obtain⟨d,hd⟩:∃d,d=(l.map toS).mergeSort fun x y=>decide (x<=y):=⟨_,rfl⟩
 have hk:q3y l=(Lib.compact d).map unS:=by
  unfold q3y y7b y4n;rw[←hd,List.map_map];have:(toS ∘unS)=id:=by funext x;rfl
  rw[this,List.map_id]
 have hsort:d.Pairwise (·<= ·):=by
  rw[hd];have:=List.pairwise_mergeSort (le:=fun(x y:Hu UInt8)=>decide (x<=y)) (fun a b c h1 h2=>by
   simp only[Ar] at h1 h2 ⊢;exact List.le_trans h1 h2) (fun a b=>by
   simp only[Cr,Ar];exact List.le_total a b) (l.map toS)
  exact this.imp (fun h=>by simpa using h)
 have hmem:∀x,x∈d↔x∈l.map toS:=fun x=>by rw[hd];exact(List.mergeSort_perm _ _).mem_iff
 have hs:∀i j:Nat,i<=j->j<d.toArray.size->d.toArray[i]! <=d.toArray[j]! :=fun i j hij hj=>by
  have hj' :j<d.length:=by simpa using hj
  have hi' :i<d.length:=by omega
  rw[Fl _ i (by simpa using hi'),Fl _ j hj];simp only[List.getElem_toArray];rcases B8 i j with q | q
  .exact Cp.mp hsort i j hi' hj' q
  .have:i=j:=by omega
   subst this;exact List.le_refl _
 obtain⟨h1,h2⟩:=p7t d.toArray hs d.length (by simp);rw[hk];constructor
 .unfold Asc;rw[Dl];exact h1.imp (fun h=>d0y.mpr h)
 .intro x;rw[Bx];constructor
  .rintro⟨y,hy,rfl⟩
   obtain⟨i,hi,rfl⟩:=(h2 y).mp hy;rw[Fl _ i (by simpa using hi)];have:d[i] ∈l.map toS:=(hmem _).mp (Ag hi);obtain⟨z,hz,e⟩:=Bx.mp this;simp only[List.getElem_toArray];rw[←e,y9g];exact hz
  .intro hx;have:toS x∈d:=(hmem _).mpr (Bx.mpr ⟨x,hx,rfl⟩);obtain⟨i,hi,e⟩:=Gy.mp this;refine⟨toS x,(h2 _).mpr ⟨i,hi,?_⟩,y9g x⟩;rw[Fl _ i (by simpa using hi)];simpa using e
theorem o4g (l:Hu Hs):(y4n l).length=l.length:=by simp[y4n]
theorem d5a (l:Hu Hs) (p:Hs->Bool):(l.filter p).foldl (fun a k=>j82 k a) [] =(q3y l).filter p:=by
 obtain⟨h1,h2⟩:=j97 (l:=l.filter p) (a:= []) List.Pairwise.nil;obtain⟨k1,k2⟩:=s5p l;refine Asc.ext h1 (k1.filter p) fun x=> ?_
 rw[h2,A6,A6,k2];simp
def u0i:Nat:=1099511627776
theorem o8n {α:Type} {f:α->Nat} {l:Hu α} {x:α} (h:x∈l):f x<=(l.map f).sum:=by
 induction l with
 | nil=>cases h | cons y l ih=>
  simp only[C8,Ge];rcases A8.mp h with rfl | h
  .omega
  .have:=ih h;omega
abbrev t3e:Ty:=(.pair .str .str)
abbrev u2m:Ty:=(.pair .str (.pair .str .bool))
abbrev u0g:Ty:=(.pair .str (.pair .str (.pair .bool (.int .i64))))
abbrev d7i:Ty:=(.pair .str .str)
abbrev c49:Ty:=(.pair .str .str)
abbrev o7j:Ty:=(.pair (.int .i64) .str)
abbrev c1c:Ty:=(.pair (.sl .str) (.sl o7j))
abbrev u01:Ty:=(.pair (.int .i64) (.pair (.int .i64) (.pair (.int .i64) (.pair (.int .i64) (.pair (.sl t3e) (.pair (.sl u2m) (.pair .bool .str)))))))
abbrev d7h:Ty:=(.pair (.sl u0g) (.pair (.sl u01) (.pair (.sl u01) (.pair (.int .i64) (.int .i64)))))
abbrev c1d:Ty:=(.pair (.int .i64) (.pair u01 (.pair .str (.pair .bool d7h))))
abbrev d4w:Ty:=(.pair d7h (.sl u01))
abbrev d7j:Ty:=(.pair d4w c1c)
abbrev j2k:Ty:=(.pair (.int .i64) (.pair (.int .i64) (.pair .str (.pair .str (.sl (.int .i64))))))
abbrev c2k:Ty:=(.pair d7j (.pair (.sl u01) (.pair (.sl (.int .i64)) (.sl .str))))
abbrev u0e:=Int×Int×Int×Int×Hu (Hs×Hs)×Hu (Hs×Hs×Bool)×Bool×Hs
theorem u0w {n:Nat} (h:n<=1099511627776):Nat.ble n z7z=true:=Nat.ble_eq_true_of_le h
def inR (r:Hs×Hs) (k:Hs):Bool:= !y3i k r.1&&(y3i k r.2 || z7q k r.2)
theorem p6u (r:Hs×Hs) (k:Hs):s6z (r,k)=some (inR r k):=by
 rw[o53];unfold q89 inR;cases y3i k r.1<;>rfl
theorem p6t (r:Hs×Hs) (k:Hs):s6s (r,k)=some (inR r k):=by
 rw[o5d];unfold q8l inR;cases y3i k r.1<;>rfl
def p15 (r:Hu t3e.den) (w:Hu u2m.den):Bool:=r.any fun x=>w.any fun y=>inR x y.1
def q75 (a b:Hu u2m.den):Bool:=a.any fun x=>b.any fun y=>z7q x.1 y.1
def d8g (m:Hu c49.den) (r:t3e.den):Hu d7i.den:=m.filter fun c=>inR r c.1
theorem r87 {X R A:Type} (W:X->Ht R) (n:Nat) (mk:A->Int->X) (v:Nat->A) (r:R) (hend:W (mk (v n) (n:Int))=some r)
 (hstep:∀i,i<n->W (mk (v i) (i:Int))=W (mk (v (i+1)) ((i+1:Nat):Int))):W (mk (v 0) 0)=some r:=by
 have:=q4a W n (fun(_:Unit) i=>mk (v i.toNat) i) (fun _ _=>r) (fun _ _=>True) (fun _ _=>by simpa using hend) (fun i a hi _=> .inr ⟨(),trivial,rfl,by
  have h:=hstep i hi;have e:((i:Int)+1).toNat=i+1:=by omega
  simp only[zTn];exact h⟩) 0 () (Cn _) trivial
 simpa using this
theorem j61 {α:Type} (p:α->Bool):∀(l a:Hu α),l.foldl (fun a x=>if p x=true then a++ [x] else a) a=a++l.filter p
 | [],a=>by simp
 | x::l,a=>by
  rw[Bs,j61 p l];cases hc:p x<;>simp[hc]
abbrev u4n:=Hs×Hs×Bool×Int
def emp:Hs:=⟨#[]⟩
def j6u (l:Hu u4n) (k:Hs) (snap out:Int) (i:Nat):Int:=
 if z7q (rdL u0g l i).1 k=true/\(rdL u0g l i).2.2.2<=snap/\(out<0\/(rdL u0g l i).2.2.2 >(rdL u0g l out.toNat).2.2.2) then(i:Int) else out
def j4y (l:Hu u4n) (k:Hs) (snap:Int):Nat->Int
 | 0=> -1 | n+1=>j6u l k snap (j4y l k snap n) n
def s5h (l:Hu u4n) (k:Hs) (snap:Int):Int:=j4y l k snap l.length
theorem o0b (l:Hu u4n) (k:Hs) (snap:Int):∀n,-1<=j4y l k snap n/\j4y l k snap n<(n:Int)
 | 0=>by simp[j4y]
 | n+1=>by
  have:=o0b l k snap n;simp only[j4y,j6u];split<;>omega
theorem o7y (l:Hu u4n) (k:Hs) (snap:Int): -1<=s5h l k snap/\s5h l k snap<(l.length:Int):=o0b l k snap l.length
theorem o3u (l:Hu u4n) (k:Hs) (snap:Int) (hl:l.length<=1099511627776):r33 (l,k,snap)=some (s5h l k snap):=by
 have L:=r87 s0o l.length (fun a i=>(l,k,snap,a,i)) (fun i=>j4y l k snap i) (.inl (s5h l k snap))
  (by rw[p08];simp only[s6f,u0b,Am,Ah,Aa];rfl)
  (fun i hi=>by
   have hr:=o0b l k snap i;rw[p08];simp only[s6f,u0b,hi,Ae,Ad,y8h hi,zTn,j4y,j6u];rw[y7x (by omega)];cases h1:z7q (rdL u0g l i).1 k with
   | false=>simp[h1] | true=>
    by_cases h2:(rdL u0g l i).2.2.2<=snap
    .by_cases h3:j4y l k snap i<0
     .simp[h1,h2,h3]
     .have hg:y4v (j4y l k snap i) l.length=true:=y8g.mpr ⟨by omega,by omega⟩;by_cases h4:(rdL u0g l i).2.2.2 >(rdL u0g l (j4y l k snap i).toNat).2.2.2
      .simp[h1,h2,h3,h4,hg]
      .simp[h1,h2,h3,h4,hg]
    .simp[h1,h2])
 have L:s0o (l,k,snap,-1,0)=_:=L;rw[j3f];unfold p7n;simp only[L,zOb]
theorem o3t (l:Hu u4n) (k:Hs) (snap:Int) (hl:l.length<=1099511627776):s9q (l,k,snap)=some (s5h l k snap):=by
 have L:=r87 t7l l.length (fun a i=>(l,k,snap,a,l,(l.length:Int),i)) (fun i=>j4y l k snap i) (.inl (s5h l k snap))
  (by rw[q69];simp only[s3v,u0b,Am,Ah,Aa];rfl)
  (fun i hi=>by
   have hr:=o0b l k snap i;rw[q69];simp only[s3v,u0b,hi,Ae,Ad,y8h hi,zTn,j4y,j6u];rw[y7x (by omega)];cases h1:z7q (rdL u0g l i).1 k with
   | false=>simp[h1] | true=>
    by_cases h2:(rdL u0g l i).2.2.2<=snap
    .by_cases h3:j4y l k snap i<0
     .simp[h1,h2,h3]
     .have hg:y4v (j4y l k snap i) l.length=true:=y8g.mpr ⟨by omega,by omega⟩;by_cases h4:(rdL u0g l i).2.2.2 >(rdL u0g l (j4y l k snap i).toNat).2.2.2
      .simp[h1,h2,h3,h4,hg]
      .simp[h1,h2,h3,h4,hg]
    .simp[h1,h2])
 have L:t7l (l,k,snap,-1,l,(l.length:Int),0)=_:=L;rw[o9z];unfold p2y;simp only[L,zOb]
def p4p (l:Hu u4n) (k:Hs) (snap:Int):Hs×Bool:=
 if s5h l k snap<0\/(rdL u0g l (s5h l k snap).toNat).2.2.1=true then(emp,false) else((rdL u0g l (s5h l k snap).toNat).2.1,true)
theorem j4i (l:Hu u4n) (k:Hs) (snap:Int) (y:Int) (hy:y=s5h l k snap):
 (((bif decide (y<0) then some true else(bif y4v y l.length then some (rdL u0g l y.toNat).2.2.1 else none)):Ht Bool).bind fun j2=>(bif j2 then some ((⟨#[]⟩:Hs),false) else(bif y4v y l.length then some ((rdL u0g l y.toNat).2.1,true) else none)))=some (p4p l k snap):=by
 subst hy;have hr:=o7y l k snap;unfold p4p;by_cases h:s5h l k snap<0
 .simp[h,emp]
 .have hg:y4v (s5h l k snap) l.length=true:=y8g.mpr ⟨by omega,by omega⟩;cases h2:(rdL u0g l (s5h l k snap).toNat).2.2.1<;>simp[h,hg,h2,emp]
theorem j5h (l:Hu u4n) (k:Hs) (snap:Int) (hl:l.length<=1099511627776):r9x (l,k,snap)=some (p4p l k snap):=by
 rw[j0c];unfold p3b;simp only[o3u l k snap hl,zOb];exact j4i l k snap _ rfl
theorem j5g (l:Hu u4n) (k:Hs) (snap:Int) (hl:l.length<=1099511627776):r9n (l,k,snap)=some (p4p l k snap):=by
 rw[o9v];unfold p2t;simp only[o3t l k snap hl,zOb];exact j4i l k snap _ rfl
theorem j9j (l:Hu u4n) (hl:l.length<=1099511627775):r9q l=some (q3y (l.map fun v=>v.1)):=by
 have L:=s98 s34 l (fun a i=>(a,l,(l.length:Int),i)) (fun _=>true) (fun v=>v.1) (fun a=> .inl a) (by omega)
  (fun a _=>by rw[q68];simp only[s3u,u0b,Am,Ah,Aa])
  (fun i hi a ha=>by
   rw[q68];simp only[s3u,u0b,hi,Ae,Ad,y8h hi,zTn,y9a (t:=u0g) hi,Aw,u0w (show a.length+1<=1099511627776 by omega)];rw[y7x (by omega)])
 have hf:l.filter (fun _=>true)=l:=by simp
 rw[hf] at L;have h1:y7m (l.map fun v=>v.1)=some (y4n (l.map fun v=>v.1)):=by
  unfold y7m;rw[Da,u0w (by omega)];rfl
 have h2:y0p (y4n (l.map fun v=>v.1))=some (q3y (l.map fun v=>v.1)):=by
  unfold y0p;rw[o4g,Da,u0w (by omega)];rfl
 rw[o9y];unfold p2x;simp only[L,zOb,t7y,t3f];simp only[h1,h2,zOb]
theorem p4c (l:Hu Hs):(q3y l).length<=l.length:=by
 have:=z6j (y4n l);rw[o4g] at this;exact this
theorem j5y (k:Hs) (r:Hs×Hs) (l:Hu u4n) (j:Int) (out:Hu Hs) (ho:out.length<=1099511627775):
 t45 (l,r,out,j,k, [],0)=some (.inl (l,r,out,j,k,out.filter fun x=>y3i x k)):=by
 have L:=s98 t45 out (fun a i=>(l,r,out,j,k,a,i)) (fun x=>y3i x k) (fun x=>x) (fun a=> .inl (l,r,out,j,k,a)) (by omega)
  (fun a _=>by rw[q3o];simp only[s16,u0b,Am,Ah,Aa])
  (fun i hi a ha=>by
   rw[q3o];simp only[s16,u0b,hi,Ae,Ad,y8h hi,zTn,y9a (t:=Ty.str) hi,Aw,u0w (show a.length+1<=1099511627776 by omega)];rw[y7x (by omega)])
 rw[Er] at L;exact L
theorem j3w (k:Hs) (r:Hs×Hs) (l:Hu u4n) (j:Int) (out a0:Hu Hs) (ho:out.length+a0.length<=1099511627775):
 t2f (l,r,out,j,k,a0,0)=some (.inl (l,r,j,a0++out.filter fun x=> !(y3i x k || z7q x k))):=by
 have L:=t13 t2f out (fun a i=>(l,r,out,j,k,a,i)) (fun a x=>if(!(y3i x k || z7q x k))=true then a++ [x] else a) (fun a=> .inl (l,r,j,a)) (fun i a=>a.length<=a0.length+i)
  (fun a _=>by rw[r8v];simp only[t9c,u0b,Am,Ah,Aa])
  (fun i hi a ha=>by
   rw[r8v];simp only[t9c,u0b,hi,Ae,Ad,y8h hi,zTn,y9a (t:=Ty.str) hi,Aw,u0w (show a.length+1<=1099511627776 by omega)];rw[y7x (by omega)];cases hc:(!(y3i out[i] k || z7q out[i] k)) with
   | true=>simp;omega | false=>simp;omega) a0 (by simp)
 rw[j61 (fun x=> !(y3i x k || z7q x k))] at L;exact L
theorem d2a (k:Hs) (l:Hu Hs):(j82 k l).length<=l.length+1:=by
 unfold j82;have h:(fun x=> !(y3i x k || z7q x k))=fun x=>y3i k x:=by funext x;exact j3q
 rw[h];have:(l.filter fun x=>y3i x k).length+(l.filter fun x=>y3i k x).length<=l.length:=by
  induction l with
  | nil=>simp | cons x l ih=>
   simp only[Di];cases h1:y3i x k with
   | true=>rw[p4n h1];simp;omega | false=>cases h2:y3i k x<;>simp<;>omega
 simp;omega
theorem j9k (l:Hu u4n) (r:Hs×Hs) (hl:l.length<=500000000000):r5w (l,r)=some ((q3y (l.map fun v=>v.1)).filter fun k=>inR r k):=by
 have L:=t13 s2k l (fun a i=>(l,r,a,i)) (fun a v=>if inR r v.1=true then j82 v.1 a else a) (fun a=> .inl a) (fun i a=>a.length<=i)
  (fun a _=>by rw[q3n];simp only[s15,u0b,Am,Ah,Aa])
  (fun i hi a ha=>by
   rw[q3n];simp only[s15,u0b,hi,Ae,Ad,y8h hi,zTn,y9a (t:=u0g) hi,p6u,zOb];cases hc:inR r l[i].1 with
   | false=>
    simp only[Bh,Ad,Br,Bk];rw[y7x (by omega)];exact⟨by omega,rfl⟩
   | true=>
    have hlow:(a.filter fun x=>y3i x l[i].1).length<=a.length:=Cs _ _
    simp only[Ap,Aa,Bl,j5y l[i].1 r l (i:Int) a (by omega),zOb,Aw,u0w (show(a.filter fun x=>y3i x l[i].1).length+1<=1099511627776 by omega),Ad,
     j3w l[i].1 r l (i:Int) a (a.filter (fun x=>y3i x l[i].1)++ [l[i].1]) (by simp;omega)]
    rw[y7x (by omega)];exact⟨A9 (d2a _ _) (by omega),rfl⟩) [] (by simp)
 rw[o6o];unfold q9v;simp only[L,zOb];have hfold:∀(m:Hu u4n) (a:Hu Hs),m.foldl (fun a v=>if inR r v.1=true then j82 v.1 a else a) a=((m.map fun v=>v.1).filter fun k=>inR r k).foldl (fun a k=>j82 k a) a:=by
  intro m
  induction m with
  | nil=>intro a;rfl | cons x m ih=>
   intro a;rw[Bs,ih];cases hc:inR r x.1<;>simp[hc]
 rw[hfold,d5a]
def d8c (l:Hu u4n) (r:Hs×Hs) (snap:Int):Hu (Hs×Hs):=
 ((q3y (l.map fun v=>v.1)).filter fun k=>(p4p l k snap).2&&inR r k).map fun k=>(k,(p4p l k snap).1)
theorem r91 {E:Type} (p:E->Bool):∀(l:Hu E),(l.takeWhile p).length<=l.length/\(∀(i:Nat) (h:i<l.length),i<(l.takeWhile p).length->p l[i] =true)/\
 (∀(h:(l.takeWhile p).length<l.length),p l[(l.takeWhile p).length] =false)/\l.takeWhile p=l.take (l.takeWhile p).length/\l.dropWhile p=l.drop (l.takeWhile p).length
 | [] =>⟨Au _,fun i h=>absurd h (Ee i),fun h=>absurd h (Ee _),rfl,rfl⟩ | x::l=>by
  obtain⟨h1,h2,h3,h4,h5⟩:=r91 p l;cases hp:p x with
  | false=>
   simp only[F8,hp,List.dropWhile_cons,Br,Bk,Cc];exact⟨Cn _,fun i _ h=>absurd h (Ee i),fun _=>hp,rfl,rfl⟩
  | true=>
   simp only[F8,hp,List.dropWhile_cons,Bl,Bc];refine⟨by omega,fun i h k=> ?_,fun h=> ?_,?_,?_⟩
   .cases i with
    | zero=>exact hp | succ i=>simpa using h2 i (by simpa using h) (by omega)
   .simpa using h3 (by omega)
   .rw[List.take_succ_cons,←h4]
   .rw[List.drop_succ_cons,←h5]
theorem d7g {X R E:Type} (W:X->Ht R) (l:Hu E) (mk:Hu E->Int->X) (p:E->Bool) (fin:Hu E->Int->R)
 (hend:W (mk l (l.length:Int))=some (fin l (l.length:Int)))
 (hstep:∀(i:Nat) (h:i<l.length),W (mk (l.take i) (i:Int))=bif p l[i] then W (mk (l.take (i+1)) ((i+1:Nat):Int)) else some (fin (l.take i) (i:Int))):
 W (mk [] 0)=some (fin (l.takeWhile p) ((l.takeWhile p).length:Int)):=by
 obtain⟨h1,h2,h3,h4,_⟩:=r91 p l
 have:=q4a W (l.takeWhile p).length (fun(a:Hu E) i=>mk a i) (fun _ _=>fin (l.takeWhile p) ((l.takeWhile p).length:Int)) (fun i a=>a=l.take i)
  (fun a ha=>by
   rw[ha];by_cases hk:(l.takeWhile p).length<l.length
   .rw[hstep _ hk,h3 hk,Aa,←h4]
   .have e:(l.takeWhile p).length=l.length:=by omega
    have e2:l.takeWhile p=l:=by rw[h4,e];exact Cq
    rw[e2,Cq];exact hend)
  (fun i a hi ha=> .inr ⟨_,rfl,rfl,by rw[ha,hstep i (by omega),h2 i (by omega) hi,Ad]⟩) 0 [] (Cn _) (by simp)
 exact this
theorem j9q {X R E:Type} (W:X->Ht R) (l:Hu E) (mk:Int->X) (p:E->Bool) (yes:Int->R) (no:R)
 (hend:W (mk (l.length:Int))=some no)
 (hstep:∀(i:Nat) (h:i<l.length),W (mk (i:Int))=bif p l[i] then W (mk ((i+1:Nat):Int)) else some (yes (i:Int))):
 W (mk 0)=some (if(l.takeWhile p).length<l.length then yes ((l.takeWhile p).length:Int) else no):=by
 obtain⟨h1,h2,h3,_,_⟩:=r91 p l
 have:=q4a W (l.takeWhile p).length (fun(_:Unit) i=>mk i) (fun _ _=>if(l.takeWhile p).length<l.length then yes ((l.takeWhile p).length:Int) else no) (fun _ _=>True)
  (fun a _=>by
   by_cases hk:(l.takeWhile p).length<l.length
   .rw[hstep _ hk,h3 hk,Aa,Al hk]
   .have e:(l.takeWhile p).length=l.length:=by omega
    rw[Ao hk,e];exact hend)
  (fun i a hi _=> .inr ⟨(),trivial,rfl,by rw[hstep i (by omega),h2 i (by omega) hi,Ad]⟩) 0 () (Cn _) trivial
 exact this
def t1i (v y:u4n):Bool:=y3i y.1 v.1 || (z7q y.1 v.1&&decide (y.2.2.2<=v.2.2.2))
def j7e (l:Hu u4n) (v:u4n):Hu u4n:=l.takeWhile (t1i v)++ [v] ++l.dropWhile (t1i v)
def r7x (l:Hu u4n) (ws:Hu u2m.den) (cs:Int):Hu u4n:=ws.foldl (fun l w=>j7e l (w.1,w.2.1,w.2.2,cs)) l
theorem j0v (l:Hu u4n) (v:u4n):(j7e l v).length=l.length+1:=by
 have:l.length=(l.takeWhile (t1i v)).length+(l.dropWhile (t1i v)).length:=by rw[←Ba,Fe]
 simp[j7e];omega
theorem o32:∀(ws:Hu u2m.den) (l:Hu u4n) (cs:Int),(r7x l ws cs).length=l.length+ws.length
 | [],l,cs=>rfl | w::ws,l,cs=>by
  have:=o32 ws (j7e l (w.1,w.2.1,w.2.2,cs)) cs;unfold r7x at this ⊢;rw[Bs,this,j0v];simp;omega
theorem d5m (l:Hu u4n) (v:u4n):j7e l v=l.take (l.takeWhile (t1i v)).length++ [v] ++l.drop (l.takeWhile (t1i v)).length:=by
 obtain⟨_,_,_,h4,h5⟩:=r91 (t1i v) l;unfold j7e;rw[←h4,←h5]
theorem o69 (a b:Hs):s0g (a,b)=some (if y3i a b then -1 else if z7q a b then 0 else 1):=by
 have ns:∀x,t61 x=some false:=fun x=>by
  rw[p3p];unfold r2n;have:z7q x x=true:=by simp[z7q]
  rw[this];rfl
 rw[q7z];unfold s8q;simp only[ns,zOb,Aa];cases y3i a b<;>cases z7q a b<;>rfl
theorem j86 (a b:Int):s5q (a,b)=some (if a<b then -1 else if a >b then 1 else 0):=by
 have ns:∀x,s4k x=some false:=fun x=>by
  rw[o1j];unfold q4e;simp
 rw[p5q];unfold r53;simp only[ns,zOb,Aa];by_cases h:a<b
 .simp[h]
 .by_cases h2:a >b<;>simp[h,h2]
theorem d4o (y v:u4n):s0h (y,v)=some (!t1i v y):=by
 rw[q70];unfold s8r;rw[s7d];unfold t7s;simp only[o69,zOb];unfold t1i;cases h1:y3i y.1 v.1 with
 | true=>simp | false=>
  cases h2:z7q y.1 v.1 with
  | false=>simp | true=>
   simp only[Br,Bk,Bl,Ae,Ap,Aa,j86,zOb,Ci,Bz];by_cases h3:y.2.2.2<v.2.2.2
   .have:y.2.2.2<=v.2.2.2:=by omega
    simp[h3,this]
   .by_cases h4:y.2.2.2 >v.2.2.2
    .have: ¬y.2.2.2<=v.2.2.2:=by omega
     simp[h3,h4,this]
    .have:y.2.2.2<=v.2.2.2:=by omega
     simp[h3,h4,this]
theorem j9h (l:Hu u4n) (v:u4n) (hl:l.length<=1099511627775):u15 (l,v)=some (if(l.takeWhile (t1i v)).length<l.length then((l.takeWhile (t1i v)).length:Int) else -1):=by
 have L:=j9q u03 l (fun i=>(l,v,(l.length:Int),i)) (t1i v) (fun i=> .inr i) (.inl ())
  (by rw[u23];simp only[u02,u0b,Am,Ah,Aa])
  (fun i hi=>by
   rw[u23];simp only[u02,u0b,hi,Ae,Ad,y8h hi,zTn,y9a (t:=u0g) hi,d4o,zOb];rw[y7x (by omega)];cases t1i v l[i] <;>rfl)
 rw[u91];unfold u3d;simp only[L,zOb];by_cases h:(l.takeWhile (t1i v)).length<l.length
 .simp only[Al h]
 .simp only[Ao h]
theorem o7c (l:Hu u4n) (v:u4n) (k:Nat) (hk:k<=l.length) (hl:l.length<=1099511627775):u42 (l,(k:Int), [v])=some (l.take k++ [v] ++l.drop k):=by
 rw[s9l];unfold y2u;have h1:decide ((0:Int)<=(k:Int))=true:=by simp
 have h2:decide ((k:Int)<=(l.length:Int))=true:=by simpa using hk
 simp only[h1,h2,u0w (show l.length+1<=1099511627776 by omega),Bz,Aw,zTn];rfl
theorem p8a (l:Hu u4n) (ws:Hu u2m.den) (cs:Int) (hl:l.length+ws.length<=1000000000000):t62 (l,ws,cs)=some (r7x l ws cs):=by
 have L:=t13 t1v ws (fun a i=>(cs,a,ws,(ws.length:Int),i)) (fun l w=>j7e l (w.1,w.2.1,w.2.2,cs)) (fun a=> .inl a) (fun i a=>a.length=l.length+i)
  (fun a _=>by rw[s89];simp only[t1r,u0b,Am,Ah,Aa])
  (fun i hi a ha=>by
   have hal:a.length<=1099511627775:=by omega
   rw[s89];simp only[t1r,u0b,hi,Ae,Ad,y8h hi,zTn,y9a (t:=u2m) hi,j9h a _ hal,zOb];refine⟨by rw[j0v];omega,?_⟩;obtain⟨t1,_⟩:=r91 (t1i (ws[i].1,ws[i].2.1,ws[i].2.2,cs)) a;rw[d5m,y7x (by omega)];by_cases hk:(a.takeWhile (t1i (ws[i].1,ws[i].2.1,ws[i].2.2,cs))).length<a.length
   .rw[Al hk];have:decide (((a.takeWhile (t1i (ws[i].1,ws[i].2.1,ws[i].2.2,cs))).length:Int)<0)=false:=by simp
    simp only[this,Aa,o7c a _ _ t1 hal,zOb]
   .rw[Ao hk];have e:(a.takeWhile (t1i (ws[i].1,ws[i].2.1,ws[i].2.2,cs))).length=a.length:=by omega
    have:decide ((-1:Int)<0)=true:=by decide
    simp only[this,Ad,o7c a _ _ (Au _) hal,zOb];rw[e]) l (by simp)
 rw[p3q];unfold r2o;simp only[u0w (show l.length<=1099511627776 by omega),Ad,L,zOb];rfl
theorem d1w (ws:Hu u2m.den) (cs:Int) (l:Hu u4n) (j:Int) (v:u4n) (hl:l.length<=1000000000000):
 u8t (ws,cs,l,j,v, [],0)=some (.inl (ws,cs,l,j,v,l.takeWhile (t1i v),((l.takeWhile (t1i v)).length:Int))):=
 d7g u8t l (fun a i=>(ws,cs,l,j,v,a,i)) (t1i v) (fun a i=> .inl (ws,cs,l,j,v,a,i))
  (by rw[s9b];simp only[t1t,u0b,Am,Ah,Aa,zOb])
  (fun i hi=>by
   rw[s9b];have hb:((l.take i).length+ [l[i]].length)<=1099511627776:=by simp;omega
   simp only[t1t,u0b,hi,Ae,Ad,y8h hi,zTn,y9a (t:=u0g) hi,u0w hb];rw[y7x (by omega),B9 hi];unfold t1i;cases h1:y3i l[i].1 v.1 with
   | true=>simp | false=>
    cases h2:z7q l[i].1 v.1 with
    | false=>simp | true=>
     by_cases h3:l[i].2.2.2<=v.2.2.2<;>simp[h3])
theorem p8b (l:Hu u4n) (ws:Hu u2m.den) (cs:Int) (hl:l.length+ws.length<=1000000000000):t67 (l,ws,cs)=some (r7x l ws cs):=by
 have L:=t13 t1w ws (fun a i=>(ws,cs,a,i)) (fun l w=>j7e l (w.1,w.2.1,w.2.2,cs)) (fun a=> .inl a) (fun i a=>a.length=l.length+i)
  (fun a _=>by rw[s9a];simp only[t1s,u0b,Am,Ah,Aa])
  (fun i hi a ha=>by
   have hal:a.length<=1000000000000:=by omega
   rw[s9a];simp only[t1s,u0b,hi,Ae,Ad,y8h hi,zTn,y9a (t:=u2m) hi,d1w ws cs a _ _ hal,zOb];obtain⟨v,hv⟩:∃v:u4n,v=(ws[i].1,ws[i].2.1,ws[i].2.2,cs):=⟨_,rfl⟩;rw[←hv];obtain⟨t1,_,_,t4,t5⟩:=r91 (t1i v) a;refine⟨by rw[j0v];omega,?_⟩;have g1:decide ((0:Int)<=((a.takeWhile (t1i v)).length:Int))=true:=by simp
   have g2:decide (((a.takeWhile (t1i v)).length:Int)<=(a.length:Int))=true:=by simpa using t1
   have g3:decide ((a.length:Int)<=(a.length:Int))=true:=by simp
   have b1:(a.takeWhile (t1i v)).length+ [v].length<=1099511627776:=by simp;omega
   have b2:(a.takeWhile (t1i v)++ [v]).length+(a.drop (a.takeWhile (t1i v)).length).length<=1099511627776:=by simp;omega
   simp only[g1,g2,g3,Bz,u0w b1,Ad,Cq,u0w b2];rw[y7x (by omega),←t5];rfl) l (by simp)
 rw[p33];unfold r2z;simp only[Cc,Co,Cf,u0w (show l.length<=1099511627776 by omega),Ad,L,zOb];rfl
abbrev PrT:=Hs×Hs
theorem j2g (r:Hu t3e.den) (w:Hu u2m.den) (hr:r.length<=u0i) (hw:w.length<=u0i):r5s (r,w)=some (p15 r w):=by
 unfold u0i at hr hw;have inner:∀(i:Nat) (hi:i<r.length),t41 (r,w,(i:Int),0)=some (bif w.any (fun y=>inR r[i] y.1) then .inr true else .inl (r,w,(i:Int))):=fun i hi=>
  s5c t41 w (fun j=>(r,w,(i:Int),j)) (fun y=>inR r[i] y.1) _ _ (by
   rw[q3k];simp only[s12,u0b,Am,Ah,Aa]) (fun j hj=>by
   rw[q3k];simp only[s12,u0b,hj,Ae,Ad,y8h hi,y8h hj,zTn,y9a hi,y9a hj,p6u,zOb];rw[y7x (by omega)])
 have outer:=s5c s2j r (fun i=>(r,w,i)) (fun x=>w.any fun y=>inR x y.1) (.inr true) (.inl ()) (by
  rw[q3j];simp only[s11,u0b,Am,Ah,Aa]) (fun i hi=>by
  rw[q3j];simp only[s11,u0b,hi,Ae,Ad,inner i hi,zOb];have ws:=y7x (i:=i) (by omega);cases w.any fun y=>inR r[i] y.1<;>simp only[Ad,Aa,ws])
 rw[o6d];unfold q9j;simp only[outer,zOb];unfold p15;cases r.any fun x=>w.any fun y=>inR x y.1<;>rfl
theorem j73 (r w:Hu u2m.den) (hr:r.length<=u0i) (hw:w.length<=u0i):r31 (r,w)=some (q75 r w):=by
 unfold u0i at hr hw;have inner:∀(i:Nat) (hi:i<r.length),s0n (r,w,(i:Int),0)=some (bif w.any (fun y=>z7q r[i].1 y.1) then .inr true else .inl (r,w,(i:Int))):=fun i hi=>
  s5c s0n w (fun j=>(r,w,(i:Int),j)) (fun y=>z7q r[i].1 y.1) _ _ (by
   rw[p05];simp only[s6c,u0b,Am,Ah,Aa]) (fun j hj=>by
   rw[p05];simp only[s6c,u0b,hj,Ae,Ad,y8h hi,y8h hj,zTn,y9a hi,y9a hj,zOb];rw[y7x (by omega)])
 have outer:=s5c s6k r (fun i=>(r,w,i)) (fun x=>w.any fun y=>z7q x.1 y.1) (.inr true) (.inl ()) (by
  rw[p04];simp only[s6b,u0b,Am,Ah,Aa]) (fun i hi=>by
  rw[p04];simp only[s6b,u0b,hi,Ae,Ad,inner i hi,zOb];have ws:=y7x (i:=i) (by omega);cases w.any fun y=>z7q r[i].1 y.1<;>simp only[Ad,Aa,ws])
 rw[j3c];unfold p7k;simp only[outer,zOb];unfold q75;cases r.any fun x=>w.any fun y=>z7q x.1 y.1<;>rfl
theorem j2f (r:Hu t3e.den) (w:Hu u2m.den) (hr:r.length<=u0i) (hw:w.length<=u0i):r5j (r,w)=some (p15 r w):=by
 unfold u0i at hr hw;have inner:∀(i:Nat) (hi:i<r.length),t4q (w,r[i],r,(r.length:Int),(i:Int),w,(w.length:Int),0)=some (bif w.any (fun y=>inR r[i] y.1) then .inr true else .inl (w,r,(r.length:Int),(i:Int))):=fun i hi=>
  s5c t4q w (fun j=>(w,r[i],r,(r.length:Int),(i:Int),w,(w.length:Int),j)) (fun y=>inR r[i] y.1) _ _ (by
   rw[q20];simp only[s1i,u0b,Am,Ah,Aa]) (fun j hj=>by
   rw[q20];simp only[s1i,u0b,hj,Ae,Ad,y8h hi,y8h hj,zTn,y9a hi,y9a hj,p6t,zOb];rw[y7x (by omega)])
 have outer:=s5c s2c r (fun i=>(w,r,(r.length:Int),i)) (fun x=>w.any fun y=>inR x y.1) (.inr true) (.inl ()) (by
  rw[q2z];simp only[s1h,u0b,Am,Ah,Aa]) (fun i hi=>by
  rw[q2z];simp only[s1h,u0b,hi,Ae,Ad,y8h hi,zTn,y9a hi,inner i hi,zOb];have ws:=y7x (i:=i) (by omega);cases w.any fun y=>inR r[i] y.1<;>simp only[Ad,Aa,ws])
 rw[o5n];unfold q8v;simp only[outer,zOb];unfold p15;cases r.any fun x=>w.any fun y=>inR x y.1<;>rfl
theorem j72 (r w:Hu u2m.den) (hr:r.length<=u0i) (hw:w.length<=u0i):r3y (r,w)=some (q75 r w):=by
 unfold u0i at hr hw;have inner:∀(i:Nat) (hi:i<r.length),s0m (w,r[i],r,(r.length:Int),(i:Int),w,(w.length:Int),0)=some (bif w.any (fun y=>z7q r[i].1 y.1) then .inr true else .inl (w,r,(r.length:Int),(i:Int))):=fun i hi=>
  s5c s0m w (fun j=>(w,r[i],r,(r.length:Int),(i:Int),w,(w.length:Int),j)) (fun y=>z7q r[i].1 y.1) _ _ (by
   rw[p01];simp only[s58,u0b,Am,Ah,Aa]) (fun j hj=>by
   rw[p01];simp only[s58,u0b,hj,Ae,Ad,y8h hi,y8h hj,zTn,y9a hi,y9a hj,zOb];rw[y7x (by omega)])
 have outer:=s5c s6h r (fun i=>(w,r,(r.length:Int),i)) (fun x=>w.any fun y=>z7q x.1 y.1) (.inr true) (.inl ()) (by
  rw[p00];simp only[s57,u0b,Am,Ah,Aa]) (fun i hi=>by
  rw[p00];simp only[s57,u0b,hi,Ae,Ad,y8h hi,zTn,y9a hi,inner i hi,zOb];have ws:=y7x (i:=i) (by omega);cases w.any fun y=>z7q r[i].1 y.1<;>simp only[Ad,Aa,ws])
 rw[j2u];unfold p67;simp only[outer,zOb];unfold q75;cases r.any fun x=>w.any fun y=>z7q x.1 y.1<;>rfl
def r6t (a b:u01.den):Bool:=
 decide (a.2.1=3)&&decide (b.2.1=3)&& !decide (a.1=b.1)&&
 (decide (a.2.2.2.1<=b.2.2.1)&&p15 b.2.2.2.2.1 a.2.2.2.2.2.1 || decide (a.2.2.2.1<b.2.2.2.1)&&q75 a.2.2.2.2.2.1 b.2.2.2.2.2.1 || decide (b.2.2.2.1 >a.2.2.1)&&p15 a.2.2.2.2.1 b.2.2.2.2.2.1)
theorem o3n (a:u01.den):t04 a=some (decide (a.2.1=3)):=by
 rw[s4g];rfl
def c5c (l:Hu u01.den) (j i:Nat):Bool:=r6t (rdL u01 l j) (rdL u01 l i)
def d77 (l:Hu u01.den) (t:Hu Nat) (i:Nat):Bool:= !t.contains i&& !(List.range l.length).any (fun j=> !decide (j=i)&&(!t.contains j&&c5c l j i))
def d2p (l:Hu u01.den) (t:Hu Nat):Ht Nat:=(List.range l.length).find? (d77 l t)
def d78 (l:Hu u01.den):Nat->Hu Nat->Ht (Hu Nat)
 | 0,t=>some t | k+1,t=>match d2p l t with
  | none=>none | some i=>d78 l k (t++ [i])
def c1t (l:Hu u01.den):Ht (Hu Nat):=d78 l l.length []
section
variable {l:Hu u01.den} (hw:∀x∈l,u01.wt x<=u0i) (hl:l.length<=1048576)
include hw hl
end
def c5j (m:Hu c49.den) (w:u2m.den):Hu c49.den:=
 m.filter (fun c=>y3i c.1 w.1)++(if w.2.2 then[] else[(w.1,w.2.1)])++m.filter (fun c=> !(y3i c.1 w.1 || z7q c.1 w.1))
def d5k (m:Hu c49.den) (ws:Hu u2m.den):Hu c49.den:=ws.foldl c5j m
section
variable (t:u01.den) (w:u2m.den) (m:Hu c49.den) (hm:m.length<=500000000000)
include hm
end
def c1y (l:Hu u01.den):Nat:=(l.map fun t=>t.2.2.2.2.2.1.length).sum
section
variable {l:Hu u01.den} (hw:∀x∈l,u01.wt x<=u0i) (hl:l.length+c1y l<=1048576) (hr:∀x∈l,x.2.2.2.2.1.length<=1048576)
include hl
include hr
include hw
end
abbrev Src:=Hu Int×Int×Int
def Src.ok (s:Src):Prop:=s.1.length<=1048576/\0<=s.2.1/\s.2.1<=(s.1.length:Int)
def Dr {T:Type} (F:Ht (T×Src)) (p:T->Prop):Prop:= ∃y s,F=some (y,s)/\s.ok/\p y
theorem j6y (v:BitVec i64.bits):0<=i64.wrap ((v&&&BitVec.ofInt i64.bits 255).toNat:Int)/\i64.wrap ((v&&&BitVec.ofInt i64.bits 255).toNat:Int)<256:=by
 have h:(v&&&BitVec.ofInt i64.bits 255).toNat<=255:=by
  rw[BitVec.toNat_and];exact A9 Nat.and_le_right (by decide)
 rw[y5f (by omega) (by omega)];omega
theorem o0l {s:Src} (h:s.ok):Dr (t1e s) (fun y=>0<=y/\y<256):=by
 obtain⟨l,p,z⟩:=s;obtain⟨h1,h2,h3⟩:=h;simp only at h1 h2 h3;rw[o6h];unfold q9n;simp only;by_cases hp:p<(l.length:Int)
 .have hg:y4v p l.length=true:=by simp[y4v,h2,hp]
  simp only[hp,Ae,Ad,hg];exact⟨_,_,rfl,⟨h1,by simp only;rw[y5f (by omega) (by omega)];omega,by simp only;rw[y5f (by omega) (by omega)];omega⟩,j6y _⟩
 .simp only[hp,Ah,Aa];exact⟨_,_,rfl,⟨h1,h2,h3⟩,j6y _⟩
theorem j7m {a n:Int} (ha:0<=a) (hn:0<n):0<=Int.tmod a n/\Int.tmod a n<n:=⟨Int.tmod_nonneg _ ha,Int.tmod_lt_of_pos _ hn⟩
theorem s9f {s:Src} (h:s.ok) {n:Int} (hn:0<n):Dr (u2l (s,n)) (fun y=>0<=y/\y<n):=by
 rw[o27];unfold q5q;have h0:decide (n<=0)=false:=by simp;omega
 have h0' :(!decide (n=0))=true:=by simp;omega
 simp only[h0,Aa,h0',Ad];by_cases h1:n<=256
 .simp only[h1,Ae,Ad];obtain⟨y,s1,e1,k1,r1⟩:=o0l h;simp only[e1,zOb];exact⟨_,_,rfl,k1,j7m r1.1 hn⟩
 .simp only[h1,Ah,Aa];obtain⟨y1,s1,e1,k1,r1⟩:=o0l h;obtain⟨y2,s2,e2,k2,r2⟩:=o0l k1;obtain⟨y3,s3,e3,k3,r3⟩:=o0l k2;obtain⟨y4,s4,e4,k4,r4⟩:=o0l k3;simp only[e1,e2,e3,e4,zOb];refine⟨_,_,rfl,k4,j7m ?_ hn⟩
  rw[y5f (n:=y1*16777216) (by omega) (by omega),y5f (n:=y2*65536) (by omega) (by omega),y5f (n:=y3*256) (by omega) (by omega),y5f (n:=y1*16777216+y2*65536) (by omega) (by omega),
   y5f (n:=y1*16777216+y2*65536+y3*256) (by omega) (by omega),y5f (n:=y1*16777216+y2*65536+y3*256+y4) (by omega) (by omega)]
  omega
theorem d4r {s:Src} (h:s.ok) {n:Int} (hn:0<n):Dr (s63 (s,n)) (fun _=>True):=by
 rw[o6i];unfold q9o;obtain⟨y,s1,e1,k1,r1⟩:=s9f h hn;simp only[e1,zOb];exact⟨_,_,rfl,k1,trivial⟩
theorem o8x {s:Src} (h:s.ok) {l:Hu Hs} (hl:0<l.length):Dr (u16 (s,l)) (fun y=>y∈l):=by
 rw[o6j];unfold q9p;obtain⟨y,s1,e1,k1,r1⟩:=s9f h (n:=(l.length:Int)) (by omega);obtain⟨i,rfl⟩:∃i:Nat,y=(i:Int):=⟨y.toNat,by omega⟩;have hi:i<l.length:=by omega
 simp only[e1,zOb,y8h hi,Ad,zTn];exact⟨_,_,rfl,k1,by show rdL Ty.str l i∈l;have h:rdL Ty.str l i=l[i] :=y9a (t:=Ty.str) (l:=l) hi;rw[h];exact Ag hi⟩
theorem d3p {l:Hu Int} (hl:l.length<=1048576):∃s:Src,s9v l=some s/\s.ok:=by
 have key:∀(d i:Nat) (z:Int),i<=l.length->l.length - i<=d-> ∃z',t7q (l,z,(i:Int))=some (.inl (l,z')):=by
  intro d
  induction d with
  | zero=>
   intro i z hi hd;have:i=l.length:=by omega
   subst this;rw[r2e];simp only[t7j,u0b,Am,Ah,Aa,zOb];exact⟨_,rfl⟩
  | succ d ih=>
   intro i z hi hd;by_cases h:i<l.length
   .rw[r2e];simp only[t7j,u0b,h,Ae,Ad,zOb,y8h h];rw[y7x (by omega)];cases decide ((i:Int)<4000) with
    | false=>exact⟨_,rfl⟩ | true=>exact ih (i+1) _ (by omega) (by omega)
   .have:i=l.length:=by omega
    subst this;rw[r2e];simp only[t7j,u0b,Am,Ah,Aa,zOb];exact⟨_,rfl⟩
 obtain⟨z',hz⟩:=key l.length 0 (i64.wrap (77601+(l.length:Int))) (Cn _) (by omega);rw[j0e];unfold p3d;have hz' :t7q (l,i64.wrap (77601+(l.length:Int)),0)=_:=hz;simp only[hz',zOb];exact⟨_,rfl,hl,Bv _,by simp only;omega⟩
def p1x (l:Hu u2m.den) (w:u2m.den):Hu u2m.den:=l.filter (fun x=>y3i x.1 w.1)++ [w] ++l.filter (fun x=> !(y3i x.1 w.1 || z7q x.1 w.1))
theorem o8z (l:Hu u2m.den) (w:u2m.den) (hl:l.length<=1048576):r1k (l,w)=some (p1x l w):=by
 have L1:=s98 t9q l (fun a i=>(l,w,a,i)) (fun x=>y3i x.1 w.1) (fun x=>x) (fun a=> .inl (l,w,a)) (by omega) (fun a ha=>by
  rw[r8l];simp only[t82,u0b,Am,Ah,Aa]) (fun i hi a ha=>by
  have hc:Nat.ble (a.length+([l[i]] :Hu u2m.den).length) z7z=true:=by
   rw[Nat.ble_eq];simp only[Bc,Cc,z7z];omega
  rw[r8l];simp only[t82,u0b,hi,Ae,Ad,y8h hi,zTn,y9a hi];rw[y7x (by omega),hc];rfl)
 simp only[Er] at L1;have L2:=t13 t9r l (fun a i=>(l,w,a,i)) (fun(a:Hu u2m.den) x=>if y3i x.1 w.1 || z7q x.1 w.1 then a else a++ [x]) (fun a=> .inl a) (fun i a=>a.length<=1048577+i) (fun a ha=>by
  rw[r8m];simp only[t83,u0b,Am,Ah,Aa]) (fun i hi a ha=>by
  have hc:Nat.ble (a.length+([l[i]] :Hu u2m.den).length) z7z=true:=by
   rw[Nat.ble_eq];simp only[Bc,Cc,z7z];omega
  rw[r8m];simp only[t83,u0b,hi,Ae,Ad,y8h hi,zTn,y9a hi];rw[y7x (by omega),hc];cases hq:y3i l[i].1 w.1 || z7q l[i].1 w.1 with
  | true=>simp only[Ap,Aa,Bl];refine⟨by omega,?_⟩;trivial | false=>simp only[Bh,Ad,Br,Bk];refine⟨by simp;omega,?_⟩;trivial)
 have key:∀(l:Hu u2m.den) (a:Hu u2m.den),l.foldl (fun(a:Hu u2m.den) x=>if y3i x.1 w.1 || z7q x.1 w.1 then a else a++ [x]) a=a++l.filter (fun x=> !(y3i x.1 w.1 || z7q x.1 w.1)):=by
  intro l
  induction l with
  | nil=>intro a;simp | cons x l ih=>
   intro a;simp only[Bs,ih,Di];cases hq:y3i x.1 w.1 || z7q x.1 w.1<;>simp
 have hlen:(l.filter (fun x=>y3i x.1 w.1)).length<=l.length:=Cs _ _;have L2' :=L2 (l.filter (fun x=>y3i x.1 w.1)++ [w]) (by simp;omega);rw[key] at L2';have hc:Nat.ble ((l.filter (fun x=>y3i x.1 w.1)).length+([w] :Hu u2m.den).length) z7z=true:=by
  rw[Nat.ble_eq];simp only[Bc,Cc,z7z];omega
 rw[o2v];unfold q5e;simp only[L1,zOb];rw[hc];simp only[Ad,L2',zOb];rfl
theorem j7g {l:Hu u2m.den} {w x:u2m.den} (h:x∈p1x l w):x∈l\/x=w:=by
 unfold p1x at h;simp only[Bi,Ay,A6,A8,Ep,Em] at h;rcases h with h | h | h
 .exact .inl h.1
 .exact .inr h
 .exact .inl h.1
theorem j7f (l:Hu u2m.den) (w:u2m.den):(p1x l w).length<=l.length+1:=by
 have:∀l:Hu u2m.den,(l.filter (fun x=>y3i x.1 w.1)).length+(l.filter (fun x=> !(y3i x.1 w.1 || z7q x.1 w.1))).length<=l.length:=by
  intro l
  induction l with
  | nil=>simp | cons x l ih=>
   simp only[Di];cases y3i x.1 w.1<;>cases z7q x.1 w.1<;>simp only[Ew,Fp,Ap,Bh,Bl,Bk,Br,Bc] <;>omega
 unfold p1x;have:=this l;simp only[Ba,Bc,Cc];omega
def KD (l:Hu u2m.den):Prop:=l.Pairwise fun a b=>a.1≠b.1
def c1w (t:u01.den):Prop:=t.2.2.2.2.1.length<=3/\(∀r∈t.2.2.2.2.1,r.1.size<=2/\r.2.size<=2)/\t.2.2.2.2.2.1.length<=3/\(∀r∈t.2.2.2.2.2.1,r.1.size<=2/\r.2.1.size<=3)/\t.2.2.2.2.2.2.2.size<=16
def tId (t:u01.den):Int:=t.1
def tSt (t:u01.den):Int:=t.2.1
def c1x (t:u01.den):Int:=t.2.2.1
def tCs (t:u01.den):Int:=t.2.2.2.1
def d7t (t:u01.den):Prop:=tSt t=3/\c1x t<tCs t/\KD t.2.2.2.2.2.1
def d71 (l:Hu u01.den):Prop:=(∀t∈l,d7t t)/\l.Pairwise fun a b=>tId a≠tId b/\tCs a<tCs b
def c5l (m:Hu PrT):Prop:=m.Pairwise fun a b=>y3i a.1 b.1=true
def c1u (P:Hu u01.den):Hu PrT:=P.foldl (fun m t=>d5k m t.2.2.2.2.2.1) []
theorem d2i {l:Hu u4n} {v x:u4n} :x∈j7e l v↔x=v\/x∈l:=by
 unfold j7e
 conv=>rhs;rw[←Fe (p:=t1i v) (l:=l)]
 simp only[Ay,Ax];constructor
 .rintro((h | h) | h)
  .exact .inr (.inl h)
  .exact .inl h
  .exact .inr (.inr h)
 .rintro(h | h | h)
  .exact .inl (.inr h)
  .exact .inl (.inl h)
  .exact .inr h
theorem p4h {x:u4n} :∀(ws:Hu u2m.den) (l:Hu u4n) (cs:Int),x∈r7x l ws cs↔x∈l\/ ∃w∈ws,x=(w.1,w.2.1,w.2.2,cs)
 | [],l,cs=>by simp[r7x]
 | w::ws,l,cs=>by
  have e:r7x l (w::ws) cs=r7x (j7e l (w.1,w.2.1,w.2.2,cs)) ws cs:=rfl;rw[e,p4h ws,d2i];constructor
  .rintro((h | h) | ⟨y,hy,h⟩)
   .exact .inr ⟨w,by simp,h⟩
   .exact .inl h
   .exact .inr ⟨y,by simp[hy],h⟩
  .rintro(h | ⟨y,hy,h⟩)
   .exact .inl (.inr h)
   .rcases A8.mp hy with rfl | hy
    .exact .inl (.inl h)
    .exact .inr ⟨y,hy,h⟩
def vCs (x:u4n):Int:=x.2.2.2
theorem twl {E:Type} (p:E->Bool):∀(l:Hu E),(l.takeWhile p).length<=l.length/\(∀(i:Nat) (h:i<l.length),i<(l.takeWhile p).length->p l[i] =true)/\
 (∀(h:(l.takeWhile p).length<l.length),p l[(l.takeWhile p).length] =false)
 | [] =>⟨Au _,fun i h=>absurd h (Ee i),fun h=>absurd h (Ee _)⟩ | x::l=>by
  obtain⟨h1,h2,h3⟩:=twl p l;cases hp:p x with
  | false=>
   simp only[F8,hp,Br,Bk,Cc];exact⟨Cn _,fun i _ h=>absurd h (Ee i),fun _=>hp⟩
  | true=>
   simp only[F8,hp,Bl,Bc];refine⟨by omega,fun i h k=> ?_,fun h=> ?_⟩
   .cases i with
    | zero=>exact hp | succ i=>simpa using h2 i (by simpa using h) (by omega)
   .simpa using h3 (by omega)
def u0o {E:Type} (p:E->Bool) (l:Hu E):Nat:=(l.takeWhile fun x=> !p x).length
theorem t2l {E:Type} (p:E->Bool) (l:Hu E):u0o p l<=l.length:=(twl _ l).1
theorem u9n {E:Type} {p:E->Bool} {l:Hu E} {i:Nat} (h:i<l.length) (hi:i<u0o p l):p l[i] =false:=by
 have:=(twl (fun x=> !p x) l).2.1 i h hi;simpa using this
theorem u9u {E:Type} {p:E->Bool} {l:Hu E} (h:u0o p l<l.length):p l[u0o p l] =true:=by
 unfold u0o at h ⊢;have:=(twl (fun x=> !p x) l).2.2 h;simpa using this
theorem u9t {E:Type} (p:E->Bool) (l:Hu E):decide (u0o p l<l.length)=l.any p:=by
 cases hc:l.any p with
 | true=>
  obtain⟨x,hx,hp⟩:=Cm.mp hc;obtain⟨i,hi,rfl⟩:=B7 hx;have: ¬i<u0o p l:=fun q=>by rw[u9n hi q] at hp;cases hp
  simp only[Ar];omega
 | false=>
  simp only[Bu];intro h;have:=u9u h;have:=Ct.mp hc _ (Ag h);contradiction
theorem Q.first {T:Ty} {c:Type} {q:T.den×c->Ht Bool} {p:T.den->Bool} {W:Hu T.den×c×Int×Int->Ht (Unit⊕Int)}
 (hW:∀x,W x=(bif (decide (x.2.2.2<x.2.2.1)) then(bif (y4v x.2.2.2 x.1.length) then((q ((rdL T x.1 (x.2.2.2).toNat),x.2.1)).bind fun(y1:Bool)=>(bif y1 then(some (.inr x.2.2.2)) else(W (x.1,(x.2.1,(x.2.2.1,(i64.wrap (x.2.2.2+(1:Int))))))))) else none) else(some (.inl ()))))
 (l:Hu T.den) (k:c) (hl:l.length<=1099511627776) (hq:∀x∈l,q (x,k)=some (p x)):
 W (l,k,(l.length:Int),0)=some (if u0o p l<l.length then .inr ((u0o p l:Nat):Int) else .inl ()):=by
 have hle:=t2l p l
 have:=q4a W (u0o p l) (fun(_:Unit) i=>(l,k,(l.length:Int),i)) (fun _ _=>if u0o p l<l.length then .inr ((u0o p l:Nat):Int) else .inl ()) (fun _ _=>True)
  (fun a _=>by
   rw[hW];by_cases hk:u0o p l<l.length
   .simp only[u0b,hk,Ae,Ad,y8h hk,zTn,y9a hk,hq _ (Ag hk),u9u hk,zOb,Bl]
   .simp only[u0b,hk,Ah,Aa,Bk])
  (fun i a hi _=> .inr ⟨(),trivial,rfl,by
   have hil:i<l.length:=by omega
   rw[hW];simp only[u0b,hil,Ae,Ad,y8h hil,zTn,y9a hil,hq _ (Ag hil),u9n hil hi,zOb,Aa];rw[y7x (by omega)]⟩) 0 () (Cn _) trivial
 exact this
theorem Q.delete {T:Ty} {c R:Type} {q:T.den×c->Ht Bool} {p:T.den->Bool} {W:Hu T.den×c×Int×Int->Ht ((Hu T.den×Int)⊕R)}
 (hW:∀x,W x=(bif (decide (x.2.2.2<(x.1.length:Int))) then(bif (y4v x.2.2.2 x.1.length) then((q ((rdL T x.1 (x.2.2.2).toNat),x.2.1)).bind fun(y2:Bool)=>(bif (!y2) then(bif (y4v x.2.2.1 x.1.length) then(W ((x.1.set (x.2.2.1).toNat (rdL T x.1 (x.2.2.2).toNat)),(x.2.1,((i64.wrap (x.2.2.1+(1:Int))),(i64.wrap (x.2.2.2+(1:Int))))))) else none) else(W (x.1,(x.2.1,(x.2.2.1,(i64.wrap (x.2.2.2+(1:Int))))))))) else none) else(some (.inl (x.1,x.2.2.1)))))
 (l:Hu T.den) (k:c) (hl:l.length<=1099511627776) (hq:∀x∈l,q (x,k)=some (p x)) (hf:u0o p l<l.length):
 ∃a:Hu T.den,W (l,k,((u0o p l:Nat):Int),((u0o p l+1:Nat):Int))=some (.inl (a,((l.filter fun x=> !p x).length:Int)))/\a.length=l.length/\a.take (l.filter fun x=> !p x).length=l.filter fun x=> !p x:=by
 have key:∀(d j:Nat) (a:Hu T.den),j+d=l.length->a.length=l.length->a.drop j=l.drop j->((l.take j).filter fun x=> !p x).length<=j->((l.take j).filter fun x=> !p x).length<l.length->a.take ((l.take j).filter fun x=> !p x).length=(l.take j).filter (fun x=> !p x)->
  ((l.take j).filter fun x=> !p x).length<j->
  ∃a' :Hu T.den,W (a,k,(((l.take j).filter fun x=> !p x).length:Int),(j:Int))=some (.inl (a',((l.filter fun x=> !p x).length:Int)))/\a'.length=l.length/\a'.take (l.filter fun x=> !p x).length=l.filter fun x=> !p x:=by
  intro d
  induction d with
  | zero=>
   intro j a hj ha h1 h2 h3 h4 h5;have e:j=l.length:=by omega
   subst e;rw[Cq] at h4 ⊢;rw[hW];simp only[ha,u0b,Am,Ah,Aa];exact⟨a,rfl,ha,h4⟩
  | succ d ih=>
   intro j a hj ha h1 h2 h3 h4 h5;have hjl:j<l.length:=by omega
   have hja:j<a.length:=by omega
   have haj:a[j] =l[j] :=by
    have e1:=Ce hja;have e2:=Ce hjl;rw[h1,e2] at e1;injection e1 with e1 _
    exact e1.symm
   have hs:l.take (j+1)=l.take j++ [l[j]] :=B9 hjl;have hd:a.drop (j+1)=l.drop (j+1):=by
    have:=Dj List.tail h1;simpa using this
   rw[hW];simp only[u0b,hja,Ae,Ad,y8h hja,zTn,y9a hja,haj,hq _ (Ag hjl),zOb];rw[y7x (i:=j) (by omega)];cases hp:p l[j] with
   | true=>
    simp only[Ap,Aa];have e:(l.take (j+1)).filter (fun x=> !p x)=(l.take j).filter fun x=> !p x:=by rw[hs,Hl,Di];simp only[hp,Ap,Br,Bk,List.filter_nil,Bw]
    have:=ih (j+1) a (by omega) ha hd (by rw[e];omega) (by rw[e];exact h3) (by rw[e];exact h4) (by rw[e];omega)
    rwa [e] at this
   | false=>
    have e:(l.take (j+1)).filter (fun x=> !p x)=(l.take j).filter (fun x=> !p x)++ [l[j]] :=by rw[hs,Hl,Di];simp only[hp,Bh,Bl,List.filter_nil]
    have el:((l.take (j+1)).filter fun x=> !p x).length=((l.take j).filter fun x=> !p x).length+1:=by rw[e];simp
    have hia:((l.take j).filter fun x=> !p x).length<a.length:=by omega
    simp only[Bh,Ad,y8h hia];rw[y7x (i:=((l.take j).filter fun x=> !p x).length) (by omega)];have:=ih (j+1) (a.set ((l.take j).filter fun x=> !p x).length l[j]) (by omega) (by simpa using ha) (by
     rw[List.drop_set_of_lt (by omega)];exact hd) (by rw[el];omega) (by rw[el];omega) (by
     rw[el,B9 (by simpa using hia),e];congr 1
     .rw[List.take_set_of_le (Au _)];exact h4
     .simp) (by rw[el];omega)
    rwa [el] at this
 have hk:=t2l p l;have e:(l.take (u0o p l+1)).filter (fun x=> !p x)=l.take (u0o p l):=by
  rw[B9 hf,Hl];have h1:(l.take (u0o p l)).filter (fun x=> !p x)=l.take (u0o p l):=by
   rw[F9];intro x hx;obtain⟨i,hi,rfl⟩:=B7 hx;have hi' :i<u0o p l:=by have:=hi;rw[Ec] at this;omega
   rw[Fc,u9n (by omega) hi'];rfl
  rw[h1];simp[u9u hf]
 have el:((l.take (u0o p l+1)).filter fun x=> !p x).length=u0o p l:=by rw[e,Ec];omega
 have:=key (l.length - (u0o p l+1)) (u0o p l+1) l (by omega) rfl rfl (by rw[el];omega) (by rw[el];exact hf) (by rw[el,e]) (by rw[el];omega)
 rwa [el] at this
def j7a (x y:u0e):Bool:=decide (x.2.1=3)&&decide (x.2.2.2.1<=y.2.2.1)
def o1c (a b:u0e):Bool:= !decide (a.1=b.1)&&(!j7a a b&& !j7a b a)
def ahead (a b:u0e):Bool:=o1c a b&&p15 a.2.2.2.2.1 b.2.2.2.2.2.1
def p6h (t:u0e) (l:Hu u0e):Bool:=l.any fun x=>decide (x.2.1=3)&&ahead t x
theorem j43 (a b:u0e):r9r (a,b)=some (o1c a b):=by
 rw[o91];unfold p20 o1c j7a;by_cases h1:a.1=b.1
 .simp[h1]
 .by_cases h2:a.2.1=3<;>by_cases h3:a.2.2.2.1<=b.2.2.1<;>by_cases h4:b.2.1=3<;>by_cases h5:b.2.2.2.1<=a.2.2.1<;>simp[h1,h2,h3,h4,h5]
theorem j42 (a b:u0e):r9g (a,b)=some (o1c a b):=by
 rw[o9i];unfold p2g;simp only[o1m,q4h];unfold o1c j7a;by_cases h1:a.1=b.1
 .simp[h1]
 .by_cases h2:a.2.1=3<;>by_cases h3:a.2.2.2.1<=b.2.2.1<;>by_cases h4:b.2.1=3<;>by_cases h5:b.2.2.2.1<=a.2.2.1<;>simp[h1,h2,h3,h4,h5]
theorem t8k (a b:u0e) (ha:a.2.2.2.2.1.length<=u0i) (hb:b.2.2.2.2.2.1.length<=u0i):u31 (a,b)=some (ahead a b):=by
 rw[j25];unfold p7e ahead;have h1:=j43 a b;have h2:=j2g _ _ ha hb;simp only[h2,zOb];rw[h1];cases o1c a b<;>rfl
theorem t5r (a b:u0e) (ha:a.2.2.2.2.1.length<=u0i) (hb:b.2.2.2.2.2.1.length<=u0i):u4x (a,b)=some (ahead a b):=by
 rw[j2o];unfold p61 ahead;have h1:=j42 a b;have h2:=j2f _ _ ha hb;simp only[h2,zOb];rw[h1];cases o1c a b<;>rfl
def s71 (t:u0e):Prop:=t.2.2.2.2.1.length<=1048576/\t.2.2.2.2.2.1.length<=1048576
def q7l (l:Hu u0e):Prop:=l.length<=4194304/\ ∀t∈l,s71 t
theorem t1p {n:Nat} (h:n<=1048576):n<=u0i:=by unfold u0i;omega
theorem p5i (t:u0e) (l:Hu u0e) (ht:s71 t) (hl:q7l l):s7q (t,l)=some (p6h t l):=by
 obtain⟨l1,l2⟩:=hl
 have L:=s5c s6l l (fun i=>(l,t,i)) (fun x=>decide (x.2.1=3)&&ahead t x) (.inr true) (.inl ())
  (by rw[p06];simp only[s6d,u0b,Am,Ah,Aa])
  (fun i hi=>by
   have h1:=t8k t l[i] (t1p ht.1) (t1p (l2 _ (Ag hi)).2);rw[p06];simp only[s6d,u0b,hi,Ae,Ad,y8h hi,zTn,y9a (t:=u01) hi,h1,zOb];rw[y7x (by omega)];cases decide (l[i].2.1=3)<;>cases ahead t l[i] <;>rfl)
 rw[j3d];unfold p7l p6h;simp only[L,zOb];cases l.any fun x=>decide (x.2.1=3)&&ahead t x<;>rfl
theorem p5h (t:u0e) (l:Hu u0e) (ht:s71 t) (hl:q7l l):s7n (t,l)=some (p6h t l):=by
 obtain⟨l1,l2⟩:=hl;have hq:∀x∈l,s6t (x,t)=some (decide (x.2.1=3)&&ahead t x):=fun x hx=>by
  have h1:=t5r t x (t1p ht.1) (t1p (l2 x hx).2);rw[o5e];unfold q8m;simp only[s4g,s4a,zOb,h1];cases decide (x.2.1=3)<;>rfl
 have L:=Q.first (T:=u01) (c:=u0e) (W:=u12) (q:=s6t) (p:=fun x:u0e=>decide (x.2.1=3)&&ahead t x) (fun x=>t5q x) l t (by omega) hq;rw[j2v];unfold p68 p6h;simp only[r6w,s3g,t33,u5t,t7c,u7j,L,zOb];rw[←u9t];by_cases h:u0o (fun x:u0e=>decide (x.2.1=3)&&ahead t x) l<l.length
 .simp[h]
 .simp[h]
theorem t4i (t:u0e) (h:s71 t):u05 t=some t:=by
 rw[p0e];unfold r4z;simp only[Cc,Co,Cf,u0w (show t.2.2.2.2.1.length<=1099511627776 by have:=h.1;omega),u0w (show t.2.2.2.2.2.1.length<=1099511627776 by have:=h.2;omega),Ad]
theorem s69 (t:u0e) (h:s71 t):u2n t=some t:=by
 rw[o5s];unfold q80;simp only[u0w (show t.2.2.2.2.1.length<=1099511627776 by have:=h.1;omega),u0w (show t.2.2.2.2.2.1.length<=1099511627776 by have:=h.2;omega),Ad]
theorem p1b (l:Hu u0e) (h:q7l l):s04 l=some l:=by
 have L:=s98 s2l l (fun a i=>(l,a,i)) (fun _=>true) (fun x=>x) (fun a=> .inl a) (by have:=h.1;omega)
  (fun a _=>by rw[q3p];simp only[s17,u0b,Am,Ah,Aa])
  (fun i hi a ha=>by
   have h1:=t4i l[i] (h.2 _ (Ag hi));have:=h.1;rw[q3p];simp only[s17,u0b,hi,Ae,Ad,y8h hi,zTn,y9a (t:=u01) hi,h1,zOb,Aw,u0w (show a.length+1<=1099511627776 by omega)];rw[y7x (by omega)])
 rw[o6q];unfold q9x;simp only[L,zOb];simp
theorem r8y (l:Hu u0e) (h:q7l l):t2r l=some l:=by
 have L:=s98 t9l l (fun a i=>(a,l,(l.length:Int),i)) (fun _=>true) (fun x=>x) (fun a=> .inl a) (by have:=h.1;omega)
  (fun a _=>by rw[r8d];simp only[t8u,u0b,Am,Ah,Aa])
  (fun i hi a ha=>by
   have h1:=s69 l[i] (h.2 _ (Ag hi));have:=h.1;rw[r8d];simp only[t8u,u0b,hi,Ae,Ad,y8h hi,zTn,y9a (t:=u01) hi,h1,zOb,Aw,u0w (show a.length+1<=1099511627776 by omega)];rw[y7x (by omega)])
 rw[o2g];unfold q40;simp only[L,zOb];simp
abbrev u0m:=Hu u4n×Hu u0e×Hu u0e×Int×Int
def fewB (b:u0m):Prop:=b.1.length<=4194304/\q7l b.2.1/\q7l b.2.2.1
theorem s5n (b:u0m) (h:fewB b):u4b b=some b:=by
 have h1:=p1b b.2.1 h.2.1;have h2:=p1b b.2.2.1 h.2.2;rw[o6p];unfold q9w;simp only[Cc,Co,Cf,u0w (show b.1.length<=1099511627776 by have:=h.1;omega),Ad,h1,h2,zOb]
theorem s5m (b:u0m) (h:fewB b):u13 b=some b:=by
 have h1:=r8y b.2.1 h.2.1;have h2:=r8y b.2.2.1 h.2.2;rw[o2e];unfold q4y;simp only[u0w (show b.1.length<=1099511627776 by have:=h.1;omega),Ad,h1,h2,zOb]
def s84 (b:u0m) (open_:Hu u0e):Int:=open_.foldl (fun m t=>if t.2.2.1<m then t.2.2.1 else m) b.2.2.2.1
theorem j5d (b:u0m) (o:Hu u0e) (h:o.length<=4194304):r1j (b,o)=some (s84 b o):=by
 have L:=t13 t9p o (fun a i=>(o,a,i)) (fun(m:Int) t=>if t.2.2.1<m then t.2.2.1 else m) (fun a=> .inl a) (fun _ _=>True)
  (fun a _=>by rw[r8k];simp only[t81,u0b,Am,Ah,Aa])
  (fun i hi a _=>by
   refine⟨trivial,?_⟩;rw[r8k];simp only[t81,u0b,hi,Ae,Ad,y8h hi,zTn,y9a (t:=u01) hi];rw[y7x (by omega)];by_cases hc:o[i].2.2.1<a
   .simp only[hc,Ae,Ad,Bl]
   .simp only[hc,Ah,Aa,Bk]) b.2.2.2.1 trivial
 rw[o2u];unfold q5d;simp only[L,zOb];rfl
theorem j5c (b:u0m) (o:Hu u0e) (h:o.length<=4194304):r06 (b,o)=some (s84 b o):=by
 have L:=t13 t9g o (fun a i=>(a,o,(o.length:Int),i)) (fun(m:Int) t=>if t.2.2.1<m then t.2.2.1 else m) (fun a=> .inl a) (fun _ _=>True)
  (fun a _=>by rw[r76];simp only[t8n,u0b,Am,Ah,Aa])
  (fun i hi a _=>by
   refine⟨trivial,?_⟩;rw[r76];simp only[t8n,u0b,hi,Ae,Ad,y8h hi,zTn,y9a (t:=u01) hi];rw[y7x (by omega)];have e:y8y a o[i].2.2.1=if o[i].2.2.1<a then o[i].2.2.1 else a:=by
    unfold y8y;split<;>rfl
   rw[e]) b.2.2.2.1 trivial
 rw[o1s];unfold q4n;simp only[L,zOb];rfl
def u0l (b:u0m) (n:Hs):Int:=if u0o (fun x:u0e=>z7q x.2.2.2.2.2.2.2 n) b.2.2.1<b.2.2.1.length then((u0o (fun x:u0e=>z7q x.2.2.2.2.2.2.2 n) b.2.2.1:Nat):Int) else -1
theorem s3c (b:u0m) (n:Hs) (h:b.2.2.1.length<=4194304):u2c (b,n)=some (u0l b n):=by
 have hq:∀x∈b.2.2.1,s2s (x,n)=some (z7q x.2.2.2.2.2.2.2 n):=fun x _=>by
  rw[p8z];unfold q0i;rfl
 have L:=Q.first (T:=u01) (c:=Hs) (W:=u1q) (q:=s2s) (p:=fun x:u0e=>z7q x.2.2.2.2.2.2.2 n) (fun x=>t28 x) b.2.2.1 n (by omega) hq;rw[o5k];unfold q8s u0l;simp only[t5d,u6h,L,zOb];by_cases hk:u0o (fun x:u0e=>z7q x.2.2.2.2.2.2.2 n) b.2.2.1<b.2.2.1.length
 .simp only[Al hk,zOb]
 .simp only[Ao hk,zOb]
theorem s3d (b:u0m) (n:Hs) (h:b.2.2.1.length<=4194304):u2d (b,n)=some (u0l b n):=by
 have L:=q4a t40 (u0o (fun x:u0e=>z7q x.2.2.2.2.2.2.2 n) b.2.2.1) (fun(_:Unit) i=>(n,b,i)) (fun _ _=>if u0o (fun x:u0e=>z7q x.2.2.2.2.2.2.2 n) b.2.2.1<b.2.2.1.length then .inr ((u0o (fun x:u0e=>z7q x.2.2.2.2.2.2.2 n) b.2.2.1:Nat):Int) else .inl ()) (fun _ _=>True)
  (fun a _=>by
   have hle:=t2l (fun x:u0e=>z7q x.2.2.2.2.2.2.2 n) b.2.2.1;rw[q3h];by_cases hk:u0o (fun x:u0e=>z7q x.2.2.2.2.2.2.2 n) b.2.2.1<b.2.2.1.length
   .have hy:=u9u hk;simp only[t4k,u0b,hk,Ae,Ad,y8h hk,zTn,y9a (t:=u01) hk,hy,Bl]
   .simp only[t4k,u0b,hk,Ah,Aa,Bk])
  (fun i a hi _=> .inr ⟨(),trivial,rfl,by
   have hle:=t2l (fun x:u0e=>z7q x.2.2.2.2.2.2.2 n) b.2.2.1;have hil:i<b.2.2.1.length:=by omega
   have hn:=u9n hil hi;rw[q3h];simp only[t4k,u0b,hil,Ae,Ad,y8h hil,zTn,y9a (t:=u01) hil,hn,Aa];rw[y7x (by omega)]⟩) 0 () (Cn _) trivial
 have L:t40 (n,b,0)=_:=L;rw[o6a];unfold q9g u0l;simp only[L,zOb];by_cases hk:u0o (fun x:u0e=>z7q x.2.2.2.2.2.2.2 n) b.2.2.1<b.2.2.1.length
 .simp only[Al hk]
 .simp only[Ao hk]
def d49 (l:Hu u4n) (snap:Int) (i:Nat):Bool:=decide ((rdL u0g l i).2.2.2 >snap) || decide (s5h l (rdL u0g l i).1 snap=(i:Int))
def trA (l:Hu u4n) (snap:Int):Nat->Hu u4n
 | 0=> [] | n+1=>if d49 l snap n=true then trA l snap n++ [rdL u0g l n] else trA l snap n
theorem p6m (l:Hu u4n) (snap:Int):∀n,(trA l snap n).length<=n
 | 0=>Au _ | n+1=>by
  have:=p6m l snap n;simp only[trA];split
  .simp;omega
  .omega
def d3z (l:Hu u4n) (k:Hs):Nat:=(l.filter fun v=>z7q v.1 k).length
def d0c (l:Hu u4n) (snap:Int) (v:u4n):Bool:= !v.2.2.1 || (decide (v.2.2.2 >snap) || decide ((d3z l v.1:Int) >1))
def q61 (l:Hu u4n) (snap:Int):Hu u4n:=(trA l snap l.length).filter (d0c (trA l snap l.length) snap)
theorem j8s (l:Hu u4n) (snap:Int) (hl:l.length<=8388608):t42 (l,snap, [],0)=some (.inl (snap,trA l snap l.length)):=
 r87 t42 l.length (fun a i=>(l,snap,a,i)) (fun i=>trA l snap i) (.inl (snap,trA l snap l.length))
  (by rw[q3l];simp only[s13,u0b,Am,Ah,Aa])
  (fun i hi=>by
   have hL:=o3u l (rdL u0g l i).1 snap (by omega);have hn:=p6m l snap i;rw[q3l];simp only[s13,u0b,hi,Ae,Ad,y8h hi,zTn,hL,zOb,Aw,u0w (show(trA l snap i).length+1<=1099511627776 by omega)];rw[y7x (by omega)];simp only[trA,d49];by_cases h1:(rdL u0g l i).2.2.2 >snap
   .simp[h1]
   .by_cases h2:s5h l (rdL u0g l i).1 snap=(i:Int)<;>simp[h1,h2])
theorem j8r (l:Hu u4n) (snap:Int) (hl:l.length<=8388608):t4r (l,snap, [],l,(l.length:Int),0)=some (.inl (snap,trA l snap l.length)):=
 r87 t4r l.length (fun a i=>(l,snap,a,l,(l.length:Int),i)) (fun i=>trA l snap i) (.inl (snap,trA l snap l.length))
  (by rw[q21];simp only[s1j,u0b,Am,Ah,Aa])
  (fun i hi=>by
   have hL:=o3t l (rdL u0g l i).1 snap (by omega);have hn:=p6m l snap i;rw[q21];simp only[s1j,u0b,hi,Ae,Ad,y8h hi,zTn,hL,zOb,Aw,u0w (show(trA l snap i).length+1<=1099511627776 by omega)];rw[y7x (by omega)];simp only[trA,d49];by_cases h1:(rdL u0g l i).2.2.2 >snap
   .simp[h1]
   .by_cases h2:s5h l (rdL u0g l i).1 snap=(i:Int)<;>simp[h1,h2])
theorem o1d (k:Hs):∀(l:Hu u4n) (a:Nat),l.foldl (fun(a:Nat) v=>if z7q v.1 k=true then a+1 else a) a=a+d3z l k
 | [],a=>by simp[d3z]
 | x::l,a=>by
  rw[Bs,o1d k l];unfold d3z;cases hc:z7q x.1 k with
  | true=>simp[Di,hc];omega | false=>simp[Di,hc]
theorem j8u (s out:Hu u4n) (snap:Int) (i:Nat) (hi:i<s.length) (hl:s.length<=8388608):
 t2d (snap,s,out,(i:Int),0,0)=some (.inl (snap,s,out,(i:Int),(d3z s s[i].1:Int))):=by
 have L:=t13 t2d s (fun(a:Nat) j=>(snap,s,out,(i:Int),(a:Int),j)) (fun(a:Nat) v=>if z7q v.1 s[i].1=true then a+1 else a) (fun a=> .inl (snap,s,out,(i:Int),(a:Int))) (fun j a=>a<=j)
  (fun a _=>by rw[r8s];simp only[t89,u0b,Am,Ah,Aa])
  (fun j hj a ha=>by
   rw[r8s];simp only[t89,u0b,hj,Ae,Ad,y8h hj,y8h hi,zTn,y9a (t:=u0g) hj,y9a (t:=u0g) hi];rw[y7x (i:=j) (by omega),y7x (i:=a) (by omega)];cases z7q s[j].1 s[i].1 with
   | true=>simp only[Ad,Bl];exact⟨by omega,trivial⟩ | false=>simp only[Aa,Br,Bk];exact⟨by omega,trivial⟩) 0 (Cn _)
 rw[o1d,Co] at L;exact L
theorem j8t (s:Hu u4n) (k:Hs) (hl:s.length<=8388608):s8c (k,s)=some (d3z s k:Int):=by
 have L:=t13 t0s s (fun(a:Nat) j=>(k,(a:Int),s,(s.length:Int),j)) (fun(a:Nat) v=>if z7q v.1 k=true then a+1 else a) (fun a=> .inl (a:Int)) (fun j a=>a<=j)
  (fun a _=>by rw[r4d];simp only[t6d,u0b,Am,Ah,Aa])
  (fun j hj a ha=>by
   rw[r4d];simp only[t6d,u0b,hj,Ae,Ad,y8h hj,zTn,y9a (t:=u0g) hj];rw[y7x (i:=j) (by omega),y7x (i:=a) (by omega)];cases z7q s[j].1 k with
   | true=>simp only[Ad,Bl];exact⟨by omega,trivial⟩ | false=>simp only[Aa,Br,Bk];exact⟨by omega,trivial⟩) 0 (Cn _)
 rw[o1d,Co] at L;have L:t0s (k,0,s,(s.length:Int),0)=_:=L;rw[p86];unfold q0o;simp only[L,zOb]
theorem j2i (l:Hu u4n) (snap:Int) (hl:l.length<=8388608):r5t (l,snap)=some (q61 l snap):=by
 have hs:(trA l snap l.length).length<=8388608:=A9 (p6m _ _ _) hl;obtain⟨s,hse⟩:∃s,s=trA l snap l.length:=⟨_,rfl⟩;rw[←hse] at hs
 have L:=s98 t9s s (fun a i=>(snap,s,a,i)) (d0c s snap) (fun v=>v) (fun a=> .inl a) (by omega)
  (fun a _=>by rw[r8r];simp only[t88,u0b,Am,Ah,Aa])
  (fun i hi a ha=>by
   rw[r8r];simp only[t88,u0b,hi,Ae,Ad,j8u s a snap i hi hs,zOb,y8h hi,zTn,y9a (t:=u0g) hi,Aw,u0w (show a.length+1<=1099511627776 by omega)];rw[y7x (by omega)];unfold d0c;cases h1:s[i].2.2.1 with
   | false=>simp | true=>
    by_cases h2:s[i].2.2.2 >snap
    .simp[h2]
    .by_cases h3:(d3z s s[i].1:Int) >1<;>simp[h2,h3])
 rw[Er] at L;have hA:=j8s l snap hl;rw[←hse] at hA;rw[o6e];unfold q9k q61;rw[←hse];simp only[hA,L,zOb]
theorem j2h (l:Hu u4n) (snap:Int) (hl:l.length<=8388608):r5k (l,snap)=some (q61 l snap):=by
 have hs:(trA l snap l.length).length<=8388608:=A9 (p6m _ _ _) hl;obtain⟨s,hse⟩:∃s,s=trA l snap l.length:=⟨_,rfl⟩;rw[←hse] at hs
 have L:=s98 t9j s (fun a i=>(snap,s,a,s,(s.length:Int),i)) (d0c s snap) (fun v=>v) (fun a=> .inl a) (by omega)
  (fun a _=>by rw[r8a];simp only[t8r,u0b,Am,Ah,Aa])
  (fun i hi a ha=>by
   rw[r8a];simp only[t8r,u0b,hi,Ae,Ad,j8t s _ hs,zOb,y8h hi,zTn,y9a (t:=u0g) hi,Aw,u0w (show a.length+1<=1099511627776 by omega)];rw[y7x (by omega)];unfold d0c;cases h1:s[i].2.2.1 with
   | false=>simp | true=>
    by_cases h2:s[i].2.2.2 >snap
    .simp[h2]
    .by_cases h3:(d3z s s[i].1:Int) >1<;>simp[h2,h3])
 rw[Er] at L;have hA:=j8r l snap hl;rw[←hse] at hA;rw[o5o];unfold q8w q61;rw[←hse];simp only[hA,L,zOb]
theorem j6d (l:Hu u4n) (snap:Int):(q61 l snap).length<=l.length:=A9 (Cs _ _) (p6m _ _ _)
def vLt (a b:u4n):Prop:=y3i a.1 b.1=true\/(a.1=b.1/\vCs a<vCs b)
def d4v (l:Hu u4n):Prop:=l.Pairwise vLt
theorem d5x (a b:u4n) (h: ¬(a.1=b.1/\vCs a=vCs b)):vLt a b\/vLt b a:=by
 rcases p6j a.1 b.1 with c | c | c
 .exact .inl (.inl c)
 .rcases Int.lt_trichotomy (vCs a) (vCs b) with d | d | d
  .exact .inl (.inr ⟨c,d⟩)
  .exact absurd ⟨c,d⟩ h
  .exact .inr (.inr ⟨c.symm,d⟩)
 .exact .inr (.inl c)
def c5f (l:Hu u4n) (s:Int) (x:u4n):Prop:=vCs x<=s/\ ∀y∈l,y.1=x.1->vCs y<=s->vCs y<=vCs x
theorem d01 (l:Hu u4n) (s:Int):∀n,n<=l.length->(trA l s n).Sublist (l.take n)
 | 0,_=>by simp[trA]
 | n+1,h=>by
  have ih:=d01 l s n (by omega);have hn:n<l.length:=by omega
  rw[B9 hn];simp only[trA];split
  .rw[y9a (t:=u0g) hn];exact ih.append (Dm _)
  .exact ih.trans (List.sublist_append_left _ _)
theorem o4m (l:Hu u4n) (s:Int):(q61 l s).Sublist l:=by
 have h:=d01 l s l.length (Au _);rw[Cq] at h;exact Fg.trans h
theorem d2q {l:Hu u4n} (hA:d4v l) {v:u4n} (hn:∀x∈l,¬(x.1=v.1/\vCs x=vCs v)):d4v (j7e l v):=by
 have le_iff:∀x:u4n,t1i v x=true↔(vLt x v\/(x.1=v.1/\vCs x=vCs v)):=fun x=>by
  unfold t1i vLt;rw[Cr,Ai,Ar];constructor
  .rintro(h | ⟨h1,h2⟩)
   .exact .inl (.inl h)
   .have h1:=y7r.mp h1;have h2:vCs x<=vCs v:=h2;rcases Int.lt_or_eq_of_le h2 with h2 | h2
    .exact .inl (.inr ⟨h1,h2⟩)
    .exact .inr ⟨h1,h2⟩
  .rintro((h | ⟨h1,h2⟩) | ⟨h1,h2⟩)
   .exact .inl h
   .exact .inr ⟨y7r.mpr h1,Int.le_of_lt h2⟩
   .exact .inr ⟨y7r.mpr h1,Int.le_of_eq h2⟩
 have tr:∀ {a b c:u4n},vLt a b->vLt b c->vLt a c:=fun {a b c} h k=>by
  rcases h with h | ⟨h,h'⟩<;>rcases k with k | ⟨k,k'⟩
  .exact .inl (p0x h k)
  .exact .inl (k ▸ h)
  .exact .inl (h ▸ k)
  .exact .inr ⟨h.trans k,by omega⟩
 unfold j7e d4v;have hsplit:l.takeWhile (t1i v)++l.dropWhile (t1i v)=l:=Fe;have hA' :(l.takeWhile (t1i v)++l.dropWhile (t1i v)).Pairwise vLt:=by rw[hsplit];exact hA
 obtain⟨p1,p2,p3⟩:=Cg.mp hA';have lo:∀x∈l.takeWhile (t1i v),vLt x v:=fun x hx=>by
  have h1:t1i v x=true:=by
   have:=List.all_takeWhile (p:=t1i v) (l:=l);exact Bg.mp this x hx
  have h2:x∈l:=(List.takeWhile_sublist _).subset hx;rcases(le_iff x).mp h1 with h | h
  .exact h
  .exact absurd h (hn x h2)
 have hi:∀x∈l.dropWhile (t1i v),vLt v x:=by
  intro x hx
  match hd:l.dropWhile (t1i v),hx,p2 with
  | [],hx,_=>cases hx | y::r,hx,p2=>
   have hy:t1i v y=false:=by
    have:=List.head?_dropWhile_not (t1i v) l;rw[hd] at this;simpa using this
   have hyl:y∈l:=(List.dropWhile_sublist (p:=t1i v)).subset (by rw[hd];simp);have hvy:vLt v y:=by
    rcases d5x y v (hn y hyl) with h | h
    .rw[(le_iff y).mpr (.inl h)] at hy;cases hy
    .exact h
   rcases A8.mp hx with rfl | hx
   .exact hvy
   .exact tr hvy ((Ch.mp p2).1 x hx)
 rw[Bi,Cg];refine⟨p1,?_,?_⟩
 .rw[Fs,Ch];exact⟨hi,p2⟩
 .intro x hx y hy;rcases Ay.mp hy with hy | hy
  .rw[Ax] at hy;subst hy;exact lo x hx
  .exact p3 x hx y hy
theorem j37 {cs:Int} :∀(ws:Hu u2m.den) {l:Hu u4n},d4v l->KD ws->(∀x∈l,∀w∈ws,¬(x.1=w.1/\vCs x=cs))->d4v (r7x l ws cs)
 | [],l,h,_,_=>h | w::ws,l,h,hk,hn=>by
  have hk' :=Ch.mp hk;have e:r7x l (w::ws) cs=r7x (j7e l (w.1,w.2.1,w.2.2,cs)) ws cs:=rfl;rw[e];refine j37 ws (d2q h fun x hx=>hn x hx w (by simp)) hk'.2 fun x hx z hz=> ?_
  rcases d2i.mp hx with rfl | hx
  .exact fun q=>hk'.1 z hz q.1
  .exact hn x hx z (by simp[hz])
abbrev s5b:=Hs×Hs
abbrev WrT:=Hs×Hs×Bool
abbrev u3m:=u0m×Hu u0e
def inB (x lo hi:Int):Bool:=decide (lo<=x)&&decide (x<=hi)
theorem p6g {x lo hi:Int} :inB x lo hi=true↔lo<=x/\x<=hi:=by simp[inB]
def t02 (s:Hs):Bool:=s.data.toList.all (fun b=>decide (97<=b.toNat)&&decide (b.toNat<=122))&&(decide (1<=s.size)&&decide (s.size<=3))
def u3a (r:s5b):Bool:=t02 r.1&&(t02 r.2&&(y3i r.1 r.2 || z7q r.1 r.2))
def u4c (w:WrT):Bool:=t02 w.1&&(decide (w.2.1.size<=12)&&(!w.2.2 || decide (w.2.1.size=0)))
def o45 (t:Ty) (lt:t.den->t.den->Bool) (l:Hu t.den):Bool:=(List.range l.length).all fun i=>decide (i=0) || lt (rdL t l (i - 1)) (rdL t l i)
def u59 (l:Hu WrT):Bool:=l.all u4c&&(o45 u2m (fun a b=>y3i a.1 b.1) l&&decide (l.length<=8))
def u92 (t:u0e):Bool:=
 inB t.1 1 9999&&(inB t.2.1 1 3&&(inB t.2.2.1 0 9999&&(decide (t.2.2.2.2.1.length<=8)&&(u59 t.2.2.2.2.2.1&&(t.2.2.2.2.1.all u3a&&
 ((if t.2.1=3 then inB t.2.2.2.1 (t.2.2.1+1) 9999 else decide (t.2.2.2.1=0))&&((if t.2.1=2 then t02 t.2.2.2.2.2.2.2 else decide (t.2.2.2.2.2.2.2.size=0))&&(!decide (t.2.1=1) || !t.2.2.2.2.2.2.1))))))))
def q64 (v:u4n):Bool:=t02 v.1&&(decide (v.2.1.size<=12)&&((!v.2.2.1 || decide (v.2.1.size=0))&&inB v.2.2.2 1 9999))
def r38 (a b:u4n):Bool:=y3i a.1 b.1 || (z7q a.1 b.1&&decide (a.2.2.2<b.2.2.2))
def u7h (l:Hu u4n):Bool:=l.all q64&&(o45 u0g r38 l&&decide (l.length<=120))
def p1n (l:Hu Int) (below:Int):Bool:=decide (∀x∈l,x<below)&&decide l.Nodup
def j7b (c:Int) (l:Hu u0e):Bool:=decide (l.length<=12)&&(l.all (fun t=>u92 t&&(decide (t.2.1=3)&&decide (t.2.2.2.1<=c)))&&o45 u01 (fun a b=>decide (a.2.2.2.1<b.2.2.2.1)) l)
def j02 (c:Int) (l:Hu u0e):Bool:=decide (l.length<=3)&&(l.all (fun t=>u92 t&&(decide (t.2.1=2)&&decide (t.2.2.1<=c)))&&o45 u01 (fun a b=>y3i a.2.2.2.2.2.2.2 b.2.2.2.2.2.2.2) l)
def j68 (c:Int) (l:Hu u0e):Bool:=decide (l.length<=4)&&(l.all (fun t=>u92 t&&(decide (t.2.1=1)&&decide (t.2.2.1<=c)))&&o45 u01 (fun a b=>decide (a.1<b.1)) l)
def u65 (l:Hu u0e):Hu Int:=l.map fun t=>t.1
def t0z (b:u0m):Bool:=u7h b.1&&(b.1.all (fun v=>decide (v.2.2.2<=b.2.2.2.1))&&(inB b.2.2.2.1 0 9999&&(inB b.2.2.2.2 1 9999&&(j7b b.2.2.2.1 b.2.1&&(j02 b.2.2.2.1 b.2.2.1&&p1n (u65 (b.2.1++b.2.2.1)) b.2.2.2.2)))))
def j8e (e:u3m):Bool:=t0z e.1&&(j68 e.1.2.2.2.1 e.2&&p1n (u65 (e.1.2.1++e.1.2.2.1++e.2)) e.1.2.2.2.2)
theorem o9a {t:Ty} {lt:t.den->t.den->Bool} (tr:∀a b c,lt a b=true->lt b c=true->lt a c=true) {l:Hu t.den} :o45 t lt l=true↔l.Pairwise fun a b=>lt a b=true:=by
 unfold o45;rw[Bg];constructor
 .intro h;have step:∀(i:Nat) (hi:i+1<l.length),lt l[i] l[i+1] =true:=fun i hi=>by
   have:=h (i+1) (Bq.mpr hi);rw[Cr,Ar] at this;rcases this with q | q
   .omega
   .rw[Nat.add_sub_cancel,y9a (show i<l.length by omega),y9a hi] at q;exact q
  rw[Cp];intro i j hi hj hij;obtain⟨d,rfl⟩:∃d,j=i+1+d:=⟨j - (i+1),by omega⟩;clear hij
  induction d with
  | zero=>exact step i hj | succ d ih=>exact tr _ _ _ (ih (by omega)) (step (i+1+d) hj)
 .intro h i hi;have hi:=Bq.mp hi;rw[Cr,Ar];by_cases e:i=0
  .exact .inl e
  .refine .inr ?_;rw[y9a (show i - 1<l.length by omega),y9a hi];exact Cp.mp h (i - 1) i (by omega) hi (by omega)
theorem u2y {s:Hs} (h:t02 s=true):1<=s.size/\s.size<=3:=by
 unfold t02 at h;simp only[Ai,Ar] at h;exact h.2
structure TxnR (t:u0e):Prop where
 id:1<=t.1/\t.1<=9999
 st:1<=t.2.1/\t.2.1<=3
 snap:0<=t.2.2.1/\t.2.2.1<=9999
 rlen:t.2.2.2.2.1.length<=8
 ws:u59 t.2.2.2.2.2.1=true
 rs:∀r∈t.2.2.2.2.1,u3a r=true
 done:t.2.1=3->t.2.2.1+1<=t.2.2.2.1/\t.2.2.2.1<=9999
 nocs:t.2.1≠3->t.2.2.2.1=0
 name:t.2.1=2->t02 t.2.2.2.2.2.2.2=true
 noname:t.2.1≠2->t.2.2.2.2.2.2.2.size=0
 out:t.2.1=1->t.2.2.2.2.2.2.1=false
theorem p4u {t:u0e} :u92 t=true↔TxnR t:=by
 unfold u92;simp only[Ai,Cr,p6g,Ar,Bg,Bj,Bu];constructor
 .rintro⟨h1,h2,h3,h4,h5,h6,h7,h8,h9⟩
  refine⟨h1,h2,h3,h4,h5,h6,fun e=> ?_,fun e=> ?_,fun e=> ?_,fun e=> ?_,fun e=> ?_⟩
  .rw[Al e,p6g] at h7;exact h7
  .rw[Ao e,Ar] at h7;exact h7
  .rw[Al e] at h8;exact h8
  .rw[Ao e,Ar] at h8;exact h8
  .rcases h9 with h9 | h9
   .exact absurd e h9
   .exact h9
 .intro h;refine⟨h.id,h.st,h.snap,h.rlen,h.ws,h.rs,?_,?_,?_⟩
  .split
   .rename_i e;rw[p6g];exact h.done e
   .rename_i e;rw[Ar];exact h.nocs e
  .split
   .rename_i e;exact h.name e
   .rename_i e;rw[Ar];exact h.noname e
  .by_cases e:t.2.1=1
   .exact .inr (h.out e)
   .exact .inl e
theorem d4a {l:Hu WrT} :u59 l=true↔(∀w∈l,u4c w=true)/\(l.Pairwise fun a b=>y3i a.1 b.1=true)/\l.length<=8:=by
 unfold u59;rw[Ai,Ai,Ar,Bg,o9a (t:=u2m) (lt:=fun a b=>y3i a.1 b.1) (fun a b c h k=>p0x h k)]
theorem d1d {l:Hu WrT} (h:u59 l=true):KD l:=
 (d4a.mp h).2.1.imp fun {a b} q e=>by rw[e,s8n] at q;cases q
theorem j8v {a b:u4n} :r38 a b=true↔vLt a b:=by
 unfold r38 vLt vCs;rw[Cr,Ai,Ar,y7r]
theorem d8f {a b c:u4n} (h:vLt a b) (k:vLt b c):vLt a c:=by
 rcases h with h | ⟨h,h'⟩<;>rcases k with k | ⟨k,k'⟩
 .exact .inl (p0x h k)
 .exact .inl (k ▸ h)
 .exact .inl (h ▸ k)
 .exact .inr ⟨h.trans k,by omega⟩
theorem d1n {l:Hu u4n} :u7h l=true↔(∀v∈l,q64 v=true)/\d4v l/\l.length<=120:=by
 unfold u7h;rw[Ai,Ai,Ar,Bg,o9a (t:=u0g) (lt:=r38) (fun a b c h k=>j8v.mpr (d8f (j8v.mp h) (j8v.mp k)))];unfold d4v;simp only[j8v]
theorem q53 {l:Hu Int} {n:Int} :p1n l n=true↔(∀x∈l,x<n)/\l.Nodup:=by
 unfold p1n;rw[Ai,Ar,Ar]
structure BaseR (b:u0m):Prop where
 vs:u7h b.1=true
 vcs:∀v∈b.1,v.2.2.2<=b.2.2.2.1
 cs:0<=b.2.2.2.1/\b.2.2.2.1<=9999
 next:1<=b.2.2.2.2/\b.2.2.2.2<=9999
 plen:b.2.1.length<=12
 past:∀t∈b.2.1,TxnR t/\t.2.1=3/\t.2.2.2.1<=b.2.2.2.1
 pasc:b.2.1.Pairwise fun x y=>x.2.2.2.1<y.2.2.2.1
 rlen:b.2.2.1.length<=3
 ready:∀t∈b.2.2.1,TxnR t/\t.2.1=2/\t.2.2.1<=b.2.2.2.1
 rasc:b.2.2.1.Pairwise fun x y=>y3i x.2.2.2.2.2.2.2 y.2.2.2.2.2.2.2=true
 below:∀x∈u65 (b.2.1++b.2.2.1),x<b.2.2.2.2
 nodup:(u65 (b.2.1++b.2.2.1)).Nodup
theorem c1m {l:Hu u0e} {f:u0e->Int} :o45 u01 (fun a b=>decide (f a<f b)) l=true↔l.Pairwise fun x y=>f x<f y:=by
 rw[o9a (t:=u01) (lt:=fun a b=>decide (f a<f b)) (fun a b c h k=>by simp only[Ar] at*;omega)];simp only[Ar]
theorem c5b {l:Hu u0e} :o45 u01 (fun a b=>y3i a.2.2.2.2.2.2.2 b.2.2.2.2.2.2.2) l=true↔l.Pairwise fun x y=>y3i x.2.2.2.2.2.2.2 y.2.2.2.2.2.2.2=true:=
 o9a (t:=u01) (lt:=fun a b=>y3i a.2.2.2.2.2.2.2 b.2.2.2.2.2.2.2) (fun a b c h k=>p0x h k)
theorem o7n {b:u0m} :t0z b=true↔BaseR b:=by
 unfold t0z j7b j02;simp only[Ai,p6g,Ar,Bg,p4u,q53,c5b];rw[c1m (f:=fun t=>t.2.2.2.1)];constructor
 .rintro⟨h1,h2,h3,h4,⟨h5,h6,h7⟩,⟨h8,h9,h10⟩,h11,h12⟩
  exact⟨h1,h2,h3,h4,h5,h6,h7,h8,h9,h10,h11,h12⟩
 .intro h;exact⟨h.vs,h.vcs,h.cs,h.next,⟨h.plen,h.past,h.pasc⟩,⟨h.rlen,h.ready,h.rasc⟩,h.below,h.nodup⟩
structure EngR (e:u3m):Prop where
 base:BaseR e.1
 olen:e.2.length<=4
 open_:∀t∈e.2,TxnR t/\t.2.1=1/\t.2.2.1<=e.1.2.2.2.1
 oasc:e.2.Pairwise fun x y=>x.1<y.1
 below:∀x∈u65 (e.1.2.1++e.1.2.2.1++e.2),x<e.1.2.2.2.2
 nodup:(u65 (e.1.2.1++e.1.2.2.1++e.2)).Nodup
theorem d7u {e:u3m} :j8e e=true↔EngR e:=by
 unfold j8e j68;simp only[Ai,Ar,Bg,p4u,q53,o7n];rw[c1m (f:=fun t=>t.1)];constructor
 .rintro⟨h1,⟨h2,h3,h4⟩,h5,h6⟩
  exact⟨h1,h2,h3,h4,h5,h6⟩
 .intro h;exact⟨h.base,⟨h.olen,h.open_,h.oasc⟩,h.below,h.nodup⟩
theorem q7k {E:Type} (a:Hu E) (n:Nat) (h:n<=a.length) (z:Hu E):(a.take n++z).take n=a.take n:=by
 rw[List.take_append_of_le_length (by rw[Ec];omega),List.take_take,Nat.min_self]
theorem t5h {E:Type} (p:E->Bool) (l:Hu E):(l.filter p).length<=l.length:=Cs _ _
theorem j47 (l:Hu u0e) (c:Int) (hl:l.length<=8388608):u2x (l,c)=some (l.filter fun x=> !decide (x.2.2.2.1<=c)):=by
 have hq:∀x∈l,t2p (x,c)=some (decide (x.2.2.2.1<=c)):=fun x _=>by rw[o1z];rfl
 have L:=Q.first (T:=u01) (c:=Int) (W:=u1y) (q:=t2p) (p:=fun x:u0e=>decide (x.2.2.2.1<=c)) (fun x=>t4h x) l c (by omega) hq;rw[t5a];unfold u6e;simp only[t55,u63,L,zOb];by_cases hk:u0o (fun x:u0e=>decide (x.2.2.2.1<=c)) l<l.length
 .obtain⟨a,e1,e2,e3⟩:=Q.delete (T:=u01) (c:=Int) (W:=u1n) (q:=t2p) (p:=fun x:u0e=>decide (x.2.2.2.1<=c)) (fun x=>t25 x) l c (by omega) hq hk;have hn:=t5h (fun x:u0e=> !decide (x.2.2.2.1<=c)) l;obtain⟨n,hne⟩:∃n,n=(l.filter fun x:u0e=> !decide (x.2.2.2.1<=c)).length:=⟨_,rfl⟩;rw[←hne] at e1 e3 hn;have c1:decide (((u0o (fun x:u0e=>decide (x.2.2.2.1<=c)) l:Nat):Int)= -1)=false:=by simp
  have c2:decide ((0:Int)<=(n:Int))=true:=by simp
  have c3:decide ((n:Int)<=(a.length:Int))=true:=by simp;omega
  have c4:decide ((a.length:Int)<=(a.length:Int))=true:=by simp
  have hw:=y7x (i:=u0o (fun x:u0e=>decide (x.2.2.2.1<=c)) l) (by omega);simp only[Al hk,zOb,c1,Aa,hw,e1,c2,c3,c4,Dt,Ad,zTn,Ae,Bv];have c5:decide ((n:Int)<=((a.take n++List.replicate (a.length - n) u01.zero++a.drop (n+(a.length - n))).length:Int))=true:=by simp;omega
  have c6:(a.take n++List.replicate (a.length - n) u01.zero++a.drop (n+(a.length - n))).take (n - (0:Int).toNat)=l.filter fun x:u0e=> !decide (x.2.2.2.1<=c):=by
   rw[Bi,Ho,Nat.sub_zero,q7k a n (by omega),e3]
  simp only[c5,Dt,Ad,c6]
 .have hall:(l.filter fun x:u0e=> !decide (x.2.2.2.1<=c))=l:=by
   rw[F9];intro x hx;obtain⟨i,hi,rfl⟩:=B7 hx;rw[u9n (p:=fun x:u0e=>decide (x.2.2.2.1<=c)) hi (by omega)];rfl
  simp only[Ao hk,zOb,Ae,Ad,hall]
def t8f (b:u0m) (o:Hu u0e):u0m:=(q61 b.1 (s84 b o),b.2.1.filter (fun x=> !decide (x.2.2.2.1<=s84 b o)),b.2.2)
theorem t1a (b:u0m) (o:Hu u0e) (hb:fewB b) (ho:o.length<=4194304):u2j (b,o)=some (t8f b o):=by
 have h1:=s5m b hb;have h2:=j5c b o ho;have h3:=j47 b.2.1 (s84 b o) (by have:=hb.2.1.1;omega);have h4:=j2h b.1 (s84 b o) (by have:=hb.1;omega);rw[o9w];unfold p2u t8f;simp only[h1,h2,h3,h4,zOb]
theorem r86 (b:u0m) (o:Hu u0e) (hb:fewB b) (ho:o.length<=4194304):t91 (b,o)=some (t8f b o):=by
 have h1:=s5n b hb;have h2:=j5d b o ho;have h4:=j2i b.1 (s84 b o) (by have:=hb.1;omega);have hl:=hb.2.1.1
 have L:=s98 s38 b.2.1 (fun a i=>(b,(([], [], [],0,0):u0m),(b.1,a,b.2.2),s84 b o,i)) (fun x=> !decide (x.2.2.2.1<=s84 b o)) (fun x=>x) (fun a=> .inl (b,(([], [], [],0,0):u0m),(b.1,a,b.2.2),s84 b o)) (by omega)
  (fun a _=>by rw[q7g];simp only[s30,u0b,Am,Ah,Aa])
  (fun i hi a ha=>by
   have hc:=t4i b.2.1[i] (hb.2.1.2 _ (Ag hi));rw[q7g];simp only[s30,u0b,hi,Ae,Ad,y8h hi,zTn,y9a (t:=u01) hi,hc,zOb,Aw,u0w (show a.length+1<=1099511627776 by omega)];rw[y7x (by omega)];by_cases h:b.2.1[i].2.2.2.1<=s84 b o
   .have h' : ¬b.2.1[i].2.2.2.1 >s84 b o:=Hk.mpr h;simp[h,h']
   .have h' :b.2.1[i].2.2.2.1 >s84 b o:=Int.not_le.mp h;simp[h,h'])
 rw[Er] at L;rw[j0d];unfold p3c t8f;simp only[h1,h2,zOb,L,h4]
theorem j7y (l:Hu u0e) (c:u0e) (hl:l.length<=8388608):u1z (l,c)=some (l.filter fun x=> !decide (x.1=c.1)):=by
 have hq:∀x∈l,t0h (x,c)=some (decide (x.1=c.1)):=fun x _=>by rw[p85];rfl
 have L:=Q.first (T:=u01) (c:=u0e) (W:=u1r) (q:=t0h) (p:=fun x:u0e=>decide (x.1=c.1)) (fun x=>t29 x) l c (by omega) hq;rw[t35];unfold u5v;simp only[t5e,u6i,L,zOb];by_cases hk:u0o (fun x:u0e=>decide (x.1=c.1)) l<l.length
 .obtain⟨a,e1,e2,e3⟩:=Q.delete (T:=u01) (c:=u0e) (W:=u1i) (q:=t0h) (p:=fun x:u0e=>decide (x.1=c.1)) (fun x=>t2y x) l c (by omega) hq hk;have hn:=t5h (fun x:u0e=> !decide (x.1=c.1)) l;obtain⟨n,hne⟩:∃n,n=(l.filter fun x:u0e=> !decide (x.1=c.1)).length:=⟨_,rfl⟩;rw[←hne] at e1 e3 hn;have c1:decide (((u0o (fun x:u0e=>decide (x.1=c.1)) l:Nat):Int)= -1)=false:=by simp
  have c2:decide ((0:Int)<=(n:Int))=true:=by simp
  have c3:decide ((n:Int)<=(a.length:Int))=true:=by simp;omega
  have c4:decide ((a.length:Int)<=(a.length:Int))=true:=by simp
  have hw:=y7x (i:=u0o (fun x:u0e=>decide (x.1=c.1)) l) (by omega);simp only[Al hk,zOb,c1,Aa,hw,e1,c2,c3,c4,Dt,Ad,zTn,Ae,Bv];have c5:decide ((n:Int)<=((a.take n++List.replicate (a.length - n) u01.zero++a.drop (n+(a.length - n))).length:Int))=true:=by simp;omega
  have c6:(a.take n++List.replicate (a.length - n) u01.zero++a.drop (n+(a.length - n))).take (n - (0:Int).toNat)=l.filter fun x:u0e=> !decide (x.1=c.1):=by
   rw[Bi,Ho,Nat.sub_zero,q7k a n (by omega),e3]
  simp only[c5,Dt,Ad,c6]
 .have hall:(l.filter fun x:u0e=> !decide (x.1=c.1))=l:=by
   rw[F9];intro x hx;obtain⟨i,hi,rfl⟩:=B7 hx;rw[u9n (p:=fun x:u0e=>decide (x.1=c.1)) hi (by omega)];rfl
  simp only[Ao hk,zOb,Ae,Ad,hall]
def j0m (d x:u0e):u0e:=(x.1,x.2.1,x.2.2.1,x.2.2.2.1,x.2.2.2.2.1,x.2.2.2.2.2.1,(x.2.2.2.2.2.2.1 || ahead x d),x.2.2.2.2.2.2.2)
theorem j6o (t:u0e) (b0:u0m) (v:Hu u4n) (p R:Hu u0e) (c n:Int) (d:u0e) (hR:q7l R) (hd:s71 d):
 u99 (t,b0,(v,p,R,c,n),d,(),(R.length:Int),0)=some (.inl (t,b0,(v,p,R.map (j0m d),c,n),d)):=by
 have hl:=hR.1
 have L:=r87 u99 R.length (fun(a:Hu u0e) i=>(t,b0,((v,p,a,c,n):u0m),d,(),(R.length:Int),i)) (fun i=>(R.take i).map (j0m d)++R.drop i) (.inl (t,b0,((v,p,R.map (j0m d),c,n):u0m),d))
  (by
   rw[q2y];simp only[s1g,u0b,Am,Ah,Aa,Cq,F5,Bw])
  (fun i hi=>by
   have hm:((R.take i).map (j0m d)).length=i:=by simp;omega
   have hd1:R.drop i=R[i] ::R.drop (i+1):=Ce hi;have hal:i<((R.take i).map (j0m d)++R.drop i).length:=by simp;omega
   have hg:((R.take i).map (j0m d)++R.drop i)[i] =R[i] :=by
    rw[Cv (by omega),List.getElem_drop];congr 1;omega
   have hset:∀y:u0e,((R.take i).map (j0m d)++R.drop i).set i y=(R.take i).map (j0m d)++y::R.drop (i+1):=fun y=>by
    rw[List.set_append_right _ _ (by omega),hm,Dw,hd1,Hj]
   have hnx:(R.take (i+1)).map (j0m d)++R.drop (i+1)=(R.take i).map (j0m d)++j0m d R[i] ::R.drop (i+1):=by
    rw[B9 hi,Dh];simp
   have ha:=t5r R[i] d (t1p (hR.2 _ (Ag hi)).1) (t1p hd.2);rw[q2y];simp only[s1g,u0b,hi,Ae,Ad,y8h hal,zTn,y9a (t:=u01) hal,hg,ha,zOb,hset];rw[y7x (by omega),hnx];unfold j0m;cases h1:R[i].2.2.2.2.2.2.1 with
   | true=>simp | false=>simp)
 simpa using L
def o7s (b:u0m) (t:u0e):u0e:=(t.1,(3:Int),t.2.2.1,i64.wrap (b.2.2.2.1+1),t.2.2.2.2.1,t.2.2.2.2.2.1,(t.2.2.2.2.2.2.1 || p6h t b.2.1),(⟨#[]⟩:Hs))
def s9y (b:u0m) (t:u0e):u0m:=
 (r7x b.1 t.2.2.2.2.2.1 (i64.wrap (b.2.2.2.1+1)),b.2.1++ [o7s b t],(b.2.2.1.filter fun x=> !decide (x.1=t.1)).map (j0m (o7s b t)),i64.wrap (b.2.2.2.1+1),y8x b.2.2.2.2 (i64.wrap (t.1+1)))
theorem p6z (b:u0m) (t:u0e) (hb:fewB b) (ht:s71 t):u9e (b,t)=some (s9y b t):=by
 have h1:=s5m b hb;have h2:=s69 t ht;have h3:=p8a b.1 t.2.2.2.2.2.1 (i64.wrap (b.2.2.2.1+1)) (by have:=hb.1;have:=ht.2;omega);have h4:=j7y b.2.2.1 t (by have:=hb.2.2.1;omega);have h5:=p5h t b.2.1 ht hb.2.1;have hf:q7l (b.2.2.1.filter fun x=> !decide (x.1=t.1)):=⟨A9 (t5h _ _) hb.2.2.1,fun x hx=>hb.2.2.2 x (A6.mp hx).1⟩;have hp:=hb.2.1.1;have hc:∀d:u0e,Nat.ble (b.2.1.length+([d] :Hu u0e).length) z7z=true:=fun d=>u0w (by simp;omega)
 rw[o5m];unfold q8u s9y o7s;simp only[h1,h2,h3,h4,h5,zOb];cases ho:t.2.2.2.2.2.2.1 with
 | true=>
  have hd:s71 ((t.1,(3:Int),t.2.2.1,i64.wrap (b.2.2.2.1+1),t.2.2.2.2.1,t.2.2.2.2.2.1,true,(⟨#[]⟩:Hs)):u0e):=ht;have L:=j6o t ([], [], [],0,0) (r7x b.1 t.2.2.2.2.2.1 (i64.wrap (b.2.2.2.1+1))) b.2.1 (b.2.2.1.filter fun x=> !decide (x.1=t.1)) (i64.wrap (b.2.2.2.1+1)) b.2.2.2.2 _ hf hd;simp only[Ad,L,zOb,hc,Dx]
 | false=>
  have hd:s71 ((t.1,(3:Int),t.2.2.1,i64.wrap (b.2.2.2.1+1),t.2.2.2.2.1,t.2.2.2.2.2.1,p6h t b.2.1,(⟨#[]⟩:Hs)):u0e):=ht;have L:=j6o t ([], [], [],0,0) (r7x b.1 t.2.2.2.2.2.1 (i64.wrap (b.2.2.2.1+1))) b.2.1 (b.2.2.1.filter fun x=> !decide (x.1=t.1)) (i64.wrap (b.2.2.2.1+1)) b.2.2.2.2 _ hf hd;simp only[Aa,Ad,h5,zOb,L,hc,Ci]
def o0h (b:u0m) (t:u0e):u0m:=
 ((s9y b t).1,(s9y b t).2.1,(s9y b t).2.2.1,(s9y b t).2.2.2.1,if t.1>=b.2.2.2.2 then i64.wrap (t.1+1) else b.2.2.2.2)
theorem j2e (b:u0m) (t:u0e) (b0:u0m) (v:Hu u4n) (p:Hu u0e) (c n:Int) (d:u0e) (hb:fewB b) (hd:s71 d):
 u9m (b,t,b0,(v,p, [],c,n),d,0)=some (.inl (t,b0,(v,p,(b.2.2.1.filter fun x=> !decide (x.1=t.1)).map (j0m d),c,n))):=by
 have hl:=hb.2.2.1
 exact s98 u9m b.2.2.1 (fun a i=>(b,t,b0,((v,p,a,c,n):u0m),d,i)) (fun x=> !decide (x.1=t.1)) (j0m d) (fun a=> .inl (t,b0,((v,p,a,c,n):u0m))) (by omega)
  (fun a _=>by rw[r8q];simp only[t87,u0b,Am,Ah,Aa])
  (fun i hi a ha=>by
   have h1:=t4i b.2.2.1[i] (hb.2.2.2 _ (Ag hi));have h2:=t8k b.2.2.1[i] d (t1p (hb.2.2.2 _ (Ag hi)).1) (t1p hd.2);rw[r8q];simp only[t87,u0b,hi,Ae,Ad,y8h hi,zTn,y9a (t:=u01) hi,h1,h2,zOb,Aw,u0w (show a.length+1<=1099511627776 by omega)];rw[y7x (by omega)];cases decide (b.2.2.1[i].1=t.1) with
   | true=>rfl | false=>
    simp only[Aa,Bh,Ad];unfold j0m;cases ahead b.2.2.1[i] d with
    | true=>simp | false=>simp)
theorem p60 (b:u0m) (t:u0e) (hb:fewB b) (ht:s71 t):u9h (b,t)=some (o0h b t):=by
 have h1:=s5n b hb;have h2:=t4i t ht;have h3:=p8b b.1 t.2.2.2.2.2.1 (i64.wrap (b.2.2.2.1+1)) (by have:=hb.1;have:=ht.2;omega);have h5:=p5i t b.2.1 ht hb.2.1;have hp:=hb.2.1.1;have hc:∀d:u0e,Nat.ble (b.2.1.length+([d] :Hu u0e).length) z7z=true:=fun d=>u0w (by simp;omega)
 rw[o6c];unfold q9i o0h s9y o7s;simp only[h1,h2,h3,h5,zOb];cases ho:t.2.2.2.2.2.2.1 with
 | true=>
  have hd:s71 ((t.1,(3:Int),t.2.2.1,i64.wrap (b.2.2.2.1+1),t.2.2.2.2.1,t.2.2.2.2.2.1,true,(⟨#[]⟩:Hs)):u0e):=ht;have L:=fun p=>j2e b t ([], [], [],0,0) (r7x b.1 t.2.2.2.2.2.1 (i64.wrap (b.2.2.2.1+1))) p (i64.wrap (b.2.2.2.1+1)) b.2.2.2.2 _ hb hd
  simp only[Ad,L,zOb,hc,Dx];by_cases h:t.1>=b.2.2.2.2<;>simp[h]
 | false=>
  have hd:s71 ((t.1,(3:Int),t.2.2.1,i64.wrap (b.2.2.2.1+1),t.2.2.2.2.1,t.2.2.2.2.2.1,p6h t b.2.1,(⟨#[]⟩:Hs)):u0e):=ht;have L:=fun p=>j2e b t ([], [], [],0,0) (r7x b.1 t.2.2.2.2.2.1 (i64.wrap (b.2.2.2.1+1))) p (i64.wrap (b.2.2.2.1+1)) b.2.2.2.2 _ hb hd
  simp only[Aa,Ad,h5,zOb,L,hc,Ci];by_cases h:t.1>=b.2.2.2.2<;>simp[h]
def c4p (b:u0m):Prop:=b.1.length<=1048576/\(b.2.1.length<=1048576/\ ∀t∈b.2.1,s71 t)/\b.2.2.1.length<=1048576/\ ∀t∈b.2.2.1,s71 t
def r0n (b:u0m):Bool:=decide ((b.2.1.length:Int)>=12) || (decide ((b.1.length:Int) >100) || decide (b.2.2.2.1>=9999))
theorem j3p (b:u0m):s67 b=some (r0n b):=by
 rw[o6u];unfold q91 r0n;cases decide ((b.2.1.length:Int)>=12)<;>cases decide ((b.1.length:Int) >100)<;>rfl
theorem j3o (b:u0m):r9p b=some (r0n b):=by
 rw[j5s];unfold o05 r0n;cases decide ((b.2.1.length:Int)>=12)<;>cases decide ((b.1.length:Int) >100)<;>rfl
theorem j8m (b:u0m) {n:Hs} {i:Nat} (hi:i<b.2.2.1.length) (hn:b.2.2.1[i].2.2.2.2.2.2.2=n):∃k:Nat,k<b.2.2.1.length/\u0l b n=(k:Int):=by
 have h:u0o (fun x:u0e=>z7q x.2.2.2.2.2.2.2 n) b.2.2.1<b.2.2.1.length:=by
  rcases B8 (u0o (fun x:u0e=>z7q x.2.2.2.2.2.2.2 n) b.2.2.1) b.2.2.1.length with q | q
  .exact q
  .have:=u9n (p:=fun x:u0e=>z7q x.2.2.2.2.2.2.2 n) hi (by omega);rw[y7r.mpr hn] at this;cases this
 exact⟨_,h,Al h⟩
def u55 (n i:Int):Int:=if i<n then n else i+1
def p1f (b:u0m) (t:u0e):u0e:=(t.1,(3:Int),t.2.2.1,b.2.2.2.1+1,t.2.2.2.2.1,t.2.2.2.2.2.1,(t.2.2.2.2.2.2.1 || p6h t b.2.1),(⟨#[]⟩:Hs))
def u2p (b:u0m) (t:u0e):u0m:=
 (r7x b.1 t.2.2.2.2.2.1 (b.2.2.2.1+1),b.2.1++ [p1f b t],(b.2.2.1.filter fun x=> !decide (x.1=t.1)).map (j0m (p1f b t)),b.2.2.2.1+1,u55 b.2.2.2.2 t.1)
def s5j (b:u0m) (t:u0e) (n:Hs):u0e:=(t.1,(2:Int),t.2.2.1,t.2.2.2.1,t.2.2.2.2.1,t.2.2.2.2.2.1,(t.2.2.2.2.2.2.1 || p6h t b.2.1),n)
def u54 (b:u0m) (t:u0e) (n:Hs):u0m:=
 (b.1,b.2.1,(b.2.2.1.filter fun x=>y3i x.2.2.2.2.2.2.2 n)++ [s5j b t n] ++(b.2.2.1.filter fun x=> !y3i x.2.2.2.2.2.2.2 n),b.2.2.2.1,u55 b.2.2.2.2 t.1)
def s76 (b:u0m) (n:Hs):u0m:=(b.1,b.2.1,(b.2.2.1.filter fun x=> !z7q x.2.2.2.2.2.2.2 n),b.2.2.2.1,b.2.2.2.2)
def j83 (n:Int):Prop:= -1000000<=n/\n<=1000000
theorem s21 {n:Int} (h:j83 n):i64.wrap (n+1)=n+1:=by
 obtain⟨h1,h2⟩:=h;rw[y5f (by omega) (by omega)]
theorem p14 {b:u0m} {t:u0e} (hc:j83 b.2.2.2.1) (hi:j83 t.1):s9y b t=u2p b t:=by
 have e:o7s b t=p1f b t:=by unfold o7s p1f;rw[s21 hc]
 unfold s9y u2p;rw[e,s21 hc,s21 hi];unfold y8x u55;congr 4;by_cases h:t.1<b.2.2.2.2
 .rw[Al h,Ao (by omega)]
 .rw[Ao h,Al (by omega)]
theorem o4k {b:u0m} {t:u0e} (hc:j83 b.2.2.2.1) (hi:j83 t.1):o0h b t=u2p b t:=by
 unfold o0h;rw[p14 hc hi,s21 hi];unfold u2p u55;congr 4;by_cases h:t.1<b.2.2.2.2
 .rw[Al h,Ao (by omega)]
 .rw[Ao h,Al (by omega)]
def uq (l:Hu u0e):Prop:=l.Pairwise fun a b=>a.1≠b.1
theorem o8j {l:Hu u0e} :(u65 l).Nodup↔uq l:=by
 unfold u65 uq;rw[D8,Dl]
theorem c4r {a b:Hu u0e} :uq (a++b)↔uq a/\uq b/\ ∀x∈a,∀y∈b,x.1≠y.1:=Cg
theorem o4n {l:Hu u0e} (h:uq l) (p:u0e->Bool):uq (l.filter p):=Dz p h
theorem d8d {l:Hu u0e} (f:u0e->u0e) (hf:∀x,(f x).1=x.1) (h:uq l):uq (l.map f):=by
 unfold uq;rw[Dl];simp only[hf];exact h
theorem d39 {t:u0e} :uq [t] :=Eu _ _
theorem d8e {l:Hu u0e} :uq l-> ∀x∈l,∀y∈l,x.1=y.1->x=y:=by
 induction l with
 | nil=>intro _ x hx;cases hx | cons z l ih=>
  intro h x hx y hy e;have h' :=Ch.mp h;rcases A8.mp hx with rfl | hx' <;>rcases A8.mp hy with rfl | hy'
  .rfl
  .exact absurd e (h'.1 y hy')
  .exact absurd e.symm (h'.1 x hx')
  .exact ih h'.2 x hx' y hy' e
theorem r0j {l:Hu u0e} {n:Int} :(∀x∈u65 l,x<n)↔ ∀t∈l,t.1<n:=by
 unfold u65;constructor
 .exact fun h t ht=>h _ (Bx.mpr ⟨t,ht,rfl⟩)
 .intro h x hx;obtain⟨t,ht,rfl⟩:=Bx.mp hx;exact h t ht
theorem d7w {d x:u0e} (h:TxnR x) (hs:x.2.1=2):TxnR (j0m d x):=
 ⟨h.id,h.st,h.snap,h.rlen,h.ws,h.rs,h.done,h.nocs,h.name,h.noname,fun e=>by have e:x.2.1=1:=e;omega⟩
theorem d42 {b:u0m} {t:u0e} (ht:TxnR t) (hs:t.2.2.1<=b.2.2.2.1) (hc:b.2.2.2.1<9999):TxnR (p1f b t):=
 ⟨ht.id,⟨by show(1:Int)<=3;omega,by show(3:Int)<=3;omega⟩,ht.snap,ht.rlen,ht.ws,ht.rs,fun _=>⟨by show t.2.2.1+1<=b.2.2.2.1+1;omega,by show b.2.2.2.1+1<=9999;omega⟩,
   fun e=>absurd rfl e,fun e=>by have e:(3:Int)=2:=e;omega,fun _=>rfl,fun e=>by have e:(3:Int)=1:=e;omega⟩
theorem d2y {b:u0m} {t:u0e} {n:Hs} (ht:TxnR t) (hs:t.2.1≠3) (hn:t02 n=true):TxnR (s5j b t n):=
 ⟨ht.id,⟨by show(1:Int)<=2;omega,by show(2:Int)<=3;omega⟩,ht.snap,ht.rlen,ht.ws,ht.rs,fun e=>by have e:(2:Int)=3:=e;omega,
   fun _=>ht.nocs hs,fun _=>hn,fun e=>absurd rfl e,fun e=>by have e:(2:Int)=1:=e;omega⟩
theorem d3d {w:WrT} {c:Int} (h:u4c w=true) (h1:1<=c) (h2:c<=9999):q64 (w.1,w.2.1,w.2.2,c)=true:=by
 unfold u4c at h;unfold q64;simp only[Ai,p6g] at h ⊢;exact⟨h.1,h.2.1,h.2.2,h1,h2⟩
theorem d2r {l:Hu u4n} {ws:Hu WrT} {c:Int} (hl:u7h l=true) (hv:∀v∈l,v.2.2.2<=c) (hw:u59 ws=true) (h0:0<=c) (h9:c<9999) (hn:l.length<=112):
 u7h (r7x l ws (c+1))=true/\ ∀v∈r7x l ws (c+1),v.2.2.2<=c+1:=by
 obtain⟨h1,h2,h3⟩:=d1n.mp hl;obtain⟨w1,w2,w3⟩:=d4a.mp hw;refine⟨d1n.mpr ⟨fun v h=> ?_,j37 ws h2 (d1d hw) fun x hx w _ q=>by have:=hv x hx;have:vCs x=c+1:=q.2;unfold vCs at this;omega,by rw[o32];omega⟩,fun v h=> ?_⟩
 .rcases(p4h ws l (c+1)).mp h with h | ⟨w,hw,rfl⟩
  .exact h1 v h
  .exact d3d (w1 w hw) (by omega) (by omega)
 .rcases(p4h ws l (c+1)).mp h with h | ⟨w,hw,rfl⟩
  .have:=hv v h;omega
  .exact Bv _
theorem s7k (n i:Int):n<=u55 n i/\i<u55 n i:=by unfold u55;split<;>omega
theorem d00 {b:u0m} {t:u0e} (hb:BaseR b) (ht:TxnR t) (hs:t.2.2.1<=b.2.2.2.1) (hc:b.2.2.2.1<9999) (hp:b.2.1.length<12) (hv:b.1.length<=112)
 (hid:∀x∈b.2.1,x.1≠t.1) (hn:t.1<9999):BaseR (u2p b t):=by
 have c0:=hb.cs.1;obtain⟨v1,v2⟩:=d2r hb.vs hb.vcs ht.ws c0 hc hv;have hu:=o8j.mp hb.nodup;have hbl:=r0j.mp hb.below;obtain⟨u1,u2,u3⟩:=c4r.mp hu;have hg:=s7k b.2.2.2.2 t.1;have hnx:u55 b.2.2.2.2 t.1<=9999:=by have:=hb.next.2;unfold u55;split<;>omega
 refine⟨v1,v2,⟨by show 0<=b.2.2.2.1+1;omega,by show b.2.2.2.1+1<=9999;omega⟩,⟨by show 1<=u55 b.2.2.2.2 t.1;have:=hb.next.1;omega,hnx⟩,?_,?_,?_,?_,?_,?_,?_,?_⟩
 .show(b.2.1++ [p1f b t]).length<=12;simp only[Ba,Aw];omega
 .intro x hx;rcases Ay.mp hx with hx | hx
  .obtain⟨q1,q2,q3⟩:=hb.past x hx;exact⟨q1,q2,by show x.2.2.2.1<=b.2.2.2.1+1;omega⟩
  .rw[Ax] at hx;subst hx;exact⟨d42 ht hs hc,rfl,Bv _⟩
 .show(b.2.1++ [p1f b t]).Pairwise _;rw[Cg];refine⟨hb.pasc,Eu _ _,fun x hx y hy=> ?_⟩;rw[Ax] at hy;subst hy;have:=(hb.past x hx).2.2;show x.2.2.2.1<b.2.2.2.1+1;omega
 .show((b.2.2.1.filter _).map _).length<=3;rw[Da];exact A9 (Cs _ _) hb.rlen
 .intro x hx;obtain⟨y,hy,rfl⟩:=Bx.mp hx;obtain⟨q1,q2,q3⟩:=hb.ready y (A6.mp hy).1;exact⟨d7w q1 q2,q2,by show y.2.2.1<=b.2.2.2.1+1;omega⟩
 .show((b.2.2.1.filter _).map _).Pairwise _;rw[Dl];exact(Dz _ hb.rasc)
 .rw[r0j];intro x hx;show x.1<u55 b.2.2.2.2 t.1;rcases Ay.mp hx with hx | hx
  .rcases Ay.mp hx with hx | hx
   .have:=hbl x (Bf _ hx);omega
   .rw[Ax] at hx;subst hx;exact hg.2
  .obtain⟨y,hy,rfl⟩:=Bx.mp hx;have:=hbl y (Az _ (A6.mp hy).1);show y.1<_;omega
 .rw[o8j];refine c4r.mpr ⟨c4r.mpr ⟨u1,d39,fun x hx y hy=> ?_⟩,d8d _ (fun _=>rfl) (o4n u2 _),fun x hx y hy=> ?_⟩
  .rw[Ax] at hy;subst hy;exact hid x hx
  .obtain⟨z,hz,rfl⟩:=Bx.mp hy;obtain⟨z1,z2⟩:=A6.mp hz;show x.1≠z.1;rcases Ay.mp hx with hx | hx
   .exact u3 x hx z z1
   .rw[Ax] at hx;subst hx;intro e;simp only[Bj,Bu] at z2;exact z2 e.symm
theorem p4t {b:u0m} (hb:BaseR b) (o:Hu u0e):BaseR (t8f b o):=by
 obtain⟨h1,h2,h3⟩:=d1n.mp hb.vs;have sv:=o4m b.1 (s84 b o);have sp:(b.2.1.filter fun x=> !decide (x.2.2.2.1<=s84 b o)).Sublist b.2.1:=Fg;have si:((b.2.1.filter fun x=> !decide (x.2.2.2.1<=s84 b o))++b.2.2.1).Sublist (b.2.1++b.2.2.1):=sp.append (Dm _)
 refine⟨d1n.mpr ⟨fun v h=>h1 v (sv.subset h),h2.sublist sv,A9 sv.length_le h3⟩,fun v h=>hb.vcs v (sv.subset h),hb.cs,hb.next,A9 sp.length_le hb.plen,
  fun t h=>hb.past t (sp.subset h),hb.pasc.sublist sp,hb.rlen,hb.ready,hb.rasc,?_,?_⟩
 .rw[r0j];intro x hx;exact r0j.mp hb.below x (si.subset hx)
 .rw[o8j];exact Ez si (o8j.mp hb.nodup)
theorem j54 {b:u0m} {t:u0e} {n:Hs} (hb:BaseR b) (ht:TxnR t) (h3:t.2.1≠3) (hs:t.2.2.1<=b.2.2.2.1) (hk:t02 n=true) (hl:b.2.2.1.length<3)
 (hn:∀x∈b.2.2.1,x.2.2.2.2.2.2.2≠n) (hid:∀x∈b.2.1++b.2.2.1,x.1≠t.1) (h9:t.1<9999):BaseR (u54 b t n):=by
 have hu:=o8j.mp hb.nodup;have hbl:=r0j.mp hb.below;obtain⟨u1,u2,u3⟩:=c4r.mp hu;have hg:=s7k b.2.2.2.2 t.1;have hnx:u55 b.2.2.2.2 t.1<=9999:=by have:=hb.next.2;unfold u55;split<;>omega
 have mem:∀ {x:u0e},x∈(b.2.2.1.filter fun x=>y3i x.2.2.2.2.2.2.2 n)++ [s5j b t n] ++(b.2.2.1.filter fun x=> !y3i x.2.2.2.2.2.2.2 n)->x∈b.2.2.1\/x=s5j b t n:=fun {x} hx=>by
  rcases Ay.mp hx with hx | hx
  .rcases Ay.mp hx with hx | hx
   .exact .inl (A6.mp hx).1
   .rw[Ax] at hx;exact .inr hx
  .exact .inl (A6.mp hx).1
 have len:∀(l:Hu u0e) (p:u0e->Bool),(l.filter p).length+(l.filter fun x=> !p x).length=l.length:=fun l p=>by
  induction l with
  | nil=>rfl | cons x l ih=>cases hp:p x<;>simp[Di,hp] <;>omega
 refine⟨hb.vs,hb.vcs,hb.cs,⟨by show 1<=u55 b.2.2.2.2 t.1;have:=hb.next.1;omega,hnx⟩,hb.plen,hb.past,hb.pasc,?_,?_,?_,?_,?_⟩
 .show((b.2.2.1.filter fun x=>y3i x.2.2.2.2.2.2.2 n)++ [s5j b t n] ++(b.2.2.1.filter fun x=> !y3i x.2.2.2.2.2.2.2 n)).length<=3;have:=len b.2.2.1 fun x=>y3i x.2.2.2.2.2.2.2 n
  simp only[Ba,Aw];omega
 .intro x hx;rcases mem hx with hx | rfl
  .exact hb.ready x hx
  .exact⟨d2y ht h3 hk,rfl,hs⟩
 .show((b.2.2.1.filter fun x=>y3i x.2.2.2.2.2.2.2 n)++ [s5j b t n] ++(b.2.2.1.filter fun x=> !y3i x.2.2.2.2.2.2.2 n)).Pairwise _;have up:∀y∈b.2.2.1,(!y3i y.2.2.2.2.2.2.2 n)=true->y3i n y.2.2.2.2.2.2.2=true:=fun y hy h=>by
   rcases p6j y.2.2.2.2.2.2.2 n with c | c | c
   .rw[c] at h;cases h
   .exact absurd c (hn y hy)
   .exact c
  rw[Bi,Cg];refine⟨Dz _ hb.rasc,?_,?_⟩
  .rw[Fs,Ch];refine⟨fun y hy=> ?_,Dz _ hb.rasc⟩;obtain⟨y1,y2⟩:=A6.mp hy;exact up y y1 y2
  .intro x hx y hy;obtain⟨x1,x2⟩:=A6.mp hx;rcases Ay.mp hy with hy | hy
   .rw[Ax] at hy;subst hy;exact x2
   .obtain⟨y1,y2⟩:=A6.mp hy;exact p0x x2 (up y y1 y2)
 .rw[r0j];intro x hx;show x.1<u55 b.2.2.2.2 t.1;rcases Ay.mp hx with hx | hx
  .have:=hbl x (Bf _ hx);omega
  .rcases mem hx with hx | rfl
   .have:=hbl x (Az _ hx);omega
   .exact hg.2
 .rw[o8j];refine c4r.mpr ⟨u1,?_,fun x hx y hy=> ?_⟩
  .show uq ((b.2.2.1.filter fun x=>y3i x.2.2.2.2.2.2.2 n)++ [s5j b t n] ++(b.2.2.1.filter fun x=> !y3i x.2.2.2.2.2.2.2 n));rw[Bi];refine c4r.mpr ⟨o4n u2 _,?_,fun x hx y hy=> ?_⟩
   .rw[Fs];refine Ch.mpr ⟨fun y hy=> ?_,o4n u2 _⟩;exact(hid y (Az _ (A6.mp hy).1)).symm
   .obtain⟨x1,x2⟩:=A6.mp hx;rcases Ay.mp hy with hy | hy
    .rw[Ax] at hy;subst hy;exact hid x (Az _ x1)
    .obtain⟨y1,y2⟩:=A6.mp hy;intro e;have:=d8e u2 x x1 y y1 e;subst this;rw[x2] at y2;cases y2
  .rcases mem hy with hy | rfl
   .exact u3 x hx y hy
   .exact hid x (Bf _ hx)
theorem j99 {b:u0m} (hb:BaseR b) (n:Hs):BaseR (s76 b n):=by
 have sp:(b.2.2.1.filter fun x=> !z7q x.2.2.2.2.2.2.2 n).Sublist b.2.2.1:=Fg;have si:(b.2.1++(b.2.2.1.filter fun x=> !z7q x.2.2.2.2.2.2.2 n)).Sublist (b.2.1++b.2.2.1):=(Dm _).append sp;refine⟨hb.vs,hb.vcs,hb.cs,hb.next,hb.plen,hb.past,hb.pasc,A9 sp.length_le hb.rlen,fun t h=>hb.ready t (sp.subset h),hb.rasc.sublist sp,?_,?_⟩
 .rw[r0j];intro x hx;exact r0j.mp hb.below x (si.subset hx)
 .rw[o8j];exact Ez si (o8j.mp hb.nodup)
def d9v (id snap:Int):u0e:=(id,(1:Int),snap,(0:Int), [], [],false,(⟨#[]⟩:Hs))
def d3y (e:u3m):u3m:=((e.1.1,e.1.2.1,e.1.2.2.1,e.1.2.2.2.1,e.1.2.2.2.2+1),e.2++ [d9v e.1.2.2.2.2 e.1.2.2.2.1])
def j59 (e:u3m) (k:Nat) (t:u0e):u3m:=(e.1,e.2.set k t)
def s46 (e:u3m) (id:Int):Hu u0e:=e.2.filter fun x=> !decide (x.1=id)
def leaveE (e:u3m) (id:Int):u3m:=(t8f e.1 (s46 e id),s46 e id)
def p1e (e:u3m) (t:u0e):u3m:=(t8f (u2p e.1 t) (s46 e t.1),s46 e t.1)
def j8l (e:u3m) (t:u0e) (n:Hs):u3m:=(t8f (u54 e.1 t n) (s46 e t.1),s46 e t.1)
def c1z (e:u3m) (t:u0e):u3m:=(t8f (u2p e.1 t) e.2,e.2)
def noE (e:u3m) (n:Hs):u3m:=(t8f (s76 e.1 n) e.2,e.2)
theorem EngR.uq {e:u3m} (h:EngR e):uq (e.1.2.1++e.1.2.2.1++e.2):=o8j.mp h.nodup
theorem EngR.bel {e:u3m} (h:EngR e):∀t∈e.1.2.1++e.1.2.2.1++e.2,t.1<e.1.2.2.2.2:=r0j.mp h.below
theorem EngR.apart {e:u3m} (h:EngR e):∀x∈e.1.2.1++e.1.2.2.1,∀y∈e.2,x.1≠y.1:=(c4r.mp h.uq).2.2
theorem EngR.uqo {e:u3m} (h:EngR e):Ab.uq e.2:=(c4r.mp h.uq).2.1
theorem j31 {e:u3m} {b:u0m} {o:Hu u0e} (h:EngR e) (hb:BaseR b) (ho:o.Sublist e.2) (hc:e.1.2.2.2.1<=b.2.2.2.1) (hn:e.1.2.2.2.2<=b.2.2.2.2) (hu:∀x∈b.2.1++b.2.2.1,∀y∈o,x.1≠y.1):EngR (b,o):=by
 refine⟨hb,A9 ho.length_le h.olen,fun t ht=> ?_,h.oasc.sublist ho,?_,?_⟩
 .obtain⟨q1,q2,q3⟩:=h.open_ t (ho.subset ht);exact⟨q1,q2,by show t.2.2.1<=b.2.2.2.1;omega⟩
 .rw[r0j];intro x hx;rcases Ay.mp hx with hx | hx
  .exact r0j.mp hb.below x hx
  .have:=h.bel x (Az _ (ho.subset hx));show x.1<b.2.2.2.2;omega
 .rw[o8j];exact c4r.mpr ⟨o8j.mp hb.nodup,Ez ho h.uqo,hu⟩
theorem r71 {b:u0m} {o:Hu u0e} {x:u0e} (h:x∈(t8f b o).2.1++(t8f b o).2.2.1):x∈b.2.1++b.2.2.1:=by
 rcases Ay.mp h with h | h
 .exact Bf _ (A6.mp h).1
 .exact Az _ h
theorem q7t (e:u3m) (id:Int):(s46 e id).Sublist e.2:=Fg
theorem d0r {e:u3m} {id:Int} {x:u0e} (h:x∈s46 e id):x.1≠id:=by
 have:=(A6.mp h).2;simpa using this
theorem d4z {e:u3m} (h:EngR e) (hl:e.2.length<4) (hn:e.1.2.2.2.2<9999):EngR (d3y e):=by
 have hb:=h.base;have n1:=hb.next.1
 have hT:TxnR (d9v e.1.2.2.2.2 e.1.2.2.2.1):=
  ⟨⟨n1,by show e.1.2.2.2.2<=9999;omega⟩,⟨by show(1:Int)<=1;omega,by show(1:Int)<=3;omega⟩,hb.cs,Cn _,rfl,fun r hr=>(by cases hr),fun e=>by have e:(1:Int)=3:=e;omega,fun _=>rfl,fun e=>by have e:(1:Int)=2:=e;omega,fun _=>rfl,fun _=>rfl⟩
 have hbel:=h.bel;refine⟨⟨hb.vs,hb.vcs,hb.cs,⟨by show 1<=e.1.2.2.2.2+1;omega,by show e.1.2.2.2.2+1<=9999;omega⟩,hb.plen,hb.past,hb.pasc,hb.rlen,hb.ready,hb.rasc,?_,hb.nodup⟩,?_,?_,?_,?_,?_⟩
 .rw[r0j];intro x hx;have:=hbel x (Bf _ hx);show x.1<e.1.2.2.2.2+1;omega
 .show(e.2++ [_]).length<=4;simp only[Ba,Aw];omega
 .intro t ht;rcases Ay.mp ht with ht | ht
  .exact h.open_ t ht
  .rw[Ax] at ht;subst ht;exact⟨hT,rfl,Bv _⟩
 .show(e.2++ [_]).Pairwise _;rw[Cg];refine⟨h.oasc,Eu _ _,fun x hx y hy=> ?_⟩;rw[Ax] at hy;subst hy;exact hbel x (Az _ hx)
 .rw[r0j];intro x hx;show x.1<e.1.2.2.2.2+1;have hx:x∈e.1.2.1++e.1.2.2.1++(e.2++ [d9v e.1.2.2.2.2 e.1.2.2.2.1]):=hx;rw[←Bi] at hx;rcases Ay.mp hx with hx | hx
  .have:=hbel x hx;omega
  .rw[Ax] at hx;subst hx;show e.1.2.2.2.2<_;omega
 .rw[o8j];show uq (e.1.2.1++e.1.2.2.1++(e.2++ [d9v e.1.2.2.2.2 e.1.2.2.2.1]));rw[←Bi];refine c4r.mpr ⟨h.uq,d39,fun x hx y hy=> ?_⟩;rw[Ax] at hy;subst hy;have:=hbel x hx;show x.1≠e.1.2.2.2.2;omega
theorem j30 {α β:Type} (f:α->β) (l:Hu α) (k:Nat) (a:α) (h:k<l.length) (ha:f a=f l[k]):(l.set k a).map f=l.map f:=by
 apply Gw (by simp);intro i h1 h2;simp only[F6,List.getElem_set];split
 .rename_i e;subst e;exact ha
 .rfl
theorem d25 {α:Type} {l:Hu α} {k:Nat} {a x:α} (h:x∈l.set k a):x∈l\/x=a:=E0 h
theorem j4j {e:u3m} (h:EngR e) {k:Nat} (hk:k<e.2.length) {t:u0e} (ht:TxnR t) (h1:t.1=e.2[k].1) (h2:t.2.1=1) (h3:t.2.2.1=e.2[k].2.2.1):EngR (j59 e k t):=by
 have hm:u65 (e.2.set k t)=u65 e.2:=j30 _ _ _ _ hk h1;have hid:u65 (e.1.2.1++e.1.2.2.1++e.2.set k t)=u65 (e.1.2.1++e.1.2.2.1++e.2):=by
  have:∀a b:Hu u0e,u65 (a++b)=u65 a++u65 b:=fun a b=>by simp[u65]
  rw[this,hm,←this]
 refine⟨h.base,by show(e.2.set k t).length<=4;rw[Dq];exact h.olen,fun x hx=> ?_,?_,?_,?_⟩
 .rcases d25 hx with hx | rfl
  .exact h.open_ x hx
  .have:=(h.open_ _ (Ag hk)).2.2;exact⟨ht,h2,by rw[h3];exact this⟩
 .have q:(u65 (e.2.set k t)).Pairwise fun a b=>a<b:=by
   rw[hm];unfold u65;rw[Dl];exact h.oasc
  unfold u65 at q;rw[Dl] at q;exact q
 .show ∀x∈u65 (e.1.2.1++e.1.2.2.1++e.2.set k t),x<e.1.2.2.2.2;rw[hid];exact h.below
 .show(u65 (e.1.2.1++e.1.2.2.1++e.2.set k t)).Nodup;rw[hid];exact h.nodup
theorem p1u {e:u3m} (h:EngR e) (id:Int):EngR (leaveE e id):=
 j31 h (p4t h.base _) (q7t e id) (Bv _) (Bv _) fun x hx y hy=>h.apart x (r71 hx) y ((q7t e id).subset hy)
theorem j0n {b:u0m} (h:r0n b=false):b.2.1.length<12/\b.1.length<=100/\b.2.2.2.1<9999:=by
 unfold r0n at h;simp only[Es,Bu] at h;obtain⟨h1,h2,h3⟩:=h;exact⟨by omega,by omega,by omega⟩
theorem o8h {e:u3m} (h:EngR e) {t:u0e} (ht:t∈e.2\/t∈e.1.2.2.1) (hf:r0n e.1=false):BaseR (u2p e.1 t):=by
 obtain⟨f1,f2,f3⟩:=j0n hf;have hq:TxnR t/\t.2.2.1<=e.1.2.2.2.1:=by
  rcases ht with ht | ht
  .exact⟨(h.open_ t ht).1,(h.open_ t ht).2.2⟩
  .exact⟨(h.base.ready t ht).1,(h.base.ready t ht).2.2⟩
 have hlt:t.1<e.1.2.2.2.2:=by
  rcases ht with ht | ht
  .exact h.bel t (Az _ ht)
  .exact h.bel t (Bf _ (Az _ ht))
 refine d00 h.base hq.1 hq.2 f3 f1 (by omega) (fun x hx=> ?_) (by have:=h.base.next.2;omega);rcases ht with ht | ht
 .exact h.apart x (Bf _ hx) t ht
 .exact(c4r.mp (c4r.mp h.uq).1).2.2 x hx t ht
theorem o4l {b:u0m} {t x:u0e} (h:x∈(u2p b t).2.1++(u2p b t).2.2.1):x.1=t.1\/ ∃y∈b.2.1++b.2.2.1,y.1=x.1:=by
 rcases Ay.mp h with h | h
 .rcases Ay.mp h with h | h
  .exact .inr ⟨x,Bf _ h,rfl⟩
  .rw[Ax] at h;subst h;exact .inl rfl
 .obtain⟨y,hy,rfl⟩:=Bx.mp h;exact .inr ⟨y,Az _ (A6.mp hy).1,rfl⟩
theorem j6z {e:u3m} (h:EngR e) {t:u0e} (ht:t∈e.2) (hf:r0n e.1=false):EngR (p1e e t):=by
 have hg:=s7k e.1.2.2.2.2 t.1;refine j31 h (p4t (o8h h (.inl ht) hf) _) (q7t e t.1) (by show e.1.2.2.2.1<=e.1.2.2.2.1+1;omega) hg.1 fun x hx y hy=> ?_
 rcases o4l (r71 hx) with q | ⟨z,hz,q⟩
 .rw[q];exact(d0r hy).symm
 .rw[←q];exact h.apart z hz y ((q7t e t.1).subset hy)
theorem d8j {e:u3m} (h:EngR e) {t:u0e} (ht:t∈e.1.2.2.1) (hf:r0n e.1=false):EngR (c1z e t):=by
 have hg:=s7k e.1.2.2.2.2 t.1;refine j31 h (p4t (o8h h (.inr ht) hf) _) (Dm _) (by show e.1.2.2.2.1<=e.1.2.2.2.1+1;omega) hg.1 fun x hx y hy=> ?_
 rcases o4l (r71 hx) with q | ⟨z,hz,q⟩
 .rw[q];exact h.apart t (Az _ ht) y hy
 .rw[←q];exact h.apart z hz y hy
theorem c4o {e:u3m} (h:EngR e) (n:Hs):EngR (noE e n):=by
 refine j31 h (p4t (j99 h.base n) _) (Dm _) (Bv _) (Bv _) fun x hx y hy=> ?_
 rcases Ay.mp (r71 hx) with hx | hx
 .exact h.apart x (Bf _ hx) y hy
 .exact h.apart x (Az _ (A6.mp hx).1) y hy
theorem d36 {e:u3m} (h:EngR e) {t:u0e} (ht:t∈e.2) {n:Hs} (hk:t02 n=true) (hl:e.1.2.2.1.length<3) (hn:∀x∈e.1.2.2.1,x.2.2.2.2.2.2.2≠n):EngR (j8l e t n):=by
 obtain⟨q1,q2,q3⟩:=h.open_ t ht;have hlt:=h.bel t (Az _ ht);have hg:=s7k e.1.2.2.2.2 t.1;have hb:BaseR (u54 e.1 t n):=j54 h.base q1 (by omega) q3 hk hl hn (fun x hx=>h.apart x hx t ht) (by have:=h.base.next.2;omega);refine j31 h (p4t hb _) (q7t e t.1) (Bv _) hg.1 fun x hx y hy=> ?_
 have hy' :=(q7t e t.1).subset hy;rcases Ay.mp (r71 hx) with hx | hx
 .exact h.apart x (Bf _ hx) y hy'
 .rcases Ay.mp hx with hx | hx
  .rcases Ay.mp hx with hx | hx
   .exact h.apart x (Az _ (A6.mp hx).1) y hy'
   .rw[Ax] at hx;subst hx;exact(d0r hy).symm
  .exact h.apart x (Az _ (A6.mp hx).1) y hy'
def j5x (x:u0e):Bool:=decide (x.2.1=2) || decide (x.2.1=3)
def j4z (t:u0e) (l:Hu u0e):Bool:=l.any fun x=>j5x x&&ahead x t
def q5z (t:u0e) (l:Hu u0e):Bool:=l.any fun x=> !decide (x.1=t.1)&&((decide (x.2.1=2) || (decide (x.2.1=3)&&decide (x.2.2.2.1 >t.2.2.1)))&&q75 x.2.2.2.2.2.1 t.2.2.2.2.2.1)
def r42 (f:u0e->Bool) (t:u0e) (l:Hu u0e):Bool:=
 (j4z t l&&p6h t l) || (l.any (fun x=>j5x x&&(x.2.2.2.2.2.2.1&&ahead t x)) ||
  l.any fun p=>decide (p.2.1=2)&&(ahead p t&&(ahead t p || l.any fun x=>decide (x.2.1=2)&&(f x&&ahead x p))))
def q97 (t:u0e) (l:Hu u0e):Bool:=r42 (fun x=> !decide (x.1=t.1)) t l
def s3p (f:u0e->Bool) (t:u0e) (l:Hu u0e):Bool:=
 r42 f t l || ((j4z t l&&l.any fun x=>decide (x.2.1=2)&&ahead t x) || l.any fun x=>(decide (x.2.1=2)&&ahead t x)&&l.any fun y=>decide (y.2.1=2)&&(!decide (y.1=t.1)&&ahead x y))
def t8d (t:u0e) (l:Hu u0e):Bool:=s3p (fun x=> !decide (x.1=t.1)) t l
structure SameC (x y:u0e):Prop where
 id:x.1=y.1
 st:x.2.1=y.2.1
 snap:x.2.2.1=y.2.2.1
 cs:x.2.2.2.1=y.2.2.2.1
 rs:x.2.2.2.2.1=y.2.2.2.2.1
 ws:x.2.2.2.2.2.1=y.2.2.2.2.2.1
structure Ser (H:Hu u0e) (e:u3m):Prop where
 eng:EngR e
 st:∀x∈H,x.2.1=3
 snap:∀x∈H,x.2.2.1<x.2.2.2.1/\x.2.2.2.1<=e.1.2.2.2.1
 asc:H.Pairwise fun x y=>x.2.2.2.1<y.2.2.2.1
 uqh:uq (H++(e.1.2.2.1++e.2))
 bel:∀x∈H,x.1<e.1.2.2.2.2
 pin:∀x∈e.1.2.1,∃y∈H,SameC x y
 cov:∀y∈H,∀o∈e.2,o.2.2.1<y.2.2.2.1-> ∃x∈e.1.2.1,SameC x y
 outp:∀x∈e.1.2.1,∀y∈H,ahead x y=true->y.2.2.2.1<x.2.2.2.1->x.2.2.2.2.2.2.1=true
 outr:∀p∈e.1.2.2.1,∀y∈H,ahead p y=true->p.2.2.2.2.2.2.1=true
 no3:∀x∈H,∀y∈H,∀z∈H,ahead x y=true->ahead y z=true->z.2.2.2.1<y.2.2.2.1->z.2.2.2.1<=x.2.2.2.1->False
 noA:∀x∈H,∀p∈e.1.2.2.1,∀z∈H,ahead x p=true->ahead p z=true->z.2.2.2.1<=x.2.2.2.1->False
 noB:∀p∈e.1.2.2.1,∀y∈H,∀z∈H,ahead p y=true->ahead y z=true->z.2.2.2.1<y.2.2.2.1->False
 noD:∀p∈e.1.2.2.1,∀q∈e.1.2.2.1,∀z∈H,ahead p q=true->ahead q z=true->False
 noE:∀p∈e.1.2.2.1,∀q∈e.1.2.2.1,∀r∈e.1.2.2.1,ahead p q=true->ahead q r=true->False
 ww:∀x∈H,∀y∈H,x.2.2.2.1<y.2.2.2.1->q75 x.2.2.2.2.2.1 y.2.2.2.2.2.1=true->x.2.2.2.1<=y.2.2.1
 wr:∀p∈e.1.2.2.1,∀y∈H,q75 y.2.2.2.2.2.1 p.2.2.2.2.2.1=true->y.2.2.2.1<=p.2.2.1
 rr:∀p∈e.1.2.2.1,∀q∈e.1.2.2.1,p.1≠q.1->q75 p.2.2.2.2.2.1 q.2.2.2.2.2.1=true->False
def d2z (c:Int) (t:u0e):u0e:=(t.1,(3:Int),t.2.2.1,c,t.2.2.2.2.1,t.2.2.2.2.2.1,t.2.2.2.2.2.2.1,(⟨#[]⟩:Hs))
structure Passed (t:u0e) (P R:Hu u0e):Prop where
 nb:∀x∈P++R,x.1≠t.1->(x.2.1=2\/(x.2.1=3/\x.2.2.2.1 >t.2.2.1))->q75 x.2.2.2.2.2.1 t.2.2.2.2.2.1=true->False
 d1:∀x∈P++R,∀y∈P,ahead x t=true->ahead t y=true->False
 d2:∀x∈P++R,x.2.2.2.2.2.2.1=true->ahead t x=true->False
 d3:∀p∈R,ahead p t=true->ahead t p=true->False
 d4:∀p∈R,∀x∈R,ahead p t=true->ahead x p=true->x.1≠t.1->False
section
variable {l:Hu u01.den} (hl:d71 l) {u:Hu Nat} (ho:c1t l=some u)
include hl
include ho
def pre (l:Hu u01.den) (u:Hu Nat) (a:Nat):Hu u01.den:=(u.take a).map fun i=>rdL u01 l i
end
structure PassedR (t:u0e) (P R:Hu u0e):Prop extends Passed t P R where
 e1:∀x∈P++R,∀y∈R,ahead x t=true->ahead t y=true->False
 e2:∀x∈R,∀y∈R,ahead t x=true->ahead x y=true->y.1≠t.1->False
theorem u58 (l:Hu Int):(y7s l).size=l.length:=by
 simp[y7s,ByteArray.size]
theorem j6x {s:Hs} {i:Nat} (h:i<s.size):s.data.toList.getD i 0=s.data.toList[i]'(by simpa using h):=by
 rw[A5,A4 (by simpa using h)];rfl
theorem d3b (n m:Nat):Int.tdiv (n:Int) (m:Int)=((n / m:Nat):Int):=(Int.ofNat_tdiv n m).symm
theorem j4m (n m:Nat):Int.tmod (n:Int) (m:Int)=((n % m:Nat):Int):=(Int.ofNat_tmod n m).symm
theorem d1c {n:Nat} (h:n<256):u8.wrap (n:Int)=(n:Int):=by
 simp[IntKind.wrap,IntKind.bits,IntKind.signed];omega
abbrev u0j:=Hu Hs×Hu (Int×Hs)
theorem j95:(⟨#[]⟩:Hs)=emp:=rfl
def r8x (a b c:Int):Bool:=decide (b<=a)&&decide (a<=c)
theorem s49 (a b c:Int):u0t (a,b,c)=some (r8x a b c):=by
 rw[s4h];unfold s4c r8x;simp only[ge_iff_le];cases decide (b<=a)<;>rfl
theorem s6q (a b c:Int):u0q (a,b,c)=some (r8x a b c):=by
 rw[r29];unfold r22 r8x;simp only[ge_iff_le];cases decide (b<=a)<;>rfl
theorem t48 {d:u0j} :d.1.length<=c1c.wt d:=by simp only[Ty.wt];omega
theorem t7w {d:u0j} :d.2.length<=c1c.wt d:=by simp only[Ty.wt];omega
theorem d24 {d:u0j} {s:Hs} (h:s∈d.1):s.size<=c1c.wt d:=by
 have h1:c1c.wt d=(d.1.length+(d.1.map Ty.str.wt).sum)+(d.2.length+(d.2.map o7j.wt).sum):=rfl;have h2:=o8n (f:=Ty.str.wt) h;have h3:Ty.str.wt s=s.size:=rfl;omega
theorem d2t {d:u0j} {p:Int×Hs} (h:p∈d.2):p.2.size<=c1c.wt d:=by
 have h1:c1c.wt d=(d.1.length+(d.1.map Ty.str.wt).sum)+(d.2.length+(d.2.map o7j.wt).sum):=rfl;have h2:=o8n (f:=o7j.wt) h;have h3:o7j.wt p=0+p.2.size:=rfl;omega
def t56 (c:Hu (Int×Hs)) (at_:Int):Ht Hs:=c.foldl (fun t p=>if p.1=at_ then some p.2 else t) none
def u0k (d:u0j) (at_:Int):Hs×Bool:=if 0<=at_/\at_<d.1.length then((t56 d.2 at_).getD (rdL Ty.str d.1 at_.toNat),true) else(emp,false)
theorem q6k (c:Hu (Int×Hs)) (p:Int×Hs) (at_:Int):t56 (c++ [p]) at_=if p.1=at_ then some p.2 else t56 c at_:=by
 simp[t56,List.foldl_append]
theorem p1s {c:Hu (Int×Hs)} {at_:Int} {s:Hs} (h:t56 c at_=some s):∃p∈c,p.2=s:=by
 have key:∀(c:Hu (Int×Hs)) (z:Ht Hs),c.foldl (fun t p=>if p.1=at_ then some p.2 else t) z=some s->z=some s\/ ∃p∈c,p.2=s:=by
  intro c
  induction c with
  | nil=>intro z h;exact .inl h | cons p c ih=>
   intro z h;rw[Bs] at h;rcases ih _ h with h | ⟨q,hq,h⟩
   .split at h
    .exact .inr ⟨p,by simp,by simpa using h⟩
    .exact .inl h
   .exact .inr ⟨q,by simp[hq],h⟩
 rcases key c none h with h | h
 .cases h
 .exact h
theorem q6w (d:u0j) (at_:Int):(u0k d at_).1.size<=c1c.wt d:=by
 unfold u0k;split
 .rename_i h;cases hl:t56 d.2 at_ with
  | none=>
   simp only[Eo];have hi:at_.toNat<d.1.length:=by omega
   rw[y9a (t:=Ty.str) hi];exact d24 (Ag hi)
  | some s=>
   simp only[Eb];obtain⟨p,hp,rfl⟩:=p1s hl;exact d2t hp
 .show 0<=_;omega
theorem j8g (c:Hu (Int×Hs)) (at_:Int) (z:Hs):c.foldl (fun t p=>if p.1=at_ then p.2 else t) z=(t56 c at_).getD z:=by
 have key:∀(c:Hu (Int×Hs)) (o:Ht Hs) (z:Hs),c.foldl (fun t p=>if p.1=at_ then p.2 else t) (o.getD z)=(c.foldl (fun t p=>if p.1=at_ then some p.2 else t) o).getD z:=by
  intro c
  induction c with
  | nil=>intro o z;rfl | cons p c ih=>
   intro o z;simp only[Bs];by_cases h:p.1=at_
   .simp only[h,Bl];exact ih (some p.2) z
   .simp only[h,Bk];exact ih o z
 exact key c none z
theorem j63 (d:u0j) (at_:Int) (hd:d.1.length<=u0i):r8x at_ 0 (i64.wrap ((d.1.length:Int) - 1))=decide (0<=at_/\at_<d.1.length):=by
 unfold u0i at hd;rw[y5f (by omega) (by omega)];unfold r8x;by_cases h:0<=at_/\at_<d.1.length
 .rw[Bb h,Bb h.1,Bb (by omega)];rfl
 .rw[A7 h];by_cases h0:0<=at_
  .rw[Bb h0,A7 (by omega)];rfl
  .rw[A7 h0];rfl
theorem s95 (d:u0j) (at_:Int) (hd:c1c.wt d<=u0i):t2o (d,at_)=some (u0k d at_):=by
 have h1:d.1.length<=u0i:=A9 t48 hd;have h2:d.2.length<=u0i:=A9 t7w hd;rw[p5u];unfold r57;simp only[s49,j63 d at_ h1,zOb];unfold u0k;unfold u0i at h1 h2;by_cases h:0<=at_/\at_<d.1.length
 .have hg:y4v at_ d.1.length=true:=by simp[y4v,h]
  have L:=t13 t3u d.2 (fun t i=>(at_,t,d.2,(d.2.length:Int),i)) (fun t p=>if p.1=at_ then p.2 else t) (fun t=> .inl t) (fun _ _=>True)
   (fun a _=>by rw[r1w];simp only[t3k,u0b,Am,Ah,Aa])
   (fun i hi a _=>⟨trivial,by
    rw[r1w];simp only[t3k,u0b,hi,Ae,Ad,y8h hi,zTn,y9a (t:=o7j) hi];rw[y7x (by omega)];by_cases hp:(d.2[i]).1=at_
    .simp only[hp,Ae,Ad,Bl]
    .simp only[hp,Ah,Aa,Bk]⟩) (rdL Ty.str d.1 at_.toNat) trivial
  simp only[h,and_self,Ae,Ap,Aa,hg,Ad,L,zOb,Bl,j8g]
 .simp only[h,Ah,Bh,Ad,Bk];rfl
theorem s96 (d:u0j) (at_:Int) (hd:c1c.wt d<=u0i):u9o (d,at_)=some (u0k d at_):=by
 have h1:d.1.length<=u0i:=A9 t48 hd;have h2:d.2.length<=u0i:=A9 t7w hd;rw[p57];unfold r6k;simp only[s6q,j63 d at_ h1,zOb];unfold u0k;unfold u0i at h1 h2;by_cases h:0<=at_/\at_<d.1.length
 .have hg:y4v at_ d.1.length=true:=by simp[y4v,h]
  have L:∀n:Nat,n<=d.2.length->t3z (at_,d,(n:Int) - 1)=some (match t56 (d.2.take n) at_ with
   | some s=> .inr (s,true) | none=> .inl (at_,d)):=by
   intro n
   induction n with
   | zero=>
    intro _;rw[r2b];simp only[t3q];rfl
   | succ n ih=>
    intro hn;have hlt:n<d.2.length:=by omega
    rw[r2b];simp only[t3q];have e0:((n+1:Nat):Int) - 1=(n:Int):=by simp
    have e1:decide ((n:Int)>=0)=true:=by simp
    simp only[e0,e1,Ad,y8h hlt,zTn,y9a (t:=o7j) hlt];rw[B9 hlt,q6k];by_cases hp:(d.2[n]).1=at_
    .simp only[hp,Ae,Ad,Bl]
    .simp only[hp,Ah,Aa,Bk];rw[y5f (by omega) (by omega)];exact ih (by omega)
  have L:=L d.2.length (Au _);rw[Cq] at L;have wl:i64.wrap ((d.2.length:Int) - 1)=(d.2.length:Int) - 1:=y5f (by omega) (by omega);simp only[h,and_self,Ae,Ap,Aa,Bl];rw[wl,L];cases t56 d.2 at_ with
  | none=>simp only[zOb,hg,Ad,Eo] | some s=>rfl
 .simp only[h,Ah,Bh,Ad,Bk];rfl
def q76 (d:u0j) (from_:Int):Nat->Nat->Hs->Hs×Bool
 | 0,_,acc=>(acc,true) | m+1,i,acc=>if(u0k d (from_+(i:Int))).2 then q76 d from_ m (i+1) (acc++(u0k d (from_+(i:Int))).1) else(emp,false)
def t1h (d:u0j) (from_ n:Int):Hs×Bool:=if 0<=n/\n<=100 then q76 d from_ n.toNat 0 emp else(emp,false)
theorem t0e (s:Hs):(z7w s).length=s.size:=by simp[z7w]
theorem s3j (a b:Hs):z7w (a++b)=z7w a++z7w b:=by simp[z7w,Ft]
theorem s28 (s:Hs):y7s (z7w s)=s:=by
 cases s with
 | mk d=>
  unfold y7s z7w;simp only[List.map_map];have:(d.toList.map ((fun n=>UInt8.ofNat n.toNat) ∘fun b=>(b.toNat:Int)))=d.toList:=by
   conv=>rhs;rw[←List.map_id d.toList]
   apply Ff;intro b _;simp
  rw[this]
theorem r49 {a b c:Int} :r8x a b c=decide (b<=a/\a<=c):=by
 unfold r8x;by_cases h:b<=a<;>by_cases g:a<=c<;>simp[h,g]
theorem o0y (d:u0j) (from_ n:Int) (hd:c1c.wt d<=1073741824) (h1: -4611686018427387904<=from_) (h2:from_<=4611686018427387904):s5s (d,from_,n)=some (t1h d from_ n):=by
 have hb:c1c.wt d<=u0i:=by unfold u0i;omega
 rw[p5w];unfold r59 t1h;simp only[s49,r49,zOb];by_cases h:0<=n/\n<=100
 .obtain⟨m,rfl⟩:∃m:Nat,n=m:=⟨n.toNat,by omega⟩;have L:=q4a (fun x=>(t3v x).bind fun r=>match r with
   | .inl o=>some (y7s o,true) | .inr z=>some z) m (fun(a:Hs) i=>(from_,(m:Int),d,z7w a,i)) (fun i a=>q76 d from_ (m - i) i a) (fun i a=>a.size<=i*1073741824)
   (fun a _=>by
    rw[r1x];simp only[t3l,u0b,Am,Ah,Aa,zOb,s28,Dw,q76])
   (fun i a hi ha=>by
    have e:m - i=(m - (i+1))+1:=by omega
    have hs:=q6w d (from_+(i:Int));rw[r1x];simp only[t3l,u0b,hi,Ae,Ad];rw[y5f (n:=from_+(i:Int)) (by omega) (by omega),s95 d _ hb,e];simp only[zOb,q76];cases hr:(u0k d (from_+(i:Int))).2 with
    | false=>left;rfl | true=>
     right;refine⟨a++(u0k d (from_+(i:Int))).1,by rw[Af];omega,by simp,?_⟩;simp only[Ap,Aa,t0e,u0w (show a.size+(u0k d (from_+(i:Int))).1.size<=1099511627776 by omega),Ad,s3j];rw[y7x (by omega)]) 0 emp (by omega) (by show 0<=_;omega)
  rw[Bb h,Al h,Ap,Aa];exact L
 .rw[A7 h,Ao h];rfl
theorem o0z (d:u0j) (from_ n:Int) (hd:c1c.wt d<=1073741824) (h1: -4611686018427387904<=from_) (h2:from_<=4611686018427387904):s5y (d,from_,n)=some (t1h d from_ n):=by
 have hb:c1c.wt d<=u0i:=by unfold u0i;omega
 rw[p59];unfold r6m t1h;simp only[s6q,r49,zOb];by_cases h:0<=n/\n<=100
 .obtain⟨m,rfl⟩:∃m:Nat,n=m:=⟨n.toNat,by omega⟩;have L:=q4a (fun x=>(t30 x).bind fun r=>match r with
   | .inl o=>some (o,true) | .inr z=>some z) m (fun(a:Hs) i=>(from_,(m:Int),d,a,i)) (fun i a=>q76 d from_ (m - i) i a) (fun i a=>a.size<=i*1073741824/\(i=0\/0<=from_))
   (fun a _=>by
    rw[r2c];simp only[t3r,u0b,Am,Ah,Aa,zOb,Dw,q76])
   (fun i a hi ha=>by
    have e:m - i=(m - (i+1))+1:=by omega
    have hs:=q6w d (from_+(i:Int));rw[r2c];simp only[t3r,u0b,hi,Ae,Ad];rw[e];simp only[q76];by_cases hf:from_<0\/from_ >(d.1.length:Int)
    .left;have hno:(u0k d (from_+(i:Int))).2=false:=by
      unfold u0k;rw[Ao (by omega)]
     rw[hno];by_cases hf1:from_<0
     .rw[Bb hf1];rfl
     .have hf2:from_ >(d.1.length:Int):=by omega
      rw[A7 hf1,Bb hf2];rfl
    .have hf1: ¬from_<0:=by omega
     have hf2: ¬from_ >(d.1.length:Int):=by omega
     rw[A7 hf1,A7 hf2];simp only[Aa,zOb];rw[y5f (n:=from_+(i:Int)) (by omega) (by omega),s96 d _ hb];simp only[zOb];cases hr:(u0k d (from_+(i:Int))).2 with
     | false=>left;rfl | true=>
      right;refine⟨a++(u0k d (from_+(i:Int))).1,⟨by rw[Af];omega,by omega⟩,by simp,?_⟩;simp only[Ap,Aa,Bb (show a.size+(u0k d (from_+(i:Int))).1.size<=140737488355328 by omega),Ad];rw[y7x (by omega)]) 0 emp (by omega) ⟨by show 0<=_;omega, .inl rfl⟩
  rw[Bb h,Al h,Ap,Aa];exact L
 .rw[A7 h,Ao h];rfl
def s88 (n:Nat):Hu Int:=if h:n<128 then[(n:Int)] else((n % 128+128:Nat):Int)::s88 (n / 128)
termination_by n
decreasing_by omega
theorem q62 {n:Nat} (h:n<128):s88 n= [(n:Int)] :=by rw[s88,dif_pos h]
theorem p6n {n:Nat} (h: ¬n<128):s88 n=((n % 128+128:Nat):Int)::s88 (n / 128):=by rw[s88,dif_neg h]
theorem j7o (n:Nat):(s88 n).length<=n+1:=by
 induction n using Nat.strongRecOn with
 | _ n ih=>
  by_cases h:n<128
  .rw[q62 h];simp
  .rw[p6n h];have:=ih (n / 128) (by omega);simp only[Bc];omega
theorem j7p {S:Type} {W:Int×Hu Int->Ht ((Int×Hu Int)⊕S)}
 (hW:∀x,W x=(bif (decide (x.1 >(127:Int))) then(bif (Nat.ble (x.2.length+([(u8.wrap (i64.wrap ((Int.tmod x.1 (128:Int))+(128:Int))))] :Hu Int).length) z7z) then
  (W ((i64.wrap (Int.tdiv x.1 (128:Int))),(x.2++([(u8.wrap (i64.wrap ((Int.tmod x.1 (128:Int))+(128:Int))))] :Hu Int)))) else none) else(some (.inl x)))):
 ∀(n:Nat) (acc:Hu Int),acc.length+n<=1000000000000-> ∃m:Nat,∃acc' :Hu Int,W ((n:Int),acc)=some (.inl ((m:Int),acc'))/\m<128/\acc' ++ [(m:Int)] =acc++s88 n/\acc'.length<=acc.length+n:=by
 intro n
 induction n using Nat.strongRecOn with
 | _ n ih=>
  intro acc hn;rw[hW];by_cases h:n<128
  .have:decide ((n:Int) >(127:Int))=false:=by simp;omega
   simp only[this,Aa];exact⟨n,acc,rfl,h,by rw[q62 h],by omega⟩
  .have h1:decide ((n:Int) >(127:Int))=true:=by simp;omega
   have h2:Int.tmod (n:Int) (128:Int)=((n % 128:Nat):Int):=j4m n 128;have h3:Int.tdiv (n:Int) (128:Int)=((n / 128:Nat):Int):=d3b n 128;have h4:u8.wrap (i64.wrap (((n % 128:Nat):Int)+(128:Int)))=((n % 128+128:Nat):Int):=by
    rw[y5f (by omega) (by omega)];have:((n % 128:Nat):Int)+128=((n % 128+128:Nat):Int):=by simp
    rw[this,d1c (by omega)]
   simp only[h1,h2,h3,h4,Ad,Aw,u0w (show acc.length+1<=1099511627776 by omega)];rw[y8q (by omega)];obtain⟨m,acc',e1,e2,e3,e4⟩:=ih (n / 128) (by omega) (acc++ [((n % 128+128:Nat):Int)]) (by simp;omega);refine⟨m,acc',e1,e2,?_,?_⟩
   .rw[e3,p6n h,Bi];rfl
   .have:(acc++ [((n % 128+128:Nat):Int)]).length=acc.length+1:=by simp
    omega
theorem o3q (n:Nat) (hn:n<=100000000000):u2a (n:Int)=some (y7s (s88 n)):=by
 rw[j0f];unfold p3e;obtain⟨m,acc',e1,e2,e3,e4⟩:=j7p (W:=s39) (fun x=>o4p x) n [] (by simp;omega);have e4:acc'.length<=n:=by simpa using e4
 simp only[e1,zOb,Aw,u0w (show acc'.length+1<=1099511627776 by omega),Ad];rw[d1c (by omega),e3];rfl
theorem q39 (n:Int):t5t n=some (if 0<=n/\n<=1000000000 then(y7s (s88 n.toNat),true) else(emp,false)):=by
 rw[o5q];unfold q8y;simp only[s49,r49,zOb];by_cases h:0<=n/\n<=1000000000
 .obtain⟨m,rfl⟩:∃m:Nat,n=m:=⟨n.toNat,by omega⟩;obtain⟨k,acc',e1,e2,e3,e4⟩:=j7p (W:=s2d) (fun x=>p96 x) m [] (by simp;omega);have e4:acc'.length<=m:=by simpa using e4
  rw[Bb h,Al h];simp only[e1,zOb,Ap,Aa,Aw,u0w (show acc'.length+1<=1099511627776 by omega),Ad];rw[d1c (by omega),e3];rfl
 .rw[A7 h,Ao h];rfl
def r92:Nat->Nat->Nat->Hu UInt8->Ht (Nat×Nat)
 | 0,_,_,_=>none | _+1,_,_, [] =>none | f+1,i,n,b::l=>
  if b.toNat<128 then(if n+b.toNat % 128*128^i<=1000000000/\(s88 (n+b.toNat % 128*128^i)).length=i+1 then some (n+b.toNat % 128*128^i,i+1) else none)
  else r92 f (i+1) (n+b.toNat % 128*128^i) l
def p4y (at_:Int) (r:Ht (Nat×Nat)):Int×Int×Bool:=match r with
 | some (n,k)=>((n:Int),at_+(k:Int),true) | none=>(0,0,false)
def u0x (t:Hs) (at_:Int):Int×Int×Bool:=if 0<=at_/\at_<=t.size then p4y at_ (r92 5 0 0 (t.data.toList.drop at_.toNat)) else(0,0,false)
theorem j08:∀(f i n:Nat) (l:Hu UInt8) (v k:Nat),r92 f i n l=some (v,k)->v<=1000000000/\k<=i+l.length/\i<k
 | 0,_,_,_,_,_,h=>by cases h
 | _+1,_,_, [],_,_,h=>by cases h
 | f+1,i,n,b::l,v,k,h=>by
  simp only[r92] at h;split at h
  .split at h
   .rename_i h2;simp only[Ac,Ak] at h;obtain⟨rfl,rfl⟩:=h;exact⟨h2.1,by simp,by omega⟩
   .cases h
  .have:=j08 f (i+1) _ l v k h;simp only[Bc];omega
theorem s3o {t:Hs} {at_:Int} (h:(u0x t at_).2.2=true):0<=(u0x t at_).1/\(u0x t at_).1<=1000000000/\0<=at_/\at_<(u0x t at_).2.1/\(u0x t at_).2.1<=t.size:=by
 unfold u0x at h ⊢;split at h
 .rename_i hc;rw[Al hc];cases hv:r92 5 0 0 (t.data.toList.drop at_.toNat) with
  | none=>rw[hv] at h;cases h | some r=>
   obtain⟨v,k⟩:=r;have:=j08 5 0 0 _ v k hv;have hl:(t.data.toList.drop at_.toNat).length=t.size - at_.toNat:=by simp
   simp only[p4y];omega
 .cases h
theorem d8a (i:Nat) (h:i<5):(2:Int)^(min (i64.wrap (7*(i:Int))).toNat i64.bits)=((128^i:Nat):Int):=by
 rcases i with _ | _ | _ | _ | _ | i
 all_goals first | rfl | omega
theorem d34 (i:Nat) (h:i<=5):128^i<=34359738368:=by
 rcases i with _ | _ | _ | _ | _ | _ | i
 all_goals first | decide | omega
theorem p6v (t:Hs) (at_:Int) (ht:t.size<=u0i):s6u (t,at_)=some (u0x t at_):=by
 unfold u0i at ht;rw[o5j];unfold q8r u0x;simp only[s49,r49,zOb];by_cases h:0<=at_/\at_<=t.size
 .obtain⟨p,rfl⟩:∃p:Nat,at_=p:=⟨at_.toNat,by omega⟩;have hp:p<=t.size:=by omega
  rw[Bb h,Al h];have L:∀(f i n:Nat),i+f=5->n<128^i->p+i<=t.size->((s19 (t,(p:Int),(n:Int),(i:Int))).bind fun r=>match r with
   | .inl o=>some ((0:Int),(0:Int),false) | .inr z=>some z)=some (p4y p (r92 f i n (t.data.toList.drop (p+i)))):=by
   intro f
   induction f with
   | zero=>
    intro i n hi hn hpi;have:i=5:=by omega
    subst this;rw[q2w];simp only[s1e];rfl
   | succ f ih=>
    intro i n hi hn hpi;have hi5:i<5:=by omega
    have hpw:=d34 i (by omega);rw[q2w];simp only[s1e];have w1:i64.wrap ((p:Int)+(i:Int))=((p+i:Nat):Int):=by rw[y5f (by omega) (by omega)];simp
    have e1:decide ((i:Int)<(5:Int))=true:=by simp;omega
    by_cases hlt:p+i<t.size
    .have hd:t.data.toList.drop (p+i)=(t.data.toList[p+i]'(by simpa using hlt))::t.data.toList.drop (p+i+1):=Ce (by simpa using hlt);have hb:(t.data.toList[p+i]'(by simpa using hlt)).toNat<256:=Fw _;rw[hd];generalize hc:(t.data.toList[p+i]'(by simpa using hlt))=c at hb;have e2:decide (((p+i:Nat):Int)<(t.size:Int))=true:=by simp;omega
     have e3:decide (0<=i64.wrap (7*(i:Int)))=true:=by rw[y5f (by omega) (by omega)];simp;omega
     have t2:Int.tmod ((c.toNat:Nat):Int) (128:Int)=((c.toNat % 128:Nat):Int):=j4m _ 128;have hm:c.toNat % 128*128^i<=127*34359738368:=Ei (by omega) hpw;have w2:i64.wrap (((c.toNat % 128:Nat):Int)*((128^i:Nat):Int))=((c.toNat % 128*128^i:Nat):Int):=by
      rw[←Int.natCast_mul];exact y8q (by omega)
     have w3:i64.wrap ((n:Int)+((c.toNat % 128*128^i:Nat):Int))=((n+c.toNat % 128*128^i:Nat):Int):=by
      rw[←Int.natCast_add];exact y8q (by omega)
     simp only[e1,Ad,zOb,w1,e2,y8h hlt,e3,zTn,j6x hlt,hc,y8q (show c.toNat<=4611686018427387904 by omega),t2,d8a i hi5,w2,w3,r92];by_cases hc1:c.toNat<128
     .have e4:decide (((c.toNat:Nat):Int)<(128:Int))=true:=by simp;omega
      simp only[e4,Ad,Al hc1,q39,zOb];have wi:i64.wrap ((i:Int)+1)=((i+1:Nat):Int):=y7x (by omega);by_cases hv:n+c.toNat % 128*128^i<=1000000000
      .rw[Al (show(0:Int)<=((n+c.toNat % 128*128^i:Nat):Int)/\((n+c.toNat % 128*128^i:Nat):Int)<=1000000000 by omega)];simp only[Ap,Aa,zTn,u58,wi,zOb];by_cases hl:(s88 (n+c.toNat % 128*128^i)).length=i+1
       .rw[Al ⟨hv,hl⟩,hl];simp only[Ae,Ap,Aa,zOb,p4y];rw[y5f (by omega) (by omega)];simp[Int.add_assoc]
       .rw[Ao (fun hh=>hl hh.2)];rw[A7 (show ¬(((s88 (n+c.toNat % 128*128^i)).length:Nat):Int)=((i+1:Nat):Int) by omega)];rfl
      .rw[Ao (show ¬((0:Int)<=((n+c.toNat % 128*128^i:Nat):Int)/\((n+c.toNat % 128*128^i:Nat):Int)<=1000000000) by omega),Ao (fun hh=>hv hh.1)];rfl
     .have e4:decide (((c.toNat:Nat):Int)<(128:Int))=false:=by simp;omega
      simp only[e4,Aa,Ao hc1];rw[y7x (by omega)];have:=ih (i+1) (n+c.toNat % 128*128^i) (by omega) (by
       have:128^(i+1)=128^i*128:=Gr 128 i;have h2:c.toNat % 128*128^i<=127*128^i:=Ei (by omega) (Au _);omega) (by omega)
      exact this
    .have e2:decide (((p+i:Nat):Int)<(t.size:Int))=false:=by simp;omega
     have hd:t.data.toList.drop (p+i)= [] :=Dp (by simp;omega);rw[hd];simp only[e1,Ad,w1,e2,zOb,Aa,r92];rfl
  exact L 5 0 0 rfl (by decide) (by omega)
 .rw[A7 h,Ao h];rfl
def o8k:Hu UInt8->Nat
 | [] =>0 | b::l=>b.toNat % 128+128*o8k l
theorem d05 (l:Hu UInt8) (b:UInt8):o8k (l++ [b])=o8k l+b.toNat % 128*128^l.length:=by
 induction l with
 | nil=>simp[o8k] | cons x l ih=>
  simp only[Ef,o8k,ih,Bc,Gr];rw[Nat.mul_add];have:128*(b.toNat % 128*128^l.length)=b.toNat % 128*(128^l.length*128):=by
   rw[Fk 128,Nat.mul_assoc]
  omega
theorem d5y (l:Hu UInt8) (b:UInt8) (hl:∀x∈l,¬x.toNat<128) (hb:b.toNat<128) (h:(s88 (o8k (l++ [b]))).length=l.length+1):s88 (o8k (l++ [b]))=(l++ [b]).map fun x=>(x.toNat:Int):=by
 induction l with
 | nil=>
  have:o8k ([] ++ [b])=b.toNat:=by simp[o8k];omega
  rw[this,q62 hb];rfl
 | cons x l ih=>
  have hx:x.toNat<256:=Fw x;have hx2:=hl x (by simp);simp only[Ef,o8k] at h ⊢;by_cases hs:x.toNat % 128+128*o8k (l++ [b])<128
  .rw[q62 hs] at h;simp at h
  .rw[p6n hs] at h ⊢;have e1:(x.toNat % 128+128*o8k (l++ [b])) / 128=o8k (l++ [b]):=by omega
   have e2:(x.toNat % 128+128*o8k (l++ [b])) % 128+128=x.toNat:=by omega
   rw[e1] at h ⊢;rw[e2];simp only[Bc,Nat.add_right_cancel_iff] at h;rw[ih (fun y hy=>hl y (by simp[hy])) h];rfl
theorem d3a (l:Hu UInt8):y7s (l.map fun x=>(x.toNat:Int))=⟨l.toArray⟩:=by
 unfold y7s;simp only[List.map_map];have:(l.map ((fun n=>UInt8.ofNat n.toNat) ∘fun b=>(b.toNat:Int)))=l:=by
  conv=>rhs;rw[←List.map_id l]
  apply Ff;intro b _;simp
 rw[this]
theorem p7x (t:Hs) (a b:Nat) (h:b<=t.size):t.extract a b=⟨((t.data.toList.drop a).take (b - a)).toArray⟩:=by
 apply Gf;simp only[ByteArray.data_extract];apply Fj;simp[F7]
theorem d70 {q:Nat} (h:q<=1000000000):decide ((q:Int) >(1000000000:Int))=false:=by simp;omega
theorem d7x {q:Nat} (h: ¬q<=1000000000):decide ((q:Int) >(1000000000:Int))=true:=by simp;omega
theorem p6w (t:Hs) (at_:Int) (ht:t.size<=u0i):s61 (t,at_)=some (u0x t at_):=by
 unfold u0i at ht;rw[o59];unfold q9f u0x;simp only[s6q,r49,zOb];by_cases h:0<=at_/\at_<=t.size
 .obtain⟨p,rfl⟩:∃p:Nat,at_=p:=⟨at_.toNat,by omega⟩;have hp:p<=t.size:=by omega
  rw[Bb h,Al h]
  have L:∀(f i:Nat),i+f=5->p+i<=t.size->(∀x∈(t.data.toList.drop p).take i,¬x.toNat<128)->o8k ((t.data.toList.drop p).take i)<128^i->
   ((s2g (t,(p:Int),((o8k ((t.data.toList.drop p).take i):Nat):Int),((128^i:Nat):Int),((p+i:Nat):Int))).bind fun r=>match r with
   | .inl o=>some ((0:Int),(0:Int),false) | .inr z=>some z)=some (p4y p (r92 f i (o8k ((t.data.toList.drop p).take i)) (t.data.toList.drop (p+i)))):=by
   intro f
   induction f with
   | zero=>
    intro i hi hpi hall hn;have:i=5:=by omega
    subst this;rw[q3g];simp only[s1z];have e1:decide (((p+5:Nat):Int)<i64.wrap ((p:Int)+5))=false:=by rw[y5f (by omega) (by omega)];simp
    rw[e1];cases decide (((p+5:Nat):Int)<(t.size:Int))<;>rfl
   | succ f ih=>
    intro i hi hpi hall hn;have hi5:i<5:=by omega
    have hpw:=d34 i (by omega);rw[q3g];simp only[s1z];have e1:decide (((p+i:Nat):Int)<i64.wrap ((p:Int)+5))=true:=by rw[y5f (by omega) (by omega)];simp;omega
    by_cases hlt:p+i<t.size
    .have hd:t.data.toList.drop (p+i)=(t.data.toList[p+i]'(by simpa using hlt))::t.data.toList.drop (p+i+1):=Ce (by simpa using hlt);have hb:(t.data.toList[p+i]'(by simpa using hlt)).toNat<256:=Fw _;have htk:(t.data.toList.drop p).take (i+1)=(t.data.toList.drop p).take i++ [t.data.toList[p+i]'(by simpa using hlt)] :=by
      rw[B9 (by simp;omega)];simp
     have htl:((t.data.toList.drop p).take i).length=i:=by simp;omega
     have hvs:=d05 ((t.data.toList.drop p).take i) (t.data.toList[p+i]'(by simpa using hlt));rw[htl] at hvs;rw[hd];generalize hc:(t.data.toList[p+i]'(by simpa using hlt))=c at hb htk hvs;generalize hn' :o8k ((t.data.toList.drop p).take i)=n at hn hvs ⊢;have e2:decide (((p+i:Nat):Int)<(t.size:Int))=true:=by simp;omega
     have t2:Int.tmod ((c.toNat:Nat):Int) (128:Int)=((c.toNat % 128:Nat):Int):=j4m _ 128;have hm:c.toNat % 128*128^i<=127*34359738368:=Ei (by omega) hpw;have w2:i64.wrap (((c.toNat % 128:Nat):Int)*((128^i:Nat):Int))=((c.toNat % 128*128^i:Nat):Int):=by
      rw[←Int.natCast_mul];exact y8q (by omega)
     have w3:i64.wrap ((n:Int)+((c.toNat % 128*128^i:Nat):Int))=((n+c.toNat % 128*128^i:Nat):Int):=by
      rw[←Int.natCast_add];exact y8q (by omega)
     have wp:i64.wrap (((p+i:Nat):Int)+1)=((p+i+1:Nat):Int):=y7x (by omega);have ws:i64.wrap (((128^i:Nat):Int)*128)=((128^(i+1):Nat):Int):=by
      rw[Gr,Int.natCast_mul];exact y5f (by omega) (by omega)
     simp only[e1,e2,Ad,zOb,y8h hlt,zTn,j6x hlt,hc,y8q (show c.toNat<=4611686018427387904 by omega),t2,w2,w3,wp,ws,r92];by_cases hc1:c.toNat<128
     .have e4:decide (((c.toNat:Nat):Int)<(128:Int))=true:=by simp;omega
      simp only[e4,Ad,Al hc1];by_cases hv:n+c.toNat % 128*128^i<=1000000000
      .have e5:decide (((n+c.toNat % 128*128^i:Nat):Int) >(1000000000:Int))=false:=d70 hv;have e6:(decide (0<=(p:Int))&&decide ((p:Int)<=((p+i+1:Nat):Int))&&decide (((p+i+1:Nat):Int)<=(t.size:Int)))=true:=by simp;omega
       simp only[e5,Aa,o3q _ (show n+c.toNat % 128*128^i<=100000000000 by omega),zOb,e6,Ad];have hx:t.extract p (p+i+1)=⟨((t.data.toList.drop p).take (i+1)).toArray⟩:=by
        rw[p7x t p (p+i+1) (by omega)];have:p+i+1 - p=i+1:=by omega
        rw[this]
       rw[hx];have hv' :n+c.toNat % 128*128^i=o8k ((t.data.toList.drop p).take i++ [c]):=hvs.symm;by_cases hl:(s88 (n+c.toNat % 128*128^i)).length=i+1
       .rw[Al ⟨hv,hl⟩];have key:s88 (n+c.toNat % 128*128^i)=((t.data.toList.drop p).take (i+1)).map fun x=>(x.toNat:Int):=by
         rw[hv',htk];exact d5y _ c hall hc1 (by rw[←hv',hl,htl])
        rw[key,d3a,y6w];simp only[Ap,Aa,zOb,p4y];simp[Int.add_assoc]
       .rw[Ao (fun hh=>hl hh.2)];have hne:z7q (y7s (s88 (n+c.toNat % 128*128^i))) ⟨((t.data.toList.drop p).take (i+1)).toArray⟩=false:=by
         rw[←Ey,y7r];intro hh;have:=Dj ByteArray.size hh;rw[u58] at this;apply hl;rw[this];show((t.data.toList.drop p).take (i+1)).toArray.size=_;simp;omega
        rw[hne];rfl
      .have e5:decide (((n+c.toNat % 128*128^i:Nat):Int) >(1000000000:Int))=true:=d7x hv;rw[Ao (fun hh=>hv hh.1),e5];rfl
     .have e4:decide (((c.toNat:Nat):Int)<(128:Int))=false:=by simp;omega
      simp only[e4,Aa,Ao hc1];have:=ih (i+1) (by omega) (by omega) (by
       rw[htk];intro x hx;rcases Ay.mp hx with hx | hx
       .exact hall x hx
       .simp at hx;rw[hx];exact hc1) (by
       rw[htk,hvs];have:128^(i+1)=128^i*128:=Gr 128 i;have h2:c.toNat % 128*128^i<=127*128^i:=Ei (by omega) (Au _);omega)
      rw[htk,hvs] at this;exact this
    .have e2:decide (((p+i:Nat):Int)<(t.size:Int))=false:=by simp;omega
     have hd:t.data.toList.drop (p+i)= [] :=Dp (by simp;omega);rw[hd];simp only[e2,zOb,Aa,r92];rfl
  exact L 5 0 rfl (by omega) (by simp) (by simp[o8k])
 .rw[A7 h,Ao h];rfl
end Go.Proofs.YtkphhjdbdnoekaaGreatDoor.Ab
