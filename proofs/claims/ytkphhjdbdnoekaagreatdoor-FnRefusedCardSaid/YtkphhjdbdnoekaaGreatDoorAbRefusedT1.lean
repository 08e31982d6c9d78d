import Derived.Test.YtkphhjdbdnoekaaGreatDoorAbRefusedG3
namespace Go.Proofs.YtkphhjdbdnoekaaGreatDoor.Ab
open Go Go.IntKind
set_option linter.all false
theorem j68(n:Int):u8.wrap n=n % 256:=by
 simp[IntKind.wrap,IntKind.bits,IntKind.signed]
theorem u0b(a b:Nat):decide ((a:Int)<(b:Int))=decide (a<b):=by simp
theorem q4l{X R A:Type}(W:X->Ht R)(n:Nat)(mk:A->Int->X)(res:Nat->A->R)(P:Nat->A->Prop)
 (hend:∀a,P n a->W (mk a (n:Int))=some (res n a))
 (hstep:∀(i:Nat) a,i<n->P i a->W (mk a (i:Int))=some (res i a)\/ ∃a',P (i+1) a' /\res (i+1) a' =res i a/\W (mk a (i:Int))=W (mk a' ((i+1:Nat):Int))):
 ∀(i:Nat) a,i<=n->P i a->W (mk a (i:Int))=some (res i a):=by
 intro i a hi hP;obtain⟨d,hd⟩:∃d,i+d=n:=⟨n - i,by omega⟩;clear hi
 induction d generalizing i a with
 |zero=>
  have:i=n:=by omega
  subst this;exact hend a hP
 |succ d ih=>
  rcases hstep i a (by omega) hP with h|⟨a',h1,h2,h3⟩
  .exact h
  .rw[h3,ih (i+1) a' h1 (by omega),h2]
def d44{E A R:Type}(f:Nat->E->A->A⊕R)(fin:A->R):Nat->Hu E->A->R
 |_, [],a=>fin a|i,x::l,a=>match f i x a with
  |.inl a' =>d44 f fin (i+1) l a'|.inr r=>r
theorem d4x{X R A E:Type}(W:X->Ht R)(l:Hu E)(mk:A->Int->X)(f:Nat->E->A->A⊕R)(fin:A->R)(P:Nat->A->Prop)
 (hend:∀a,P l.length a->W (mk a (l.length:Int))=some (fin a))
 (hstep:∀(i:Nat) (h:i<l.length) a,P i a->match f i l[i] a with
  |.inl a' =>P (i+1) a' /\W (mk a (i:Int))=W (mk a' ((i+1:Nat):Int))|.inr r=>W (mk a (i:Int))=some r) (a:A) (hP:P 0 a):W (mk a 0)=some (d44 f fin 0 l a):=by
 have key:=q4l W l.length mk (fun i a=>d44 f fin i (l.drop i) a) P (fun a h=>by
  rw[hend a h,Dp (Au _)];rfl) (fun i a hi hP=>by
   have hs:=hstep i hi a hP;have hd:l.drop i=l[i] ::l.drop (i+1):=Ce hi;rw[hd];simp only[d44];cases hf:f i l[i] a with
   |inl a' =>
    rw[hf]at hs;exact .inr ⟨a',hs.1,rfl,hs.2⟩
   |inr r=>
    rw[hf]at hs;exact .inl hs) 0 a (Cn _) hP
 exact key
def szr(b:Int)(w:Nat):Int:=if(w:Int)<=b then b - w else -1
def Ty.wt:(t:Ty)->t.den->Nat
 |.int _,_=>0|.bool,_=>0|.str,s=>s.size|.sl e,l=>l.length+(l.map e.wt).sum|.pair a b,x=>a.wt x.1+b.wt x.2
theorem s4c{X R E:Type}(W:X->Ht R)(l:Hu E)(mk:Int->X)(p:E->Bool)(yes no:R)(hend:W (mk (l.length:Int))=some no)
 (hstep:∀(i:Nat) (h:i<l.length),W (mk (i:Int))=bif p l[i] then some yes else W (mk ((i+1:Nat):Int))):W (mk 0)=some (bif l.any p then yes else no):=by
 have:=d4x W l (fun(_:Unit) i=>mk i) (fun _ x _=>if p x then .inr yes else .inl ()) (fun _=>no) (fun _ _=>True) (fun _ _=>hend) (fun i h a _=>by
  have hs:=hstep i h;cases hp:p l[i] with
  |true=>simp only[hp,Ad]at hs;simp only[Bl];exact hs|false=>simp only[hp,Aa]at hs;simp only[Br,Bk];exact⟨trivial,hs⟩) () trivial
 rw[this];congr 1;have key:∀(l:Hu E) (i:Nat),d44 (fun _ x (_:Unit)=>if p x then .inr yes else .inl ()) (fun _=>no) i l ()=bif l.any p then yes else no:=by
  intro l
  induction l with
  |nil=>intro i;rfl|cons x l ih=>
   intro i;simp only[d44,Gd];cases hp:p x with
   |true=>simp|false=>simp only[Br,Bk,Ci];exact ih _
 exact key l 0
theorem t14{X R E A:Type}(W:X->Ht R)(l:Hu E)(mk:A->Int->X)(f:A->E->A)(fin:A->R)(P:Nat->A->Prop)
 (hend:∀a,P l.length a->W (mk a (l.length:Int))=some (fin a))
 (hstep:∀(i:Nat) (h:i<l.length) a,P i a->P (i+1) (f a l[i])/\W (mk a (i:Int))=W (mk (f a l[i]) ((i+1:Nat):Int))) (a:A) (hP:P 0 a):W (mk a 0)=some (fin (l.foldl f a)):=by
 have:=d4x W l mk (fun _ x a=> .inl (f a x)) fin P hend (fun i h a hp=>hstep i h a hp) a hP;rw[this];congr 1;have key:∀(l:Hu E) (i:Nat) (a:A),d44 (fun _ x a=>(.inl (f a x):A⊕R)) fin i l a=fin (l.foldl f a):=by
  intro l
  induction l with
  |nil=>intro i a;rfl|cons x l ih=>intro i a;simp only[d44,Bs];exact ih _ _
 exact key l 0 a
theorem s80{X R E B:Type}(W:X->Ht R)(l:Hu E)(mk:Hu B->Int->X)(p:E->Bool)(g:E->B)(fin:Hu B->R)(hl:l.length<=1099511627776)
 (hend:∀a:Hu B,a.length<=l.length->W (mk a (l.length:Int))=some (fin a))
 (hstep:∀(i:Nat) (h:i<l.length) (a:Hu B),a.length<=i->W (mk a (i:Int))=bif p l[i] then W (mk (a++ [g l[i]]) ((i+1:Nat):Int)) else W (mk a ((i+1:Nat):Int))):W (mk [] 0)=some (fin ((l.filter p).map g)):=by
 have:=t14 W l mk (fun a x=>if p x then a++ [g x] else a) fin (fun i a=>a.length<=i) hend (fun i h a hp=>by
  have hs:=hstep i h a hp;cases hc:p l[i] with
  |true=>
   simp only[hc,Ad]at hs;simp only[Bl];exact⟨by simp;omega,hs⟩
  |false=>
   simp only[hc,Aa]at hs;simp only[Br,Bk];exact⟨by omega,hs⟩) [] (Au 0)
 rw[this];congr 1;have key:∀(l:Hu E) (a:Hu B),l.foldl (fun a x=>if p x then a++ [g x] else a) a=a++(l.filter p).map g:=by
  intro l
  induction l with
  |nil=>intro a;simp|cons x l ih=>
   intro a;simp only[Bs,ih,Di];cases hp:p x<;>simp
 rw[key];simp
theorem o8v(b:Hs):b.toList=toS b:=by rw[ByteArray.toList_eq];rfl
theorem d6u{a b:Hs}(h:toS a=toS b):a=b:=by rw[←y9g a,h,y9g]
theorem p79:∀(x y:Hu UInt8),Op.bytesLess x y=decide (x<y)
 |x, [] =>by simp[Op.bytesLess]
 |[],y::ys=>by simp[Op.bytesLess]
 |x::xs,y::ys=>by
  rw[Op.bytesLess,p79 xs ys,Cd];simp[List.cons_lt_cons_iff]
theorem d15{a b:Hs}:y3i a b=true↔toS a<toS b:=by
 unfold y3i;rw[o8v,o8v,p79];simp
theorem c0v{a b:Hs}:y3i a b=false↔ ¬toS a<toS b:=by
 rw[←d15];simp
theorem d85(x:Hu UInt8): ¬x<x:=List.lt_irrefl x
theorem d86{x y z:Hu UInt8}(h:x<y)(k:y<z):x<z:=List.lt_trans h k
theorem d87(x y:Hu UInt8):x<y\/x=y\/y<x:=by
 rcases List.le_total x y with h|h
 .rcases Fv.mp h with h|h
  .exact .inl h
  .exact .inr (.inl h)
 .rcases Fv.mp h with h|h
  .exact .inr (.inr h)
  .exact .inr (.inl h.symm)
theorem t8f(a:Hs):y3i a a=false:=c0v.mpr (d85 _)
theorem p1i{a b c:Hs}(h:y3i a b=true)(k:y3i b c=true):y3i a c=true:=d15.mpr (d86 (d15.mp h) (d15.mp k))
theorem p61(a b:Hs):y3i a b=true\/a=b\/y3i b a=true:=by
 rcases d87 (toS a) (toS b)with h|h|h
 .exact .inl (d15.mpr h)
 .exact .inr (.inl (d6u h))
 .exact .inr (.inr (d15.mpr h))
theorem q0c{a b:Hs}(h:y3i a b=true):y3i b a=false:=by
 cases k:y3i b a with
 |false=>rfl|true=>exact absurd (p1i h k) (by rw[t8f];exact Hf)
theorem o4z{a b:Hs}:z7q a b=false↔a≠b:=by
 rw[←Ey,y7r]
theorem q8a(a b:Hs):z7q a b=z7q b a:=by
 rw[Cd,y7r,y7r];exact⟨Eq.symm,Eq.symm⟩
theorem j39{a b:Hs}:(!(y3i a b || z7q a b))=y3i b a:=by
 rcases p61 a b with h|h|h
 .rw[h,q0c h];rfl
 .subst h;rw[t8f,y6w];rfl
 .rw[q0c h,h];have:z7q a b=false:=o4z.mpr (fun e=>by subst e;rw[t8f]at h;cases h);rw[this];rfl
def Asc(l:Hu Hs):Prop:=l.Pairwise fun a b=>y3i a b=true
theorem Asc.ext:∀ {l m:Hu Hs},Asc l->Asc m->(∀x,x∈l↔x∈m)->l=m
 |[], [],_,_,_=>rfl|[],y::m,_,_,h=>by have:=(h y).mpr (by simp);simp at this
 |x::l, [],_,_,h=>by have:=(h x).mp (by simp);simp at this
 |x::l,y::m,hl,hm,h=>by
  have hl' :=Ch.mp hl;have hm' :=Ch.mp hm;have hxy:x=y:=by
   rcases A8.mp ((h x).mp (by simp))with e|e
   .exact e
   .rcases A8.mp ((h y).mpr (by simp))with e'|e'
    .exact e'.symm
    .have:=p1i (hm'.1 x e) (hl'.1 y e');rw[t8f]at this;cases this
  subst hxy;congr 1;refine Asc.ext hl'.2 hm'.2 fun z=> ?_
  constructor
  .intro hz;rcases A8.mp ((h z).mp (by simp[hz]))with e|e
   .subst e;have:=hl'.1 z hz;rw[t8f]at this;cases this
   .exact e
  .intro hz;rcases A8.mp ((h z).mpr (by simp[hz]))with e|e
   .subst e;have:=hm'.1 z hz;rw[t8f]at this;cases this
   .exact e
theorem Asc.filter{l:Hu Hs}(h:Asc l)(p:Hs->Bool):Asc (l.filter p):=Dz p h
def j94(k:Hs)(l:Hu Hs):Hu Hs:=l.filter (fun x=>y3i x k)++ [k] ++l.filter (fun x=> !(y3i x k || z7q x k))
theorem d3m{k x:Hs}{l:Hu Hs}:x∈j94 k l↔x=k\/x∈l:=by
 simp only[j94,Ay,A6,Ax,j39];constructor
 .rintro((h|h)|h)
  .exact .inr h.1
  .exact .inl h
  .exact .inr h.1
 .rintro(h|h)
  .exact .inl (.inr h)
  .rcases p61 x k with e|e|e
   .exact .inl (.inl ⟨h,e⟩)
   .exact .inl (.inr e)
   .exact .inr ⟨h,e⟩
theorem d3e{k:Hs}{l:Hu Hs}(h:Asc l):Asc (j94 k l):=by
 unfold Asc j94;rw[Cg,Cg];refine⟨⟨h.filter _,by simp,fun a ha b hb=> ?_⟩,h.filter _,fun a ha b hb=> ?_⟩
 .simp only[Ax]at hb;subst hb;exact(A6.mp ha).2
 .have hb:=(A6.mp hb).2;rw[j39]at hb;rcases Ay.mp ha with ha|ha
  .exact p1i (A6.mp ha).2 hb
  .simp only[Ax]at ha;subst ha;exact hb
theorem d1a{l:Hu Hs}:∀ {a:Hu Hs},Asc a->Asc (l.foldl (fun a k=>j94 k a) a)/\ ∀x,x∈l.foldl (fun a k=>j94 k a) a↔x∈l\/x∈a:=by
 induction l with
 |nil=>intro a h;exact⟨h,fun x=>by simp⟩|cons k l ih=>
  intro a h;obtain⟨h1,h2⟩:=ih (d3e (k:=k) h);refine⟨h1,fun x=> ?_⟩;rw[Bs,h2,d3m,A8];constructor
  .rintro(q|q|q)
   .exact .inl (.inr q)
   .exact .inl (.inl q)
   .exact .inr q
  .rintro((q|q)|q)
   .exact .inr (.inl q)
   .exact .inl q
   .exact .inr (.inr q)
theorem p8b(d:Array (Hu UInt8))(hs:∀i j:Nat,i<=j->j<d.size->d[i]! <=d[j]!):∀m,m<=d.size->(Lib.compactUpTo d m).Pairwise (·< ·)/\(∀x,x∈Lib.compactUpTo d m↔ ∃i,i<m/\d[i]! =x)
 |0,_=>by simp[Lib.compactUpTo]
 |m+1,hm=>by
  obtain⟨h1,h2⟩:=p8b d hs m (by omega);rw[Lib.compactUpTo_succ];by_cases hk:Lib.keeps d m=true
  .rw[Al hk];constructor
   .rw[Cg];refine⟨h1,by simp,fun a ha b hb=> ?_⟩;simp only[Ax]at hb;subst hb;obtain⟨i,hi,rfl⟩:=(h2 a).mp ha;unfold Lib.keeps at hk;have hk:=Ej hk;rcases hk with hk|hk
    .omega
    .have l1:=hs i (m - 1) (by omega) (by omega);have l2:=hs (m - 1) m (by omega) (by omega);rcases Fv.mp l2 with l2|l2
     .rcases Fv.mp l1 with l1|l1
      .exact d86 l1 l2
      .rw[l1];exact l2
     .exact absurd l2.symm hk
   .intro x;simp only[Ay,Ax,h2];constructor
    .rintro(⟨i,hi,rfl⟩|rfl)
     .exact⟨i,by omega,rfl⟩
     .exact⟨m,by omega,rfl⟩
    .rintro⟨i,hi,rfl⟩
     rcases B8 i m with q|q
     .exact .inl ⟨i,q,rfl⟩
     .exact .inr (by rw[show i=m by omega])
  .rw[Ao hk,Bw];refine⟨h1,fun x=> ?_⟩;rw[h2];unfold Lib.keeps at hk;simp only[Ar,Hr,ne_eq,Decidable.not_not]at hk;constructor
   .rintro⟨i,hi,rfl⟩;exact⟨i,by omega,rfl⟩
   .rintro⟨i,hi,rfl⟩
    rcases B8 i m with q|q
    .exact⟨i,q,rfl⟩
    .have:i=m:=by omega
     subst this;exact⟨i - 1,by omega,hk.2.symm⟩
def r9r(l:Hu Hs):Hu Hs:=y7b (y4n l)
theorem t9x(l:Hu Hs):Asc (r9r l)/\ ∀x,x∈r9r l↔x∈l:=by
 obtain⟨d,hd⟩:∃d,d=(l.map toS).mergeSort fun x y=>decide (x<=y):=⟨_,rfl⟩
 have hk:r9r l=(Lib.compact d).map unS:=by
  unfold r9r y7b y4n;rw[←hd,List.map_map];have:(toS ∘unS)=id:=by funext x;rfl
  rw[this,List.map_id]
 have hsort:d.Pairwise (·<= ·):=by
  rw[hd];have:=List.pairwise_mergeSort (le:=fun(x y:Hu UInt8)=>decide (x<=y)) (fun a b c h1 h2=>by
   simp only[Ar]at h1 h2⊢;exact List.le_trans h1 h2) (fun a b=>by
   simp only[Cr,Ar];exact List.le_total a b) (l.map toS)
  exact this.imp (fun h=>by simpa using h)
 have hmem:∀x,x∈d↔x∈l.map toS:=fun x=>by rw[hd];exact(List.mergeSort_perm _ _).mem_iff
 have hs:∀i j:Nat,i<=j->j<d.toArray.size->d.toArray[i]! <=d.toArray[j]! :=fun i j hij hj=>by
  have hj' :j<d.length:=by simpa using hj
  have hi' :i<d.length:=by omega
  rw[Fl _ i (by simpa using hi'),Fl _ j hj];simp only[List.getElem_toArray];rcases B8 i j with q|q
  .exact Cp.mp hsort i j hi' hj' q
  .have:i=j:=by omega
   subst this;exact List.le_refl _
 obtain⟨h1,h2⟩:=p8b d.toArray hs d.length (by simp);rw[hk];constructor
 .unfold Asc;rw[Dl];exact h1.imp (fun h=>d15.mpr h)
 .intro x;rw[Bx];constructor
  .rintro⟨y,hy,rfl⟩
   obtain⟨i,hi,rfl⟩:=(h2 y).mp hy;rw[Fl _ i (by simpa using hi)];have:d[i] ∈l.map toS:=(hmem _).mp (Ag hi);obtain⟨z,hz,e⟩:=Bx.mp this;simp only[List.getElem_toArray];rw[←e,y9g];exact hz
  .intro hx;have:toS x∈d:=(hmem _).mpr (Bx.mpr ⟨x,hx,rfl⟩);obtain⟨i,hi,e⟩:=Gy.mp this;refine⟨toS x,(h2 _).mpr ⟨i,hi,?_⟩,y9g x⟩;rw[Fl _ i (by simpa using hi)];simpa using e
theorem o4y(l:Hu Hs):(y4n l).length=l.length:=by simp[y4n]
theorem d59(l:Hu Hs)(p:Hs->Bool):(l.filter p).foldl (fun a k=>j94 k a) [] =(r9r l).filter p:=by
 obtain⟨h1,h2⟩:=d1a (l:=l.filter p) (a:= []) List.Pairwise.nil;obtain⟨k1,k2⟩:=t9x l;refine Asc.ext h1 (k1.filter p) fun x=> ?_
 rw[h2,A6,A6,k2];simp
def u0i:Nat:=1099511627776
theorem o80{α:Type}{f:α->Nat}{l:Hu α}{x:α}(h:x∈l):f x<=(l.map f).sum:=by
 induction l with
 |nil=>cases h|cons y l ih=>
  simp only[C8,Ge];rcases A8.mp h with rfl|h
  .omega
  .have:=ih h;omega
abbrev t3d:Ty:=(.pair .str .str)
abbrev u2m:Ty:=(.pair .str (.pair .str .bool))
abbrev u0g:Ty:=(.pair .str (.pair .str (.pair .bool (.int .i64))))
abbrev d20:Ty:=(.pair .str .str)
abbrev c57:Ty:=(.pair .str .str)
abbrev o7z:Ty:=(.pair (.int .i64) .str)
abbrev c2e:Ty:=(.pair (.sl .str) (.sl o7z))
abbrev u0y:Ty:=(.pair (.int .i64) (.pair (.int .i64) (.pair (.int .i64) (.pair (.int .i64) (.pair (.sl t3d) (.pair (.sl u2m) (.pair .bool .str)))))))
abbrev d8i:Ty:=(.pair (.sl u0g) (.pair (.sl u0y) (.pair (.sl u0y) (.pair (.int .i64) (.int .i64)))))
abbrev c2f:Ty:=(.pair (.int .i64) (.pair u0y (.pair .str (.pair .bool d8i))))
abbrev d5y:Ty:=(.pair d8i (.sl u0y))
abbrev d8j:Ty:=(.pair d5y c2e)
abbrev j7h:Ty:=(.pair (.int .i64) (.pair (.int .i64) (.pair .str (.pair .str (.sl (.int .i64))))))
abbrev c3j:Ty:=(.pair d8j (.pair (.sl u0y) (.pair (.sl (.int .i64)) (.sl .str))))
abbrev u0e:=Int×Int×Int×Int×Hu (Hs×Hs)×Hu (Hs×Hs×Bool)×Bool×Hs
theorem u0v{n:Nat}(h:n<=1099511627776):Nat.ble n z7z=true:=Nat.ble_eq_true_of_le h
def inR(r:Hs×Hs)(k:Hs):Bool:= !y3i k r.1&&(y3i k r.2 || z7q k r.2)
theorem p7b(r:Hs×Hs)(k:Hs):s65 (r,k)=some (inR r k):=by
 rw[o6g];unfold q9p inR;cases y3i k r.1<;>rfl
theorem p7a(r:Hs×Hs)(k:Hs):s6y (r,k)=some (inR r k):=by
 rw[o5r];unfold q82 inR;cases y3i k r.1<;>rfl
def p2j(r:Hu t3d.den)(w:Hu u2m.den):Bool:=r.any fun x=>w.any fun y=>inR x y.1
def q8m(a b:Hu u2m.den):Bool:=a.any fun x=>b.any fun y=>z7q x.1 y.1
def d9i(m:Hu c57.den)(r:t3d.den):Hu d20.den:=m.filter fun c=>inR r c.1
theorem r9j{X R A:Type}(W:X->Ht R)(n:Nat)(mk:A->Int->X)(v:Nat->A)(r:R)(hend:W (mk (v n) (n:Int))=some r)
 (hstep:∀i,i<n->W (mk (v i) (i:Int))=W (mk (v (i+1)) ((i+1:Nat):Int))):W (mk (v 0) 0)=some r:=by
 have:=q4l W n (fun(_:Unit) i=>mk (v i.toNat) i) (fun _ _=>r) (fun _ _=>True) (fun _ _=>by simpa using hend) (fun i a hi _=> .inr ⟨(),trivial,rfl,by
  have h:=hstep i hi;have e:((i:Int)+1).toNat=i+1:=by omega
  simp only[zTn];exact h⟩) 0 () (Cn _) trivial
 simpa using this
theorem j7s{α:Type}(p:α->Bool):∀(l a:Hu α),l.foldl (fun a x=>if p x=true then a++ [x] else a) a=a++l.filter p
 |[],a=>by simp
 |x::l,a=>by
  rw[Bs,j7s p l];cases hc:p x<;>simp[hc]
abbrev u2u:=Hs×Hs×Bool×Int
def emp:Hs:=⟨#[]⟩
def j26(l:Hu u2u)(k:Hs)(snap out:Int)(i:Nat):Int:=
 if z7q (rdL u0g l i).1 k=true/\(rdL u0g l i).2.2.2<=snap/\(out<0\/(rdL u0g l i).2.2.2 >(rdL u0g l out.toNat).2.2.2) then(i:Int) else out
def p3z(l:Hu u2u)(k:Hs)(snap:Int):Nat->Int
 |0=> -1|n+1=>j26 l k snap (p3z l k snap n) n
def t5i(l:Hu u2u)(k:Hs)(snap:Int):Int:=p3z l k snap l.length
theorem p30(l:Hu u2u)(k:Hs)(snap:Int):∀n,-1<=p3z l k snap n/\p3z l k snap n<(n:Int)
 |0=>by simp[p3z]
 |n+1=>by
  have:=p30 l k snap n;simp only[p3z,j26];split<;>omega
theorem q75(l:Hu u2u)(k:Hs)(snap:Int): -1<=t5i l k snap/\t5i l k snap<(l.length:Int):=p30 l k snap l.length
theorem o4c(l:Hu u2u)(k:Hs)(snap:Int)(hl:l.length<=1099511627776):r4l (l,k,snap)=some (t5i l k snap):=by
 have L:=r9j s0s l.length (fun a i=>(l,k,snap,a,i)) (fun i=>p3z l k snap i) (.inl (t5i l k snap))
  (by rw[p1t];simp only[s6l,u0b,Am,Ah,Aa];rfl)
  (fun i hi=>by
   have hr:=p30 l k snap i;rw[p1t];simp only[s6l,u0b,hi,Ae,Ad,y8h hi,zTn,p3z,j26];rw[y7x (by omega)];cases h1:z7q (rdL u0g l i).1 k with
   |false=>simp[h1]|true=>
    by_cases h2:(rdL u0g l i).2.2.2<=snap
    .by_cases h3:p3z l k snap i<0
     .simp[h1,h2,h3]
     .have hg:y4v (p3z l k snap i) l.length=true:=y8g.mpr ⟨by omega,by omega⟩;by_cases h4:(rdL u0g l i).2.2.2 >(rdL u0g l (p3z l k snap i).toNat).2.2.2
      .simp[h1,h2,h3,h4,hg]
      .simp[h1,h2,h3,h4,hg]
    .simp[h1,h2])
 have L:s0s (l,k,snap,-1,0)=_:=L;rw[j3x];unfold p74;simp only[L,zOb]
theorem o4b(l:Hu u2u)(k:Hs)(snap:Int)(hl:l.length<=1099511627776):s93 (l,k,snap)=some (t5i l k snap):=by
 have L:=r9j t7n l.length (fun a i=>(l,k,snap,a,l,(l.length:Int),i)) (fun i=>p3z l k snap i) (.inl (t5i l k snap))
  (by rw[q7o];simp only[s34,u0b,Am,Ah,Aa];rfl)
  (fun i hi=>by
   have hr:=p30 l k snap i;rw[q7o];simp only[s34,u0b,hi,Ae,Ad,y8h hi,zTn,p3z,j26];rw[y7x (by omega)];cases h1:z7q (rdL u0g l i).1 k with
   |false=>simp[h1]|true=>
    by_cases h2:(rdL u0g l i).2.2.2<=snap
    .by_cases h3:p3z l k snap i<0
     .simp[h1,h2,h3]
     .have hg:y4v (p3z l k snap i) l.length=true:=y8g.mpr ⟨by omega,by omega⟩;by_cases h4:(rdL u0g l i).2.2.2 >(rdL u0g l (p3z l k snap i).toNat).2.2.2
      .simp[h1,h2,h3,h4,hg]
      .simp[h1,h2,h3,h4,hg]
    .simp[h1,h2])
 have L:t7n (l,k,snap,-1,l,(l.length:Int),0)=_:=L;rw[j0f];unfold p3b;simp only[L,zOb]
def r4m(l:Hu u2u)(k:Hs)(snap:Int):Hs×Bool:=
 if t5i l k snap<0\/(rdL u0g l (t5i l k snap).toNat).2.2.1=true then(emp,false) else((rdL u0g l (t5i l k snap).toNat).2.1,true)
theorem j42(l:Hu u2u)(k:Hs)(snap:Int)(y:Int)(hy:y=t5i l k snap):
 (((bif decide (y<0) then some true else(bif y4v y l.length then some (rdL u0g l y.toNat).2.2.1 else none)):Ht Bool).bind fun j2=>(bif j2 then some ((⟨#[]⟩:Hs),false) else(bif y4v y l.length then some ((rdL u0g l y.toNat).2.1,true) else none)))=some (r4m l k snap):=by
 subst hy;have hr:=q75 l k snap;unfold r4m;by_cases h:t5i l k snap<0
 .simp[h,emp]
 .have hg:y4v (t5i l k snap) l.length=true:=y8g.mpr ⟨by omega,by omega⟩;cases h2:(rdL u0g l (t5i l k snap).toNat).2.2.1<;>simp[h,hg,h2,emp]
theorem o1i(l:Hu u2u)(k:Hs)(snap:Int)(hl:l.length<=1099511627776):s98 (l,k,snap)=some (r4m l k snap):=by
 rw[j0t];unfold p3p;simp only[o4c l k snap hl,zOb];exact j42 l k snap _ rfl
theorem j53(l:Hu u2u)(k:Hs)(snap:Int)(hl:l.length<=1099511627776):r90 (l,k,snap)=some (r4m l k snap):=by
 rw[j0b];unfold p26;simp only[o4b l k snap hl,zOb];exact j42 l k snap _ rfl
theorem d0n(l:Hu u2u)(hl:l.length<=1099511627775):r93 l=some (r9r (l.map fun v=>v.1)):=by
 have L:=s80 s4f l (fun a i=>(a,l,(l.length:Int),i)) (fun _=>true) (fun v=>v.1) (fun a=> .inl a) (by omega)
  (fun a _=>by rw[q7n];simp only[s33,u0b,Am,Ah,Aa])
  (fun i hi a ha=>by
   rw[q7n];simp only[s33,u0b,hi,Ae,Ad,y8h hi,zTn,y9a (t:=u0g) hi,Aw,u0v (show a.length+1<=1099511627776 by omega)];rw[y7x (by omega)])
 have hf:l.filter (fun _=>true)=l:=by simp
 rw[hf]at L;have h1:y7m (l.map fun v=>v.1)=some (y4n (l.map fun v=>v.1)):=by
  unfold y7m;rw[Da,u0v (by omega)];rfl
 have h2:y0p (y4n (l.map fun v=>v.1))=some (r9r (l.map fun v=>v.1)):=by
  unfold y0p;rw[o4y,Da,u0v (by omega)];rfl
 rw[j0e];unfold p3a;simp only[L,zOb,t7z,t3e];simp only[h1,h2,zOb]
theorem r7c(l:Hu Hs):(r9r l).length<=l.length:=by
 have:=z6j (y4n l);rw[o4y]at this;exact this
theorem j6m(k:Hs)(r:Hs×Hs)(l:Hu u2u)(j:Int)(out:Hu Hs)(ho:out.length<=1099511627775):
 t45 (l,r,out,j,k, [],0)=some (.inl (l,r,out,j,k,out.filter fun x=>y3i x k)):=by
 have L:=s80 t45 out (fun a i=>(l,r,out,j,k,a,i)) (fun x=>y3i x k) (fun x=>x) (fun a=> .inl (l,r,out,j,k,a)) (by omega)
  (fun a _=>by rw[q3z];simp only[s19,u0b,Am,Ah,Aa])
  (fun i hi a ha=>by
   rw[q3z];simp only[s19,u0b,hi,Ae,Ad,y8h hi,zTn,y9a (t:=Ty.str) hi,Aw,u0v (show a.length+1<=1099511627776 by omega)];rw[y7x (by omega)])
 rw[Er]at L;exact L
theorem j4f(k:Hs)(r:Hs×Hs)(l:Hu u2u)(j:Int)(out a0:Hu Hs)(ho:out.length+a0.length<=1099511627775):
 t2f (l,r,out,j,k,a0,0)=some (.inl (l,r,j,a0++out.filter fun x=> !(y3i x k || z7q x k))):=by
 have L:=t14 t2f out (fun a i=>(l,r,out,j,k,a,i)) (fun a x=>if(!(y3i x k || z7q x k))=true then a++ [x] else a) (fun a=> .inl (l,r,j,a)) (fun i a=>a.length<=a0.length+i)
  (fun a _=>by rw[r86];simp only[t9e,u0b,Am,Ah,Aa])
  (fun i hi a ha=>by
   rw[r86];simp only[t9e,u0b,hi,Ae,Ad,y8h hi,zTn,y9a (t:=Ty.str) hi,Aw,u0v (show a.length+1<=1099511627776 by omega)];rw[y7x (by omega)];cases hc:(!(y3i out[i] k || z7q out[i] k)) with
   |true=>simp;omega|false=>simp;omega) a0 (by simp)
 rw[j7s (fun x=> !(y3i x k || z7q x k))]at L;exact L
theorem d3f(k:Hs)(l:Hu Hs):(j94 k l).length<=l.length+1:=by
 unfold j94;have h:(fun x=> !(y3i x k || z7q x k))=fun x=>y3i k x:=by funext x;exact j39
 rw[h];have:(l.filter fun x=>y3i x k).length+(l.filter fun x=>y3i k x).length<=l.length:=by
  induction l with
  |nil=>simp|cons x l ih=>
   simp only[Di];cases h1:y3i x k with
   |true=>rw[q0c h1];simp;omega|false=>cases h2:y3i k x<;>simp<;>omega
 simp;omega
theorem j2j(l:Hu u2u)(r:Hs×Hs)(hl:l.length<=500000000000):s7b (l,r)=some ((r9r (l.map fun v=>v.1)).filter fun k=>inR r k):=by
 have L:=t14 s2n l (fun a i=>(l,r,a,i)) (fun a v=>if inR r v.1=true then j94 v.1 a else a) (fun a=> .inl a) (fun i a=>a.length<=i)
  (fun a _=>by rw[q3y];simp only[s18,u0b,Am,Ah,Aa])
  (fun i hi a ha=>by
   rw[q3y];simp only[s18,u0b,hi,Ae,Ad,y8h hi,zTn,y9a (t:=u0g) hi,p7b,zOb];cases hc:inR r l[i].1 with
   |false=>
    simp only[Bh,Ad,Br,Bk];rw[y7x (by omega)];exact⟨by omega,rfl⟩
   |true=>
    have hlow:(a.filter fun x=>y3i x l[i].1).length<=a.length:=Cs _ _
    simp only[Ap,Aa,Bl,j6m l[i].1 r l (i:Int) a (by omega),zOb,Aw,u0v (show(a.filter fun x=>y3i x l[i].1).length+1<=1099511627776 by omega),Ad,
     j4f l[i].1 r l (i:Int) a (a.filter (fun x=>y3i x l[i].1)++ [l[i].1]) (by simp;omega)]
    rw[y7x (by omega)];exact⟨A9 (d3f _ _) (by omega),rfl⟩) [] (by simp)
 rw[o61];unfold p0b;simp only[L,zOb];have hfold:∀(m:Hu u2u) (a:Hu Hs),m.foldl (fun a v=>if inR r v.1=true then j94 v.1 a else a) a=((m.map fun v=>v.1).filter fun k=>inR r k).foldl (fun a k=>j94 k a) a:=by
  intro m
  induction m with
  |nil=>intro a;rfl|cons x m ih=>
   intro a;rw[Bs,ih];cases hc:inR r x.1<;>simp[hc]
 rw[hfold,d59]
def s5s(l:Hu u2u)(r:Hs×Hs)(snap:Int):Hu (Hs×Hs):=
 ((r9r (l.map fun v=>v.1)).filter fun k=>(r4m l k snap).2&&inR r k).map fun k=>(k,(r4m l k snap).1)
theorem j52(l:Hu u2u)(r:Hs×Hs)(snap:Int)(hl:l.length<=500000000000):t4b (l,r,snap)=some (s5s l r snap):=by
 obtain⟨ks,hks⟩:∃ks,ks=(r9r (l.map fun v=>v.1)).filter fun k=>inR r k:=⟨_,rfl⟩
 have hkl:ks.length<=l.length:=by
  rw[hks];refine A9 (Cs _ _) (A9 (r7c _) (by simp))
 have L:=s80 s4j ks (fun a i=>(l,snap,a,ks,i)) (fun k=>(r4m l k snap).2) (fun k=>(k,(r4m l k snap).1)) (fun a=> .inl a) (by omega)
  (fun a _=>by rw[q7v];simp only[s39,u0b,Am,Ah,Aa])
  (fun i hi a ha=>by
   rw[q7v];simp only[s39,u0b,hi,Ae,Ad,y8h hi,zTn,y9a (t:=Ty.str) hi,o1i l _ snap (show l.length<=1099511627776 by omega),zOb,Aw,u0v (show a.length+1<=1099511627776 by omega)];rw[y7x (by omega)])
 rw[j0r];unfold p3n;simp only[j2j l r hl,zOb];rw[←hks];simp only[L,zOb];rw[hks,List.filter_filter];rfl
theorem q0f{E:Type}(p:E->Bool):∀(l:Hu E),(l.takeWhile p).length<=l.length/\(∀(i:Nat) (h:i<l.length),i<(l.takeWhile p).length->p l[i] =true)/\
 (∀(h:(l.takeWhile p).length<l.length),p l[(l.takeWhile p).length] =false)/\l.takeWhile p=l.take (l.takeWhile p).length/\l.dropWhile p=l.drop (l.takeWhile p).length
 |[] =>⟨Au _,fun i h=>absurd h (Ee i),fun h=>absurd h (Ee _),rfl,rfl⟩|x::l=>by
  obtain⟨h1,h2,h3,h4,h5⟩:=q0f p l;cases hp:p x with
  |false=>
   simp only[F8,hp,List.dropWhile_cons,Br,Bk,Cc];exact⟨Cn _,fun i _ h=>absurd h (Ee i),fun _=>hp,rfl,rfl⟩
  |true=>
   simp only[F8,hp,List.dropWhile_cons,Bl,Bc];refine⟨by omega,fun i h k=> ?_,fun h=> ?_,?_,?_⟩
   .cases i with
    |zero=>exact hp|succ i=>simpa using h2 i (by simpa using h) (by omega)
   .simpa using h3 (by omega)
   .rw[List.take_succ_cons,←h4]
   .rw[List.drop_succ_cons,←h5]
theorem d8h{X R E:Type}(W:X->Ht R)(l:Hu E)(mk:Hu E->Int->X)(p:E->Bool)(fin:Hu E->Int->R)
 (hend:W (mk l (l.length:Int))=some (fin l (l.length:Int)))
 (hstep:∀(i:Nat) (h:i<l.length),W (mk (l.take i) (i:Int))=bif p l[i] then W (mk (l.take (i+1)) ((i+1:Nat):Int)) else some (fin (l.take i) (i:Int))):
 W (mk [] 0)=some (fin (l.takeWhile p) ((l.takeWhile p).length:Int)):=by
 obtain⟨h1,h2,h3,h4,_⟩:=q0f p l
 have:=q4l W (l.takeWhile p).length (fun(a:Hu E) i=>mk a i) (fun _ _=>fin (l.takeWhile p) ((l.takeWhile p).length:Int)) (fun i a=>a=l.take i)
  (fun a ha=>by
   rw[ha];by_cases hk:(l.takeWhile p).length<l.length
   .rw[hstep _ hk,h3 hk,Aa,←h4]
   .have e:(l.takeWhile p).length=l.length:=by omega
    have e2:l.takeWhile p=l:=by rw[h4,e];exact Cq
    rw[e2,Cq];exact hend)
  (fun i a hi ha=> .inr ⟨_,rfl,rfl,by rw[ha,hstep i (by omega),h2 i (by omega) hi,Ad]⟩) 0 [] (Cn _) (by simp)
 exact this
theorem d0t{X R E:Type}(W:X->Ht R)(l:Hu E)(mk:Int->X)(p:E->Bool)(yes:Int->R)(no:R)
 (hend:W (mk (l.length:Int))=some no)
 (hstep:∀(i:Nat) (h:i<l.length),W (mk (i:Int))=bif p l[i] then W (mk ((i+1:Nat):Int)) else some (yes (i:Int))):
 W (mk 0)=some (if(l.takeWhile p).length<l.length then yes ((l.takeWhile p).length:Int) else no):=by
 obtain⟨h1,h2,h3,_,_⟩:=q0f p l
 have:=q4l W (l.takeWhile p).length (fun(_:Unit) i=>mk i) (fun _ _=>if(l.takeWhile p).length<l.length then yes ((l.takeWhile p).length:Int) else no) (fun _ _=>True)
  (fun a _=>by
   by_cases hk:(l.takeWhile p).length<l.length
   .rw[hstep _ hk,h3 hk,Aa,Al hk]
   .have e:(l.takeWhile p).length=l.length:=by omega
    rw[Ao hk,e];exact hend)
  (fun i a hi _=> .inr ⟨(),trivial,rfl,by rw[hstep i (by omega),h2 i (by omega) hi,Ad]⟩) 0 () (Cn _) trivial
 exact this
def t1i(v y:u2u):Bool:=y3i y.1 v.1 || (z7q y.1 v.1&&decide (y.2.2.2<=v.2.2.2))
def j74(l:Hu u2u)(v:u2u):Hu u2u:=l.takeWhile (t1i v)++ [v] ++l.dropWhile (t1i v)
def s3y(l:Hu u2u)(ws:Hu u2m.den)(cs:Int):Hu u2u:=ws.foldl (fun l w=>j74 l (w.1,w.2.1,w.2.2,cs)) l
theorem j1d(l:Hu u2u)(v:u2u):(j74 l v).length=l.length+1:=by
 have:l.length=(l.takeWhile (t1i v)).length+(l.dropWhile (t1i v)).length:=by rw[←Ba,Fe]
 simp[j74];omega
theorem o4k:∀(ws:Hu u2m.den) (l:Hu u2u) (cs:Int),(s3y l ws cs).length=l.length+ws.length
 |[],l,cs=>rfl|w::ws,l,cs=>by
  have:=o4k ws (j74 l (w.1,w.2.1,w.2.2,cs)) cs;unfold s3y at this⊢;rw[Bs,this,j1d];simp;omega
theorem d6k(l:Hu u2u)(v:u2u):j74 l v=l.take (l.takeWhile (t1i v)).length++ [v] ++l.drop (l.takeWhile (t1i v)).length:=by
 obtain⟨_,_,_,h4,h5⟩:=q0f (t1i v) l;unfold j74;rw[←h4,←h5]
theorem o7o(a b:Hs):s0j (a,b)=some (if y3i a b then -1 else if z7q a b then 0 else 1):=by
 have ns:∀x,t65 x=some false:=fun x=>by
  rw[p35];unfold r27;have:z7q x x=true:=by simp[z7q]
  rw[this];rfl
 rw[q8f];unfold s81;simp only[ns,zOb,Aa];cases y3i a b<;>cases z7q a b<;>rfl
theorem j99(a b:Int):s5y (a,b)=some (if a<b then -1 else if a >b then 1 else 0):=by
 have ns:∀x,s4v x=some false:=fun x=>by
  rw[o2b];unfold q4p;simp
 rw[p59];unfold r6i;simp only[ns,zOb,Aa];by_cases h:a<b
 .simp[h]
 .by_cases h2:a >b<;>simp[h,h2]
theorem d5r(y v:u2u):s0k (y,v)=some (!t1i v y):=by
 rw[q8g];unfold s82;rw[s7m];unfold t7u;simp only[o7o,zOb];unfold t1i;cases h1:y3i y.1 v.1 with
 |true=>simp|false=>
  cases h2:z7q y.1 v.1 with
  |false=>simp|true=>
   simp only[Br,Bk,Bl,Ae,Ap,Aa,j99,zOb,Ci,Bz];by_cases h3:y.2.2.2<v.2.2.2
   .have:y.2.2.2<=v.2.2.2:=by omega
    simp[h3,this]
   .by_cases h4:y.2.2.2 >v.2.2.2
    .have: ¬y.2.2.2<=v.2.2.2:=by omega
     simp[h3,h4,this]
    .have:y.2.2.2<=v.2.2.2:=by omega
     simp[h3,h4,this]
theorem d0l(l:Hu u2u)(v:u2u)(hl:l.length<=1099511627775):u17 (l,v)=some (if(l.takeWhile (t1i v)).length<l.length then((l.takeWhile (t1i v)).length:Int) else -1):=by
 have L:=d0t u02 l (fun i=>(l,v,(l.length:Int),i)) (t1i v) (fun i=> .inr i) (.inl ())
  (by rw[u25];simp only[u01,u0b,Am,Ah,Aa])
  (fun i hi=>by
   rw[u25];simp only[u01,u0b,hi,Ae,Ad,y8h hi,zTn,y9a (t:=u0g) hi,d5r,zOb];rw[y7x (by omega)];cases t1i v l[i] <;>rfl)
 rw[u92];unfold u3k;simp only[L,zOb];by_cases h:(l.takeWhile (t1i v)).length<l.length
 .simp only[Al h]
 .simp only[Ao h]
theorem o7s(l:Hu u2u)(v:u2u)(k:Nat)(hk:k<=l.length)(hl:l.length<=1099511627775):u47 (l,(k:Int), [v])=some (l.take k++ [v] ++l.drop k):=by
 rw[s9y];unfold y2u;have h1:decide ((0:Int)<=(k:Int))=true:=by simp
 have h2:decide ((k:Int)<=(l.length:Int))=true:=by simpa using hk
 simp only[h1,h2,u0v (show l.length+1<=1099511627776 by omega),Bz,Aw,zTn];rfl
theorem p8v(l:Hu u2u)(ws:Hu u2m.den)(cs:Int)(hl:l.length+ws.length<=1000000000000):t66 (l,ws,cs)=some (s3y l ws cs):=by
 have L:=t14 t1x ws (fun a i=>(cs,a,ws,(ws.length:Int),i)) (fun l w=>j74 l (w.1,w.2.1,w.2.2,cs)) (fun a=> .inl a) (fun i a=>a.length=l.length+i)
  (fun a _=>by rw[s9l];simp only[t1t,u0b,Am,Ah,Aa])
  (fun i hi a ha=>by
   have hal:a.length<=1099511627775:=by omega
   rw[s9l];simp only[t1t,u0b,hi,Ae,Ad,y8h hi,zTn,y9a (t:=u2m) hi,d0l a _ hal,zOb];refine⟨by rw[j1d];omega,?_⟩;obtain⟨t1,_⟩:=q0f (t1i (ws[i].1,ws[i].2.1,ws[i].2.2,cs)) a;rw[d6k,y7x (by omega)];by_cases hk:(a.takeWhile (t1i (ws[i].1,ws[i].2.1,ws[i].2.2,cs))).length<a.length
   .rw[Al hk];have:decide (((a.takeWhile (t1i (ws[i].1,ws[i].2.1,ws[i].2.2,cs))).length:Int)<0)=false:=by simp
    simp only[this,Aa,o7s a _ _ t1 hal,zOb]
   .rw[Ao hk];have e:(a.takeWhile (t1i (ws[i].1,ws[i].2.1,ws[i].2.2,cs))).length=a.length:=by omega
    have:decide ((-1:Int)<0)=true:=by decide
    simp only[this,Ad,o7s a _ _ (Au _) hal,zOb];rw[e]) l (by simp)
 rw[p36];unfold r29;simp only[u0v (show l.length<=1099511627776 by omega),Ad,L,zOb];rfl
theorem d2y(ws:Hu u2m.den)(cs:Int)(l:Hu u2u)(j:Int)(v:u2u)(hl:l.length<=1000000000000):
 u8v (ws,cs,l,j,v, [],0)=some (.inl (ws,cs,l,j,v,l.takeWhile (t1i v),((l.takeWhile (t1i v)).length:Int))):=
 d8h u8v l (fun a i=>(ws,cs,l,j,v,a,i)) (t1i v) (fun a i=> .inl (ws,cs,l,j,v,a,i))
  (by rw[s9n];simp only[t1v,u0b,Am,Ah,Aa,zOb])
  (fun i hi=>by
   rw[s9n];have hb:((l.take i).length+ [l[i]].length)<=1099511627776:=by simp;omega
   simp only[t1v,u0b,hi,Ae,Ad,y8h hi,zTn,y9a (t:=u0g) hi,u0v hb];rw[y7x (by omega),B9 hi];unfold t1i;cases h1:y3i l[i].1 v.1 with
   |true=>simp|false=>
    cases h2:z7q l[i].1 v.1 with
    |false=>simp|true=>
     by_cases h3:l[i].2.2.2<=v.2.2.2<;>simp[h3])
theorem p8w(l:Hu u2u)(ws:Hu u2m.den)(cs:Int)(hl:l.length+ws.length<=1000000000000):t7a (l,ws,cs)=some (s3y l ws cs):=by
 have L:=t14 t1y ws (fun a i=>(ws,cs,a,i)) (fun l w=>j74 l (w.1,w.2.1,w.2.2,cs)) (fun a=> .inl a) (fun i a=>a.length=l.length+i)
  (fun a _=>by rw[s9m];simp only[t1u,u0b,Am,Ah,Aa])
  (fun i hi a ha=>by
   have hal:a.length<=1000000000000:=by omega
   rw[s9m];simp only[t1u,u0b,hi,Ae,Ad,y8h hi,zTn,y9a (t:=u2m) hi,d2y ws cs a _ _ hal,zOb];obtain⟨v,hv⟩:∃v:u2u,v=(ws[i].1,ws[i].2.1,ws[i].2.2,cs):=⟨_,rfl⟩;rw[←hv];obtain⟨t1,_,_,t4,t5⟩:=q0f (t1i v) a;refine⟨by rw[j1d];omega,?_⟩;have g1:decide ((0:Int)<=((a.takeWhile (t1i v)).length:Int))=true:=by simp
   have g2:decide (((a.takeWhile (t1i v)).length:Int)<=(a.length:Int))=true:=by simpa using t1
   have g3:decide ((a.length:Int)<=(a.length:Int))=true:=by simp
   have b1:(a.takeWhile (t1i v)).length+ [v].length<=1099511627776:=by simp;omega
   have b2:(a.takeWhile (t1i v)++ [v]).length+(a.drop (a.takeWhile (t1i v)).length).length<=1099511627776:=by simp;omega
   simp only[g1,g2,g3,Bz,u0v b1,Ad,Cq,u0v b2];rw[y7x (by omega),←t5];rfl) l (by simp)
 rw[p4i];unfold r3j;simp only[Cc,Co,Cf,u0v (show l.length<=1099511627776 by omega),Ad,L,zOb];rfl
abbrev PrT:=Hs×Hs
theorem d1n{a b:Hu PrT}(h:a.length=b.length):(bif (a.zip b).any (fun p=> !(z7q p.1.1 p.2.1&&(z7q p.1.2 p.2.2&&true))) then false else true)=decide (a=b):=by
 induction a generalizing b with
 |nil=>
  cases b with
  |nil=>rfl|cons _ _=>simp at h
 |cons x a ih=>
  cases b with
  |nil=>simp at h|cons y b=>
   have ih:=ih (b:=b) (by simpa using h);simp only[List.zip_cons_cons,Gd];by_cases h1:x.1=y.1
   .by_cases h2:x.2=y.2
    .have hxy:x=y:=Prod.ext h1 h2;subst hxy;rw[y6w,y6w];simp only[Dt,Ap,Ci,ih];simp
    .have:=o4z.mpr h2;rw[this];have hne: ¬(x::a=y::b):=fun e=>h2 (by injection e with e;rw[e])
     simp[hne]
   .have:=o4z.mpr h1;rw[this];have hne: ¬(x::a=y::b):=fun e=>h1 (by injection e with e;rw[e])
    simp[hne]
theorem j2y(r:Hu t3d.den)(w:Hu u2m.den)(hr:r.length<=u0i)(hw:w.length<=u0i):r58 (r,w)=some (p2j r w):=by
 unfold u0i at hr hw;have inner:∀(i:Nat) (hi:i<r.length),t41 (r,w,(i:Int),0)=some (bif w.any (fun y=>inR r[i] y.1) then .inr true else .inl (r,w,(i:Int))):=fun i hi=>
  s4c t41 w (fun j=>(r,w,(i:Int),j)) (fun y=>inR r[i] y.1) _ _ (by
   rw[q3v];simp only[s14,u0b,Am,Ah,Aa]) (fun j hj=>by
   rw[q3v];simp only[s14,u0b,hj,Ae,Ad,y8h hi,y8h hj,zTn,y9a hi,y9a hj,p7b,zOb];rw[y7x (by omega)])
 have outer:=s4c s2m r (fun i=>(r,w,i)) (fun x=>w.any fun y=>inR x y.1) (.inr true) (.inl ()) (by
  rw[q3u];simp only[s13,u0b,Am,Ah,Aa]) (fun i hi=>by
  rw[q3u];simp only[s13,u0b,hi,Ae,Ad,inner i hi,zOb];have ws:=y7x (i:=i) (by omega);cases w.any fun y=>inR r[i] y.1<;>simp only[Ad,Aa,ws])
 rw[o6q];unfold q9z;simp only[outer,zOb];unfold p2j;cases r.any fun x=>w.any fun y=>inR x y.1<;>rfl
theorem j8s(r w:Hu u2m.den)(hr:r.length<=u0i)(hw:w.length<=u0i):r4j (r,w)=some (q8m r w):=by
 unfold u0i at hr hw;have inner:∀(i:Nat) (hi:i<r.length),s0r (r,w,(i:Int),0)=some (bif w.any (fun y=>z7q r[i].1 y.1) then .inr true else .inl (r,w,(i:Int))):=fun i hi=>
  s4c s0r w (fun j=>(r,w,(i:Int),j)) (fun y=>z7q r[i].1 y.1) _ _ (by
   rw[p1q];simp only[s6i,u0b,Am,Ah,Aa]) (fun j hj=>by
   rw[p1q];simp only[s6i,u0b,hj,Ae,Ad,y8h hi,y8h hj,zTn,y9a hi,y9a hj,zOb];rw[y7x (by omega)])
 have outer:=s4c s6q r (fun i=>(r,w,i)) (fun x=>w.any fun y=>z7q x.1 y.1) (.inr true) (.inl ()) (by
  rw[p1p];simp only[s6h,u0b,Am,Ah,Aa]) (fun i hi=>by
  rw[p1p];simp only[s6h,u0b,hi,Ae,Ad,inner i hi,zOb];have ws:=y7x (i:=i) (by omega);cases w.any fun y=>z7q r[i].1 y.1<;>simp only[Ad,Aa,ws])
 rw[j3u];unfold p71;simp only[outer,zOb];unfold q8m;cases r.any fun x=>w.any fun y=>z7q x.1 y.1<;>rfl
theorem j2x(r:Hu t3d.den)(w:Hu u2m.den)(hr:r.length<=u0i)(hw:w.length<=u0i):r5z (r,w)=some (p2j r w):=by
 unfold u0i at hr hw;have inner:∀(i:Nat) (hi:i<r.length),t4q (w,r[i],r,(r.length:Int),(i:Int),w,(w.length:Int),0)=some (bif w.any (fun y=>inR r[i] y.1) then .inr true else .inl (w,r,(r.length:Int),(i:Int))):=fun i hi=>
  s4c t4q w (fun j=>(w,r[i],r,(r.length:Int),(i:Int),w,(w.length:Int),j)) (fun y=>inR r[i] y.1) _ _ (by
   rw[q3c];simp only[s1l,u0b,Am,Ah,Aa]) (fun j hj=>by
   rw[q3c];simp only[s1l,u0b,hj,Ae,Ad,y8h hi,y8h hj,zTn,y9a hi,y9a hj,p7a,zOb];rw[y7x (by omega)])
 have outer:=s4c s2f r (fun i=>(w,r,(r.length:Int),i)) (fun x=>w.any fun y=>inR x y.1) (.inr true) (.inl ()) (by
  rw[q3b];simp only[s1k,u0b,Am,Ah,Aa]) (fun i hi=>by
  rw[q3b];simp only[s1k,u0b,hi,Ae,Ad,y8h hi,zTn,y9a hi,inner i hi,zOb];have ws:=y7x (i:=i) (by omega);cases w.any fun y=>inR r[i] y.1<;>simp only[Ad,Aa,ws])
 rw[o51];unfold q9c;simp only[outer,zOb];unfold p2j;cases r.any fun x=>w.any fun y=>inR x y.1<;>rfl
theorem j8r(r w:Hu u2m.den)(hr:r.length<=u0i)(hw:w.length<=u0i):r4g (r,w)=some (q8m r w):=by
 unfold u0i at hr hw;have inner:∀(i:Nat) (hi:i<r.length),s0q (w,r[i],r,(r.length:Int),(i:Int),w,(w.length:Int),0)=some (bif w.any (fun y=>z7q r[i].1 y.1) then .inr true else .inl (w,r,(r.length:Int),(i:Int))):=fun i hi=>
  s4c s0q w (fun j=>(w,r[i],r,(r.length:Int),(i:Int),w,(w.length:Int),j)) (fun y=>z7q r[i].1 y.1) _ _ (by
   rw[p1m];simp only[s6e,u0b,Am,Ah,Aa]) (fun j hj=>by
   rw[p1m];simp only[s6e,u0b,hj,Ae,Ad,y8h hi,y8h hj,zTn,y9a hi,y9a hj,zOb];rw[y7x (by omega)])
 have outer:=s4c s6n r (fun i=>(w,r,(r.length:Int),i)) (fun x=>w.any fun y=>z7q x.1 y.1) (.inr true) (.inl ()) (by
  rw[p1l];simp only[s6d,u0b,Am,Ah,Aa]) (fun i hi=>by
  rw[p1l];simp only[s6d,u0b,hi,Ae,Ad,y8h hi,zTn,y9a hi,inner i hi,zOb];have ws:=y7x (i:=i) (by omega);cases w.any fun y=>z7q r[i].1 y.1<;>simp only[Ad,Aa,ws])
 rw[j3h];unfold p7o;simp only[outer,zOb];unfold q8m;cases r.any fun x=>w.any fun y=>z7q x.1 y.1<;>rfl
def r67(a b:u0y.den):Bool:=
 decide (a.2.1=3)&&decide (b.2.1=3)&& !decide (a.1=b.1)&&
 (decide (a.2.2.2.1<=b.2.2.1)&&p2j b.2.2.2.2.1 a.2.2.2.2.2.1 || decide (a.2.2.2.1<b.2.2.2.1)&&q8m a.2.2.2.2.2.1 b.2.2.2.2.2.1 || decide (b.2.2.2.1 >a.2.2.1)&&p2j a.2.2.2.2.1 b.2.2.2.2.2.1)
theorem o34(a:u0y.den):t01 a=some (decide (a.2.1=3)):=by
 rw[s4r];rfl
def c6a(l:Hu u0y.den)(j i:Nat):Bool:=r67 (rdL u0y l j) (rdL u0y l i)
def d89(l:Hu u0y.den)(t:Hu Nat)(i:Nat):Bool:= !t.contains i&& !(List.range l.length).any (fun j=> !decide (j=i)&&(!t.contains j&&c6a l j i))
def d3u(l:Hu u0y.den)(t:Hu Nat):Ht Nat:=(List.range l.length).find? (d89 l t)
def d9a(l:Hu u0y.den):Nat->Hu Nat->Ht (Hu Nat)
 |0,t=>some t|k+1,t=>match d3u l t with
  |none=>none|some i=>d9a l k (t++ [i])
def c2v(l:Hu u0y.den):Ht (Hu Nat):=d9a l l.length []
section
variable {l:Hu u0y.den} (hw:∀x∈l,u0y.wt x<=u0i) (hl:l.length<=1048576)
include hw hl
end
def c6f(m:Hu c57.den)(w:u2m.den):Hu c57.den:=
 m.filter (fun c=>y3i c.1 w.1)++(if w.2.2 then[] else[(w.1,w.2.1)])++m.filter (fun c=> !(y3i c.1 w.1 || z7q c.1 w.1))
def d6h(m:Hu c57.den)(ws:Hu u2m.den):Hu c57.den:=ws.foldl c6f m
section
variable (t:u0y.den) (w:u2m.den) (m:Hu c57.den) (hm:m.length<=500000000000)
include hm
end
def c20(l:Hu u0y.den):Nat:=(l.map fun t=>t.2.2.2.2.2.1.length).sum
section
variable {l:Hu u0y.den} (hw:∀x∈l,u0y.wt x<=u0i) (hl:l.length+c20 l<=1048576) (hr:∀x∈l,x.2.2.2.2.1.length<=1048576)
include hl
include hr
include hw
end
abbrev Src:=Hu Int×Int×Int
def Src.ok(s:Src):Prop:=s.1.length<=1048576/\0<=s.2.1/\s.2.1<=(s.1.length:Int)
def Dr{T:Type}(F:Ht (T×Src))(p:T->Prop):Prop:= ∃y s,F=some (y,s)/\s.ok/\p y
theorem j7o(v:BitVec i64.bits):0<=i64.wrap ((v&&&BitVec.ofInt i64.bits 255).toNat:Int)/\i64.wrap ((v&&&BitVec.ofInt i64.bits 255).toNat:Int)<256:=by
 have h:(v&&&BitVec.ofInt i64.bits 255).toNat<=255:=by
  rw[BitVec.toNat_and];exact A9 Nat.and_le_right (by decide)
 rw[y5f (by omega) (by omega)];omega
theorem o03{s:Src}(h:s.ok):Dr (t1d s) (fun y=>0<=y/\y<256):=by
 obtain⟨l,p,z⟩:=s;obtain⟨h1,h2,h3⟩:=h;simp only at h1 h2 h3;rw[o6u];unfold q93;simp only;by_cases hp:p<(l.length:Int)
 .have hg:y4v p l.length=true:=by simp[y4v,h2,hp]
  simp only[hp,Ae,Ad,hg];exact⟨_,_,rfl,⟨h1,by simp only;rw[y5f (by omega) (by omega)];omega,by simp only;rw[y5f (by omega) (by omega)];omega⟩,j7o _⟩
 .simp only[hp,Ah,Aa];exact⟨_,_,rfl,⟨h1,h2,h3⟩,j7o _⟩
theorem j8d{a n:Int}(ha:0<=a)(hn:0<n):0<=Int.tmod a n/\Int.tmod a n<n:=⟨Int.tmod_nonneg _ ha,Int.tmod_lt_of_pos _ hn⟩
theorem r26{s:Src}(h:s.ok){n:Int}(hn:0<n):Dr (u2x (s,n)) (fun y=>0<=y/\y<n):=by
 rw[o3o];unfold q5z;have h0:decide (n<=0)=false:=by simp;omega
 have h0' :(!decide (n=0))=true:=by simp;omega
 simp only[h0,Aa,h0',Ad];by_cases h1:n<=256
 .simp only[h1,Ae,Ad];obtain⟨y,s1,e1,k1,r1⟩:=o03 h;simp only[e1,zOb];exact⟨_,_,rfl,k1,j8d r1.1 hn⟩
 .simp only[h1,Ah,Aa];obtain⟨y1,s1,e1,k1,r1⟩:=o03 h;obtain⟨y2,s2,e2,k2,r2⟩:=o03 k1;obtain⟨y3,s3,e3,k3,r3⟩:=o03 k2;obtain⟨y4,s4,e4,k4,r4⟩:=o03 k3;simp only[e1,e2,e3,e4,zOb];refine⟨_,_,rfl,k4,j8d ?_ hn⟩
  rw[y5f (n:=y1*16777216) (by omega) (by omega),y5f (n:=y2*65536) (by omega) (by omega),y5f (n:=y3*256) (by omega) (by omega),y5f (n:=y1*16777216+y2*65536) (by omega) (by omega),
   y5f (n:=y1*16777216+y2*65536+y3*256) (by omega) (by omega),y5f (n:=y1*16777216+y2*65536+y3*256+y4) (by omega) (by omega)]
  omega
theorem d0o{s:Src}(h:s.ok){n:Int}(hn:0<n):Dr (t1e (s,n)) (fun _=>True):=by
 rw[o6v];unfold q94;obtain⟨y,s1,e1,k1,r1⟩:=r26 h hn;simp only[e1,zOb];exact⟨_,_,rfl,k1,trivial⟩
theorem o9d{s:Src}(h:s.ok){l:Hu Hs}(hl:0<l.length):Dr (u18 (s,l)) (fun y=>y∈l):=by
 rw[o6w];unfold q95;obtain⟨y,s1,e1,k1,r1⟩:=r26 h (n:=(l.length:Int)) (by omega);obtain⟨i,rfl⟩:∃i:Nat,y=(i:Int):=⟨y.toNat,by omega⟩;have hi:i<l.length:=by omega
 simp only[e1,zOb,y8h hi,Ad,zTn];exact⟨_,_,rfl,k1,by show rdL Ty.str l i∈l;have h:rdL Ty.str l i=l[i] :=y9a (t:=Ty.str) (l:=l) hi;rw[h];exact Ag hi⟩
theorem d4v{l:Hu Int}(hl:l.length<=1048576):∃s:Src,s99 l=some s/\s.ok:=by
 have key:∀(d i:Nat) (z:Int),i<=l.length->l.length - i<=d-> ∃z',t7s (l,z,(i:Int))=some (.inl (l,z')):=by
  intro d
  induction d with
  |zero=>
   intro i z hi hd;have:i=l.length:=by omega
   subst this;rw[r2y];simp only[t7l,u0b,Am,Ah,Aa,zOb];exact⟨_,rfl⟩
  |succ d ih=>
   intro i z hi hd;by_cases h:i<l.length
   .rw[r2y];simp only[t7l,u0b,h,Ae,Ad,zOb,y8h h];rw[y7x (by omega)];cases decide ((i:Int)<4000) with
    |false=>exact⟨_,rfl⟩|true=>exact ih (i+1) _ (by omega) (by omega)
   .have:i=l.length:=by omega
    subst this;rw[r2y];simp only[t7l,u0b,Am,Ah,Aa,zOb];exact⟨_,rfl⟩
 obtain⟨z',hz⟩:=key l.length 0 (i64.wrap (77601+(l.length:Int))) (Cn _) (by omega);rw[j0v];unfold p3r;have hz' :t7s (l,i64.wrap (77601+(l.length:Int)),0)=_:=hz;simp only[hz',zOb];exact⟨_,rfl,hl,Bv _,by simp only;omega⟩
def p2e(l:Hu u2m.den)(w:u2m.den):Hu u2m.den:=l.filter (fun x=>y3i x.1 w.1)++ [w] ++l.filter (fun x=> !(y3i x.1 w.1 || z7q x.1 w.1))
theorem o9f(l:Hu u2m.den)(w:u2m.den)(hl:l.length<=1048576):r2c (l,w)=some (p2e l w):=by
 have L1:=s80 t9s l (fun a i=>(l,w,a,i)) (fun x=>y3i x.1 w.1) (fun x=>x) (fun a=> .inl (l,w,a)) (by omega) (fun a ha=>by
  rw[r8w];simp only[t84,u0b,Am,Ah,Aa]) (fun i hi a ha=>by
  have hc:Nat.ble (a.length+([l[i]] :Hu u2m.den).length) z7z=true:=by
   rw[Nat.ble_eq];simp only[Bc,Cc,z7z];omega
  rw[r8w];simp only[t84,u0b,hi,Ae,Ad,y8h hi,zTn,y9a hi];rw[y7x (by omega),hc];rfl)
 simp only[Er]at L1;have L2:=t14 t9t l (fun a i=>(l,w,a,i)) (fun(a:Hu u2m.den) x=>if y3i x.1 w.1 || z7q x.1 w.1 then a else a++ [x]) (fun a=> .inl a) (fun i a=>a.length<=1048577+i) (fun a ha=>by
  rw[r8x];simp only[t85,u0b,Am,Ah,Aa]) (fun i hi a ha=>by
  have hc:Nat.ble (a.length+([l[i]] :Hu u2m.den).length) z7z=true:=by
   rw[Nat.ble_eq];simp only[Bc,Cc,z7z];omega
  rw[r8x];simp only[t85,u0b,hi,Ae,Ad,y8h hi,zTn,y9a hi];rw[y7x (by omega),hc];cases hq:y3i l[i].1 w.1 || z7q l[i].1 w.1 with
  |true=>simp only[Ap,Aa,Bl];refine⟨by omega,?_⟩;trivial|false=>simp only[Bh,Ad,Br,Bk];refine⟨by simp;omega,?_⟩;trivial)
 have key:∀(l:Hu u2m.den) (a:Hu u2m.den),l.foldl (fun(a:Hu u2m.den) x=>if y3i x.1 w.1 || z7q x.1 w.1 then a else a++ [x]) a=a++l.filter (fun x=> !(y3i x.1 w.1 || z7q x.1 w.1)):=by
  intro l
  induction l with
  |nil=>intro a;simp|cons x l ih=>
   intro a;simp only[Bs,ih,Di];cases hq:y3i x.1 w.1 || z7q x.1 w.1<;>simp
 have hlen:(l.filter (fun x=>y3i x.1 w.1)).length<=l.length:=Cs _ _;have L2' :=L2 (l.filter (fun x=>y3i x.1 w.1)++ [w]) (by simp;omega);rw[key]at L2';have hc:Nat.ble ((l.filter (fun x=>y3i x.1 w.1)).length+([w] :Hu u2m.den).length) z7z=true:=by
  rw[Nat.ble_eq];simp only[Bc,Cc,z7z];omega
 rw[o3d];unfold q5n;simp only[L1,zOb];rw[hc];simp only[Ad,L2',zOb];rfl
theorem j76{l:Hu u2m.den}{w x:u2m.den}(h:x∈p2e l w):x∈l\/x=w:=by
 unfold p2e at h;simp only[Bi,Ay,A6,A8,Ep,Em]at h;rcases h with h|h|h
 .exact .inl h.1
 .exact .inr h
 .exact .inl h.1
theorem j75(l:Hu u2m.den)(w:u2m.den):(p2e l w).length<=l.length+1:=by
 have:∀l:Hu u2m.den,(l.filter (fun x=>y3i x.1 w.1)).length+(l.filter (fun x=> !(y3i x.1 w.1 || z7q x.1 w.1))).length<=l.length:=by
  intro l
  induction l with
  |nil=>simp|cons x l ih=>
   simp only[Di];cases y3i x.1 w.1<;>cases z7q x.1 w.1<;>simp only[Ew,Fp,Ap,Bh,Bl,Bk,Br,Bc] <;>omega
 unfold p2e;have:=this l;simp only[Ba,Bc,Cc];omega
def KD(l:Hu u2m.den):Prop:=l.Pairwise fun a b=>a.1≠b.1
def c2y(t:u0y.den):Prop:=t.2.2.2.2.1.length<=3/\(∀r∈t.2.2.2.2.1,r.1.size<=2/\r.2.size<=2)/\t.2.2.2.2.2.1.length<=3/\(∀r∈t.2.2.2.2.2.1,r.1.size<=2/\r.2.1.size<=3)/\t.2.2.2.2.2.2.2.size<=16
def tId(t:u0y.den):Int:=t.1
def tSt(t:u0y.den):Int:=t.2.1
def c2z(t:u0y.den):Int:=t.2.2.1
def tCs(t:u0y.den):Int:=t.2.2.2.1
def d8t(t:u0y.den):Prop:=tSt t=3/\c2z t<tCs t/\KD t.2.2.2.2.2.1
def d83(l:Hu u0y.den):Prop:=(∀t∈l,d8t t)/\l.Pairwise fun a b=>tId a≠tId b/\tCs a<tCs b
def d9u(m:Hu PrT):Prop:=m.Pairwise fun a b=>y3i a.1 b.1=true
def c2w(P:Hu u0y.den):Hu PrT:=P.foldl (fun m t=>d6h m t.2.2.2.2.2.1) []
theorem d3n{l:Hu u2u}{v x:u2u}:x∈j74 l v↔x=v\/x∈l:=by
 unfold j74
 conv=>rhs;rw[←Fe (p:=t1i v) (l:=l)]
 simp only[Ay,Ax];constructor
 .rintro((h|h)|h)
  .exact .inr (.inl h)
  .exact .inl h
  .exact .inr (.inr h)
 .rintro(h|h|h)
  .exact .inl (.inr h)
  .exact .inl (.inl h)
  .exact .inr h
theorem r1j{x:u2u}:∀(ws:Hu u2m.den) (l:Hu u2u) (cs:Int),x∈s3y l ws cs↔x∈l\/ ∃w∈ws,x=(w.1,w.2.1,w.2.2,cs)
 |[],l,cs=>by simp[s3y]
 |w::ws,l,cs=>by
  have e:s3y l (w::ws) cs=s3y (j74 l (w.1,w.2.1,w.2.2,cs)) ws cs:=rfl;rw[e,r1j ws,d3n];constructor
  .rintro((h|h)|⟨y,hy,h⟩)
   .exact .inr ⟨w,by simp,h⟩
   .exact .inl h
   .exact .inr ⟨y,by simp[hy],h⟩
  .rintro(h|⟨y,hy,h⟩)
   .exact .inl (.inr h)
   .rcases A8.mp hy with rfl|hy
    .exact .inl (.inl h)
    .exact .inr ⟨y,hy,h⟩
def vCs(x:u2u):Int:=x.2.2.2
theorem p55(l:Hu u2u)(k:Hs)(snap:Int):∀n,n<=l.length->
 (p3z l k snap n<0-> ∀(i:Nat) (h:i<l.length),i<n-> ¬(l[i].1=k/\vCs l[i] <=snap))/\
 (∀a:Nat,p3z l k snap n=(a:Int)-> ∃h:a<l.length,l[a].1=k/\vCs l[a] <=snap/\ ∀(i:Nat) (h:i<l.length),i<n->l[i].1=k->vCs l[i] <=snap->vCs l[i] <=vCs l[a])
 |0,_=>⟨fun _ i _ h=>absurd h (Ee i),fun a e=>by simp only[p3z]at e;omega⟩|n+1,hn=>by
  obtain⟨h1,h2⟩:=p55 l k snap n (by omega);have hlt:n<l.length:=by omega
  have hr:=p30 l k snap n;simp only[p3z,j26,y9a (t:=u0g) hlt];by_cases hc:z7q l[n].1 k=true/\l[n].2.2.2<=snap/\(p3z l k snap n<0\/l[n].2.2.2 >(rdL u0g l (p3z l k snap n).toNat).2.2.2)
  .rw[Al hc];obtain⟨c1,c2,c3⟩:=hc;have c1:l[n].1=k:=y7r.mp c1;refine⟨fun h=>by omega,fun a e=> ?_⟩;have e:n=a:=by omega
   subst e;refine⟨hlt,c1,c2,fun i hi hin hk hs=> ?_⟩;by_cases q:i=n
   .subst q;exact Bv _
   .rcases Int.lt_or_le (p3z l k snap n) 0 with z|z
    .exact absurd ⟨hk,hs⟩ (h1 z i hi (by omega))
    .obtain⟨b,hb⟩:∃b:Nat,p3z l k snap n=(b:Int):=⟨(p3z l k snap n).toNat,by omega⟩;obtain⟨hbl,_,_,g3⟩:=h2 b hb;rcases c3 with c3|c3
     .omega
     .rw[hb,zTn,y9a (t:=u0g) hbl]at c3;have h5:=g3 i hi (by omega) hk hs;have c3:vCs l[n] >vCs l[b] :=c3;omega
  .rw[Ao hc];have hc' :l[n].1=k->vCs l[n] <=snap-> ∃b:Nat,p3z l k snap n=(b:Int)/\ ∃h:b<l.length,vCs l[n] <=vCs l[b] :=fun c1 c2=>by
    rcases Int.lt_or_le (p3z l k snap n) 0 with z|z
    .exact absurd ⟨y7r.mpr c1,c2, .inl z⟩ hc
    .obtain⟨b,hb⟩:∃b:Nat,p3z l k snap n=(b:Int):=⟨(p3z l k snap n).toNat,by omega⟩;obtain⟨hbl,_⟩:=h2 b hb;refine⟨b,hb,hbl,Hk.mp fun z2=>hc ⟨y7r.mpr c1,c2, .inr ?_⟩⟩;rw[hb,zTn,y9a (t:=u0g) hbl];exact z2
   refine⟨fun h i hi hin=> ?_,fun a e=> ?_⟩
   .by_cases q:i=n
    .subst q
     rintro⟨z1,z2⟩
     obtain⟨b,hb,_⟩:=hc' z1 z2;omega
    .exact h1 h i hi (by omega)
   .obtain⟨ha,g1,g2,g3⟩:=h2 a e;refine⟨ha,g1,g2,fun i hi hin hk hs=> ?_⟩;by_cases q:i=n
    .subst q;obtain⟨b,hb,hbl,g4⟩:=hc' hk hs;have e:b=a:=by omega
     subst e;exact g4
    .exact g3 i hi (by omega) hk hs
theorem j8a(l:Hu u2u)(k v:Hs)(snap:Int)(hu:∀x∈l,∀y∈l,x.1=y.1->vCs x=vCs y->x=y):
 ((r4m l k snap).2=true/\(r4m l k snap).1=v)↔ ∃x∈l,x.1=k/\vCs x<=snap/\x.2.2.1=false/\x.2.1=v/\ ∀y∈l,y.1=k->vCs y<=snap->vCs y<=vCs x:=by
 obtain⟨h1,h2⟩:=p55 l k snap l.length (Au _);have hr:=q75 l k snap;unfold r4m;rcases Int.lt_or_le (t5i l k snap) 0 with z|z
 .rw[Al (.inl z)];constructor
  .rintro⟨h,_⟩;cases h
  .rintro⟨x,hx,q1,q2,_⟩
   obtain⟨i,hi,rfl⟩:=B7 hx;exact absurd ⟨q1,q2⟩ (h1 z i hi hi)
 .obtain⟨b,hb⟩:∃b:Nat,t5i l k snap=(b:Int):=⟨(t5i l k snap).toNat,by omega⟩;obtain⟨hbl,g1,g2,g3⟩:=h2 b hb;rw[hb,zTn,y9a (t:=u0g) hbl];have hmax:∀y∈l,y.1=k->vCs y<=snap->vCs y<=vCs l[b] :=fun y hy q1 q2=>by
   obtain⟨i,hi,rfl⟩:=B7 hy;exact g3 i hi hi q1 q2
  have hnn: ¬((b:Int)<0):=by omega
  cases hg:l[b].2.2.1 with
  |true=>
   rw[Al (.inr rfl)];constructor
   .rintro⟨h,_⟩;cases h
   .rintro⟨x,hx,q1,q2,q3,_,q5⟩
    have m1:=hmax x hx q1 q2;have m2:=q5 l[b] (Ag hbl) g1 g2;have e:=hu x hx l[b] (Ag hbl) (q1.trans g1.symm) (by omega);rw[e,hg]at q3;cases q3
  |false=>
   rw[Ao (by simp)];constructor
   .rintro⟨_,h⟩
    exact⟨l[b],Ag hbl,g1,g2,hg,h,hmax⟩
   .rintro⟨x,hx,q1,q2,q3,q4,q5⟩
    have m1:=hmax x hx q1 q2;have m2:=q5 l[b] (Ag hbl) g1 g2;have e:=hu x hx l[b] (Ag hbl) (q1.trans g1.symm) (by omega);rw[e]at q4;exact⟨rfl,q4⟩
theorem j79(l:Hu u2u)(r:PrT)(snap:Int):d9u (s5s l r snap):=by
 unfold d9u s5s;rw[Dl];exact((t9x _).1).filter _
theorem j7x(l:Hu u2u)(r:PrT)(snap:Int)(k v:Hs)(hu:∀x∈l,∀y∈l,x.1=y.1->vCs x=vCs y->x=y):
 (k,v)∈s5s l r snap↔inR r k=true/\ ∃x∈l,x.1=k/\vCs x<=snap/\x.2.2.1=false/\x.2.1=v/\ ∀y∈l,y.1=k->vCs y<=snap->vCs y<=vCs x:=by
 unfold s5s;simp only[Bx,A6,Ai,Ak];constructor
 .rintro⟨k',⟨_,h2,h3⟩,rfl,h5⟩
  exact⟨h3,(j8a l k' v snap hu).mp ⟨h2,h5⟩⟩
 .rintro⟨h1,h2⟩
  obtain⟨q1,q2⟩:=(j8a l k v snap hu).mpr h2;obtain⟨x,hx,e,_⟩:=h2;exact⟨k,⟨((t9x _).2 k).mpr (Bx.mpr ⟨x,hx,e⟩),q1,h1⟩,rfl,q2⟩
theorem twl{E:Type}(p:E->Bool):∀(l:Hu E),(l.takeWhile p).length<=l.length/\(∀(i:Nat) (h:i<l.length),i<(l.takeWhile p).length->p l[i] =true)/\
 (∀(h:(l.takeWhile p).length<l.length),p l[(l.takeWhile p).length] =false)
 |[] =>⟨Au _,fun i h=>absurd h (Ee i),fun h=>absurd h (Ee _)⟩|x::l=>by
  obtain⟨h1,h2,h3⟩:=twl p l;cases hp:p x with
  |false=>
   simp only[F8,hp,Br,Bk,Cc];exact⟨Cn _,fun i _ h=>absurd h (Ee i),fun _=>hp⟩
  |true=>
   simp only[F8,hp,Bl,Bc];refine⟨by omega,fun i h k=> ?_,fun h=> ?_⟩
   .cases i with
    |zero=>exact hp|succ i=>simpa using h2 i (by simpa using h) (by omega)
   .simpa using h3 (by omega)
def u0o{E:Type}(p:E->Bool)(l:Hu E):Nat:=(l.takeWhile fun x=> !p x).length
theorem t2l{E:Type}(p:E->Bool)(l:Hu E):u0o p l<=l.length:=(twl _ l).1
theorem u9n{E:Type}{p:E->Bool}{l:Hu E}{i:Nat}(h:i<l.length)(hi:i<u0o p l):p l[i] =false:=by
 have:=(twl (fun x=> !p x) l).2.1 i h hi;simpa using this
theorem u9u{E:Type}{p:E->Bool}{l:Hu E}(h:u0o p l<l.length):p l[u0o p l] =true:=by
 unfold u0o at h⊢;have:=(twl (fun x=> !p x) l).2.2 h;simpa using this
theorem u9t{E:Type}(p:E->Bool)(l:Hu E):decide (u0o p l<l.length)=l.any p:=by
 cases hc:l.any p with
 |true=>
  obtain⟨x,hx,hp⟩:=Cm.mp hc;obtain⟨i,hi,rfl⟩:=B7 hx;have: ¬i<u0o p l:=fun q=>by rw[u9n hi q]at hp;cases hp
  simp only[Ar];omega
 |false=>
  simp only[Bu];intro h;have:=u9u h;have:=Ct.mp hc _ (Ag h);contradiction
theorem Q.first{T:Ty}{c:Type}{q:T.den×c->Ht Bool}{p:T.den->Bool}{W:Hu T.den×c×Int×Int->Ht (Unit⊕Int)}
 (hW:∀x,W x=(bif (decide (x.2.2.2<x.2.2.1)) then(bif (y4v x.2.2.2 x.1.length) then((q ((rdL T x.1 (x.2.2.2).toNat),x.2.1)).bind fun(y1:Bool)=>(bif y1 then(some (.inr x.2.2.2)) else(W (x.1,(x.2.1,(x.2.2.1,(i64.wrap (x.2.2.2+(1:Int))))))))) else none) else(some (.inl ()))))
 (l:Hu T.den) (k:c) (hl:l.length<=1099511627776) (hq:∀x∈l,q (x,k)=some (p x)):
 W (l,k,(l.length:Int),0)=some (if u0o p l<l.length then .inr ((u0o p l:Nat):Int) else .inl ()):=by
 have hle:=t2l p l
 have:=q4l W (u0o p l) (fun(_:Unit) i=>(l,k,(l.length:Int),i)) (fun _ _=>if u0o p l<l.length then .inr ((u0o p l:Nat):Int) else .inl ()) (fun _ _=>True)
  (fun a _=>by
   rw[hW];by_cases hk:u0o p l<l.length
   .simp only[u0b,hk,Ae,Ad,y8h hk,zTn,y9a hk,hq _ (Ag hk),u9u hk,zOb,Bl]
   .simp only[u0b,hk,Ah,Aa,Bk])
  (fun i a hi _=> .inr ⟨(),trivial,rfl,by
   have hil:i<l.length:=by omega
   rw[hW];simp only[u0b,hil,Ae,Ad,y8h hil,zTn,y9a hil,hq _ (Ag hil),u9n hil hi,zOb,Aa];rw[y7x (by omega)]⟩) 0 () (Cn _) trivial
 exact this
theorem Q.delete{T:Ty}{c R:Type}{q:T.den×c->Ht Bool}{p:T.den->Bool}{W:Hu T.den×c×Int×Int->Ht ((Hu T.den×Int)⊕R)}
 (hW:∀x,W x=(bif (decide (x.2.2.2<(x.1.length:Int))) then(bif (y4v x.2.2.2 x.1.length) then((q ((rdL T x.1 (x.2.2.2).toNat),x.2.1)).bind fun(y2:Bool)=>(bif (!y2) then(bif (y4v x.2.2.1 x.1.length) then(W ((x.1.set (x.2.2.1).toNat (rdL T x.1 (x.2.2.2).toNat)),(x.2.1,((i64.wrap (x.2.2.1+(1:Int))),(i64.wrap (x.2.2.2+(1:Int))))))) else none) else(W (x.1,(x.2.1,(x.2.2.1,(i64.wrap (x.2.2.2+(1:Int))))))))) else none) else(some (.inl (x.1,x.2.2.1)))))
 (l:Hu T.den) (k:c) (hl:l.length<=1099511627776) (hq:∀x∈l,q (x,k)=some (p x)) (hf:u0o p l<l.length):
 ∃a:Hu T.den,W (l,k,((u0o p l:Nat):Int),((u0o p l+1:Nat):Int))=some (.inl (a,((l.filter fun x=> !p x).length:Int)))/\a.length=l.length/\a.take (l.filter fun x=> !p x).length=l.filter fun x=> !p x:=by
 have key:∀(d j:Nat) (a:Hu T.den),j+d=l.length->a.length=l.length->a.drop j=l.drop j->((l.take j).filter fun x=> !p x).length<=j->((l.take j).filter fun x=> !p x).length<l.length->a.take ((l.take j).filter fun x=> !p x).length=(l.take j).filter (fun x=> !p x)->
  ((l.take j).filter fun x=> !p x).length<j->
  ∃a' :Hu T.den,W (a,k,(((l.take j).filter fun x=> !p x).length:Int),(j:Int))=some (.inl (a',((l.filter fun x=> !p x).length:Int)))/\a'.length=l.length/\a'.take (l.filter fun x=> !p x).length=l.filter fun x=> !p x:=by
  intro d
  induction d with
  |zero=>
   intro j a hj ha h1 h2 h3 h4 h5;have e:j=l.length:=by omega
   subst e;rw[Cq]at h4⊢;rw[hW];simp only[ha,u0b,Am,Ah,Aa];exact⟨a,rfl,ha,h4⟩
  |succ d ih=>
   intro j a hj ha h1 h2 h3 h4 h5;have hjl:j<l.length:=by omega
   have hja:j<a.length:=by omega
   have haj:a[j] =l[j] :=by
    have e1:=Ce hja;have e2:=Ce hjl;rw[h1,e2]at e1;injection e1 with e1 _
    exact e1.symm
   have hs:l.take (j+1)=l.take j++ [l[j]] :=B9 hjl;have hd:a.drop (j+1)=l.drop (j+1):=by
    have:=Dj List.tail h1;simpa using this
   rw[hW];simp only[u0b,hja,Ae,Ad,y8h hja,zTn,y9a hja,haj,hq _ (Ag hjl),zOb];rw[y7x (i:=j) (by omega)];cases hp:p l[j] with
   |true=>
    simp only[Ap,Aa];have e:(l.take (j+1)).filter (fun x=> !p x)=(l.take j).filter fun x=> !p x:=by rw[hs,Hl,Di];simp only[hp,Ap,Br,Bk,List.filter_nil,Bw]
    have:=ih (j+1) a (by omega) ha hd (by rw[e];omega) (by rw[e];exact h3) (by rw[e];exact h4) (by rw[e];omega)
    rwa [e]at this
   |false=>
    have e:(l.take (j+1)).filter (fun x=> !p x)=(l.take j).filter (fun x=> !p x)++ [l[j]] :=by rw[hs,Hl,Di];simp only[hp,Bh,Bl,List.filter_nil]
    have el:((l.take (j+1)).filter fun x=> !p x).length=((l.take j).filter fun x=> !p x).length+1:=by rw[e];simp
    have hia:((l.take j).filter fun x=> !p x).length<a.length:=by omega
    simp only[Bh,Ad,y8h hia];rw[y7x (i:=((l.take j).filter fun x=> !p x).length) (by omega)];have:=ih (j+1) (a.set ((l.take j).filter fun x=> !p x).length l[j]) (by omega) (by simpa using ha) (by
     rw[List.drop_set_of_lt (by omega)];exact hd) (by rw[el];omega) (by rw[el];omega) (by
     rw[el,B9 (by simpa using hia),e];congr 1
     .rw[List.take_set_of_le (Au _)];exact h4
     .simp) (by rw[el];omega)
    rwa [el]at this
 have hk:=t2l p l;have e:(l.take (u0o p l+1)).filter (fun x=> !p x)=l.take (u0o p l):=by
  rw[B9 hf,Hl];have h1:(l.take (u0o p l)).filter (fun x=> !p x)=l.take (u0o p l):=by
   rw[F9];intro x hx;obtain⟨i,hi,rfl⟩:=B7 hx;have hi' :i<u0o p l:=by have:=hi;rw[Ec]at this;omega
   rw[Fc,u9n (by omega) hi'];rfl
  rw[h1];simp[u9u hf]
 have el:((l.take (u0o p l+1)).filter fun x=> !p x).length=u0o p l:=by rw[e,Ec];omega
 have:=key (l.length - (u0o p l+1)) (u0o p l+1) l (by omega) rfl rfl (by rw[el];omega) (by rw[el];exact hf) (by rw[el,e]) (by rw[el];omega)
 rwa [el]at this
def j4q(x y:u0e):Bool:=decide (x.2.1=3)&&decide (x.2.2.2.1<=y.2.2.1)
def p78(a b:u0e):Bool:= !decide (a.1=b.1)&&(!j4q a b&& !j4q b a)
def ahead(a b:u0e):Bool:=p78 a b&&p2j a.2.2.2.2.1 b.2.2.2.2.2.1
def p40(t:u0e)(l:Hu u0e):Bool:=l.any fun x=>decide (x.2.1=3)&&ahead t x
theorem j5q(a b:u0e):r94 (a,b)=some (p78 a b):=by
 rw[j0h];unfold p3d p78 j4q;by_cases h1:a.1=b.1
 .simp[h1]
 .by_cases h2:a.2.1=3<;>by_cases h3:a.2.2.2.1<=b.2.2.1<;>by_cases h4:b.2.1=3<;>by_cases h5:b.2.2.2.1<=a.2.2.1<;>simp[h1,h2,h3,h4,h5]
theorem j5p(a b:u0e):r9u (a,b)=some (p78 a b):=by
 rw[o9z];unfold p2u;simp only[o2e,q4s];unfold p78 j4q;by_cases h1:a.1=b.1
 .simp[h1]
 .by_cases h2:a.2.1=3<;>by_cases h3:a.2.2.2.1<=b.2.2.1<;>by_cases h4:b.2.1=3<;>by_cases h5:b.2.2.2.1<=a.2.2.1<;>simp[h1,h2,h3,h4,h5]
theorem t8m(a b:u0e)(ha:a.2.2.2.2.1.length<=u0i)(hb:b.2.2.2.2.2.1.length<=u0i):u39 (a,b)=some (ahead a b):=by
 rw[j3o];unfold p7v ahead;have h1:=j5q a b;have h2:=j2y _ _ ha hb;simp only[h2,zOb];rw[h1];cases p78 a b<;>rfl
theorem t5t(a b:u0e)(ha:a.2.2.2.2.1.length<=u0i)(hb:b.2.2.2.2.2.1.length<=u0i):u42 (a,b)=some (ahead a b):=by
 rw[j3b];unfold p7i ahead;have h1:=j5p a b;have h2:=j2x _ _ ha hb;simp only[h2,zOb];rw[h1];cases p78 a b<;>rfl
def s8c(t:u0e):Prop:=t.2.2.2.2.1.length<=1048576/\t.2.2.2.2.2.1.length<=1048576
def q4a(l:Hu u0e):Prop:=l.length<=4194304/\ ∀t∈l,s8c t
theorem t1q{n:Nat}(h:n<=1048576):n<=u0i:=by unfold u0i;omega
theorem p50(t:u0e)(l:Hu u0e)(ht:s8c t)(hl:q4a l):s72 (t,l)=some (p40 t l):=by
 obtain⟨l1,l2⟩:=hl
 have L:=s4c s6r l (fun i=>(l,t,i)) (fun x=>decide (x.2.1=3)&&ahead t x) (.inr true) (.inl ())
  (by rw[p1r];simp only[s6j,u0b,Am,Ah,Aa])
  (fun i hi=>by
   have h1:=t8m t l[i] (t1q ht.1) (t1q (l2 _ (Ag hi)).2);rw[p1r];simp only[s6j,u0b,hi,Ae,Ad,y8h hi,zTn,y9a (t:=u0y) hi,h1,zOb];rw[y7x (by omega)];cases decide (l[i].2.1=3)<;>cases ahead t l[i] <;>rfl)
 rw[j3v];unfold p72 p40;simp only[L,zOb];cases l.any fun x=>decide (x.2.1=3)&&ahead t x<;>rfl
theorem p5z(t:u0e)(l:Hu u0e)(ht:s8c t)(hl:q4a l):s7z (t,l)=some (p40 t l):=by
 obtain⟨l1,l2⟩:=hl;have hq:∀x∈l,s6z (x,t)=some (decide (x.2.1=3)&&ahead t x):=fun x hx=>by
  have h1:=t5t t x (t1q ht.1) (t1q (l2 x hx).2);rw[o5s];unfold q83;simp only[s4r,s4m,zOb,h1];cases decide (x.2.1=3)<;>rfl
 have L:=Q.first (T:=u0y) (c:=u0e) (W:=u13) (q:=s6z) (p:=fun x:u0e=>decide (x.2.1=3)&&ahead t x) (fun x=>t5s x) l t (by omega) hq;rw[j3i];unfold p7p p40;simp only[r7a,s3l,t33,u5y,t7f,u7m,L,zOb];rw[←u9t];by_cases h:u0o (fun x:u0e=>decide (x.2.1=3)&&ahead t x) l<l.length
 .simp[h]
 .simp[h]
theorem t4j(t:u0e)(h:s8c t):u05 t=some t:=by
 rw[p0x];unfold r5j;simp only[Cc,Co,Cf,u0v (show t.2.2.2.2.1.length<=1099511627776 by have:=h.1;omega),u0v (show t.2.2.2.2.2.1.length<=1099511627776 by have:=h.2;omega),Ad]
theorem s7i(t:u0e)(h:s8c t):u2n t=some t:=by
 rw[o56];unfold q9h;simp only[u0v (show t.2.2.2.2.1.length<=1099511627776 by have:=h.1;omega),u0v (show t.2.2.2.2.2.1.length<=1099511627776 by have:=h.2;omega),Ad]
theorem r0l(l:Hu u0e)(h:q4a l):t5x l=some l:=by
 have L:=s80 s2o l (fun a i=>(l,a,i)) (fun _=>true) (fun x=>x) (fun a=> .inl a) (by have:=h.1;omega)
  (fun a _=>by rw[q30];simp only[s2a,u0b,Am,Ah,Aa])
  (fun i hi a ha=>by
   have h1:=t4j l[i] (h.2 _ (Ag hi));have:=h.1;rw[q30];simp only[s2a,u0b,hi,Ae,Ad,y8h hi,zTn,y9a (t:=u0y) hi,h1,zOb,Aw,u0v (show a.length+1<=1099511627776 by omega)];rw[y7x (by omega)])
 rw[o63];unfold p0d;simp only[L,zOb];simp
theorem r9a(l:Hu u0e)(h:q4a l):t2r l=some l:=by
 have L:=s80 t9n l (fun a i=>(a,l,(l.length:Int),i)) (fun _=>true) (fun x=>x) (fun a=> .inl a) (by have:=h.1;omega)
  (fun a _=>by rw[r8o];simp only[t8w,u0b,Am,Ah,Aa])
  (fun i hi a ha=>by
   have h1:=s7i l[i] (h.2 _ (Ag hi));have:=h.1;rw[r8o];simp only[t8w,u0b,hi,Ae,Ad,y8h hi,zTn,y9a (t:=u0y) hi,h1,zOb,Aw,u0v (show a.length+1<=1099511627776 by omega)];rw[y7x (by omega)])
 rw[o2w];unfold q49;simp only[L,zOb];simp
abbrev u0m:=Hu u2u×Hu u0e×Hu u0e×Int×Int
def fewB(b:u0m):Prop:=b.1.length<=4194304/\q4a b.2.1/\q4a b.2.2.1
theorem s5w(b:u0m)(h:fewB b):u4h b=some b:=by
 have h1:=r0l b.2.1 h.2.1;have h2:=r0l b.2.2.1 h.2.2;rw[o62];unfold p0c;simp only[Cc,Co,Cf,u0v (show b.1.length<=1099511627776 by have:=h.1;omega),Ad,h1,h2,zOb]
theorem s5v(b:u0m)(h:fewB b):u14 b=some b:=by
 have h1:=r9a b.2.1 h.2.1;have h2:=r9a b.2.2.1 h.2.2;rw[o2u];unfold q47;simp only[u0v (show b.1.length<=1099511627776 by have:=h.1;omega),Ad,h1,h2,zOb]
def s5q(b:u0m)(open_:Hu u0e):Int:=open_.foldl (fun m t=>if t.2.2.1<m then t.2.2.1 else m) b.2.2.2.1
theorem j5z(b:u0m)(o:Hu u0e)(h:o.length<=4194304):r2b (b,o)=some (s5q b o):=by
 have L:=t14 t9r o (fun a i=>(o,a,i)) (fun(m:Int) t=>if t.2.2.1<m then t.2.2.1 else m) (fun a=> .inl a) (fun _ _=>True)
  (fun a _=>by rw[r8v];simp only[t83,u0b,Am,Ah,Aa])
  (fun i hi a _=>by
   refine⟨trivial,?_⟩;rw[r8v];simp only[t83,u0b,hi,Ae,Ad,y8h hi,zTn,y9a (t:=u0y) hi];rw[y7x (by omega)];by_cases hc:o[i].2.2.1<a
   .simp only[hc,Ae,Ad,Bl]
   .simp only[hc,Ah,Aa,Bk]) b.2.2.2.1 trivial
 rw[o3c];unfold q5m;simp only[L,zOb];rfl
theorem j5y(b:u0m)(o:Hu u0e)(h:o.length<=4194304):r1o (b,o)=some (s5q b o):=by
 have L:=t14 t9i o (fun a i=>(a,o,(o.length:Int),i)) (fun(m:Int) t=>if t.2.2.1<m then t.2.2.1 else m) (fun a=> .inl a) (fun _ _=>True)
  (fun a _=>by rw[r8h];simp only[t8p,u0b,Am,Ah,Aa])
  (fun i hi a _=>by
   refine⟨trivial,?_⟩;rw[r8h];simp only[t8p,u0b,hi,Ae,Ad,y8h hi,zTn,y9a (t:=u0y) hi];rw[y7x (by omega)];have e:y8y a o[i].2.2.1=if o[i].2.2.1<a then o[i].2.2.1 else a:=by
    unfold y8y;split<;>rfl
   rw[e]) b.2.2.2.1 trivial
 rw[o2k];unfold q4y;simp only[L,zOb];rfl
def u0k(b:u0m)(n:Hs):Int:=if u0o (fun x:u0e=>z7q x.2.2.2.2.2.2.2 n) b.2.2.1<b.2.2.1.length then((u0o (fun x:u0e=>z7q x.2.2.2.2.2.2.2 n) b.2.2.1:Nat):Int) else -1
theorem s3h(b:u0m)(n:Hs)(h:b.2.2.1.length<=4194304):u2e (b,n)=some (u0k b n):=by
 have hq:∀x∈b.2.2.1,s2v (x,n)=some (z7q x.2.2.2.2.2.2.2 n):=fun x _=>by
  rw[p9j];unfold q0u;rfl
 have L:=Q.first (T:=u0y) (c:=Hs) (W:=u1q) (q:=s2v) (p:=fun x:u0e=>z7q x.2.2.2.2.2.2.2 n) (fun x=>t27 x) b.2.2.1 n (by omega) hq;rw[o5y];unfold q89 u0k;simp only[t5d,u6l,L,zOb];by_cases hk:u0o (fun x:u0e=>z7q x.2.2.2.2.2.2.2 n) b.2.2.1<b.2.2.1.length
 .simp only[Al hk,zOb]
 .simp only[Ao hk,zOb]
theorem s3i(b:u0m)(n:Hs)(h:b.2.2.1.length<=4194304):u2f (b,n)=some (u0k b n):=by
 have L:=q4l t40 (u0o (fun x:u0e=>z7q x.2.2.2.2.2.2.2 n) b.2.2.1) (fun(_:Unit) i=>(n,b,i)) (fun _ _=>if u0o (fun x:u0e=>z7q x.2.2.2.2.2.2.2 n) b.2.2.1<b.2.2.1.length then .inr ((u0o (fun x:u0e=>z7q x.2.2.2.2.2.2.2 n) b.2.2.1:Nat):Int) else .inl ()) (fun _ _=>True)
  (fun a _=>by
   have hle:=t2l (fun x:u0e=>z7q x.2.2.2.2.2.2.2 n) b.2.2.1;rw[q3s];by_cases hk:u0o (fun x:u0e=>z7q x.2.2.2.2.2.2.2 n) b.2.2.1<b.2.2.1.length
   .have hy:=u9u hk;simp only[t4l,u0b,hk,Ae,Ad,y8h hk,zTn,y9a (t:=u0y) hk,hy,Bl]
   .simp only[t4l,u0b,hk,Ah,Aa,Bk])
  (fun i a hi _=> .inr ⟨(),trivial,rfl,by
   have hle:=t2l (fun x:u0e=>z7q x.2.2.2.2.2.2.2 n) b.2.2.1;have hil:i<b.2.2.1.length:=by omega
   have hn:=u9n hil hi;rw[q3s];simp only[t4l,u0b,hil,Ae,Ad,y8h hil,zTn,y9a (t:=u0y) hil,hn,Aa];rw[y7x (by omega)]⟩) 0 () (Cn _) trivial
 have L:t40 (n,b,0)=_:=L;rw[o6n];unfold q9w u0k;simp only[L,zOb];by_cases hk:u0o (fun x:u0e=>z7q x.2.2.2.2.2.2.2 n) b.2.2.1<b.2.2.1.length
 .simp only[Al hk]
 .simp only[Ao hk]
def o7f(l:Hu u2u)(snap:Int)(i:Nat):Bool:=decide ((rdL u0g l i).2.2.2 >snap) || decide (t5i l (rdL u0g l i).1 snap=(i:Int))
def trA(l:Hu u2u)(snap:Int):Nat->Hu u2u
 |0=> []|n+1=>if o7f l snap n=true then trA l snap n++ [rdL u0g l n] else trA l snap n
theorem p64(l:Hu u2u)(snap:Int):∀n,(trA l snap n).length<=n
 |0=>Au _|n+1=>by
  have:=p64 l snap n;simp only[trA];split
  .simp;omega
  .omega
def d2p(l:Hu u2u)(k:Hs):Nat:=(l.filter fun v=>z7q v.1 k).length
def j9b(l:Hu u2u)(snap:Int)(v:u2u):Bool:= !v.2.2.1 || (decide (v.2.2.2 >snap) || decide ((d2p l v.1:Int) >1))
def u2y(l:Hu u2u)(snap:Int):Hu u2u:=(trA l snap l.length).filter (j9b (trA l snap l.length) snap)
theorem j9r(l:Hu u2u)(snap:Int)(hl:l.length<=8388608):t42 (l,snap, [],0)=some (.inl (snap,trA l snap l.length)):=
 r9j t42 l.length (fun a i=>(l,snap,a,i)) (fun i=>trA l snap i) (.inl (snap,trA l snap l.length))
  (by rw[q3w];simp only[s15,u0b,Am,Ah,Aa])
  (fun i hi=>by
   have hL:=o4c l (rdL u0g l i).1 snap (by omega);have hn:=p64 l snap i;rw[q3w];simp only[s15,u0b,hi,Ae,Ad,y8h hi,zTn,hL,zOb,Aw,u0v (show(trA l snap i).length+1<=1099511627776 by omega)];rw[y7x (by omega)];simp only[trA,o7f];by_cases h1:(rdL u0g l i).2.2.2 >snap
   .simp[h1]
   .by_cases h2:t5i l (rdL u0g l i).1 snap=(i:Int)<;>simp[h1,h2])
theorem j9q(l:Hu u2u)(snap:Int)(hl:l.length<=8388608):t4r (l,snap, [],l,(l.length:Int),0)=some (.inl (snap,trA l snap l.length)):=
 r9j t4r l.length (fun a i=>(l,snap,a,l,(l.length:Int),i)) (fun i=>trA l snap i) (.inl (snap,trA l snap l.length))
  (by rw[q3d];simp only[s1m,u0b,Am,Ah,Aa])
  (fun i hi=>by
   have hL:=o4b l (rdL u0g l i).1 snap (by omega);have hn:=p64 l snap i;rw[q3d];simp only[s1m,u0b,hi,Ae,Ad,y8h hi,zTn,hL,zOb,Aw,u0v (show(trA l snap i).length+1<=1099511627776 by omega)];rw[y7x (by omega)];simp only[trA,o7f];by_cases h1:(rdL u0g l i).2.2.2 >snap
   .simp[h1]
   .by_cases h2:t5i l (rdL u0g l i).1 snap=(i:Int)<;>simp[h1,h2])
theorem o1v(k:Hs):∀(l:Hu u2u) (a:Nat),l.foldl (fun(a:Nat) v=>if z7q v.1 k=true then a+1 else a) a=a+d2p l k
 |[],a=>by simp[d2p]
 |x::l,a=>by
  rw[Bs,o1v k l];unfold d2p;cases hc:z7q x.1 k with
  |true=>simp[Di,hc];omega|false=>simp[Di,hc]
theorem j9t(s out:Hu u2u)(snap:Int)(i:Nat)(hi:i<s.length)(hl:s.length<=8388608):
 t2d (snap,s,out,(i:Int),0,0)=some (.inl (snap,s,out,(i:Int),(d2p s s[i].1:Int))):=by
 have L:=t14 t2d s (fun(a:Nat) j=>(snap,s,out,(i:Int),(a:Int),j)) (fun(a:Nat) v=>if z7q v.1 s[i].1=true then a+1 else a) (fun a=> .inl (snap,s,out,(i:Int),(a:Int))) (fun j a=>a<=j)
  (fun a _=>by rw[r83];simp only[t9b,u0b,Am,Ah,Aa])
  (fun j hj a ha=>by
   rw[r83];simp only[t9b,u0b,hj,Ae,Ad,y8h hj,y8h hi,zTn,y9a (t:=u0g) hj,y9a (t:=u0g) hi];rw[y7x (i:=j) (by omega),y7x (i:=a) (by omega)];cases z7q s[j].1 s[i].1 with
   |true=>simp only[Ad,Bl];exact⟨by omega,trivial⟩|false=>simp only[Aa,Br,Bk];exact⟨by omega,trivial⟩) 0 (Cn _)
 rw[o1v,Co]at L;exact L
theorem j9s(s:Hu u2u)(k:Hs)(hl:s.length<=8388608):s8n (k,s)=some (d2p s k:Int):=by
 have L:=t14 t0r s (fun(a:Nat) j=>(k,(a:Int),s,(s.length:Int),j)) (fun(a:Nat) v=>if z7q v.1 k=true then a+1 else a) (fun a=> .inl (a:Int)) (fun j a=>a<=j)
  (fun a _=>by rw[r4v];simp only[t6e,u0b,Am,Ah,Aa])
  (fun j hj a ha=>by
   rw[r4v];simp only[t6e,u0b,hj,Ae,Ad,y8h hj,zTn,y9a (t:=u0g) hj];rw[y7x (i:=j) (by omega),y7x (i:=a) (by omega)];cases z7q s[j].1 k with
   |true=>simp only[Ad,Bl];exact⟨by omega,trivial⟩|false=>simp only[Aa,Br,Bk];exact⟨by omega,trivial⟩) 0 (Cn _)
 rw[o1v,Co]at L;have L:t0r (k,0,s,(s.length:Int),0)=_:=L;rw[p9p];unfold q0z;simp only[L,zOb]
theorem j22(l:Hu u2u)(snap:Int)(hl:l.length<=8388608):r59 (l,snap)=some (u2y l snap):=by
 have hs:(trA l snap l.length).length<=8388608:=A9 (p64 _ _ _) hl;obtain⟨s,hse⟩:∃s,s=trA l snap l.length:=⟨_,rfl⟩;rw[←hse]at hs
 have L:=s80 t9u s (fun a i=>(snap,s,a,i)) (j9b s snap) (fun v=>v) (fun a=> .inl a) (by omega)
  (fun a _=>by rw[r82];simp only[t9a,u0b,Am,Ah,Aa])
  (fun i hi a ha=>by
   rw[r82];simp only[t9a,u0b,hi,Ae,Ad,j9t s a snap i hi hs,zOb,y8h hi,zTn,y9a (t:=u0g) hi,Aw,u0v (show a.length+1<=1099511627776 by omega)];rw[y7x (by omega)];unfold j9b;cases h1:s[i].2.2.1 with
   |false=>simp|true=>
    by_cases h2:s[i].2.2.2 >snap
    .simp[h2]
    .by_cases h3:(d2p s s[i].1:Int) >1<;>simp[h2,h3])
 rw[Er]at L;have hA:=j9r l snap hl;rw[←hse]at hA;rw[o6r];unfold q90 u2y;rw[←hse];simp only[hA,L,zOb]
theorem j2z(l:Hu u2u)(snap:Int)(hl:l.length<=8388608):r50 (l,snap)=some (u2y l snap):=by
 have hs:(trA l snap l.length).length<=8388608:=A9 (p64 _ _ _) hl;obtain⟨s,hse⟩:∃s,s=trA l snap l.length:=⟨_,rfl⟩;rw[←hse]at hs
 have L:=s80 t9l s (fun a i=>(snap,s,a,s,(s.length:Int),i)) (j9b s snap) (fun v=>v) (fun a=> .inl a) (by omega)
  (fun a _=>by rw[r8l];simp only[t8t,u0b,Am,Ah,Aa])
  (fun i hi a ha=>by
   rw[r8l];simp only[t8t,u0b,hi,Ae,Ad,j9s s _ hs,zOb,y8h hi,zTn,y9a (t:=u0g) hi,Aw,u0v (show a.length+1<=1099511627776 by omega)];rw[y7x (by omega)];unfold j9b;cases h1:s[i].2.2.1 with
   |false=>simp|true=>
    by_cases h2:s[i].2.2.2 >snap
    .simp[h2]
    .by_cases h3:(d2p s s[i].1:Int) >1<;>simp[h2,h3])
 rw[Er]at L;have hA:=j9q l snap hl;rw[←hse]at hA;rw[o52];unfold q9d u2y;rw[←hse];simp only[hA,L,zOb]
theorem j64(l:Hu u2u)(snap:Int):(u2y l snap).length<=l.length:=A9 (Cs _ _) (p64 _ _ _)
theorem d1x{E:Type}{r:E->E->Prop}(hi:∀x,¬r x x)(ha:∀x y,r x y-> ¬r y x):∀ {l m:Hu E},l.Pairwise r->m.Pairwise r->(∀x,x∈l↔x∈m)->l=m
 |[], [],_,_,_=>rfl|[],y::m,_,_,h=>by have:=(h y).mpr (by simp);simp at this
 |x::l, [],_,_,h=>by have:=(h x).mp (by simp);simp at this
 |x::l,y::m,hl,hm,h=>by
  have hl' :=Ch.mp hl;have hm' :=Ch.mp hm;have hxy:x=y:=by
   rcases A8.mp ((h x).mp (by simp))with e|e
   .exact e
   .rcases A8.mp ((h y).mpr (by simp))with e'|e'
    .exact e'.symm
    .exact absurd (hm'.1 x e) (ha _ _ (hl'.1 y e'))
  subst hxy;congr 1;refine d1x hi ha hl'.2 hm'.2 fun z=> ?_
  constructor
  .intro hz;rcases A8.mp ((h z).mp (by simp[hz]))with e|e
   .subst e;exact absurd (hl'.1 z hz) (hi z)
   .exact e
  .intro hz;rcases A8.mp ((h z).mpr (by simp[hz]))with e|e
   .subst e;exact absurd (hm'.1 z hz) (hi z)
   .exact e
def vLt(a b:u2u):Prop:=y3i a.1 b.1=true\/(a.1=b.1/\vCs a<vCs b)
def VAsc(l:Hu u2u):Prop:=l.Pairwise vLt
theorem j66(a:u2u): ¬vLt a a:=fun h=>by
 rcases h with h|h
 .rw[t8f]at h;cases h
 .omega
theorem d4g(a b:u2u)(h:vLt a b): ¬vLt b a:=fun k=>by
 rcases h with h|⟨h,h'⟩<;>rcases k with k|⟨k,k'⟩
 .rw[q0c h]at k;cases k
 .rw[k,t8f]at h;cases h
 .rw[h,t8f]at k;cases k
 .omega
theorem d6v(a b:u2u)(h: ¬(a.1=b.1/\vCs a=vCs b)):vLt a b\/vLt b a:=by
 rcases p61 a.1 b.1 with c|c|c
 .exact .inl (.inl c)
 .rcases Int.lt_trichotomy (vCs a) (vCs b)with d|d|d
  .exact .inl (.inr ⟨c,d⟩)
  .exact absurd ⟨c,d⟩ h
  .exact .inr (.inr ⟨c.symm,d⟩)
 .exact .inr (.inl c)
theorem VAsc.ext{l m:Hu u2u}(h:VAsc l)(k:VAsc m)(e:∀x,x∈l↔x∈m):l=m:=d1x j66 d4g h k e
theorem VAsc.uni:∀ {l:Hu u2u},VAsc l-> ∀x∈l,∀y∈l,x.1=y.1->vCs x=vCs y->x=y
 |[],_,x,hx=>by cases hx
 |z::l,h,x,hx=>fun y hy e1 e2=>by
  have h' :=Ch.mp h;have no:∀a b:u2u,a.1=b.1->vCs a=vCs b-> ¬vLt a b:=fun a b e1 e2 k=>by
   rcases k with k|k
   .rw[e1,t8f]at k;cases k
   .omega
  rcases A8.mp hx with rfl|hx' <;>rcases A8.mp hy with rfl|hy'
  .rfl
  .exact absurd (h'.1 y hy') (no _ _ e1 e2)
  .exact absurd (h'.1 x hx') (no _ _ e1.symm e2.symm)
  .exact VAsc.uni h'.2 x hx' y hy' e1 e2
def d3i(l:Hu u2u)(s:Int)(x:u2u):Prop:=vCs x<=s/\ ∀y∈l,y.1=x.1->vCs y<=s->vCs y<=vCs x
theorem o8e{l:Hu u2u}(hA:VAsc l){s:Int}{i:Nat}(h:i<l.length):t5i l l[i].1 s=(i:Int)↔d3i l s l[i] :=by
 obtain⟨h1,h2⟩:=p55 l l[i].1 s l.length (Au _);constructor
 .intro e;obtain⟨_,g1,g2,g3⟩:=h2 i e;refine⟨g2,fun y hy e1 e2=> ?_⟩;obtain⟨j,hj,rfl⟩:=B7 hy;exact g3 j hj hj e1 e2
 .rintro⟨g2,g3⟩
  have hr:=q75 l l[i].1 s;rcases Int.lt_or_le (t5i l l[i].1 s) 0 with z|z
  .exact absurd ⟨rfl,g2⟩ (h1 z i h h)
  .obtain⟨b,hb⟩:∃b:Nat,t5i l l[i].1 s=(b:Int):=⟨(t5i l l[i].1 s).toNat,by omega⟩;obtain⟨hbl,k1,k2,k3⟩:=h2 b hb;have m1:=g3 l[b] (Ag hbl) k1 k2;have m2:=k3 i h h rfl g2;have e:=VAsc.uni hA l[b] (Ag hbl) l[i] (Ag h) k1 (by omega);have hp:l.Nodup:=hA.imp fun h e=>by subst e;exact j66 _ h
   have:b=i:=(List.getElem_inj hp).mp e;rw[hb,this]
theorem j63(l:Hu u2u)(s:Int):∀n,n<=l.length->(trA l s n).Sublist (l.take n)
 |0,_=>by simp[trA]
 |n+1,h=>by
  have ih:=j63 l s n (by omega);have hn:n<l.length:=by omega
  rw[B9 hn];simp only[trA];split
  .rw[y9a (t:=u0g) hn];exact ih.append (Dm _)
  .exact ih.trans (List.sublist_append_left _ _)
theorem t8h(l:Hu u2u)(s:Int):(u2y l s).Sublist l:=by
 have h:=j63 l s l.length (Au _);rw[Cq]at h;exact Fg.trans h
theorem s3e{l:Hu u2u}(h:VAsc l)(s:Int):VAsc (u2y l s):=h.sublist (t8h l s)
theorem j4k{l:Hu u2u}{s:Int}{x:u2u}:∀n,n<=l.length->(x∈trA l s n↔ ∃(i:Nat) (h:i<l.length),i<n/\l[i] =x/\o7f l s i=true)
 |0,_=>by simp[trA]
 |n+1,h=>by
  have ih:=j4k (x:=x) (s:=s) n (Nat.le_of_succ_le h);have hn:n<l.length:=by omega
  have split:(∃(i:Nat) (h:i<l.length),i<n+1/\l[i] =x/\o7f l s i=true)↔(∃(i:Nat) (h:i<l.length),i<n/\l[i] =x/\o7f l s i=true)\/(l[n] =x/\o7f l s n=true):=by
   constructor
   .rintro⟨i,hi,h1,h2⟩
    by_cases e:i=n
    .subst e;exact .inr h2
    .exact .inl ⟨i,hi,by omega,h2⟩
   .rintro(⟨i,hi,h1,h2⟩|h2)
    .exact⟨i,hi,by omega,h2⟩
    .exact⟨n,hn,by omega,h2⟩
  rw[split,←ih];simp only[trA];by_cases c:o7f l s n=true
  .rw[Al c,y9a (t:=u0g) hn,Ay,Ax];simp only[c,and_true];exact or_congr Hp eq_comm
  .rw[Ao c];simp[c]
theorem j1a{l:Hu u2u}(hA:VAsc l){s:Int}{x:u2u}:x∈trA l s l.length↔x∈l/\(vCs x >s\/d3i l s x):=by
 rw[j4k _ (Au _)];constructor
 .rintro⟨i,hi,_,rfl,k⟩
  refine⟨Ag hi,?_⟩;unfold o7f at k;rw[y9a (t:=u0g) hi,Cr,Ar,Ar]at k;rcases k with k|k
  .exact .inl k
  .exact .inr ((o8e hA hi).mp k)
 .rintro⟨hx,k⟩
  obtain⟨i,hi,rfl⟩:=B7 hx;refine⟨i,hi,hi,rfl,?_⟩;unfold o7f;rw[y9a (t:=u0g) hi,Cr,Ar,Ar];rcases k with k|k
  .exact .inl k
  .exact .inr ((o8e hA hi).mpr k)
theorem j9u{E:Type}:∀ {l:Hu E},l.Nodup->1<l.length-> ∀x,∃y∈l,y≠x
 |[],_,h,_=>by simp at h
 |[_],_,h,_=>by simp at h
 |a::b::l,hn,_,x=>by
  by_cases e:a=x
  .subst e;refine⟨b,by simp,fun e=> ?_⟩;subst e;simp at hn
  .exact⟨a,by simp,e⟩
theorem j9h{E:Type}{l:Hu E}{x y:E}(hx:x∈l)(hy:y∈l)(h:x≠y):1<l.length:=by
 match l,hx,hy with
 |[a],hx,hy=>rw[Ax]at hx hy;exact absurd (hx.trans hy.symm) h|a::b::l,_,_=>simp
theorem u7i{l:Hu u2u}(hA:VAsc l){s:Int}{x:u2u}:x∈u2y l s↔x∈l/\(vCs x >s\/(d3i l s x/\(x.2.2.1=false\/ ∃y∈l,y.1=x.1/\vCs y >s))):=by
 unfold u2y;rw[A6,j1a hA];unfold j9b;rw[Cr,Cr,Ar,Ar,Bj];have hs:VAsc (trA l s l.length):=by
  have h:=j63 l s l.length (Au _);rw[Cq]at h;exact hA.sublist h
 constructor
 .rintro⟨⟨hx,h1⟩,h2⟩
  refine⟨hx,?_⟩;by_cases c:vCs x >s
  .exact .inl c
  .rcases h1 with h1|h1
   .exact absurd h1 c
   .refine .inr ⟨h1,?_⟩;rcases h2 with h2|h2|h2
    .exact .inl h2
    .exact absurd h2 c
    .have hn:((trA l s l.length).filter fun v=>z7q v.1 x.1).Nodup:=(hs.filter _).imp fun h e=>by subst e;exact j66 _ h
     have hl:1<((trA l s l.length).filter fun v=>z7q v.1 x.1).length:=by unfold d2p at h2;omega
     obtain⟨y,hy,hne⟩:=j9u hn hl x;rw[A6,j1a hA]at hy;obtain⟨⟨hyl,hy1⟩,hy2⟩:=hy;have hk:=y7r.mp hy2;refine .inr ⟨y,hyl,hk,?_⟩;rcases hy1 with hy1|hy1
     .exact hy1
     .have a1:=h1.2 y hyl hk hy1.1;have a2:=hy1.2 x hx hk.symm h1.1;exact absurd (VAsc.uni hA y hyl x hx hk (by omega)) hne
 .rintro⟨hx,h1⟩
  rcases h1 with h1|⟨h1,h2⟩
  .exact⟨⟨hx, .inl h1⟩, .inr (.inl h1)⟩
  .refine⟨⟨hx, .inr h1⟩,?_⟩;rcases h2 with h2|⟨y,hy,hk,hc⟩
   .exact .inl h2
   .refine .inr (.inr ?_);have m1:x∈(trA l s l.length).filter fun v=>z7q v.1 x.1:=by rw[A6,j1a hA];exact⟨⟨hx, .inr h1⟩,y7r.mpr rfl⟩
    have m2:y∈(trA l s l.length).filter fun v=>z7q v.1 x.1:=by rw[A6,j1a hA];exact⟨⟨hy, .inl hc⟩,y7r.mpr hk⟩
    have:=j9h m1 m2 (fun e=>by have:=h1.1;subst e;omega);unfold d2p;omega
theorem d1f{s:Int}{k:Hs}:∀(l:Hu u2u),(∃y∈l,y.1=k/\vCs y<=s)-> ∃x∈l,x.1=k/\vCs x<=s/\ ∀y∈l,y.1=k->vCs y<=s->vCs y<=vCs x
 |[],h=>by obtain⟨y,hy,_⟩:=h;cases hy
 |z::l,h=>by
  by_cases hl:∃y∈l,y.1=k/\vCs y<=s
  .obtain⟨x,hx,h1,h2,h3⟩:=d1f l hl;by_cases hz:z.1=k/\vCs z<=s/\vCs x<vCs z
   .refine⟨z,by simp,hz.1,hz.2.1,fun y hy e1 e2=> ?_⟩;rcases A8.mp hy with rfl|hy
    .exact Bv _
    .have:=h3 y hy e1 e2;omega
   .refine⟨x,by simp[hx],h1,h2,fun y hy e1 e2=> ?_⟩;rcases A8.mp hy with rfl|hy
    .exact Hk.mp fun q=>hz ⟨e1,e2,q⟩
    .exact h3 y hy e1 e2
  .obtain⟨y,hy,h1,h2⟩:=h;have hyz:y=z:=by
    rcases A8.mp hy with e|e
    .exact e
    .exact absurd ⟨y,e,h1,h2⟩ hl
   subst hyz;refine⟨y,by simp,h1,h2,fun w hw e1 e2=> ?_⟩;rcases A8.mp hw with rfl|hw
   .exact Bv _
   .exact absurd ⟨w,hw,e1,e2⟩ hl
theorem p5b{l:Hu u2u}(hA:VAsc l){a b:Int}(hab:a<=b):u2y (u2y l a) b=u2y l b:=by
 have hT:=s3e hA a;refine(s3e hT b).ext (s3e hA b) fun x=> ?_
 refine Iff.trans (u7i hT) (Iff.trans ?_ (u7i hA).symm);have hsub:∀y,y∈u2y l a->y∈l:=fun y hy=>(t8h l a).subset hy
 have hup:∀y,y∈l->vCs y >a->y∈u2y l a:=fun y hy h=>(u7i hA).mpr ⟨hy, .inl h⟩
 constructor
 .rintro⟨hx,h⟩
  have hxl:=hsub x hx;refine⟨hxl,?_⟩;rcases h with h|⟨h1,h2⟩
  .exact .inl h
  .right;have hL:d3i l b x:=by
    refine⟨h1.1,fun y hy e1 e2=> ?_⟩;by_cases c:vCs y >a
    .exact h1.2 y (hup y hy c) e1 e2
    .by_cases c2:vCs x >a
     .omega
     .rcases(u7i hA).mp hx with ⟨_,h3|⟨h3,_⟩⟩
      .exact absurd h3 c2
      .exact h3.2 y hy e1 (by omega)
   refine⟨hL,?_⟩;rcases h2 with h2|⟨y,hy,e1,e2⟩
   .exact .inl h2
   .exact .inr ⟨y,hsub y hy,e1,e2⟩
 .rintro⟨hxl,h⟩
  rcases h with h|⟨h1,h2⟩
  .exact⟨hup x hxl (by omega), .inl h⟩
  .have hx:x∈u2y l a:=by
    by_cases c:vCs x >a
    .exact hup x hxl c
    .refine(u7i hA).mpr ⟨hxl, .inr ⟨⟨by omega,fun y hy e1 e2=>h1.2 y hy e1 (by omega)⟩,?_⟩⟩;rcases h2 with h2|⟨y,hy,e1,e2⟩
     .exact .inl h2
     .exact .inr ⟨y,hy,e1,by omega⟩
   refine⟨hx, .inr ⟨⟨h1.1,fun y hy=>h1.2 y (hsub y hy)⟩,?_⟩⟩;rcases h2 with h2|⟨y,hy,e1,e2⟩
   .exact .inl h2
   .exact .inr ⟨y,hup y hy (by omega),e1,e2⟩
theorem p8l{l:Hu u2u}(hA:VAsc l){s:Int}(hs:∀x∈l,vCs x<=s){x:u2u}:x∈u2y l s↔x∈l/\x.2.2.1=false/\ ∀y∈l,y.1=x.1->vCs y<=vCs x:=by
 rw[u7i hA];constructor
 .rintro⟨hx,h⟩
  refine⟨hx,?_⟩;rcases h with h|⟨h1,h2|⟨y,hy,_,h2⟩⟩
  .have:=hs x hx;omega
  .exact⟨h2,fun y hy e=>h1.2 y hy e (hs y hy)⟩
  .have:=hs y hy;omega
 .rintro⟨hx,h1,h2⟩
  exact⟨hx, .inr ⟨⟨hs x hx,fun y hy e _=>h2 y hy e⟩, .inl h1⟩⟩
theorem p6z{l:Hu u2u}(hA:VAsc l){a:Int}{x:u2u}:(x∈u2y l a/\x.2.2.1=false/\ ∀y∈u2y l a,y.1=x.1->vCs y<=vCs x)↔(x∈l/\x.2.2.1=false/\ ∀y∈l,y.1=x.1->vCs y<=vCs x):=by
 constructor
 .rintro⟨hx,h1,h2⟩
  have hxl:=(t8h l a).subset hx;refine⟨hxl,h1,fun y hy e=> ?_⟩;by_cases c:vCs y >a
  .exact h2 y ((u7i hA).mpr ⟨hy, .inl c⟩) e
  .rcases(u7i hA).mp hx with ⟨_,h3|⟨h3,_⟩⟩
   .omega
   .exact h3.2 y hy e (by omega)
 .rintro⟨hx,h1,h2⟩
  refine⟨(u7i hA).mpr ⟨hx,?_⟩,h1,fun y hy=>h2 y ((t8h l a).subset hy)⟩;by_cases c:vCs x >a
  .exact .inl c
  .exact .inr ⟨⟨by omega,fun y hy e _=>h2 y hy e⟩, .inl h1⟩
theorem d3v{l:Hu u2u}(hA:VAsc l){v:u2u}(hn:∀x∈l,¬(x.1=v.1/\vCs x=vCs v)):VAsc (j74 l v):=by
 have le_iff:∀x:u2u,t1i v x=true↔(vLt x v\/(x.1=v.1/\vCs x=vCs v)):=fun x=>by
  unfold t1i vLt;rw[Cr,Ai,Ar];constructor
  .rintro(h|⟨h1,h2⟩)
   .exact .inl (.inl h)
   .have h1:=y7r.mp h1;have h2:vCs x<=vCs v:=h2;rcases Int.lt_or_eq_of_le h2 with h2|h2
    .exact .inl (.inr ⟨h1,h2⟩)
    .exact .inr ⟨h1,h2⟩
  .rintro((h|⟨h1,h2⟩)|⟨h1,h2⟩)
   .exact .inl h
   .exact .inr ⟨y7r.mpr h1,Int.le_of_lt h2⟩
   .exact .inr ⟨y7r.mpr h1,Int.le_of_eq h2⟩
 have tr:∀ {a b c:u2u},vLt a b->vLt b c->vLt a c:=fun {a b c} h k=>by
  rcases h with h|⟨h,h'⟩<;>rcases k with k|⟨k,k'⟩
  .exact .inl (p1i h k)
  .exact .inl (k ▸ h)
  .exact .inl (h ▸ k)
  .exact .inr ⟨h.trans k,by omega⟩
 unfold j74 VAsc;have hsplit:l.takeWhile (t1i v)++l.dropWhile (t1i v)=l:=Fe;have hA' :(l.takeWhile (t1i v)++l.dropWhile (t1i v)).Pairwise vLt:=by rw[hsplit];exact hA
 obtain⟨p1,p2,p3⟩:=Cg.mp hA';have lo:∀x∈l.takeWhile (t1i v),vLt x v:=fun x hx=>by
  have h1:t1i v x=true:=by
   have:=List.all_takeWhile (p:=t1i v) (l:=l);exact Bg.mp this x hx
  have h2:x∈l:=(List.takeWhile_sublist _).subset hx;rcases(le_iff x).mp h1 with h|h
  .exact h
  .exact absurd h (hn x h2)
 have hi:∀x∈l.dropWhile (t1i v),vLt v x:=by
  intro x hx
  match hd:l.dropWhile (t1i v),hx,p2 with
  |[],hx,_=>cases hx|y::r,hx,p2=>
   have hy:t1i v y=false:=by
    have:=List.head?_dropWhile_not (t1i v) l;rw[hd]at this;simpa using this
   have hyl:y∈l:=(List.dropWhile_sublist (p:=t1i v)).subset (by rw[hd];simp);have hvy:vLt v y:=by
    rcases d6v y v (hn y hyl)with h|h
    .rw[(le_iff y).mpr (.inl h)]at hy;cases hy
    .exact h
   rcases A8.mp hx with rfl|hx
   .exact hvy
   .exact tr hvy ((Ch.mp p2).1 x hx)
 rw[Bi,Cg];refine⟨p1,?_,?_⟩
 .rw[Fs,Ch];exact⟨hi,p2⟩
 .intro x hx y hy;rcases Ay.mp hy with hy|hy
  .rw[Ax]at hy;subst hy;exact lo x hx
  .exact p3 x hx y hy
theorem p41{cs:Int}:∀(ws:Hu u2m.den) {l:Hu u2u},VAsc l->KD ws->(∀x∈l,∀w∈ws,¬(x.1=w.1/\vCs x=cs))->VAsc (s3y l ws cs)
 |[],l,h,_,_=>h|w::ws,l,h,hk,hn=>by
  have hk' :=Ch.mp hk;have e:s3y l (w::ws) cs=s3y (j74 l (w.1,w.2.1,w.2.2,cs)) ws cs:=rfl;rw[e];refine p41 ws (d3v h fun x hx=>hn x hx w (by simp)) hk'.2 fun x hx z hz=> ?_
  rcases d3n.mp hx with rfl|hx
  .exact fun q=>hk'.1 z hz q.1
  .exact hn x hx z (by simp[hz])
theorem d4e{l:Hu u2u}(hA:VAsc l){ws:Hu u2m.den}(hk:KD ws){a c:Int}(hl:∀x∈l,vCs x<c):
 u2y (s3y (u2y l a) ws c) c=u2y (s3y l ws c) c:=by
 have hT:=s3e hA a;have hlT:∀x∈u2y l a,vCs x<c:=fun x hx=>hl x ((t8h l a).subset hx)
 have P1:VAsc (s3y (u2y l a) ws c):=p41 ws hT hk fun x hx w _ q=>by have:=hlT x hx;omega
 have P2:VAsc (s3y l ws c):=p41 ws hA hk fun x hx w _ q=>by have:=hl x hx;omega
 have t1:∀x∈s3y (u2y l a) ws c,vCs x<=c:=fun x hx=>by
  rcases(r1j ws _ c).mp hx with h|⟨w,_,rfl⟩
  .have:=hlT x h;omega
  .exact Bv _
 have t2:∀x∈s3y l ws c,vCs x<=c:=fun x hx=>by
  rcases(r1j ws _ c).mp hx with h|⟨w,_,rfl⟩
  .have:=hl x h;omega
  .exact Bv _
 have key:∀(m:Hu u2u),(∀x∈m,vCs x<c)-> ∀x,(x∈s3y m ws c/\x.2.2.1=false/\ ∀y∈s3y m ws c,y.1=x.1->vCs y<=vCs x)↔
  ((∃w∈ws,x=(w.1,w.2.1,w.2.2,c))/\x.2.2.1=false)\/((∀w∈ws,w.1≠x.1)/\x∈m/\x.2.2.1=false/\ ∀y∈m,y.1=x.1->vCs y<=vCs x):=by
  intro m hm x;have mp:=fun y=>r1j (x:=y) ws m c
  constructor
  .rintro⟨h1,h2,h3⟩
   rcases(mp x).mp h1 with h|h
   .refine .inr ⟨fun w hw e=> ?_,h,h2,fun y hy e=>h3 y ((mp y).mpr (.inl hy)) e⟩;have q:c<=vCs x:=h3 (w.1,w.2.1,w.2.2,c) ((mp _).mpr (.inr ⟨w,hw,rfl⟩)) e;have:=hm x h;omega
   .exact .inl ⟨h,h2⟩
  .rintro(⟨h1,h2⟩|⟨h1,h2,h3,h4⟩)
   .refine⟨(mp x).mpr (.inr h1),h2,fun y hy _=> ?_⟩;obtain⟨w,hw,rfl⟩:=h1;show vCs y<=c;rcases(mp y).mp hy with h|⟨w,_,rfl⟩
    .have:=hm y h;omega
    .exact Bv _
   .refine⟨(mp x).mpr (.inl h2),h3,fun y hy e=> ?_⟩;rcases(mp y).mp hy with h|⟨w,hw,rfl⟩
    .exact h4 y h e
    .exact absurd e (h1 w hw)
 refine(s3e P1 c).ext (s3e P2 c) fun x=> ?_
 rw[p8l P1 t1,p8l P2 t2,key _ hlT,key _ hl,p6z hA]
abbrev s3z:=Hs×Hs
abbrev WrT:=Hs×Hs×Bool
abbrev u3g:=u0m×Hu u0e
def inB(x lo hi:Int):Bool:=decide (lo<=x)&&decide (x<=hi)
theorem p6y{x lo hi:Int}:inB x lo hi=true↔lo<=x/\x<=hi:=by simp[inB]
def u81(s:Hs):Bool:=s.data.toList.all (fun b=>decide (97<=b.toNat)&&decide (b.toNat<=122))&&(decide (1<=s.size)&&decide (s.size<=3))
def u3f(r:s3z):Bool:=u81 r.1&&(u81 r.2&&(y3i r.1 r.2 || z7q r.1 r.2))
def u4i(w:WrT):Bool:=u81 w.1&&(decide (w.2.1.size<=12)&&(!w.2.2 || decide (w.2.1.size=0)))
def o5l(t:Ty)(lt:t.den->t.den->Bool)(l:Hu t.den):Bool:=(List.range l.length).all fun i=>decide (i=0) || lt (rdL t l (i - 1)) (rdL t l i)
def u6d(l:Hu WrT):Bool:=l.all u4i&&(o5l u2m (fun a b=>y3i a.1 b.1) l&&decide (l.length<=8))
def u93(t:u0e):Bool:=
 inB t.1 1 9999&&(inB t.2.1 1 3&&(inB t.2.2.1 0 9999&&(decide (t.2.2.2.2.1.length<=8)&&(u6d t.2.2.2.2.2.1&&(t.2.2.2.2.1.all u3f&&
 ((if t.2.1=3 then inB t.2.2.2.1 (t.2.2.1+1) 9999 else decide (t.2.2.2.1=0))&&((if t.2.1=2 then u81 t.2.2.2.2.2.2.2 else decide (t.2.2.2.2.2.2.2.size=0))&&(!decide (t.2.1=1) || !t.2.2.2.2.2.2.1))))))))
def q7j(v:u2u):Bool:=u81 v.1&&(decide (v.2.1.size<=12)&&((!v.2.2.1 || decide (v.2.1.size=0))&&inB v.2.2.2 1 9999))
def r4q(a b:u2u):Bool:=y3i a.1 b.1 || (z7q a.1 b.1&&decide (a.2.2.2<b.2.2.2))
def u7k(l:Hu u2u):Bool:=l.all q7j&&(o5l u0g r4q l&&decide (l.length<=120))
def p15(l:Hu Int)(below:Int):Bool:=decide (∀x∈l,x<below)&&decide l.Nodup
def j72(c:Int)(l:Hu u0e):Bool:=decide (l.length<=12)&&(l.all (fun t=>u93 t&&(decide (t.2.1=3)&&decide (t.2.2.2.1<=c)))&&o5l u0y (fun a b=>decide (a.2.2.2.1<b.2.2.2.1)) l)
def j1k(c:Int)(l:Hu u0e):Bool:=decide (l.length<=3)&&(l.all (fun t=>u93 t&&(decide (t.2.1=2)&&decide (t.2.2.1<=c)))&&o5l u0y (fun a b=>y3i a.2.2.2.2.2.2.2 b.2.2.2.2.2.2.2) l)
def j70(c:Int)(l:Hu u0e):Bool:=decide (l.length<=4)&&(l.all (fun t=>u93 t&&(decide (t.2.1=1)&&decide (t.2.2.1<=c)))&&o5l u0y (fun a b=>decide (a.1<b.1)) l)
def u68(l:Hu u0e):Hu Int:=l.map fun t=>t.1
def u95(b:u0m):Bool:=u7k b.1&&(b.1.all (fun v=>decide (v.2.2.2<=b.2.2.2.1))&&(inB b.2.2.2.1 0 9999&&(inB b.2.2.2.2 1 9999&&(j72 b.2.2.2.1 b.2.1&&(j1k b.2.2.2.1 b.2.2.1&&p15 (u68 (b.2.1++b.2.2.1)) b.2.2.2.2)))))
def j85(e:u3g):Bool:=u95 e.1&&(j70 e.1.2.2.2.1 e.2&&p15 (u68 (e.1.2.1++e.1.2.2.1++e.2)) e.1.2.2.2.2)
theorem o9q{t:Ty}{lt:t.den->t.den->Bool}(tr:∀a b c,lt a b=true->lt b c=true->lt a c=true){l:Hu t.den}:o5l t lt l=true↔l.Pairwise fun a b=>lt a b=true:=by
 unfold o5l;rw[Bg];constructor
 .intro h;have step:∀(i:Nat) (hi:i+1<l.length),lt l[i] l[i+1] =true:=fun i hi=>by
   have:=h (i+1) (Bq.mpr hi);rw[Cr,Ar]at this;rcases this with q|q
   .omega
   .rw[Nat.add_sub_cancel,y9a (show i<l.length by omega),y9a hi]at q;exact q
  rw[Cp];intro i j hi hj hij;obtain⟨d,rfl⟩:∃d,j=i+1+d:=⟨j - (i+1),by omega⟩;clear hij
  induction d with
  |zero=>exact step i hj|succ d ih=>exact tr _ _ _ (ih (by omega)) (step (i+1+d) hj)
 .intro h i hi;have hi:=Bq.mp hi;rw[Cr,Ar];by_cases e:i=0
  .exact .inl e
  .refine .inr ?_;rw[y9a (show i - 1<l.length by omega),y9a hi];exact Cp.mp h (i - 1) i (by omega) hi (by omega)
theorem u2z{s:Hs}(h:u81 s=true):1<=s.size/\s.size<=3:=by
 unfold u81 at h;simp only[Ai,Ar]at h;exact h.2
structure TxnR(t:u0e):Prop where
 id:1<=t.1/\t.1<=9999
 st:1<=t.2.1/\t.2.1<=3
 snap:0<=t.2.2.1/\t.2.2.1<=9999
 rlen:t.2.2.2.2.1.length<=8
 ws:u6d t.2.2.2.2.2.1=true
 rs:∀r∈t.2.2.2.2.1,u3f r=true
 done:t.2.1=3->t.2.2.1+1<=t.2.2.2.1/\t.2.2.2.1<=9999
 nocs:t.2.1≠3->t.2.2.2.1=0
 name:t.2.1=2->u81 t.2.2.2.2.2.2.2=true
 noname:t.2.1≠2->t.2.2.2.2.2.2.2.size=0
 out:t.2.1=1->t.2.2.2.2.2.2.1=false
theorem p5c{t:u0e}:u93 t=true↔TxnR t:=by
 unfold u93;simp only[Ai,Cr,p6y,Ar,Bg,Bj,Bu];constructor
 .rintro⟨h1,h2,h3,h4,h5,h6,h7,h8,h9⟩
  refine⟨h1,h2,h3,h4,h5,h6,fun e=> ?_,fun e=> ?_,fun e=> ?_,fun e=> ?_,fun e=> ?_⟩
  .rw[Al e,p6y]at h7;exact h7
  .rw[Ao e,Ar]at h7;exact h7
  .rw[Al e]at h8;exact h8
  .rw[Ao e,Ar]at h8;exact h8
  .rcases h9 with h9|h9
   .exact absurd e h9
   .exact h9
 .intro h;refine⟨h.id,h.st,h.snap,h.rlen,h.ws,h.rs,?_,?_,?_⟩
  .split
   .rename_i e;rw[p6y];exact h.done e
   .rename_i e;rw[Ar];exact h.nocs e
  .split
   .rename_i e;exact h.name e
   .rename_i e;rw[Ar];exact h.noname e
  .by_cases e:t.2.1=1
   .exact .inr (h.out e)
   .exact .inl e
theorem d5c{l:Hu WrT}:u6d l=true↔(∀w∈l,u4i w=true)/\(l.Pairwise fun a b=>y3i a.1 b.1=true)/\l.length<=8:=by
 unfold u6d;rw[Ai,Ai,Ar,Bg,o9q (t:=u2m) (lt:=fun a b=>y3i a.1 b.1) (fun a b c h k=>p1i h k)]
theorem j5f{l:Hu WrT}(h:u6d l=true):KD l:=
 (d5c.mp h).2.1.imp fun {a b} q e=>by rw[e,t8f]at q;cases q
theorem j9v{a b:u2u}:r4q a b=true↔vLt a b:=by
 unfold r4q vLt vCs;rw[Cr,Ai,Ar,y7r]
theorem d9h{a b c:u2u}(h:vLt a b)(k:vLt b c):vLt a c:=by
 rcases h with h|⟨h,h'⟩<;>rcases k with k|⟨k,k'⟩
 .exact .inl (p1i h k)
 .exact .inl (k ▸ h)
 .exact .inl (h ▸ k)
 .exact .inr ⟨h.trans k,by omega⟩
theorem d2q{l:Hu u2u}:u7k l=true↔(∀v∈l,q7j v=true)/\VAsc l/\l.length<=120:=by
 unfold u7k;rw[Ai,Ai,Ar,Bg,o9q (t:=u0g) (lt:=r4q) (fun a b c h k=>j9v.mpr (d9h (j9v.mp h) (j9v.mp k)))];unfold VAsc;simp only[j9v]
theorem q6c{l:Hu Int}{n:Int}:p15 l n=true↔(∀x∈l,x<n)/\l.Nodup:=by
 unfold p15;rw[Ai,Ar,Ar]
structure BaseR(b:u0m):Prop where
 vs:u7k b.1=true
 vcs:∀v∈b.1,v.2.2.2<=b.2.2.2.1
 cs:0<=b.2.2.2.1/\b.2.2.2.1<=9999
 next:1<=b.2.2.2.2/\b.2.2.2.2<=9999
 plen:b.2.1.length<=12
 past:∀t∈b.2.1,TxnR t/\t.2.1=3/\t.2.2.2.1<=b.2.2.2.1
 pasc:b.2.1.Pairwise fun x y=>x.2.2.2.1<y.2.2.2.1
 rlen:b.2.2.1.length<=3
 ready:∀t∈b.2.2.1,TxnR t/\t.2.1=2/\t.2.2.1<=b.2.2.2.1
 rasc:b.2.2.1.Pairwise fun x y=>y3i x.2.2.2.2.2.2.2 y.2.2.2.2.2.2.2=true
 below:∀x∈u68 (b.2.1++b.2.2.1),x<b.2.2.2.2
 nodup:(u68 (b.2.1++b.2.2.1)).Nodup
theorem c2o{l:Hu u0e}{f:u0e->Int}:o5l u0y (fun a b=>decide (f a<f b)) l=true↔l.Pairwise fun x y=>f x<f y:=by
 rw[o9q (t:=u0y) (lt:=fun a b=>decide (f a<f b)) (fun a b c h k=>by simp only[Ar] at*;omega)];simp only[Ar]
theorem c59{l:Hu u0e}:o5l u0y (fun a b=>y3i a.2.2.2.2.2.2.2 b.2.2.2.2.2.2.2) l=true↔l.Pairwise fun x y=>y3i x.2.2.2.2.2.2.2 y.2.2.2.2.2.2.2=true:=
 o9q (t:=u0y) (lt:=fun a b=>y3i a.2.2.2.2.2.2.2 b.2.2.2.2.2.2.2) (fun a b c h k=>p1i h k)
theorem o72{b:u0m}:u95 b=true↔BaseR b:=by
 unfold u95 j72 j1k;simp only[Ai,p6y,Ar,Bg,p5c,q6c,c59];rw[c2o (f:=fun t=>t.2.2.2.1)];constructor
 .rintro⟨h1,h2,h3,h4,⟨h5,h6,h7⟩,⟨h8,h9,h10⟩,h11,h12⟩
  exact⟨h1,h2,h3,h4,h5,h6,h7,h8,h9,h10,h11,h12⟩
 .intro h;exact⟨h.vs,h.vcs,h.cs,h.next,⟨h.plen,h.past,h.pasc⟩,⟨h.rlen,h.ready,h.rasc⟩,h.below,h.nodup⟩
structure EngR(e:u3g):Prop where
 base:BaseR e.1
 olen:e.2.length<=4
 open_:∀t∈e.2,TxnR t/\t.2.1=1/\t.2.2.1<=e.1.2.2.2.1
 oasc:e.2.Pairwise fun x y=>x.1<y.1
 below:∀x∈u68 (e.1.2.1++e.1.2.2.1++e.2),x<e.1.2.2.2.2
 nodup:(u68 (e.1.2.1++e.1.2.2.1++e.2)).Nodup
theorem d8u{e:u3g}:j85 e=true↔EngR e:=by
 unfold j85 j70;simp only[Ai,Ar,Bg,p5c,q6c,o72];rw[c2o (f:=fun t=>t.1)];constructor
 .rintro⟨h1,⟨h2,h3,h4⟩,h5,h6⟩
  exact⟨h1,h2,h3,h4,h5,h6⟩
 .intro h;exact⟨h.base,⟨h.olen,h.open_,h.oasc⟩,h.below,h.nodup⟩
theorem q70{E:Type}(a:Hu E)(n:Nat)(h:n<=a.length)(z:Hu E):(a.take n++z).take n=a.take n:=by
 rw[List.take_append_of_le_length (by rw[Ec];omega),List.take_take,Nat.min_self]
theorem t5h{E:Type}(p:E->Bool)(l:Hu E):(l.filter p).length<=l.length:=Cs _ _
theorem j5u(l:Hu u0e)(c:Int)(hl:l.length<=8388608):u2w (l,c)=some (l.filter fun x=> !decide (x.2.2.2.1<=c)):=by
 have hq:∀x∈l,t2p (x,c)=some (decide (x.2.2.2.1<=c)):=fun x _=>by rw[o2q];rfl
 have L:=Q.first (T:=u0y) (c:=Int) (W:=u1z) (q:=t2p) (p:=fun x:u0e=>decide (x.2.2.2.1<=c)) (fun x=>t4i x) l c (by omega) hq;rw[t5a];unfold u6i;simp only[t56,u67,L,zOb];by_cases hk:u0o (fun x:u0e=>decide (x.2.2.2.1<=c)) l<l.length
 .obtain⟨a,e1,e2,e3⟩:=Q.delete (T:=u0y) (c:=Int) (W:=u1n) (q:=t2p) (p:=fun x:u0e=>decide (x.2.2.2.1<=c)) (fun x=>t24 x) l c (by omega) hq hk;have hn:=t5h (fun x:u0e=> !decide (x.2.2.2.1<=c)) l;obtain⟨n,hne⟩:∃n,n=(l.filter fun x:u0e=> !decide (x.2.2.2.1<=c)).length:=⟨_,rfl⟩;rw[←hne]at e1 e3 hn;have c1:decide (((u0o (fun x:u0e=>decide (x.2.2.2.1<=c)) l:Nat):Int)= -1)=false:=by simp
  have c2:decide ((0:Int)<=(n:Int))=true:=by simp
  have c3:decide ((n:Int)<=(a.length:Int))=true:=by simp;omega
  have c4:decide ((a.length:Int)<=(a.length:Int))=true:=by simp
  have hw:=y7x (i:=u0o (fun x:u0e=>decide (x.2.2.2.1<=c)) l) (by omega);simp only[Al hk,zOb,c1,Aa,hw,e1,c2,c3,c4,Dt,Ad,zTn,Ae,Bv];have c5:decide ((n:Int)<=((a.take n++List.replicate (a.length - n) u0y.zero++a.drop (n+(a.length - n))).length:Int))=true:=by simp;omega
  have c6:(a.take n++List.replicate (a.length - n) u0y.zero++a.drop (n+(a.length - n))).take (n - (0:Int).toNat)=l.filter fun x:u0e=> !decide (x.2.2.2.1<=c):=by
   rw[Bi,Ho,Nat.sub_zero,q70 a n (by omega),e3]
  simp only[c5,Dt,Ad,c6]
 .have hall:(l.filter fun x:u0e=> !decide (x.2.2.2.1<=c))=l:=by
   rw[F9];intro x hx;obtain⟨i,hi,rfl⟩:=B7 hx;rw[u9n (p:=fun x:u0e=>decide (x.2.2.2.1<=c)) hi (by omega)];rfl
  simp only[Ao hk,zOb,Ae,Ad,hall]
def tidied(b:u0m)(o:Hu u0e):u0m:=(u2y b.1 (s5q b o),b.2.1.filter (fun x=> !decide (x.2.2.2.1<=s5q b o)),b.2.2)
theorem t07(b:u0m)(o:Hu u0e)(hb:fewB b)(ho:o.length<=4194304):u2l (b,o)=some (tidied b o):=by
 have h1:=s5v b hb;have h2:=j5y b o ho;have h3:=j5u b.2.1 (s5q b o) (by have:=hb.2.1.1;omega);have h4:=j2z b.1 (s5q b o) (by have:=hb.1;omega);rw[j0c];unfold p27 tidied;simp only[h1,h2,h3,h4,zOb]
theorem r9i(b:u0m)(o:Hu u0e)(hb:fewB b)(ho:o.length<=4194304):t94 (b,o)=some (tidied b o):=by
 have h1:=s5w b hb;have h2:=j5z b o ho;have h4:=j22 b.1 (s5q b o) (by have:=hb.1;omega);have hl:=hb.2.1.1
 have L:=s80 s4k b.2.1 (fun a i=>(b,(([], [], [],0,0):u0m),(b.1,a,b.2.2),s5q b o,i)) (fun x=> !decide (x.2.2.2.1<=s5q b o)) (fun x=>x) (fun a=> .inl (b,(([], [], [],0,0):u0m),(b.1,a,b.2.2),s5q b o)) (by omega)
  (fun a _=>by rw[q7w];simp only[s4a,u0b,Am,Ah,Aa])
  (fun i hi a ha=>by
   have hc:=t4j b.2.1[i] (hb.2.1.2 _ (Ag hi));rw[q7w];simp only[s4a,u0b,hi,Ae,Ad,y8h hi,zTn,y9a (t:=u0y) hi,hc,zOb,Aw,u0v (show a.length+1<=1099511627776 by omega)];rw[y7x (by omega)];by_cases h:b.2.1[i].2.2.2.1<=s5q b o
   .have h' : ¬b.2.1[i].2.2.2.1 >s5q b o:=Hk.mpr h;simp[h,h']
   .have h' :b.2.1[i].2.2.2.1 >s5q b o:=Int.not_le.mp h;simp[h,h'])
 rw[Er]at L;rw[j0u];unfold p3q tidied;simp only[h1,h2,zOb,L,h4]
theorem j8o(l:Hu u0e)(c:u0e)(hl:l.length<=8388608):u10 (l,c)=some (l.filter fun x=> !decide (x.1=c.1)):=by
 have hq:∀x∈l,t0h (x,c)=some (decide (x.1=c.1)):=fun x _=>by rw[p9o];rfl
 have L:=Q.first (T:=u0y) (c:=u0e) (W:=u1r) (q:=t0h) (p:=fun x:u0e=>decide (x.1=c.1)) (fun x=>t28 x) l c (by omega) hq;rw[t35];unfold u51;simp only[t5e,u6m,L,zOb];by_cases hk:u0o (fun x:u0e=>decide (x.1=c.1)) l<l.length
 .obtain⟨a,e1,e2,e3⟩:=Q.delete (T:=u0y) (c:=u0e) (W:=u1i) (q:=t0h) (p:=fun x:u0e=>decide (x.1=c.1)) (fun x=>t2x x) l c (by omega) hq hk;have hn:=t5h (fun x:u0e=> !decide (x.1=c.1)) l;obtain⟨n,hne⟩:∃n,n=(l.filter fun x:u0e=> !decide (x.1=c.1)).length:=⟨_,rfl⟩;rw[←hne]at e1 e3 hn;have c1:decide (((u0o (fun x:u0e=>decide (x.1=c.1)) l:Nat):Int)= -1)=false:=by simp
  have c2:decide ((0:Int)<=(n:Int))=true:=by simp
  have c3:decide ((n:Int)<=(a.length:Int))=true:=by simp;omega
  have c4:decide ((a.length:Int)<=(a.length:Int))=true:=by simp
  have hw:=y7x (i:=u0o (fun x:u0e=>decide (x.1=c.1)) l) (by omega);simp only[Al hk,zOb,c1,Aa,hw,e1,c2,c3,c4,Dt,Ad,zTn,Ae,Bv];have c5:decide ((n:Int)<=((a.take n++List.replicate (a.length - n) u0y.zero++a.drop (n+(a.length - n))).length:Int))=true:=by simp;omega
  have c6:(a.take n++List.replicate (a.length - n) u0y.zero++a.drop (n+(a.length - n))).take (n - (0:Int).toNat)=l.filter fun x:u0e=> !decide (x.1=c.1):=by
   rw[Bi,Ho,Nat.sub_zero,q70 a n (by omega),e3]
  simp only[c5,Dt,Ad,c6]
 .have hall:(l.filter fun x:u0e=> !decide (x.1=c.1))=l:=by
   rw[F9];intro x hx;obtain⟨i,hi,rfl⟩:=B7 hx;rw[u9n (p:=fun x:u0e=>decide (x.1=c.1)) hi (by omega)];rfl
  simp only[Ao hk,zOb,Ae,Ad,hall]
def o0v(d x:u0e):u0e:=(x.1,x.2.1,x.2.2.1,x.2.2.2.1,x.2.2.2.2.1,x.2.2.2.2.2.1,(x.2.2.2.2.2.2.1 || ahead x d),x.2.2.2.2.2.2.2)
theorem j7e(t:u0e)(b0:u0m)(v:Hu u2u)(p R:Hu u0e)(c n:Int)(d:u0e)(hR:q4a R)(hd:s8c d):
 t0a (t,b0,(v,p,R,c,n),d,(),(R.length:Int),0)=some (.inl (t,b0,(v,p,R.map (o0v d),c,n),d)):=by
 have hl:=hR.1
 have L:=r9j t0a R.length (fun(a:Hu u0e) i=>(t,b0,((v,p,a,c,n):u0m),d,(),(R.length:Int),i)) (fun i=>(R.take i).map (o0v d)++R.drop i) (.inl (t,b0,((v,p,R.map (o0v d),c,n):u0m),d))
  (by
   rw[q3a];simp only[s1j,u0b,Am,Ah,Aa,Cq,F5,Bw])
  (fun i hi=>by
   have hm:((R.take i).map (o0v d)).length=i:=by simp;omega
   have hd1:R.drop i=R[i] ::R.drop (i+1):=Ce hi;have hal:i<((R.take i).map (o0v d)++R.drop i).length:=by simp;omega
   have hg:((R.take i).map (o0v d)++R.drop i)[i] =R[i] :=by
    rw[Cv (by omega),List.getElem_drop];congr 1;omega
   have hset:∀y:u0e,((R.take i).map (o0v d)++R.drop i).set i y=(R.take i).map (o0v d)++y::R.drop (i+1):=fun y=>by
    rw[List.set_append_right _ _ (by omega),hm,Dw,hd1,Hj]
   have hnx:(R.take (i+1)).map (o0v d)++R.drop (i+1)=(R.take i).map (o0v d)++o0v d R[i] ::R.drop (i+1):=by
    rw[B9 hi,Dh];simp
   have ha:=t5t R[i] d (t1q (hR.2 _ (Ag hi)).1) (t1q hd.2);rw[q3a];simp only[s1j,u0b,hi,Ae,Ad,y8h hal,zTn,y9a (t:=u0y) hal,hg,ha,zOb,hset];rw[y7x (by omega),hnx];unfold o0v;cases h1:R[i].2.2.2.2.2.2.1 with
   |true=>simp|false=>simp)
 simpa using L
def o78(b:u0m)(t:u0e):u0e:=(t.1,(3:Int),t.2.2.1,i64.wrap (b.2.2.2.1+1),t.2.2.2.2.1,t.2.2.2.2.2.1,(t.2.2.2.2.2.2.1 || p40 t b.2.1),(⟨#[]⟩:Hs))
def r0c(b:u0m)(t:u0e):u0m:=
 (s3y b.1 t.2.2.2.2.2.1 (i64.wrap (b.2.2.2.1+1)),b.2.1++ [o78 b t],(b.2.2.1.filter fun x=> !decide (x.1=t.1)).map (o0v (o78 b t)),i64.wrap (b.2.2.2.1+1),y8x b.2.2.2.2 (i64.wrap (t.1+1)))
theorem p7g(b:u0m)(t:u0e)(hb:fewB b)(ht:s8c t):u9e (b,t)=some (r0c b t):=by
 have h1:=s5v b hb;have h2:=s7i t ht;have h3:=p8v b.1 t.2.2.2.2.2.1 (i64.wrap (b.2.2.2.1+1)) (by have:=hb.1;have:=ht.2;omega);have h4:=j8o b.2.2.1 t (by have:=hb.2.2.1;omega);have h5:=p5z t b.2.1 ht hb.2.1;have hf:q4a (b.2.2.1.filter fun x=> !decide (x.1=t.1)):=⟨A9 (t5h _ _) hb.2.2.1,fun x hx=>hb.2.2.2 x (A6.mp hx).1⟩;have hp:=hb.2.1.1;have hc:∀d:u0e,Nat.ble (b.2.1.length+([d] :Hu u0e).length) z7z=true:=fun d=>u0v (by simp;omega)
 rw[o50];unfold q9b r0c o78;simp only[h1,h2,h3,h4,h5,zOb];cases ho:t.2.2.2.2.2.2.1 with
 |true=>
  have hd:s8c ((t.1,(3:Int),t.2.2.1,i64.wrap (b.2.2.2.1+1),t.2.2.2.2.1,t.2.2.2.2.2.1,true,(⟨#[]⟩:Hs)):u0e):=ht;have L:=j7e t ([], [], [],0,0) (s3y b.1 t.2.2.2.2.2.1 (i64.wrap (b.2.2.2.1+1))) b.2.1 (b.2.2.1.filter fun x=> !decide (x.1=t.1)) (i64.wrap (b.2.2.2.1+1)) b.2.2.2.2 _ hf hd;simp only[Ad,L,zOb,hc,Dx]
 |false=>
  have hd:s8c ((t.1,(3:Int),t.2.2.1,i64.wrap (b.2.2.2.1+1),t.2.2.2.2.1,t.2.2.2.2.2.1,p40 t b.2.1,(⟨#[]⟩:Hs)):u0e):=ht;have L:=j7e t ([], [], [],0,0) (s3y b.1 t.2.2.2.2.2.1 (i64.wrap (b.2.2.2.1+1))) b.2.1 (b.2.2.1.filter fun x=> !decide (x.1=t.1)) (i64.wrap (b.2.2.2.1+1)) b.2.2.2.2 _ hf hd;simp only[Aa,Ad,h5,zOb,L,hc,Ci]
def o0z(b:u0m)(t:u0e):u0m:=
 ((r0c b t).1,(r0c b t).2.1,(r0c b t).2.2.1,(r0c b t).2.2.2.1,if t.1>=b.2.2.2.2 then i64.wrap (t.1+1) else b.2.2.2.2)
theorem j2w(b:u0m)(t:u0e)(b0:u0m)(v:Hu u2u)(p:Hu u0e)(c n:Int)(d:u0e)(hb:fewB b)(hd:s8c d):
 u9m (b,t,b0,(v,p, [],c,n),d,0)=some (.inl (t,b0,(v,p,(b.2.2.1.filter fun x=> !decide (x.1=t.1)).map (o0v d),c,n))):=by
 have hl:=hb.2.2.1
 exact s80 u9m b.2.2.1 (fun a i=>(b,t,b0,((v,p,a,c,n):u0m),d,i)) (fun x=> !decide (x.1=t.1)) (o0v d) (fun a=> .inl (t,b0,((v,p,a,c,n):u0m))) (by omega)
  (fun a _=>by rw[r81];simp only[t89,u0b,Am,Ah,Aa])
  (fun i hi a ha=>by
   have h1:=t4j b.2.2.1[i] (hb.2.2.2 _ (Ag hi));have h2:=t8m b.2.2.1[i] d (t1q (hb.2.2.2 _ (Ag hi)).1) (t1q hd.2);rw[r81];simp only[t89,u0b,hi,Ae,Ad,y8h hi,zTn,y9a (t:=u0y) hi,h1,h2,zOb,Aw,u0v (show a.length+1<=1099511627776 by omega)];rw[y7x (by omega)];cases decide (b.2.2.1[i].1=t.1) with
   |true=>rfl|false=>
    simp only[Aa,Bh,Ad];unfold o0v;cases ahead b.2.2.1[i] d with
    |true=>simp|false=>simp)
theorem p7h(b:u0m)(t:u0e)(hb:fewB b)(ht:s8c t):u9h (b,t)=some (o0z b t):=by
 have h1:=s5w b hb;have h2:=t4j t ht;have h3:=p8w b.1 t.2.2.2.2.2.1 (i64.wrap (b.2.2.2.1+1)) (by have:=hb.1;have:=ht.2;omega);have h5:=p50 t b.2.1 ht hb.2.1;have hp:=hb.2.1.1;have hc:∀d:u0e,Nat.ble (b.2.1.length+([d] :Hu u0e).length) z7z=true:=fun d=>u0v (by simp;omega)
 rw[o6p];unfold q9y o0z r0c o78;simp only[h1,h2,h3,h5,zOb];cases ho:t.2.2.2.2.2.2.1 with
 |true=>
  have hd:s8c ((t.1,(3:Int),t.2.2.1,i64.wrap (b.2.2.2.1+1),t.2.2.2.2.1,t.2.2.2.2.2.1,true,(⟨#[]⟩:Hs)):u0e):=ht;have L:=fun p=>j2w b t ([], [], [],0,0) (s3y b.1 t.2.2.2.2.2.1 (i64.wrap (b.2.2.2.1+1))) p (i64.wrap (b.2.2.2.1+1)) b.2.2.2.2 _ hb hd
  simp only[Ad,L,zOb,hc,Dx];by_cases h:t.1>=b.2.2.2.2<;>simp[h]
 |false=>
  have hd:s8c ((t.1,(3:Int),t.2.2.1,i64.wrap (b.2.2.2.1+1),t.2.2.2.2.1,t.2.2.2.2.2.1,p40 t b.2.1,(⟨#[]⟩:Hs)):u0e):=ht;have L:=fun p=>j2w b t ([], [], [],0,0) (s3y b.1 t.2.2.2.2.2.1 (i64.wrap (b.2.2.2.1+1))) p (i64.wrap (b.2.2.2.1+1)) b.2.2.2.2 _ hb hd
  simp only[Aa,Ad,h5,zOb,L,hc,Ci];by_cases h:t.1>=b.2.2.2.2<;>simp[h]
def c5o(b:u0m):Prop:=b.1.length<=1048576/\(b.2.1.length<=1048576/\ ∀t∈b.2.1,s8c t)/\b.2.2.1.length<=1048576/\ ∀t∈b.2.2.1,s8c t
def s8i(b:u0m):Bool:=decide ((b.2.1.length:Int)>=12) || (decide ((b.1.length:Int) >100) || decide (b.2.2.2.1>=9999))
theorem j38(b:u0m):s7d b=some (s8i b):=by
 rw[o67];unfold p0h s8i;cases decide ((b.2.1.length:Int)>=12)<;>cases decide ((b.1.length:Int) >100)<;>rfl
theorem j37(b:u0m):r92 b=some (s8i b):=by
 rw[j6g];unfold o1o s8i;cases decide ((b.2.1.length:Int)>=12)<;>cases decide ((b.1.length:Int) >100)<;>rfl
theorem j9k(b:u0m){n:Hs}{i:Nat}(hi:i<b.2.2.1.length)(hn:b.2.2.1[i].2.2.2.2.2.2.2=n):∃k:Nat,k<b.2.2.1.length/\u0k b n=(k:Int):=by
 have h:u0o (fun x:u0e=>z7q x.2.2.2.2.2.2.2 n) b.2.2.1<b.2.2.1.length:=by
  rcases B8 (u0o (fun x:u0e=>z7q x.2.2.2.2.2.2.2 n) b.2.2.1) b.2.2.1.length with q|q
  .exact q
  .have:=u9n (p:=fun x:u0e=>z7q x.2.2.2.2.2.2.2 n) hi (by omega);rw[y7r.mpr hn]at this;cases this
 exact⟨_,h,Al h⟩
def u59(n i:Int):Int:=if i<n then n else i+1
def s9u(b:u0m)(t:u0e):u0e:=(t.1,(3:Int),t.2.2.1,b.2.2.2.1+1,t.2.2.2.2.1,t.2.2.2.2.2.1,(t.2.2.2.2.2.2.1 || p40 t b.2.1),(⟨#[]⟩:Hs))
def u1u(b:u0m)(t:u0e):u0m:=
 (s3y b.1 t.2.2.2.2.2.1 (b.2.2.2.1+1),b.2.1++ [s9u b t],(b.2.2.1.filter fun x=> !decide (x.1=t.1)).map (o0v (s9u b t)),b.2.2.2.1+1,u59 b.2.2.2.2 t.1)
def u70(b:u0m)(t:u0e)(n:Hs):u0e:=(t.1,(2:Int),t.2.2.1,t.2.2.2.1,t.2.2.2.2.1,t.2.2.2.2.2.1,(t.2.2.2.2.2.2.1 || p40 t b.2.1),n)
def u21(b:u0m)(t:u0e)(n:Hs):u0m:=
 (b.1,b.2.1,(b.2.2.1.filter fun x=>y3i x.2.2.2.2.2.2.2 n)++ [u70 b t n] ++(b.2.2.1.filter fun x=> !y3i x.2.2.2.2.2.2.2 n),b.2.2.2.1,u59 b.2.2.2.2 t.1)
def s3a(b:u0m)(n:Hs):u0m:=(b.1,b.2.1,(b.2.2.1.filter fun x=> !z7q x.2.2.2.2.2.2.2 n),b.2.2.2.1,b.2.2.2.2)
def j95(n:Int):Prop:= -1000000<=n/\n<=1000000
theorem s26{n:Int}(h:j95 n):i64.wrap (n+1)=n+1:=by
 obtain⟨h1,h2⟩:=h;rw[y5f (by omega) (by omega)]
theorem p2i{b:u0m}{t:u0e}(hc:j95 b.2.2.2.1)(hi:j95 t.1):r0c b t=u1u b t:=by
 have e:o78 b t=s9u b t:=by unfold o78 s9u;rw[s26 hc]
 unfold r0c u1u;rw[e,s26 hc,s26 hi];unfold y8x u59;congr 4;by_cases h:t.1<b.2.2.2.2
 .rw[Al h,Ao (by omega)]
 .rw[Ao h,Al (by omega)]
theorem o42{b:u0m}{t:u0e}(hc:j95 b.2.2.2.1)(hi:j95 t.1):o0z b t=u1u b t:=by
 unfold o0z;rw[p2i hc hi,s26 hi];unfold u1u u59;congr 4;by_cases h:t.1<b.2.2.2.2
 .rw[Al h,Ao (by omega)]
 .rw[Ao h,Al (by omega)]
def uq(l:Hu u0e):Prop:=l.Pairwise fun a b=>a.1≠b.1
theorem o8w{l:Hu u0e}:(u68 l).Nodup↔uq l:=by
 unfold u68 uq;rw[D8,Dl]
theorem c5q{a b:Hu u0e}:uq (a++b)↔uq a/\uq b/\ ∀x∈a,∀y∈b,x.1≠y.1:=Cg
theorem o44{l:Hu u0e}(h:uq l)(p:u0e->Bool):uq (l.filter p):=Dz p h
theorem d9f{l:Hu u0e}(f:u0e->u0e)(hf:∀x,(f x).1=x.1)(h:uq l):uq (l.map f):=by
 unfold uq;rw[Dl];simp only[hf];exact h
theorem d5a{t:u0e}:uq [t] :=Eu _ _
theorem d9g{l:Hu u0e}:uq l-> ∀x∈l,∀y∈l,x.1=y.1->x=y:=by
 induction l with
 |nil=>intro _ x hx;cases hx|cons z l ih=>
  intro h x hx y hy e;have h' :=Ch.mp h;rcases A8.mp hx with rfl|hx' <;>rcases A8.mp hy with rfl|hy'
  .rfl
  .exact absurd e (h'.1 y hy')
  .exact absurd e.symm (h'.1 x hx')
  .exact ih h'.2 x hx' y hy' e
theorem r0z{l:Hu u0e}{n:Int}:(∀x∈u68 l,x<n)↔ ∀t∈l,t.1<n:=by
 unfold u68;constructor
 .exact fun h t ht=>h _ (Bx.mpr ⟨t,ht,rfl⟩)
 .intro h x hx;obtain⟨t,ht,rfl⟩:=Bx.mp hx;exact h t ht
theorem d8y{d x:u0e}(h:TxnR x)(hs:x.2.1=2):TxnR (o0v d x):=
 ⟨h.id,h.st,h.snap,h.rlen,h.ws,h.rs,h.done,h.nocs,h.name,h.noname,fun e=>by have e:x.2.1=1:=e;omega⟩
theorem j6d{b:u0m}{t:u0e}(ht:TxnR t)(hs:t.2.2.1<=b.2.2.2.1)(hc:b.2.2.2.1<9999):TxnR (s9u b t):=
 ⟨ht.id,⟨by show(1:Int)<=3;omega,by show(3:Int)<=3;omega⟩,ht.snap,ht.rlen,ht.ws,ht.rs,fun _=>⟨by show t.2.2.1+1<=b.2.2.2.1+1;omega,by show b.2.2.2.1+1<=9999;omega⟩,
   fun e=>absurd rfl e,fun e=>by have e:(3:Int)=2:=e;omega,fun _=>rfl,fun e=>by have e:(3:Int)=1:=e;omega⟩
theorem j1l{b:u0m}{t:u0e}{n:Hs}(ht:TxnR t)(hs:t.2.1≠3)(hn:u81 n=true):TxnR (u70 b t n):=
 ⟨ht.id,⟨by show(1:Int)<=2;omega,by show(2:Int)<=3;omega⟩,ht.snap,ht.rlen,ht.ws,ht.rs,fun e=>by have e:(2:Int)=3:=e;omega,
   fun _=>ht.nocs hs,fun _=>hn,fun e=>absurd rfl e,fun e=>by have e:(2:Int)=1:=e;omega⟩
theorem d4h{w:WrT}{c:Int}(h:u4i w=true)(h1:1<=c)(h2:c<=9999):q7j (w.1,w.2.1,w.2.2,c)=true:=by
 unfold u4i at h;unfold q7j;simp only[Ai,p6y]at h⊢;exact⟨h.1,h.2.1,h.2.2,h1,h2⟩
theorem d3w{l:Hu u2u}{ws:Hu WrT}{c:Int}(hl:u7k l=true)(hv:∀v∈l,v.2.2.2<=c)(hw:u6d ws=true)(h0:0<=c)(h9:c<9999)(hn:l.length<=112):
 u7k (s3y l ws (c+1))=true/\ ∀v∈s3y l ws (c+1),v.2.2.2<=c+1:=by
 obtain⟨h1,h2,h3⟩:=d2q.mp hl;obtain⟨w1,w2,w3⟩:=d5c.mp hw;refine⟨d2q.mpr ⟨fun v h=> ?_,p41 ws h2 (j5f hw) fun x hx w _ q=>by have:=hv x hx;have:vCs x=c+1:=q.2;unfold vCs at this;omega,by rw[o4k];omega⟩,fun v h=> ?_⟩
 .rcases(r1j ws l (c+1)).mp h with h|⟨w,hw,rfl⟩
  .exact h1 v h
  .exact d4h (w1 w hw) (by omega) (by omega)
 .rcases(r1j ws l (c+1)).mp h with h|⟨w,hw,rfl⟩
  .have:=hv v h;omega
  .exact Bv _
theorem s7v(n i:Int):n<=u59 n i/\i<u59 n i:=by unfold u59;split<;>omega
theorem j46{b:u0m}{t:u0e}(hb:BaseR b)(ht:TxnR t)(hs:t.2.2.1<=b.2.2.2.1)(hc:b.2.2.2.1<9999)(hp:b.2.1.length<12)(hv:b.1.length<=112)
 (hid:∀x∈b.2.1,x.1≠t.1) (hn:t.1<9999):BaseR (u1u b t):=by
 have c0:=hb.cs.1;obtain⟨v1,v2⟩:=d3w hb.vs hb.vcs ht.ws c0 hc hv;have hu:=o8w.mp hb.nodup;have hbl:=r0z.mp hb.below;obtain⟨u1,u2,u3⟩:=c5q.mp hu;have hg:=s7v b.2.2.2.2 t.1;have hnx:u59 b.2.2.2.2 t.1<=9999:=by have:=hb.next.2;unfold u59;split<;>omega
 refine⟨v1,v2,⟨by show 0<=b.2.2.2.1+1;omega,by show b.2.2.2.1+1<=9999;omega⟩,⟨by show 1<=u59 b.2.2.2.2 t.1;have:=hb.next.1;omega,hnx⟩,?_,?_,?_,?_,?_,?_,?_,?_⟩
 .show(b.2.1++ [s9u b t]).length<=12;simp only[Ba,Aw];omega
 .intro x hx;rcases Ay.mp hx with hx|hx
  .obtain⟨q1,q2,q3⟩:=hb.past x hx;exact⟨q1,q2,by show x.2.2.2.1<=b.2.2.2.1+1;omega⟩
  .rw[Ax]at hx;subst hx;exact⟨j6d ht hs hc,rfl,Bv _⟩
 .show(b.2.1++ [s9u b t]).Pairwise _;rw[Cg];refine⟨hb.pasc,Eu _ _,fun x hx y hy=> ?_⟩;rw[Ax]at hy;subst hy;have:=(hb.past x hx).2.2;show x.2.2.2.1<b.2.2.2.1+1;omega
 .show((b.2.2.1.filter _).map _).length<=3;rw[Da];exact A9 (Cs _ _) hb.rlen
 .intro x hx;obtain⟨y,hy,rfl⟩:=Bx.mp hx;obtain⟨q1,q2,q3⟩:=hb.ready y (A6.mp hy).1;exact⟨d8y q1 q2,q2,by show y.2.2.1<=b.2.2.2.1+1;omega⟩
 .show((b.2.2.1.filter _).map _).Pairwise _;rw[Dl];exact(Dz _ hb.rasc)
 .rw[r0z];intro x hx;show x.1<u59 b.2.2.2.2 t.1;rcases Ay.mp hx with hx|hx
  .rcases Ay.mp hx with hx|hx
   .have:=hbl x (Bf _ hx);omega
   .rw[Ax]at hx;subst hx;exact hg.2
  .obtain⟨y,hy,rfl⟩:=Bx.mp hx;have:=hbl y (Az _ (A6.mp hy).1);show y.1<_;omega
 .rw[o8w];refine c5q.mpr ⟨c5q.mpr ⟨u1,d5a,fun x hx y hy=> ?_⟩,d9f _ (fun _=>rfl) (o44 u2 _),fun x hx y hy=> ?_⟩
  .rw[Ax]at hy;subst hy;exact hid x hx
  .obtain⟨z,hz,rfl⟩:=Bx.mp hy;obtain⟨z1,z2⟩:=A6.mp hz;show x.1≠z.1;rcases Ay.mp hx with hx|hx
   .exact u3 x hx z z1
   .rw[Ax]at hx;subst hx;intro e;simp only[Bj,Bu]at z2;exact z2 e.symm
theorem s7h{b:u0m}(hb:BaseR b)(o:Hu u0e):BaseR (tidied b o):=by
 obtain⟨h1,h2,h3⟩:=d2q.mp hb.vs;have sv:=t8h b.1 (s5q b o);have sp:(b.2.1.filter fun x=> !decide (x.2.2.2.1<=s5q b o)).Sublist b.2.1:=Fg;have si:((b.2.1.filter fun x=> !decide (x.2.2.2.1<=s5q b o))++b.2.2.1).Sublist (b.2.1++b.2.2.1):=sp.append (Dm _)
 refine⟨d2q.mpr ⟨fun v h=>h1 v (sv.subset h),h2.sublist sv,A9 sv.length_le h3⟩,fun v h=>hb.vcs v (sv.subset h),hb.cs,hb.next,A9 sp.length_le hb.plen,
  fun t h=>hb.past t (sp.subset h),hb.pasc.sublist sp,hb.rlen,hb.ready,hb.rasc,?_,?_⟩
 .rw[r0z];intro x hx;exact r0z.mp hb.below x (si.subset hx)
 .rw[o8w];exact Ez si (o8w.mp hb.nodup)
theorem p2b{b:u0m}{t:u0e}{n:Hs}(hb:BaseR b)(ht:TxnR t)(h3:t.2.1≠3)(hs:t.2.2.1<=b.2.2.2.1)(hk:u81 n=true)(hl:b.2.2.1.length<3)
 (hn:∀x∈b.2.2.1,x.2.2.2.2.2.2.2≠n) (hid:∀x∈b.2.1++b.2.2.1,x.1≠t.1) (h9:t.1<9999):BaseR (u21 b t n):=by
 have hu:=o8w.mp hb.nodup;have hbl:=r0z.mp hb.below;obtain⟨u1,u2,u3⟩:=c5q.mp hu;have hg:=s7v b.2.2.2.2 t.1;have hnx:u59 b.2.2.2.2 t.1<=9999:=by have:=hb.next.2;unfold u59;split<;>omega
 have mem:∀ {x:u0e},x∈(b.2.2.1.filter fun x=>y3i x.2.2.2.2.2.2.2 n)++ [u70 b t n] ++(b.2.2.1.filter fun x=> !y3i x.2.2.2.2.2.2.2 n)->x∈b.2.2.1\/x=u70 b t n:=fun {x} hx=>by
  rcases Ay.mp hx with hx|hx
  .rcases Ay.mp hx with hx|hx
   .exact .inl (A6.mp hx).1
   .rw[Ax]at hx;exact .inr hx
  .exact .inl (A6.mp hx).1
 have len:∀(l:Hu u0e) (p:u0e->Bool),(l.filter p).length+(l.filter fun x=> !p x).length=l.length:=fun l p=>by
  induction l with
  |nil=>rfl|cons x l ih=>cases hp:p x<;>simp[Di,hp] <;>omega
 refine⟨hb.vs,hb.vcs,hb.cs,⟨by show 1<=u59 b.2.2.2.2 t.1;have:=hb.next.1;omega,hnx⟩,hb.plen,hb.past,hb.pasc,?_,?_,?_,?_,?_⟩
 .show((b.2.2.1.filter fun x=>y3i x.2.2.2.2.2.2.2 n)++ [u70 b t n] ++(b.2.2.1.filter fun x=> !y3i x.2.2.2.2.2.2.2 n)).length<=3;have:=len b.2.2.1 fun x=>y3i x.2.2.2.2.2.2.2 n
  simp only[Ba,Aw];omega
 .intro x hx;rcases mem hx with hx|rfl
  .exact hb.ready x hx
  .exact⟨j1l ht h3 hk,rfl,hs⟩
 .show((b.2.2.1.filter fun x=>y3i x.2.2.2.2.2.2.2 n)++ [u70 b t n] ++(b.2.2.1.filter fun x=> !y3i x.2.2.2.2.2.2.2 n)).Pairwise _;have up:∀y∈b.2.2.1,(!y3i y.2.2.2.2.2.2.2 n)=true->y3i n y.2.2.2.2.2.2.2=true:=fun y hy h=>by
   rcases p61 y.2.2.2.2.2.2.2 n with c|c|c
   .rw[c]at h;cases h
   .exact absurd c (hn y hy)
   .exact c
  rw[Bi,Cg];refine⟨Dz _ hb.rasc,?_,?_⟩
  .rw[Fs,Ch];refine⟨fun y hy=> ?_,Dz _ hb.rasc⟩;obtain⟨y1,y2⟩:=A6.mp hy;exact up y y1 y2
  .intro x hx y hy;obtain⟨x1,x2⟩:=A6.mp hx;rcases Ay.mp hy with hy|hy
   .rw[Ax]at hy;subst hy;exact x2
   .obtain⟨y1,y2⟩:=A6.mp hy;exact p1i x2 (up y y1 y2)
 .rw[r0z];intro x hx;show x.1<u59 b.2.2.2.2 t.1;rcases Ay.mp hx with hx|hx
  .have:=hbl x (Bf _ hx);omega
  .rcases mem hx with hx|rfl
   .have:=hbl x (Az _ hx);omega
   .exact hg.2
 .rw[o8w];refine c5q.mpr ⟨u1,?_,fun x hx y hy=> ?_⟩
  .show uq ((b.2.2.1.filter fun x=>y3i x.2.2.2.2.2.2.2 n)++ [u70 b t n] ++(b.2.2.1.filter fun x=> !y3i x.2.2.2.2.2.2.2 n));rw[Bi];refine c5q.mpr ⟨o44 u2 _,?_,fun x hx y hy=> ?_⟩
   .rw[Fs];refine Ch.mpr ⟨fun y hy=> ?_,o44 u2 _⟩;exact(hid y (Az _ (A6.mp hy).1)).symm
   .obtain⟨x1,x2⟩:=A6.mp hx;rcases Ay.mp hy with hy|hy
    .rw[Ax]at hy;subst hy;exact hid x (Az _ x1)
    .obtain⟨y1,y2⟩:=A6.mp hy;intro e;have:=d9g u2 x x1 y y1 e;subst this;rw[x2]at y2;cases y2
  .rcases mem hy with hy|rfl
   .exact u3 x hx y hy
   .exact hid x (Bf _ hx)
theorem o3z{b:u0m}(hb:BaseR b)(n:Hs):BaseR (s3a b n):=by
 have sp:(b.2.2.1.filter fun x=> !z7q x.2.2.2.2.2.2.2 n).Sublist b.2.2.1:=Fg;have si:(b.2.1++(b.2.2.1.filter fun x=> !z7q x.2.2.2.2.2.2.2 n)).Sublist (b.2.1++b.2.2.1):=(Dm _).append sp;refine⟨hb.vs,hb.vcs,hb.cs,hb.next,hb.plen,hb.past,hb.pasc,A9 sp.length_le hb.rlen,fun t h=>hb.ready t (sp.subset h),hb.rasc.sublist sp,?_,?_⟩
 .rw[r0z];intro x hx;exact r0z.mp hb.below x (si.subset hx)
 .rw[o8w];exact Ez si (o8w.mp hb.nodup)
def c0u(id snap:Int):u0e:=(id,(1:Int),snap,(0:Int), [], [],false,(⟨#[]⟩:Hs))
def d43(e:u3g):u3g:=((e.1.1,e.1.2.1,e.1.2.2.1,e.1.2.2.2.1,e.1.2.2.2.2+1),e.2++ [c0u e.1.2.2.2.2 e.1.2.2.2.1])
def j6y(e:u3g)(k:Nat)(t:u0e):u3g:=(e.1,e.2.set k t)
def s5h(e:u3g)(id:Int):Hu u0e:=e.2.filter fun x=> !decide (x.1=id)
def leaveE(e:u3g)(id:Int):u3g:=(tidied e.1 (s5h e id),s5h e id)
def q59(e:u3g)(t:u0e):u3g:=(tidied (u1u e.1 t) (s5h e t.1),s5h e t.1)
def j6u(e:u3g)(t:u0e)(n:Hs):u3g:=(tidied (u21 e.1 t n) (s5h e t.1),s5h e t.1)
def c0w(e:u3g)(t:u0e):u3g:=(tidied (u1u e.1 t) e.2,e.2)
def noE(e:u3g)(n:Hs):u3g:=(tidied (s3a e.1 n) e.2,e.2)
theorem EngR.uq{e:u3g}(h:EngR e):uq (e.1.2.1++e.1.2.2.1++e.2):=o8w.mp h.nodup
theorem EngR.bel{e:u3g}(h:EngR e):∀t∈e.1.2.1++e.1.2.2.1++e.2,t.1<e.1.2.2.2.2:=r0z.mp h.below
theorem EngR.apart{e:u3g}(h:EngR e):∀x∈e.1.2.1++e.1.2.2.1,∀y∈e.2,x.1≠y.1:=(c5q.mp h.uq).2.2
theorem EngR.uqo{e:u3g}(h:EngR e):Ab.uq e.2:=(c5q.mp h.uq).2.1
theorem j4l{e:u3g}{b:u0m}{o:Hu u0e}(h:EngR e)(hb:BaseR b)(ho:o.Sublist e.2)(hc:e.1.2.2.2.1<=b.2.2.2.1)(hn:e.1.2.2.2.2<=b.2.2.2.2)(hu:∀x∈b.2.1++b.2.2.1,∀y∈o,x.1≠y.1):EngR (b,o):=by
 refine⟨hb,A9 ho.length_le h.olen,fun t ht=> ?_,h.oasc.sublist ho,?_,?_⟩
 .obtain⟨q1,q2,q3⟩:=h.open_ t (ho.subset ht);exact⟨q1,q2,by show t.2.2.1<=b.2.2.2.1;omega⟩
 .rw[r0z];intro x hx;rcases Ay.mp hx with hx|hx
  .exact r0z.mp hb.below x hx
  .have:=h.bel x (Az _ (ho.subset hx));show x.1<b.2.2.2.2;omega
 .rw[o8w];exact c5q.mpr ⟨o8w.mp hb.nodup,Ez ho h.uqo,hu⟩
theorem r8c{b:u0m}{o:Hu u0e}{x:u0e}(h:x∈(tidied b o).2.1++(tidied b o).2.2.1):x∈b.2.1++b.2.2.1:=by
 rcases Ay.mp h with h|h
 .exact Bf _ (A6.mp h).1
 .exact Az _ h
theorem q79(e:u3g)(id:Int):(s5h e id).Sublist e.2:=Fg
theorem d1z{e:u3g}{id:Int}{x:u0e}(h:x∈s5h e id):x.1≠id:=by
 have:=(A6.mp h).2;simpa using this
theorem d51{e:u3g}(h:EngR e)(hl:e.2.length<4)(hn:e.1.2.2.2.2<9999):EngR (d43 e):=by
 have hb:=h.base;have n1:=hb.next.1
 have hT:TxnR (c0u e.1.2.2.2.2 e.1.2.2.2.1):=
  ⟨⟨n1,by show e.1.2.2.2.2<=9999;omega⟩,⟨by show(1:Int)<=1;omega,by show(1:Int)<=3;omega⟩,hb.cs,Cn _,rfl,fun r hr=>(by cases hr),fun e=>by have e:(1:Int)=3:=e;omega,fun _=>rfl,fun e=>by have e:(1:Int)=2:=e;omega,fun _=>rfl,fun _=>rfl⟩
 have hbel:=h.bel;refine⟨⟨hb.vs,hb.vcs,hb.cs,⟨by show 1<=e.1.2.2.2.2+1;omega,by show e.1.2.2.2.2+1<=9999;omega⟩,hb.plen,hb.past,hb.pasc,hb.rlen,hb.ready,hb.rasc,?_,hb.nodup⟩,?_,?_,?_,?_,?_⟩
 .rw[r0z];intro x hx;have:=hbel x (Bf _ hx);show x.1<e.1.2.2.2.2+1;omega
 .show(e.2++ [_]).length<=4;simp only[Ba,Aw];omega
 .intro t ht;rcases Ay.mp ht with ht|ht
  .exact h.open_ t ht
  .rw[Ax]at ht;subst ht;exact⟨hT,rfl,Bv _⟩
 .show(e.2++ [_]).Pairwise _;rw[Cg];refine⟨h.oasc,Eu _ _,fun x hx y hy=> ?_⟩;rw[Ax]at hy;subst hy;exact hbel x (Az _ hx)
 .rw[r0z];intro x hx;show x.1<e.1.2.2.2.2+1;have hx:x∈e.1.2.1++e.1.2.2.1++(e.2++ [c0u e.1.2.2.2.2 e.1.2.2.2.1]):=hx;rw[←Bi]at hx;rcases Ay.mp hx with hx|hx
  .have:=hbel x hx;omega
  .rw[Ax]at hx;subst hx;show e.1.2.2.2.2<_;omega
 .rw[o8w];show uq (e.1.2.1++e.1.2.2.1++(e.2++ [c0u e.1.2.2.2.2 e.1.2.2.2.1]));rw[←Bi];refine c5q.mpr ⟨h.uq,d5a,fun x hx y hy=> ?_⟩;rw[Ax]at hy;subst hy;have:=hbel x hx;show x.1≠e.1.2.2.2.2;omega
theorem j4j{α β:Type}(f:α->β)(l:Hu α)(k:Nat)(a:α)(h:k<l.length)(ha:f a=f l[k]):(l.set k a).map f=l.map f:=by
 apply Gw (by simp);intro i h1 h2;simp only[F6,List.getElem_set];split
 .rename_i e;subst e;exact ha
 .rfl
theorem d39{α:Type}{l:Hu α}{k:Nat}{a x:α}(h:x∈l.set k a):x∈l\/x=a:=E0 h
theorem j43{e:u3g}(h:EngR e){k:Nat}(hk:k<e.2.length){t:u0e}(ht:TxnR t)(h1:t.1=e.2[k].1)(h2:t.2.1=1)(h3:t.2.2.1=e.2[k].2.2.1):EngR (j6y e k t):=by
 have hm:u68 (e.2.set k t)=u68 e.2:=j4j _ _ _ _ hk h1;have hid:u68 (e.1.2.1++e.1.2.2.1++e.2.set k t)=u68 (e.1.2.1++e.1.2.2.1++e.2):=by
  have:∀a b:Hu u0e,u68 (a++b)=u68 a++u68 b:=fun a b=>by simp[u68]
  rw[this,hm,←this]
 refine⟨h.base,by show(e.2.set k t).length<=4;rw[Dq];exact h.olen,fun x hx=> ?_,?_,?_,?_⟩
 .rcases d39 hx with hx|rfl
  .exact h.open_ x hx
  .have:=(h.open_ _ (Ag hk)).2.2;exact⟨ht,h2,by rw[h3];exact this⟩
 .have q:(u68 (e.2.set k t)).Pairwise fun a b=>a<b:=by
   rw[hm];unfold u68;rw[Dl];exact h.oasc
  unfold u68 at q;rw[Dl]at q;exact q
 .show ∀x∈u68 (e.1.2.1++e.1.2.2.1++e.2.set k t),x<e.1.2.2.2.2;rw[hid];exact h.below
 .show(u68 (e.1.2.1++e.1.2.2.1++e.2.set k t)).Nodup;rw[hid];exact h.nodup
theorem q6w{e:u3g}(h:EngR e)(id:Int):EngR (leaveE e id):=
 j4l h (s7h h.base _) (q79 e id) (Bv _) (Bv _) fun x hx y hy=>h.apart x (r8c hx) y ((q79 e id).subset hy)
theorem p4p{b:u0m}(h:s8i b=false):b.2.1.length<12/\b.1.length<=100/\b.2.2.2.1<9999:=by
 unfold s8i at h;simp only[Es,Bu]at h;obtain⟨h1,h2,h3⟩:=h;exact⟨by omega,by omega,by omega⟩
theorem q8b{e:u3g}(h:EngR e){t:u0e}(ht:t∈e.2\/t∈e.1.2.2.1)(hf:s8i e.1=false):BaseR (u1u e.1 t):=by
 obtain⟨f1,f2,f3⟩:=p4p hf;have hq:TxnR t/\t.2.2.1<=e.1.2.2.2.1:=by
  rcases ht with ht|ht
  .exact⟨(h.open_ t ht).1,(h.open_ t ht).2.2⟩
  .exact⟨(h.base.ready t ht).1,(h.base.ready t ht).2.2⟩
 have hlt:t.1<e.1.2.2.2.2:=by
  rcases ht with ht|ht
  .exact h.bel t (Az _ ht)
  .exact h.bel t (Bf _ (Az _ ht))
 refine j46 h.base hq.1 hq.2 f3 f1 (by omega) (fun x hx=> ?_) (by have:=h.base.next.2;omega);rcases ht with ht|ht
 .exact h.apart x (Bf _ hx) t ht
 .exact(c5q.mp (c5q.mp h.uq).1).2.2 x hx t ht
theorem o43{b:u0m}{t x:u0e}(h:x∈(u1u b t).2.1++(u1u b t).2.2.1):x.1=t.1\/ ∃y∈b.2.1++b.2.2.1,y.1=x.1:=by
 rcases Ay.mp h with h|h
 .rcases Ay.mp h with h|h
  .exact .inr ⟨x,Bf _ h,rfl⟩
  .rw[Ax]at h;subst h;exact .inl rfl
 .obtain⟨y,hy,rfl⟩:=Bx.mp h;exact .inr ⟨y,Az _ (A6.mp hy).1,rfl⟩
theorem o9u{e:u3g}(h:EngR e){t:u0e}(ht:t∈e.2)(hf:s8i e.1=false):EngR (q59 e t):=by
 have hg:=s7v e.1.2.2.2.2 t.1;refine j4l h (s7h (q8b h (.inl ht) hf) _) (q79 e t.1) (by show e.1.2.2.2.1<=e.1.2.2.2.1+1;omega) hg.1 fun x hx y hy=> ?_
 rcases o43 (r8c hx)with q|⟨z,hz,q⟩
 .rw[q];exact(d1z hy).symm
 .rw[←q];exact h.apart z hz y ((q79 e t.1).subset hy)
theorem d60{e:u3g}(h:EngR e){t:u0e}(ht:t∈e.1.2.2.1)(hf:s8i e.1=false):EngR (c0w e t):=by
 have hg:=s7v e.1.2.2.2.2 t.1;refine j4l h (s7h (q8b h (.inr ht) hf) _) (Dm _) (by show e.1.2.2.2.1<=e.1.2.2.2.1+1;omega) hg.1 fun x hx y hy=> ?_
 rcases o43 (r8c hx)with q|⟨z,hz,q⟩
 .rw[q];exact h.apart t (Az _ ht) y hy
 .rw[←q];exact h.apart z hz y hy
theorem c2u{e:u3g}(h:EngR e)(n:Hs):EngR (noE e n):=by
 refine j4l h (s7h (o3z h.base n) _) (Dm _) (Bv _) (Bv _) fun x hx y hy=> ?_
 rcases Ay.mp (r8c hx)with hx|hx
 .exact h.apart x (Bf _ hx) y hy
 .exact h.apart x (Az _ (A6.mp hx).1) y hy
theorem d1s{e:u3g}(h:EngR e){t:u0e}(ht:t∈e.2){n:Hs}(hk:u81 n=true)(hl:e.1.2.2.1.length<3)(hn:∀x∈e.1.2.2.1,x.2.2.2.2.2.2.2≠n):EngR (j6u e t n):=by
 obtain⟨q1,q2,q3⟩:=h.open_ t ht;have hlt:=h.bel t (Az _ ht);have hg:=s7v e.1.2.2.2.2 t.1;have hb:BaseR (u21 e.1 t n):=p2b h.base q1 (by omega) q3 hk hl hn (fun x hx=>h.apart x hx t ht) (by have:=h.base.next.2;omega);refine j4l h (s7h hb _) (q79 e t.1) (Bv _) hg.1 fun x hx y hy=> ?_
 have hy' :=(q79 e t.1).subset hy;rcases Ay.mp (r8c hx)with hx|hx
 .exact h.apart x (Bf _ hx) y hy'
 .rcases Ay.mp hx with hx|hx
  .rcases Ay.mp hx with hx|hx
   .exact h.apart x (Az _ (A6.mp hx).1) y hy'
   .rw[Ax]at hx;subst hx;exact(d1z hy).symm
  .exact h.apart x (Az _ (A6.mp hx).1) y hy'
def j6l(x:u0e):Bool:=decide (x.2.1=2) || decide (x.2.1=3)
def j5l(t:u0e)(l:Hu u0e):Bool:=l.any fun x=>j6l x&&ahead x t
def q58(t:u0e)(l:Hu u0e):Bool:=l.any fun x=> !decide (x.1=t.1)&&((decide (x.2.1=2) || (decide (x.2.1=3)&&decide (x.2.2.2.1 >t.2.2.1)))&&q8m x.2.2.2.2.2.1 t.2.2.2.2.2.1)
def r5n(f:u0e->Bool)(t:u0e)(l:Hu u0e):Bool:=
 (j5l t l&&p40 t l) || (l.any (fun x=>j6l x&&(x.2.2.2.2.2.2.1&&ahead t x)) ||
  l.any fun p=>decide (p.2.1=2)&&(ahead p t&&(ahead t p || l.any fun x=>decide (x.2.1=2)&&(f x&&ahead x p))))
def p0p(t:u0e)(l:Hu u0e):Bool:=r5n (fun x=> !decide (x.1=t.1)) t l
def s3u(f:u0e->Bool)(t:u0e)(l:Hu u0e):Bool:=
 r5n f t l || ((j5l t l&&l.any fun x=>decide (x.2.1=2)&&ahead t x) || l.any fun x=>(decide (x.2.1=2)&&ahead t x)&&l.any fun y=>decide (y.2.1=2)&&(!decide (y.1=t.1)&&ahead x y))
def t8d(t:u0e)(l:Hu u0e):Bool:=s3u (fun x=> !decide (x.1=t.1)) t l
structure SameC(x y:u0e):Prop where
 id:x.1=y.1
 st:x.2.1=y.2.1
 snap:x.2.2.1=y.2.2.1
 cs:x.2.2.2.1=y.2.2.2.1
 rs:x.2.2.2.2.1=y.2.2.2.2.1
 ws:x.2.2.2.2.2.1=y.2.2.2.2.2.1
structure Ser(H:Hu u0e)(e:u3g):Prop where
 eng:EngR e
 st:∀x∈H,x.2.1=3
 snap:∀x∈H,x.2.2.1<x.2.2.2.1/\x.2.2.2.1<=e.1.2.2.2.1
 asc:H.Pairwise fun x y=>x.2.2.2.1<y.2.2.2.1
 uqh:uq (H++(e.1.2.2.1++e.2))
 bel:∀x∈H,x.1<e.1.2.2.2.2
 pin:∀x∈e.1.2.1,∃y∈H,SameC x y
 cov:∀y∈H,∀o∈e.2,o.2.2.1<y.2.2.2.1-> ∃x∈e.1.2.1,SameC x y
 outp:∀x∈e.1.2.1,∀y∈H,ahead x y=true->y.2.2.2.1<x.2.2.2.1->x.2.2.2.2.2.2.1=true
 outr:∀p∈e.1.2.2.1,∀y∈H,ahead p y=true->p.2.2.2.2.2.2.1=true
 no3:∀x∈H,∀y∈H,∀z∈H,ahead x y=true->ahead y z=true->z.2.2.2.1<y.2.2.2.1->z.2.2.2.1<=x.2.2.2.1->False
 noA:∀x∈H,∀p∈e.1.2.2.1,∀z∈H,ahead x p=true->ahead p z=true->z.2.2.2.1<=x.2.2.2.1->False
 noB:∀p∈e.1.2.2.1,∀y∈H,∀z∈H,ahead p y=true->ahead y z=true->z.2.2.2.1<y.2.2.2.1->False
 noD:∀p∈e.1.2.2.1,∀q∈e.1.2.2.1,∀z∈H,ahead p q=true->ahead q z=true->False
 noE:∀p∈e.1.2.2.1,∀q∈e.1.2.2.1,∀r∈e.1.2.2.1,ahead p q=true->ahead q r=true->False
 ww:∀x∈H,∀y∈H,x.2.2.2.1<y.2.2.2.1->q8m x.2.2.2.2.2.1 y.2.2.2.2.2.1=true->x.2.2.2.1<=y.2.2.1
 wr:∀p∈e.1.2.2.1,∀y∈H,q8m y.2.2.2.2.2.1 p.2.2.2.2.2.1=true->y.2.2.2.1<=p.2.2.1
 rr:∀p∈e.1.2.2.1,∀q∈e.1.2.2.1,p.1≠q.1->q8m p.2.2.2.2.2.1 q.2.2.2.2.2.1=true->False
def d33(c:Int)(t:u0e):u0e:=(t.1,(3:Int),t.2.2.1,c,t.2.2.2.2.1,t.2.2.2.2.2.1,t.2.2.2.2.2.2.1,(⟨#[]⟩:Hs))
structure Passed(t:u0e)(P R:Hu u0e):Prop where
 nb:∀x∈P++R,x.1≠t.1->(x.2.1=2\/(x.2.1=3/\x.2.2.2.1 >t.2.2.1))->q8m x.2.2.2.2.2.1 t.2.2.2.2.2.1=true->False
 d1:∀x∈P++R,∀y∈P,ahead x t=true->ahead t y=true->False
 d2:∀x∈P++R,x.2.2.2.2.2.2.1=true->ahead t x=true->False
 d3:∀p∈R,ahead p t=true->ahead t p=true->False
 d4:∀p∈R,∀x∈R,ahead p t=true->ahead x p=true->x.1≠t.1->False
section
variable {l:Hu u0y.den} (hl:d83 l) {u:Hu Nat} (ho:c2v l=some u)
include hl
include ho
def pre(l:Hu u0y.den)(u:Hu Nat)(a:Nat):Hu u0y.den:=(u.take a).map fun i=>rdL u0y l i
end
structure PassedR(t:u0e)(P R:Hu u0e):Prop extends Passed t P R where
 e1:∀x∈P++R,∀y∈R,ahead x t=true->ahead t y=true->False
 e2:∀x∈R,∀y∈R,ahead t x=true->ahead x y=true->y.1≠t.1->False
theorem u6c(l:Hu Int):(y7s l).size=l.length:=by
 simp[y7s,ByteArray.size]
theorem j7n{s:Hs}{i:Nat}(h:i<s.size):s.data.toList.getD i 0=s.data.toList[i]'(by simpa using h):=by
 rw[A5,A4 (by simpa using h)];rfl
theorem d4d(n m:Nat):Int.tdiv (n:Int) (m:Int)=((n / m:Nat):Int):=(Int.ofNat_tdiv n m).symm
theorem j47(n m:Nat):Int.tmod (n:Int) (m:Int)=((n % m:Nat):Int):=(Int.ofNat_tmod n m).symm
theorem d2h{n:Nat}(h:n<256):u8.wrap (n:Int)=(n:Int):=by
 simp[IntKind.wrap,IntKind.bits,IntKind.signed];omega
end Go.Proofs.YtkphhjdbdnoekaaGreatDoor.Ab
