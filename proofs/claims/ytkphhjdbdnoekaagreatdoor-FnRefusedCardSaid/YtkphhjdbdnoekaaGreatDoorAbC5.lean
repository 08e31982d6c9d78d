import Derived.Test.YtkphhjdbdnoekaaGreatDoorAbB5
import Derived.Laws.Tables
import Derived.Laws.StructEq
import Derived.Laws.Strings
import Derived.Laws.BytesString
namespace Go.Proofs.YtkphhjdbdnoekaaGreatDoor.Ab
open Go
set_option linter.unusedVariables false
set_option linter.unusedSimpArgs false
set_option linter.unnecessarySimpa false
def z2n:Ty->List Value
 | .int k=> [.int k 0] | .bool=> [.bool false] | .str=> [.string ⟨#[]⟩] | .sl _=> [.slice none 0 0] | .pair a b=>z2n a++z2n b
def z2q:TypeDesc->Bool
 | .struct _ | .array _ _=>true | _=>false
structure TyOk (P:Program) (A:Ann):Prop where
 lay:∀t n ag,A.lay t=some (n,ag)-> ∃i d,P.info? t=some i/\i.size=n/\P.underlying t=some d/\z2q d=ag
 zer:∀t n ag,A.lay t=some (n,ag)-> ∃i z,P.info? t=some i/\i.zero=some z/\z.cells.size=n
 fld:∀s f o n ag,A.fld s f=some (o,n,ag)-> ∃fs fd i d,P.underlying s=some (.struct fs)/\fs[f]? =some fd/\fd.offset=o/\P.info? fd.type=some i/\i.size=n/\n≠0/\
  P.underlying fd.type=some d/\z2q d=ag
 tyi:∀t y,A.ty t=some y-> ∃i z,P.info? t=some i/\i.size=y.size/\i.zero=some z/\z.cells.toList=z2n y/\True/\y.size<=64
 tzi:∀t y,A.tz t=some y-> ∃i z,P.info? t=some i/\i.size=y.size/\i.zero=some z/\z.cells.toList=z2n y
 int:∀t k,A.ty t=some (.int k)->P.underlying t=some (.int k)
 bool:∀t,A.ty t=some .bool->P.underlying t=some .bool
 str:∀t,A.ty t=some .str->P.underlying t=some .string
 sl:∀t e,A.ty t=some (.sl e)-> ∃et,P.underlying t=some (.slice et)/\A.ty et=some e
 small:∀t e et i,A.ty t=some (.sl e)->P.underlying t=some (.slice et)->P.info? et=some i->i.bytes<=128
 some_:∀t y,A.ty t=some y-> ∃d,P.underlying t=some d
 bld:∀t f o n ag,A.fld t f=some (o,n,ag)-> ∃it z fs places,P.info? t=some it/\P.underlying t=some (.struct fs)/\it.zero=some z/\
  fs.toList.mapM (fun f=>(P.info? f.type).map fun i=>(f.offset,i.size))=some places/\ ∀f o n ag,A.fld t f=some (o,n,ag)->places[f]? =some (o,n)
 eqt:∀t ks,A.eqt t=some ks->P.eqGuardType P.depth t=false/\ ∀(w:World) (cs ds:List D) (xs ys:Array Value) (b:Bool),y0e ks cs ds=some b->
  (∀N Np H B,CRs N Np H B w cs xs.toList->CRs N Np H B w ds ys.toList->(Op.equalIn 10000 t (.agg xs) (.agg ys)).run P w= .ok b w)
 mixed:P.follows .mixedOrders=true
section
variable {P:Program} {A:Ann} {C:Cx} {env:List D} {H:z0a} {B:List (Option Nat)} {a:Act} {w:World}
theorem z2p (b o n:Nat):(⟨b,o,none⟩:Addr).add n=⟨b,o+n,none⟩:=by
 unfold Addr.add;split<;>simp_all
theorem z8d {N Np:Nat->Prop} (v:Value):CR N Np H B w (y0c v) v:=by
 unfold y0c;split<;>simp[CR]
theorem y2c {N Np:Nat->Prop} (v:Value):CR N Np H B w (y2b v) v:=by
 unfold y2b;split
 .rename_i cs;simp only[CR];refine⟨cs,rfl,?_⟩;generalize cs.toList=l
  induction l with
  | nil=>simp[CRs] | cons x l ih=>simp only[C8,CRs];exact⟨x,l,rfl,z8d x,ih⟩
 .exact z8d v
theorem z0y (h:St C env H B a w) (x:Operand):CR (C.N B) (C.Np B) H B w (opd env x) (a.eval x):=by
 cases x with
 | tmp t=>exact h.envs t | const v=>exact y2c v | global g=>simp[opd,CR] | func f=>simp only[opd,CR,Act.eval];exact⟨#[],rfl,by simp[CRs]⟩
theorem z9l (h:St C env H B a w):∀(l:List Operand),CRs (C.N B) (C.Np B) H B w (l.map (opd env)) (l.map a.eval)
 | [] =>by simp[CRs]
 | x::l=>by simp only[C8,CRs];exact⟨_,_,rfl,z0y h x,z9l h l⟩
theorem z2b {N Np:Nat->Prop} {d:D} {v:Value} (h:CR N Np H B w d v) (hd:d≠ .undef):CRs N Np H B w (cellsOf d) v.cells.toList:=by
 cases d<;>simp only[cellsOf,CRs,CR] at h ⊢ <;>try (exact absurd rfl hd)
 case agg cs=>obtain⟨vs,rfl,h⟩:=h;exact h
 case int=>subst h;exact⟨_, [],by simp[Value.cells],rfl,rfl⟩
 case bool=>subst h;exact⟨_, [],by simp[Value.cells],rfl,rfl⟩
 case str=>subst h;exact⟨_, [],by simp[Value.cells],rfl,rfl⟩
 case sl=>
  have h' :=h;obtain⟨A,c,e,_⟩:=h;injection e with e _
  subst e;exact⟨_, [],by simp[Value.cells],h',rfl⟩
 case nilsl=>subst h;exact⟨_, [],by simp[Value.cells],rfl,rfl⟩
 case hd=>exact⟨v, [],by cases v<;>first | rfl | (exact absurd h.1.2 (by simp[Value.oneCell'])),h,rfl⟩
 case hds=>exact⟨v, [],by cases v<;>first | rfl | (exact absurd h.1.2 (by simp[Value.oneCell'])),h,rfl⟩
 case ptr=>exact⟨v, [],by cases v<;>first | rfl | (exact absurd h.1.2 (by simp[Value.oneCell'])),h,rfl⟩
 case eptr=>exact⟨v, [],by cases v<;>first | rfl | (exact absurd h.1.2 (by simp[Value.oneCell'])),h,rfl⟩
 case rptr=>obtain⟨rb,ro,rfl,h⟩:=h;exact⟨_, [],rfl,⟨rb,ro,rfl,h⟩,rfl⟩
 case clo=>obtain⟨vs,rfl,h⟩:=h;exact⟨_, [],rfl,⟨vs,rfl,h⟩,rfl⟩
 case tup=>obtain⟨vs,rfl,h⟩:=h;exact⟨_, [],rfl,⟨vs,rfl,h⟩,rfl⟩
end
section
variable {P:Program} {A:Ann} {C:Cx} {env:List D} {H:z0a} {B:List (Option Nat)} {a:Act} {w:World}
theorem z4c {t:Nat} {d:TypeDesc} (h:P.underlying t=some d) (w:World):(isAgg t).run P w= .ok (z2q d) w:=by
 simp only[isAgg,Sem.run_bind,run_underlying h,Result.andThen_ok];cases d<;>rfl
theorem z0b {t:Nat} {i:TypeInfo} (h:P.info? t=some i) (w:World):(sizeOf t).run P w= .ok i.size w:=by
 simp[sizeOf,typeInfo,h]
theorem y1b {N Np:Nat->Prop} (ok:TyOk P A) {t n:Nat} {ag:Bool} (hl:A.lay t=some (n,ag)) {b o:Nat} {ds:List D} {vs:List Value} {d:D}
 (hlen:vs.length=n) (hc:∀j,j<n->w.cell? ⟨b,o+j,none⟩=vs[j]?) (hd:CRs N Np H B w ds vs) (hm:z2v ag ds=some d):
 ∃v,(loadVar t ⟨b,o,none⟩).run P w= .ok v w/\CR N Np H B w d v:=by
 obtain⟨i,de,hi,hs,hu,hag⟩:=ok.lay t n ag hl;unfold loadVar;simp only[Sem.run_bind,z4c hu,Result.andThen_ok,hag];cases ag with
 | true=>
  simp only[z2v,Ac] at hm;subst hm;have hr:=run_loadCells_list (P:=P) w ⟨b,o,none⟩ vs (fun j v e=>by
   have hj:j<vs.length:=by
    rcases B8 j vs.length with q | q
    .exact q
    .rw[Be q] at e;cases e
   rw[z2p,hc j (by omega),e])
  rw[hlen] at hr;refine⟨.agg vs.toArray,?_,?_⟩
  .simp only[Bl,Sem.run_bind,z0b hi,hs,Result.andThen_ok,hr,Sem.run_pure]
  .simp only[CR];exact⟨_,rfl,hd⟩
 | false=>
  cases ds with
  | nil=>simp[z2v] at hm | cons d0 r=>
   cases r with
   | cons _ _=>simp[z2v] at hm | nil=>
    simp only[z2v,Ac] at hm;subst hm;simp only[CRs] at hd;obtain⟨u,us,rfl,h1,rfl⟩:=hd;have h0:=hc 0 (by simp at hlen;omega);simp only[Df,Bt] at h0;refine⟨u,?_,h1⟩;simp[run_load,h0]
theorem y7j {ag:Bool} {ds:List D} {d:D} (_:z2v ag ds=some d):True:=trivial
theorem y0m (ok:TyOk P A) (h:HS C H B w) {t n:Nat} {ag:Bool} (hl:A.lay t=some (n,ag)) {x d:D} {v:Value} (hx:CR (C.N B) (C.Np B) H B w x v) (e:z9j H n ag x=some d):
 ∃u,(Instr.loadAt t v).run P w= .ok u w/\CR (C.N B) (C.Np B) H B w d u:=by
 have main:∀(b o:Nat) (ds:List D) (vs:List Value),v= .pointer (some ⟨b,o,none⟩)->vs.length=n->(∀j,j<n->w.cell? ⟨b,o+j,none⟩=vs[j]?)->CRs (C.N B) (C.Np B) H B w ds vs->z2v ag ds=some d->
  ∃u,(Instr.loadAt t v).run P w= .ok u w/\CR (C.N B) (C.Np B) H B w d u:=by
  intro b o ds vs hv h1 h2 h3 h4;obtain⟨u,k1,k2⟩:=y1b ok hl h1 h2 h3 h4;refine⟨u,?_,k2⟩;subst hv;simp only[Instr.loadAt,Instr.sureAddr,Sem.run_bind,Sem.run_pure,Result.andThen_ok,k1]
 cases x<;>simp only[z9j] at e<;>try (cases e;done)
 case ptr id off=>
  split at e
  .rename_i cells hH;split at e
   .rename_i hle;simp only[CR] at hx;obtain⟨⟨hid,_⟩,hp⟩:=hx;obtain⟨rb,hb,hv⟩:=hp _ hH;obtain⟨rb',cs,e1,hcs,hcc⟩:=h.blk _ _ _ hH hb;cases e1;have hlc:=hcc.length;refine main rb off _ _ hv ?_ ?_ ((hcc.drop off).take n) e
    .simp;simp at hlc;omega
    .intro j hj;rw[z0c hcs];simp[Ca,hj]
   .cases e
  .cases e
 case rptr cells off=>
  split at e
  .rename_i hle;simp only[CR] at hx;obtain⟨rb,ro,hv,_,_,vs,hvs,hcell⟩:=hx;have hlc:=hvs.length;refine main rb (ro+off) _ _ hv ?_ ?_ ((hvs.drop off).take n) e
   .simp;omega
   .intro j hj;rw[D9,hcell (off+j) (by omega)];simp[Ca,hj]
  .cases e
 case eptr id st i c=>
  split at e
  .rename_i p st' ty l hH;split at e
   .rename_i e0;subst e0;split at e
    .rename_i hle;simp only[CR] at hx;obtain⟨⟨hid,_⟩,hp⟩:=hx;obtain⟨_,hp⟩:=hp _ _ _ _ hH;obtain⟨hi,rb,hb,hv⟩:=hp rfl;obtain⟨cs,hcs,hsz,hd⟩:=h.blk _ _ _ hH hb;obtain⟨us,hu,hcell⟩:=hd i hi;have hlu:=hu.len;have hrd:rdL ty l i=l[i] :=by simp[rdL,hi]
     rw[hrd] at e;refine main rb (i*ty.size+c) _ _ hv ?_ ?_ (((z3u p hu).drop c).take n) e
     .simp;omega
     .intro j hj;rw[z0c hcs,D9,hcell (c+j) (by omega)];simp[Ca,hj]
    .cases e
   .cases e
  .cases e
theorem CR.value {N Np:Nat->Prop} {d:D} {v u:Value} (e:v=u) (h:CR N Np H B w d v):CR N Np H B w d u:=e ▸ h
theorem y8g {i:Int} {n:Nat} :y4v i n=true↔0<=i/\i<(n:Int):=by
 simp[y4v]
theorem z7i (ok:TyOk P A) (h:HS C H B w) {t:Nat} {e:Ty} (ht:A.ty t=some (.sl e)) {x d:D} {v:Value} {k:IntKind} {i:Int} {g:Bool} (hx:CR (C.N B) (C.Np B) H B w x v)
 (hlb:∀b,C.Lb b->C.Lp b) (he:z1j H e x i=some (g,d)) (hg:g=true):∃u,(Instr.indexAt t v (.int k i)).run P w= .ok u w/\CR (C.N B) (C.Np B) H B w d u:=by
 obtain⟨et,hu,hty⟩:=ok.sl t e ht;obtain⟨ie,_,hie,hsz,_⟩:=ok.tyi et e hty
 have main:∀(b o len c:Nat),v= .slice (some ⟨b,o,none⟩) len c->0<=i->i<(len:Int)->
  (Instr.indexAt t v (.int k i)).run P w= .ok (.pointer (some ⟨b,o+i.toNat*e.size,none⟩)) w:=by
  intro b o len c hv h1 h2;subst hv;simp[Instr.indexAt,asIntOf,run_underlying hu,h1,h2,z0b hie,hsz,z2p]
 cases x<;>simp only[z1j] at he<;>try (cases he;done)
 case nilsl=>simp only[Ac,Ak] at he;rw[hg] at he;exact absurd he.1 (by simp)
 case sl p ty l=>
  split at he
  .rename_i hsz2;have hs2:=Av hsz2;simp only[Ac,Ak] at he;obtain⟨rfl,rfl⟩:=he;obtain⟨h1,h2⟩:=y8g.mp hg;simp only[CR] at hx;obtain⟨a0,c,hv,hc,hr⟩:=hx;injection hv with hv _
   have hlt:i.toNat<l.length:=by omega
   rcases hr with rfl | ⟨b,o,ha,hn,hb,hr⟩
   .simp at hlt
   .subst ha;refine⟨_,main b o _ c hv h1 h2,?_⟩;obtain⟨us,hd,hcell⟩:=hr i.toNat hlt;have hrd:rdL ty l i.toNat=l[i.toNat] :=by simp[rdL,hlt]
    simp only[CR];have hnN: ¬C.N B b:=by
     cases p
     .exact hn
     .exact fun q=>hn (Cx.N_Np hlb q)
    refine⟨b,o+i.toNat*e.size,by simp,hnN,hb,us,by rw[hrd];exact z3u p hd,fun j hj=> ?_⟩;rw[hs2];exact hcell j (by rw[←hd.len];exact hj)
  .cases he
 case hd id st=>
  split at he
  .rename_i p st' ty l hH;split at he
   .rename_i hsz2;simp only[Ai] at hsz2;have e0:=Av hsz2.1;have hs2:=Av hsz2.2;subst e0;simp only[Ac,Ak] at he;obtain⟨rfl,rfl⟩:=he;obtain⟨h1,h2⟩:=y8g.mp hg;simp only[CR] at hx;obtain⟨⟨hid,_⟩,hp⟩:=hx;obtain⟨_,hp⟩:=hp _ _ _ _ hH;obtain⟨a0,c,hv,hc,hr⟩:=hp rfl;have hidB:id<B.length:=by rw[h.lenB];exact hid
    have hB:=A4 hidB;have hbr:=h.blk _ _ _ hH hB;unfold RowP at hr;rw[hB] at hr;have hlt:i.toNat<l.length:=by omega
    cases hob:B[id] with
    | none=>
     rw[hob] at hbr;simp only[BR] at hbr;subst hbr;simp at hlt
    | some rb=>
     rw[hob] at hr hB;simp only at hr;obtain⟨ha,_⟩:=hr;subst ha;refine⟨_,main rb (0*ty.size) _ c hv h1 h2,?_⟩;simp only[CR];refine⟨⟨hid,rfl⟩,fun p' st' t' l' e1=> ?_⟩;rw[hH] at e1;injection e1 with e1
     injection e1 with q1 q2 q3 q4
     subst q1;subst q2;subst q3;cases q4;exact⟨Au _,fun _=>⟨hlt,rb,hB,by simp[hs2]⟩⟩
   .cases he
  .cases he
 case hds id st off len=>
  split at he
  .rename_i p st' ty l hH;split at he
   .rename_i hsz2;simp only[Ai] at hsz2;have e0:=Av hsz2.1;have hs2:=Av hsz2.2;subst e0;simp only[Ac,Ak] at he;obtain⟨rfl,rfl⟩:=he;obtain⟨h1,h2⟩:=y8g.mp hg;simp only[CR] at hx;obtain⟨⟨hid,_⟩,hp⟩:=hx;obtain⟨_,hp⟩:=hp _ _ _ _ hH;obtain⟨ho,a0,c,hv,hc,hr⟩:=hp rfl;have hidB:id<B.length:=by rw[h.lenB];exact hid
    have hB:=A4 hidB;have hbr:=h.blk _ _ _ hH hB;have hr:=hr (.inr (by omega));unfold RowP at hr;rw[hB] at hr;cases hob:B[id] with
    | none=>
     rw[hob] at hbr;simp only[BR] at hbr;subst hbr;simp at ho;omega
    | some rb=>
     rw[hob] at hr hB;simp only at hr;obtain⟨ha,_⟩:=hr;subst ha;refine⟨_,main rb (off*ty.size) _ c hv h1 h2,?_⟩;simp only[CR];refine⟨⟨hid,rfl⟩,fun p' st' t' l' e1=> ?_⟩;rw[hH] at e1;injection e1 with e1
     injection e1 with q1 q2 q3 q4
     subst q1;subst q2;subst q3;cases q4;exact⟨Au _,fun _=>⟨by omega,rb,hB,by rw[hs2,Cl];rfl⟩⟩
   .cases he
  .cases he
end
section
variable {P:Program} {A:Ann} {C:Cx} {env:List D} {H:z0a} {B:List (Option Nat)} {a:Act} {w:World}
def z9a (P:Program) (C:Cx) (H:z0a) (B:List (Option Nat)) (w:World) (s:Sem Value) (d:D):Prop:=
 ∃v,s.run P w= .ok v w/\CR (C.N B) (C.Np B) H B w d v
theorem y5l {op:BinOp} {xt:Nat} {k:IntKind} {x y:Int} {g:Bool} {d:D} (h:y8t op k x y=some (g,d)) (hg:g=true):
 z9a P C H B w (binOp op xt (.int k x) (.int k y)) d:=by
 cases op<;>simp only[y8t] at h<;>try (cases h;done)
 all_goals simp only[Ac,Ak] at h
 all_goals obtain⟨h1,rfl⟩:=h
 case quo=>
  rw[hg] at h1;have hy:y≠0:=by simpa using h1
  refine⟨_,?_,by simp only[CR];rfl⟩;simp[binOp,Op.intDiv,hy]
 case rem=>
  rw[hg] at h1;have hy:y≠0:=by simpa using h1
  refine⟨_,?_,by simp only[CR];rfl⟩;simp[binOp,Op.intDiv,hy]
 case eql=>exact⟨.bool (x==y),by simp[binOp,Op.intCmp],by simp[CR];rw[Cd];simp⟩
 case neq=>exact⟨.bool (x !=y),by simp[binOp,Op.intCmp],by simp[CR,bne];rw[Cd];simp⟩
 all_goals
  refine⟨_,?_,by simp only[CR];rfl⟩;simp[binOp,Op.intArith,Op.intBits,Op.intCmp]
theorem y5m {op:BinOp} {xt:Nat} {x y:ByteArray} {g:Bool} {d:D} (h:y8u op x y=some (g,d)) (hg:g=true):
 z9a P C H B w (binOp op xt (.string x) (.string y)) d:=by
 cases op<;>simp only[y8u] at h<;>try (cases h;done)
 all_goals simp only[Ac,Ak] at h
 all_goals obtain⟨h1,rfl⟩:=h
 case add=>
  rw[hg] at h1;have hy:x.size+y.size<=140737488355328:=by simpa using h1
  have hn: ¬((x.size+y.size:Nat):Int) >IntKind.i64.max:=by
   have:IntKind.i64.max=9223372036854775807:=by decide
   omega
  refine⟨.string (x++y),?_,by simp[CR]⟩;simp only[binOp,Op.stringOp];rw[Ao hn];rfl
 all_goals
  refine⟨_,?_,by simp only[CR];rfl⟩;simp[binOp,Op.stringOp,z7q,y3i]
theorem z2i (op:BinOp) (t:Nat) (x y:Operand) (u v:Value) (h1:u≠ .nilIface) (h2:∀cs,u≠ .agg cs) (w:World):(eqGuard op t x y u v).run P w= .ok () w:=by
 cases u<;>first | exact absurd rfl h1 | exact absurd rfl (h2 _) | (cases op<;>simp[eqGuard])
theorem y5k (ok:TyOk P A) {op:BinOp} {xt:Nat} {ox oy:Operand} {x y:D} {u v:Value} {g:Bool} {d:D} (hx:CR (C.N B) (C.Np B) H B w x u) (hy:CR (C.N B) (C.Np B) H B w y v)
 (h:y8s A xt op x y=some (g,d)) (hg:g=true):z9a P C H B w (do eqGuard op xt ox oy u v;binOp op xt u v) d:=by
 unfold z9a;simp only[Sem.run_bind];cases x<;>simp only[y8s] at h<;>try (cases h;done)
 case int k x=>
  cases y<;>simp only at h<;>try (cases h;done)
  rename_i k' y;simp only[CR] at hx hy;subst hx;subst hy;rw[z2i _ _ _ _ _ _ (by simp) (by simp)];simp only[Result.andThen_ok];split at h
  .simp only[Ac,Ak] at h;obtain⟨h1,rfl⟩:=h;rw[hg] at h1;have hy: ¬y<0:=by simpa using h1
   refine⟨_,?_,by simp only[CR];rfl⟩;simp[binOp,Op.shift,hy]
  .simp only[Ac,Ak] at h;obtain⟨h1,rfl⟩:=h;rw[hg] at h1;have hy: ¬y<0:=by simpa using h1
   refine⟨_,?_,by simp only[CR];rfl⟩;simp[binOp,Op.shift,hy]
  .split at h
   .rename_i e;subst e;exact y5l h hg
   .cases h
 case bool x=>
  cases y<;>simp only at h<;>try (cases h;done)
  rename_i y;simp only[CR] at hx hy;subst hx;subst hy;rw[z2i _ _ _ _ _ _ (by simp) (by simp)];simp only[Result.andThen_ok];split at h
  .rename_i e;simp only[Ac,Ak] at h;obtain⟨h1,rfl⟩:=h;exact⟨_,run_eql_bool w xt x y (ok.bool _ e),by simp[CR]⟩
  .rename_i e;simp only[Ac,Ak] at h;obtain⟨h1,rfl⟩:=h;exact⟨_,run_neq_bool w xt x y (ok.bool _ e),by simp[CR]⟩
  .cases h
 case str x=>
  cases y<;>simp only at h<;>try (cases h;done)
  simp only[CR] at hx hy;subst hx;subst hy;rw[z2i _ _ _ _ _ _ (by simp) (by simp)];simp only[Result.andThen_ok];exact y5m h hg
 case agg cs=>
  cases y<;>simp only at h<;>try (cases h;done)
  rename_i ds;simp only[CR] at hx hy;obtain⟨xs,rfl,hx⟩:=hx;obtain⟨ys,rfl,hy⟩:=hy;split at h
  .rename_i e;obtain⟨k1,k2⟩:=ok.eqt _ _ e;rw[run_eqGuard_agg _ _ _ _ _ _ _ k1];simp only[Result.andThen_ok];split at h
   .rename_i b e2;simp only[Ac,Ak] at h;obtain⟨h1,rfl⟩:=h;exact⟨.bool b,by rw[run_eql_struct,k2 w _ _ xs ys b e2 _ _ _ _ hx hy];rfl,by simp[CR]⟩
   .rename_i b e2;simp only[Ac,Ak] at h;obtain⟨h1,rfl⟩:=h;exact⟨.bool (!b),by rw[run_neq_struct,k2 w _ _ xs ys b e2 _ _ _ _ hx hy];rfl,by simp[CR]⟩
   .cases h
  .cases h
theorem y7v {op:UnOp} {x:D} {u:Value} {g:Bool} {d:D} (hx:CR (C.N B) (C.Np B) H B w x u) (h:unD op x=some (g,d)):z9a P C H B w (Op.unary op u) d:=by
 unfold z9a;cases op<;>cases x<;>simp only[unD] at h<;>try (cases h;done)
 all_goals simp only[Ac,Ak] at h
 all_goals obtain⟨h1,rfl⟩:=h
 all_goals simp only[CR] at hx
 all_goals subst hx
 .refine⟨_,?_,by simp only[CR];rfl⟩;simp[Op.unary,Op.intArith]
 .refine⟨_,?_,by simp only[CR];rfl⟩;simp[Op.unary]
theorem z4m (ok:TyOk P A) {s f o n:Nat} {ag:Bool} (hf:A.fld s f=some (o,n,ag)) (b off:Nat):(Instr.fieldAt s (.pointer (some ⟨b,off,none⟩)) f).run P w= .ok (.pointer (some ⟨b,off+o,none⟩)) w:=by
 obtain⟨fs,fd,i,d,hu,hfs,ho,hi,hn,hn0,_⟩:=ok.fld s f o n ag hf;have: ¬i.size=0:=by omega
 simp[Instr.fieldAt,run_underlying hu,hfs,Instr.sureAddr,fieldPlace,z0b hi,this,z2p,ho]
theorem y6j {N Np:Nat->Prop} {t n o:Nat} {ag:Bool} {i:TypeInfo} {de:TypeDesc} (hi:P.info? t=some i) (hs:i.size=n) (hu:P.underlying t=some de) (hag:z2q de=ag)
 {cs:List D} {vs:Array Value} {d:D} (_:o+n<=cs.length) (hc:CRs N Np H B w cs vs.toList) (hm:z2v ag ((cs.drop o).take n)=some d):
 ∃v,(part t vs o).run P w= .ok v w/\CR N Np H B w d v:=by
 have hlen:=hc.length;have hk:=(hc.drop o).take n;unfold part;simp only[Sem.run_bind,z4c hu,Result.andThen_ok,hag];cases ag with
 | true=>
  simp only[z2v,Ac] at hm;subst hm;refine⟨.agg (vs.extract o (o+n)),by simp[z0b hi,hs],?_⟩;simp only[CR];refine⟨_,rfl,?_⟩;have e:(vs.extract o (o+n)).toList=(vs.toList.drop o).take n:=by
   simp[Array.toList_extract,F7]
  rw[e];exact hk
 | false=>
  have hgo:∀r:List D,z2v false r=some d->r= [d] :=by
   intro r hr;cases r with
   | nil=>simp[z2v] at hr | cons d0 r=>
    cases r with
    | cons _ _=>simp[z2v] at hr | nil=>simp only[z2v,Ac] at hr;rw[hr]
  have e:=hgo _ hm;rw[e] at hk;simp only[CRs] at hk;obtain⟨u,us,e2,h1,rfl⟩:=hk;have e3:vs[o]? =some u:=by
   have:((vs.toList.drop o).take n)[0]? =some u:=by rw[e2];rfl
   rw[Ca] at this;split at this
   .simpa using this
   .cases this
  exact⟨u,by simp[e3],h1⟩
theorem y5g {N Np:Nat->Prop} :∀ {ds:List D} {vs:List Value},CRs N Np H B w ds vs↔vs.length=ds.length/\ ∀i,i<ds.length->CR N Np H B w (get ds i) (vs.getD i undef)
 | [],vs=>by simp[CRs]
 | d::ds,vs=>by
  constructor
  .intro h;exact⟨h.length,fun i _=>h.get i⟩
  .rintro⟨h1,h2⟩
   cases vs with
   | nil=>simp at h1 | cons v vs=>
    simp only[CRs];refine⟨v,vs,rfl,by simpa[get] using h2 0 (by simp),y5g.mpr ⟨by simpa using h1,fun i hi=> ?_⟩⟩;simpa[get] using h2 (i+1) (by simpa using hi)
theorem z9r:∀(off:Nat) (ds cs:List D),off+ds.length<=cs.length-> ∀i,get (spl off ds cs) i=if off<=i/\i<off+ds.length then get ds (i - off) else get cs i
 | 0, [],cs,_,i=>by
  have: ¬(0<=i/\i<0+([] :List D).length):=by simp
  rw[Ao this];simp[spl]
 | 0,d::ds, [],h,i=>by simp at h
 | 0,d::ds,c::cs,h,i=>by
  cases i with
  | zero=>simp[spl,get] | succ i=>
   have ih:=z9r 0 ds cs (by simpa using h) i;simp only[spl];have e1:get (d::spl 0 ds cs) (i+1)=get (spl 0 ds cs) i:=by simp[get]
   have e2:get (c::cs) (i+1)=get cs i:=by simp[get]
   have e3:get (d::ds) (i+1 - 0)=get ds (i - 0):=by simp[get]
   rw[e1,ih,e2,e3];simp only[Bc];by_cases q:0<=i/\i<0+ds.length
   .rw[Al q,Al (by omega)]
   .rw[Ao q,Ao (by omega)]
 | off+1,ds, [],h,i=>by simp at h
 | off+1,ds,c::cs,h,i=>by
  cases i with
  | zero=>
   have: ¬(off+1<=0/\0<off+1+ds.length):=by omega
   rw[Ao this];simp[spl,get]
  | succ i=>
   have ih:=z9r off ds cs (by simp at h;omega) i;simp only[spl];have e1:get (c::spl off ds cs) (i+1)=get (spl off ds cs) i:=by simp[get]
   have e2:get (c::cs) (i+1)=get cs i:=by simp[get]
   rw[e1,ih,e2];by_cases q:off<=i/\i<off+ds.length
   .rw[Al q,Al (by omega)];congr 1;omega
   .rw[Ao q,Ao (by omega)]
theorem z9s:∀(off:Nat) (ds cs:List D),(spl off ds cs).length=cs.length
 | 0, [],_=>by simp[spl]
 | 0,_::_, [] =>by simp[spl]
 | 0,d::ds,c::cs=>by simp[spl,z9s 0 ds cs]
 | _+1,_, [] =>by simp[spl]
 | off+1,ds,c::cs=>by simp[spl,z9s off ds cs]
theorem z5r (off:Nat):∀(us:List Value) (k:Nat) (vs:Array Value) (i:Nat),off+k+us.length<=vs.size->
 ((us.zipIdx k).foldl (fun cs (x:Value×Nat)=>cs.setIfInBounds (off+x.2) x.1) vs)[i]? =if off+k<=i/\i<off+k+us.length then us[i - (off+k)]? else vs[i]?
 | [],k,vs,i,_=>by
  have: ¬(off+k<=i/\i<off+k+([] :List Value).length):=by simp
  rw[Ao this];simp
 | u::us,k,vs,i,h=>by
  simp only[List.zipIdx_cons,Bs];rw[z5r off us (k+1) _ i (by simp at h ⊢;omega)];simp only[Bc];by_cases q:off+(k+1)<=i/\i<off+(k+1)+us.length
  .rw[Al q,Al (by omega)];have:i - (off+k)=(i - (off+(k+1)))+1:=by omega
   rw[this];simp
  .rw[Ao q];by_cases e:i=off+k
   .subst e;rw[Al (by omega)];simp at h;simp[Array.getElem?_setIfInBounds];omega
   .rw[Ao (by omega),Fd (by omega)]
theorem z4n (off:Nat):∀(us:List (Value×Nat)) (vs:Array Value),(us.foldl (fun cs (x:Value×Nat)=>cs.setIfInBounds (off+x.2) x.1) vs).size=vs.size
 | [],_=>rfl | u::us,vs=>by simp only[Bs];rw[z4n off us];simp
theorem y7q {N Np:Nat->Prop} {off:Nat} {ds cs:List D} {us:List Value} {vs:Array Value} (h1:CRs N Np H B w ds us) (h2:CRs N Np H B w cs vs.toList) (hle:off+ds.length<=cs.length):
 CRs N Np H B w (spl off ds cs) ((us.zipIdx).foldl (fun cs (x:Value×Nat)=>cs.setIfInBounds (off+x.2) x.1) vs).toList:=by
 have l1:=h1.length;have l2:=h2.length;simp at l2;rw[y5g];refine⟨by simp[z4n,z9s,l2],fun i hi=> ?_⟩;rw[z9r _ _ _ hle];have e:((us.zipIdx).foldl (fun cs (x:Value×Nat)=>cs.setIfInBounds (off+x.2) x.1) vs).toList.getD i undef=(if off<=i/\i<off+ds.length then us.getD (i - off) undef else vs.toList.getD i undef):=by
  simp only[A5,El];rw[z5r off us 0 vs i (by omega)];simp only[Df,l1];split<;>rfl
 rw[e];split
 .exact h1.get _
 .exact h2.get _
theorem y5x {t:Nat} {N Np:Nat->Prop} {places:List (Nat×Nat)} (hp:∀f o n ag,A.fld t f=some (o,n,ag)->places[f]? =some (o,n)):
 ∀ {parts:List (Nat×D)} {vparts:List (Nat×Value)} {cs:List D} {vs:Array Value} {r:List D},y2i A t parts cs=some r->
  (∀(i:Nat) p,parts[i]? =some p-> ∃v,vparts[i]? =some (p.1,v)/\(okD p.2=true->CRs N Np H B w (cellsOf p.2) v.cells.toList))->vparts.length=parts.length->CRs N Np H B w cs vs.toList->
  ∃us,Instr.fill (places.toArray[·]?) vs vparts=some us/\CRs N Np H B w r us.toList:=by
 intro parts
 induction parts with
 | nil=>
  intro vparts cs vs r h hv hl hc;cases vparts with
  | cons _ _=>simp at hl | nil=>
   simp only[y2i,Ac] at h;subst h;exact⟨vs,rfl,hc⟩
 | cons p parts ih=>
  intro vparts cs vs r h hv hl hc;cases vparts with
  | nil=>simp at hl | cons q vparts=>
   obtain⟨i,x⟩:=p;obtain⟨v,e0,hx⟩:=hv 0 _ rfl;simp only[Bt,Ac] at e0;subst e0;simp only[y2i] at h;split at h
   .rename_i o n ag hf;split at h
    .rename_i hle;have hpl:=hp _ _ _ _ hf;replace hx:CRs N Np H B w (cellsOf x) v.cells.toList:=hx hle.2.2;have hlx:=hx.length;have hlc:=hc.length;have hsz:v.cells.size=n:=by rw[←B6,hlx];exact hle.1
     have hvs:vs.size=cs.length:=by simpa using hlc
     have hk:=y7q hx hc (off:=o) (by omega);obtain⟨us,k1,k2⟩:=ih (vparts:=vparts) h (fun i p hp' =>hv (i+1) p hp') (by simpa using hl) hk;refine⟨us,?_,k2⟩;rw[Instr.fill];have e1:places.toArray[i]? =some (o,n):=by simpa using hpl
     simp only[e1];have h2:=hle.2.1;rw[Ao (by rw[hsz,hvs];simp;exact h2)];rw[←k1];congr 1;rw[←Array.foldl_toList];simp[Array.toList_zipIdx]
    .cases h
   .cases h
theorem z2z {N Np:Nat->Prop} :∀y:Ty,CRs N Np H B w (z2g y) (z2n y)
 | .int k=>by simp[z2g,z2n,CRs,CR]
 | .bool=>by simp[z2g,z2n,CRs,CR]
 | .str=>by simp[z2g,z2n,CRs,CR]
 | .sl e=>by simp[z2g,z2n,CRs,CR]
 | .pair a b=>(z2z a).append (z2z b)
theorem y6m (l:List Int):∀s:ByteArray,l.foldl (fun s n=>s.push (UInt8.ofNat n.toNat)) s=⟨s.data++(l.map fun n=>UInt8.ofNat n.toNat).toArray⟩:=by
 induction l with
 | nil=>intro s;simp | cons n l ih=>
  intro s;rw[Bs,ih];simp[ByteArray.push]
end
section
variable {P:Program} {A:Ann} {C:Cx} {env:List D} {H:z0a} {B:List (Option Nat)} {a:Act} {w:World}
theorem y3g (h:HS C H B w) {e:Ty} {x:D} {v:Value} {p:Bool} {l:List e.den} {Nt:Nat->Prop} (hx:CR (C.N B) (C.Np B) H B w x v) (hs:∀s,x≠ .str s) (he:z6e H e x=some (p,l))
 (hL:Lets (C.N B) (C.Np B) w p Nt) (hn:∀b,Has B b-> ¬Nt b):Dat Nt w (.sl e) l [v] :=by
 cases x<;>simp only[z6e] at he<;>try (cases he;done)
 case str s=>exact absurd rfl (hs s)
 case nilsl=>
  simp only[Ac,Ak] at he;obtain⟨rfl,rfl⟩:=he;simp only[CR] at hx;subst hx;exact⟨none,0,rfl,Au _, .inl rfl⟩
 case sl q t l0=>
  split at he
  .rename_i e0;subst e0;simp only[Ac,Ak] at he;obtain⟨rfl,rfl⟩:=he;simp only[CR] at hx;exact hx.lets hL
  .cases he
 case hd id st=>
  split at he
  .rename_i q st' t l0 hH;split at he
   .rename_i e1;subst e1;split at he
    .rename_i e0;subst e0;simp only[Ac,Ak] at he;obtain⟨rfl,rfl⟩:=he;simp only[CR] at hx;have hid:id<B.length:=by rw[h.lenB];exact hx.1.1
     have hB:=A4 hid;exact y0j hH hB (h.blk _ _ _ hH hB) hx hL (fun rb e=>hn rb ⟨id,by rw[hB,e]⟩)
    .cases he
   .cases he
  .cases he
 case hds id st off len=>
  split at he
  .rename_i q st' t l0 hH;split at he
   .rename_i e1;subst e1;split at he
    .rename_i e0;subst e0;simp only[Ac,Ak] at he;obtain⟨rfl,rfl⟩:=he;simp only[CR] at hx;have hid:id<B.length:=by rw[h.lenB];exact hx.1.1
     have hB:=A4 hid;exact z9o hH hB (h.blk _ _ _ hH hB) hx hL (fun rb e=>hn rb ⟨id,by rw[hB,e]⟩)
    .cases he
   .cases he
  .cases he
theorem y2d {N:Nat->Prop} {l:List Int} {v:Value} (h:Dat N w (.sl (.int .u8)) l [v]):(Conv.bytesToString v).run P w= .ok (.string (y7s l)) w:=by
 obtain⟨A0,c,hv,hc,hr⟩:=h;injection hv with hv _
 subst hv;cases A0 with
 | none=>
  rcases hr with rfl | ⟨b,o,ha,_⟩
  .simp[Conv.bytesToString,y7s];rfl
  .cases ha
 | some a=>
  have hload:(loadCells a l.length).run P w= .ok (l.map (Value.int .u8)).toArray w:=by
   have:=run_loadCells_list (P:=P) w a (l.map (Value.int .u8)) (fun j v e=>by
    rcases hr with rfl | ⟨b,o,ha,_,_,hr⟩
    .simp at e
    .cases ha;simp only[Et,Ea] at e;obtain⟨n,e1,rfl⟩:=e;have hj:j<l.length:=by
      rcases B8 j l.length with q | q
      .exact q
      .rw[Be q] at e1;cases e1
     obtain⟨us,hu,hcell⟩:=hr j hj;have h0:=hcell 0 (by simp[Ty.size]);simp only[Dat] at hu;subst hu;rw[z2p];simp only[Ty.size,Nat.mul_one,Df,Bt] at h0;rw[h0];rw[A4 hj] at e1;cases e1;rfl)
   simpa using this
  rw[run_bytesToString w a _ _ l hload,y6m];simp[y7s]
theorem y2s (h:St C env H B a w) {x:Option Operand} {n:Option Int} (e:y6i (x.map (opd env))=some n):(x=none/\n=none)\/ ∃o k i,x=some o/\n=some i/\a.eval o= .int k i:=by
 cases x with
 | none=>simp[y6i] at e;exact .inl ⟨rfl,e.symm⟩ | some o=>
  right;simp only[Dc] at e;have ho:=z0y h o;cases hd:opd env o<;>rw[hd] at e<;>simp only[y6i] at e<;>try (cases e;done)
  rename_i k i;rw[hd] at ho;simp only[CR] at ho;cases e;exact⟨o,k,i,rfl,rfl,ho⟩
theorem z1d (h:St C env H B a w) {lo hi:Option Operand} {l' h' :Option Int} (e1:y6i (lo.map (opd env))=some l') (e2:y6i (hi.map (opd env))=some h') {b:Bool} {len cap:Nat} (hlc:len<=cap)
 (k1:0<=l'.getD 0) (k2:l'.getD 0<=h'.getD (len:Int)) (k3:h'.getD (len:Int)<=(len:Int)):
 (Instr.sliceBounds b len cap (lo.map a.eval) (hi.map a.eval) none).run P w= .ok ((l'.getD 0).toNat,(h'.getD (len:Int)).toNat,cap) w:=by
 rcases y2s h e1 with ⟨rfl,rfl⟩ | ⟨o1,q1,i1,rfl,rfl,v1⟩<;>rcases y2s h e2 with ⟨rfl,rfl⟩ | ⟨o2,q2,i2,rfl,rfl,v2⟩
 .simp[Instr.sliceBounds]
 .simp only[Eo,Eb] at k1 k2 k3;simp only[Instr.sliceBounds,Option.map_none,Dc,v2,Sem.run_bind,Sem.run_pure,Result.andThen_ok,Eo,Eb];rw[run_sliceBound w _ _ _ _ k2 (by omega)];simp
 .simp only[Eo,Eb] at k1 k2 k3;simp only[Instr.sliceBounds,Option.map_none,Dc,v1,Sem.run_bind,Sem.run_pure,Result.andThen_ok,Eo,Eb];rw[run_sliceBound w _ _ _ _ k1 (by omega)];simp
 .simp only[Eb] at k1 k2 k3;simp only[Instr.sliceBounds,Dc,v1,v2,Sem.run_bind,Sem.run_pure,Result.andThen_ok,Eb];rw[run_sliceBound w _ _ _ _ (by omega) (by omega)];simp only[Result.andThen_ok];rw[run_sliceBound w _ _ _ _ k1 (by omega)];simp
theorem y6d (ok:TyOk P A) (h:HS C H B w) {t:Nat} {x:D} {v:Value} {n:Int} {ts:Array TypeId} (ht:ts[0]? =some t) (hx:CR (C.N B) (C.Np B) H B w x v) (he:y6t H (A.ty t) x=some n) {ty:TypeId} :
 (Builtin.len_ ts ty #[v]).run P w= .ok (.int .i64 n) w:=by
 have hsl:∀e,A.ty t=some (.sl e)-> ∀a0 k c,v= .slice a0 k c->(k:Int)=n->(Builtin.len_ ts ty #[v]).run P w= .ok (.int .i64 n) w:=by
  intro e h1 a0 k c hv hk;obtain⟨et,hu,_⟩:=ok.sl t e h1;subst hv;simp[Builtin.len_,ht,run_underlying hu,goInt,hk]
 unfold y6t at he;split at he
 .rename_i e h1;simp only[CR] at hx;exact hsl _ h1 none 0 0 hx (by simpa using he)
 .rename_i h1;simp only[CR] at hx;subst hx;simp only[Ac] at he;simp[Builtin.len_,ht,run_underlying (ok.str t h1),goInt,he]
 .rename_i e h1;simp only[CR] at hx;obtain⟨a0,c,hv,_⟩:=hx;injection hv with hv _
  exact hsl _ h1 a0 _ c hv (by simpa using he)
 .rename_i e id st h1;split at he
  .rename_i p st' t' l hH;split at he
   .rename_i e1;subst e1;simp only[CR] at hx;obtain⟨_,hp⟩:=hx;obtain⟨_,hp⟩:=hp _ _ _ _ hH;obtain⟨a0,c,hv,_⟩:=hp rfl;exact hsl _ h1 a0 _ c hv (by simpa using he)
   .cases he
  .cases he
 .rename_i e id st off len h1;split at he
  .rename_i p st' t' l hH;split at he
   .rename_i e1;subst e1;simp only[CR] at hx;obtain⟨_,hp⟩:=hx;obtain⟨_,hp⟩:=hp _ _ _ _ hH;obtain⟨_,a0,c,hv,_⟩:=hp rfl;exact hsl _ h1 a0 _ c hv (by simpa using he)
   .cases he
  .cases he
 .cases he
theorem y3b {s:Sem Value} {v:Value} {w w' :World} (h:s.run P w= .ok v w'):(do pure (Next.value (←s)):Sem Next).run P w= .ok (.value v) w' :=by
 simp[h]
theorem y1i {id st:Nat} {p:Bool} {t:Ty} {l:List t.den} {v:Value} (h:HS C H B w) (hH:H[id]? =some (.arr p st t l)) (hv:HdP H B w id st v) {lo hi:Nat} (h1:lo<=hi) (h2:hi<=l.length):
 ∃a0 c,v= .slice a0 l.length c/\l.length<=c/\HdsP H B w id st lo (hi - lo) (sliced a0 lo hi c t.size):=by
 obtain⟨⟨hid,_⟩,hp⟩:=hv;obtain⟨_,hp⟩:=hp _ _ _ _ hH;obtain⟨a0,c,hv,hc,hr⟩:=hp rfl;refine⟨a0,c,hv,hc,⟨hid,rfl⟩,fun p' st' t' l' e=> ?_⟩;rw[hH] at e;injection e with e
 injection e with q1 q2 q3 q4
 subst q1;subst q2;subst q3;cases q4;refine⟨Au _,fun _=>⟨by omega,_,_,rfl,by omega,fun hne=> ?_⟩⟩;unfold RowP at hr ⊢;cases hB:B[id]? with
 | none=>rw[hB] at hr;simp only at hr ⊢;obtain⟨rfl,rfl⟩:=hr;simp | some ob=>
  rw[hB] at hr;cases ob with
  | none=>simp only at hr ⊢;obtain⟨rfl,rfl⟩:=hr;simp | some rb=>
   simp only at hr ⊢;obtain⟨rfl,cs,hcs,hsz⟩:=hr;refine⟨?_,cs,hcs,?_⟩
   .split
    .rename_i e;have e0:lo=0:=by
      rcases hne with q | q
      .exact q
      .omega
     rw[e0]
    .simp[z2p]
   .have:lo+(c - lo)<=0+c\/c<lo:=by omega
    rcases this with q | q
    .exact A9 (Bo _ q) hsz
    .omega
theorem y1h {N:Nat->Prop} {t:Ty} {l:List t.den} {v:Value} (hv:Dat N w (.sl t) l [v]) {lo hi:Nat} (h1:lo<=hi) (h2:hi<=l.length):
 ∃a0 c,v= .slice a0 l.length c/\l.length<=c/\Dat N w (.sl t) ((l.take hi).drop lo) [sliced a0 lo hi c t.size] :=by
 obtain⟨a0,c,e,hc,hr⟩:=hv;injection e with e _
 have hlen:((l.take hi).drop lo).length=hi - lo:=by simp;omega
 refine⟨a0,c,e,hc,_,_,by rw[hlen];rfl,by omega,?_⟩;by_cases hz:hi - lo=0
 .left;have:lo=hi:=by omega
  subst this;simp
 .right;rcases hr with rfl | ⟨b,o,rfl,hn,hb,hr⟩
  .simp at h2;omega
  .refine⟨b,o+lo*t.size,?_,hn,hb,fun i hi' => ?_⟩
   .split
    .rename_i e;have:lo=c:=by omega
     omega
    .simp[z2p]
   .rw[hlen] at hi';obtain⟨us,hu,hcell⟩:=hr (lo+i) (by omega);refine⟨us,?_,fun j hj=> ?_⟩
    .have e:((l.take hi).drop lo)[i]'(by omega)=l[lo+i]'(by omega):=by simp
     rw[e];exact hu
    .rw[←hcell j hj];congr 2;rw[Cl];omega
end
section
variable {P:Program} {A:Ann} {C:Cx} {env:List D} {H:z0a} {B:List (Option Nat)} {a:Act} {w:World}
def OpGives (P:Program) (C:Cx) (H:z0a) (B:List (Option Nat)) (a:Act) (w:World) (o:Oper) (d:D):Prop:=
 ∃v,(execOp a.eval o).run P w= .ok (.value v) w/\CR (C.N B) (C.Np B) H B w d v
theorem OpGives.of {o:Oper} {d:D} {s:Sem Value} (he:execOp a.eval o=(do pure (Next.value (←s)))) (h:z9a P C H B w s d):OpGives P C H B a w o d:=by
 obtain⟨v,h1,h2⟩:=h;exact⟨v,by rw[he];exact y3b h1,h2⟩
theorem y4z (ok:TyOk P A) (h:St C env H B a w) {o:Oper} {g:Bool} {d:D} (e:nev A env H o.op=some (g,d)) (hg:g=true):OpGives P C H B a w o d:=by
 have cr:=fun x=>z0y h x
 cases ho:o.op<;>rw[ho] at e<;>simp only[nev] at e<;>try (cases e;done)
 case move x=>
  simp only[Ac,Ak] at e;obtain⟨_,rfl⟩:=e;exact⟨_,by simp[execOp,ho],cr x⟩
 case assign x=>
  simp only[Ac,Ak] at e;obtain⟨_,rfl⟩:=e;exact⟨_,by simp[execOp,ho],cr x⟩
 case pick c x y=>
  have hc:=cr c;split at e
  .rename_i e1;rw[e1] at hc;simp only[CR] at hc;simp only[Ac,Ak] at e;obtain⟨_,rfl⟩:=e;exact⟨_,by simp[execOp,ho,hc,asBool],cr x⟩
  .rename_i e1;rw[e1] at hc;simp only[CR] at hc;simp only[Ac,Ak] at e;obtain⟨_,rfl⟩:=e;exact⟨_,by simp[execOp,ho,hc,asBool],cr y⟩
  .cases e
 case binOp op xt x y yt=>
  exact .of (s:=do eqGuard op xt x y (a.eval x) (a.eval y);binOp op xt (a.eval x) (a.eval y)) (by simp only[execOp,ho]) (y5k ok (cr x) (cr y) e hg)
 case unOp op xt x=>
  exact .of (by simp only[execOp,ho]) (y7v (cr x) e)
 case convert src dst x=>
  have hx:=cr x;refine .of (s:=convert src dst (a.eval x)) (by simp only[execOp,ho]) ?_;split at e
  .rename_i y k k' n e1 e2 e3;rw[e3] at hx;simp only[CR] at hx;simp only[Ac,Ak] at e;obtain⟨_,rfl⟩:=e;obtain⟨ds,hds⟩:=ok.some_ _ _ e1;refine⟨.int k (k.wrap n),?_,by simp[CR]⟩;rw[hx];simp only[convert,Sem.run_bind,run_underlying hds,run_underlying (ok.int _ _ e2),Result.andThen_ok];cases ds<;>simp[Conv.intToInt]
  .rename_i y s e1 e2 e3;rw[e3] at hx;simp only[CR] at hx;simp only[Ac,Ak] at e;obtain⟨_,rfl⟩:=e;obtain⟨ds,hds⟩:=ok.some_ _ _ e1;refine⟨.string s,?_,by simp[CR]⟩;rw[hx];simp only[convert,Sem.run_bind,run_underlying hds,run_underlying (ok.str _ e2),Result.andThen_ok];cases ds<;>simp
  .rename_i d0 e1 e2 hne;split at e
   .cases e
   .rename_i hns;split at e
    .rename_i q l es;simp only[Ac,Ak] at e;obtain⟨_,rfl⟩:=e;obtain⟨et,hu,hty⟩:=ok.sl _ _ e1;have hd:=y3g h.toHS hx hns es (Nt:=fun _=>False) (fun _ _ _=>id) (fun _ _=>id);refine⟨.string (y7s l),?_,by simp[CR]⟩;obtain⟨a0,c,hv,_⟩:=id hd;injection hv with hv _
     rw[hv,run_convert_bytes_string w src dst et a0 _ _ hu (ok.int _ _ hty) (ok.str _ e2),←hv];exact y2d hd
    .cases e
  .cases e
 case fieldAddr s x f=>
  have hx:=cr x;refine .of (s:=Instr.fieldAt s (a.eval x) f) (by simp only[execOp,ho]) ?_;split at e
  .rename_i o n ag hf;split at e
   .rename_i id off e1;rw[e1] at hx;split at e
    .rename_i cells hH;simp only[Ac,Ak] at e;obtain⟨_,rfl⟩:=e;simp only[CR] at hx;obtain⟨⟨hid,h1⟩,hp⟩:=hx;obtain⟨rb,hb,hv⟩:=hp _ hH;refine⟨_,by rw[hv];exact z4m ok hf _ _,?_⟩;simp only[CR];exact⟨⟨hid,rfl⟩,fun cells' _=>⟨rb,hb,rfl⟩⟩
    .cases e
   .rename_i id st i c e1;rw[e1] at hx;split at e
    .rename_i p st' t l hH;split at e
     .rename_i e0;subst e0;simp only[Ac,Ak] at e;obtain⟨_,rfl⟩:=e;simp only[CR] at hx;obtain⟨⟨hid,h1⟩,hp⟩:=hx;obtain⟨_,hp⟩:=hp _ _ _ _ hH;obtain⟨hi,rb,hb,hv⟩:=hp rfl;refine⟨_,by rw[hv];exact z4m ok hf _ _,?_⟩;simp only[CR];refine⟨⟨hid,rfl⟩,fun p' st' t' l' e1=> ?_⟩;rw[hH] at e1;injection e1 with e1
      injection e1 with q1 q2 q3 q4
      subst q1;subst q2;subst q3;cases q4;exact⟨Au _,fun _=>⟨hi,rb,hb,by rw[D9]⟩⟩
     .cases e
    .cases e
   .rename_i cells off e1;rw[e1] at hx;simp only[Ac,Ak] at e;obtain⟨_,rfl⟩:=e;simp only[CR] at hx;obtain⟨rb,ro,hv,hx⟩:=hx;refine⟨_,by rw[hv];exact z4m ok hf _ _,?_⟩;simp only[CR];exact⟨rb,ro,by rw[D9],hx⟩
   .cases e
  .cases e
 case field s x f=>
  have hx:=cr x;refine .of (s:=Instr.field s (a.eval x) f) (by simp only[execOp,ho]) ?_;split at e
  .rename_i o n ag cs hf e1;rw[e1] at hx;simp only[CR] at hx;obtain⟨vs,hv,hx⟩:=hx;split at e
   .rename_i hle;split at e
    .rename_i d0 hm;simp only[Ac,Ak] at e;obtain⟨_,rfl⟩:=e;obtain⟨fs,fd,i,de,hu,hfs,hoo,hi,hn,hn0,hud,hag⟩:=ok.fld _ _ _ _ _ hf;obtain⟨v,k1,k2⟩:=y6j (P:=P) hi hn hud hag hle hx hm;refine⟨v,?_,k2⟩;rw[hv];simp[Instr.field,run_underlying hu,hfs,asAgg,hoo,k1]
    .cases e
   .cases e
  .cases e
 case indexAddr t x i=>
  have hx:=cr x;have hi:=cr i;refine .of (s:=Instr.indexAt t (a.eval x) (a.eval i)) (by simp only[execOp,ho]) ?_;split at e
  .rename_i e0 k n e1 e2;rw[e2] at hi;simp only[CR] at hi;rw[hi];exact z7i ok h.toHS e1 hx h.lb e hg
  .cases e
 case index t x i=>
  have hx:=cr x;have hi:=cr i;refine .of (s:=Instr.index t (a.eval x) (a.eval i)) (by simp only[execOp,ho]) ?_;split at e
  .rename_i s k n e1 e2 e3;rw[e2] at hx;rw[e3] at hi;simp only[CR] at hx hi;rw[hx,hi];simp only[Ac,Ak] at e;obtain⟨eg,rfl⟩:=e;rw[hg] at eg;obtain⟨h1,h2⟩:=y8g.mp eg;have hlt:n.toNat<s.size:=by omega
   have hget:s[n.toNat]? =some s[n.toNat] :=by simp[hlt]
   refine⟨.int .u8 (s[n.toNat].toNat:Int),?_,?_⟩
   .simp[Instr.index,run_underlying (ok.str _ e1),asIntOf,h1,hget]
   .simp only[CR];have:s.data.toList.getD n.toNat 0=s[n.toNat] :=by
     have hl:n.toNat<s.data.size:=hlt;rw[A5,El,Do hl];rfl
    rw[this]
  .cases e
 case load t x=>
  have hx:=cr x;refine .of (s:=Instr.loadAt t (a.eval x)) (by simp only[execOp,ho]) ?_;split at e
  .rename_i n ag hl;split at e
   .rename_i d0 e1;simp only[Ac,Ak] at e;obtain⟨_,rfl⟩:=e;exact y0m ok h.toHS hl hx e1
   .cases e
  .cases e
 case extract x i=>
  have hx:=cr x;refine .of (s:=Instr.extract (a.eval x) i) (by simp only[execOp,ho]) ?_;split at e
  .rename_i vs e1;split at e
   .rename_i hlt;simp only[Ac,Ak] at e;obtain⟨_,rfl⟩:=e;rw[e1] at hx;simp only[CR] at hx;obtain⟨us,hv,hx⟩:=hx;have hl:=hx.length;have hlt' :i<us.size:=by rw[←B6,hl];exact hlt
    refine⟨us[i],by rw[hv];simp[Instr.extract,hlt'],?_⟩;have:=hx.get i;simpa[A5,hlt'] using this
   .cases e
  .cases e
 case nilCheck x=>
  have hx:=cr x;split at e
  .rename_i id off e1;split at e
   .rename_i cells hH;simp only[Ac,Ak] at e;obtain⟨_,rfl⟩:=e;rw[e1] at hx;have hx' :=hx;simp only[CR] at hx;obtain⟨_,hp⟩:=hx;obtain⟨rb,hb,hv⟩:=hp _ hH;rw[hv] at hx';exact⟨_,by simp[execOp,ho,hv],hx'⟩
   .cases e
  .rename_i cs off e1;simp only[Ac,Ak] at e;obtain⟨_,rfl⟩:=e;rw[e1] at hx;have hx' :=hx;simp only[CR] at hx;obtain⟨rb,ro,hv,hx⟩:=hx;rw[hv] at hx';exact⟨_,by simp[execOp,ho,hv],hx'⟩
  .cases e
 case slice t x lo hi mx=>
  cases mx with
  | some _=>simp only[nev] at e;cases e | none=>
  simp only at e;have hx:=cr x;refine .of (s:=Instr.sliceAt t (a.eval x) (lo.map a.eval) (hi.map a.eval) (Option.map a.eval none)) (by simp only[execOp,ho]) ?_;simp only[Option.map_none];split at e
  .rename_i l' h' el eh;split at e
   .rename_i s e1 e2;rw[e2] at hx;simp only[CR] at hx;simp only[Ac,Ak] at e;obtain⟨eg,rfl⟩:=e;rw[hg] at eg;simp only[Ai,Ar] at eg;have hb:=z1d (P:=P) h el eh (b:=false) (len:=s.size) (cap:=s.size) (Au _) eg.1.1 eg.1.2 eg.2;refine⟨_,?_,by simp only[CR];rfl⟩;rw[hx,run_sliceAt_string w t _ _ _ _ (ok.str _ e1)];simp[Instr.slice,run_underlying (ok.str _ e1),hb]
   .rename_i ee p ty xs e1 e2;split at e
    .rename_i hsz;have hs2:=Av hsz;rw[e2] at hx;simp only[CR] at hx;simp only[Ac,Ak] at e;obtain⟨eg,rfl⟩:=e;rw[hg] at eg;simp only[Ai,Ar] at eg;obtain⟨et,hu,hty⟩:=ok.sl _ _ e1;obtain⟨ie,_,hie,hisz,_⟩:=ok.tyi _ _ hty;have hel:P.elem t=et:=by simp[Program.elem,hu]
     obtain⟨a0,c,hv,hc,hd⟩:=y1h hx (lo:=(l'.getD 0).toNat) (hi:=(h'.getD (xs.length:Int)).toNat) (by omega) (by omega);have hb:=z1d (P:=P) h el eh (b:=true) (len:=xs.length) (cap:=c) hc eg.1.1 eg.1.2 eg.2;refine⟨_,?_,by simp only[CR];exact hd⟩;rw[hv,run_sliceAt_slice w t _ _ _ _ (by rw[hel];exact hu),run_slice_any w t a0 _ c (by rw[hel];exact hu),hb];simp only[Result.andThen_ok,hel,z0b hie,hisz,hs2]
    .cases e
   .rename_i ee id st e1 e2;split at e
    .rename_i p st' ty xs hH;split at e
     .rename_i hsz;simp only[Ai] at hsz;have e0:=Av hsz.1;have hs2:=Av hsz.2;subst e0;rw[e2] at hx;simp only[CR] at hx;simp only[Ac,Ak] at e;obtain⟨eg,rfl⟩:=e;rw[hg] at eg;simp only[Ai,Ar] at eg;obtain⟨et,hu,hty⟩:=ok.sl _ _ e1;obtain⟨ie,_,hie,hisz,_⟩:=ok.tyi _ _ hty;have hel:P.elem t=et:=by simp[Program.elem,hu]
      obtain⟨a0,c,hv,hc,hd⟩:=y1i h.toHS hH hx (lo:=(l'.getD 0).toNat) (hi:=(h'.getD (xs.length:Int)).toNat) (by omega) (by omega);have hb:=z1d (P:=P) h el eh (b:=true) (len:=xs.length) (cap:=c) hc eg.1.1 eg.1.2 eg.2;refine⟨_,?_,by simp only[CR];exact hd⟩;rw[hv,run_sliceAt_slice w t _ _ _ _ (by rw[hel];exact hu),run_slice_any w t a0 _ c (by rw[hel];exact hu),hb];simp only[Result.andThen_ok,hel,z0b hie,hisz,hs2]
     .cases e
    .cases e
   .rename_i ee e1 e2;rw[e2] at hx;simp only[CR] at hx;simp only[Ac,Ak] at e;obtain⟨eg,rfl⟩:=e;rw[hg] at eg;simp only[Ai,Ar] at eg;obtain⟨et,hu,hty⟩:=ok.sl _ _ e1;obtain⟨ie,_,hie,hisz,_⟩:=ok.tyi _ _ hty;have hel:P.elem t=et:=by simp[Program.elem,hu]
    have hb:=z1d (P:=P) h el eh (b:=true) (len:=0) (cap:=0) (Au _) eg.1.1 (by simpa using eg.1.2) (by simpa using eg.2);have h0:(l'.getD 0).toNat=0:=by omega
    have h1:(h'.getD ((0:Nat):Int)).toNat=0:=by
     have:=eg.2;simp only[Int.natCast_zero] at*;omega
    rw[h0,h1] at hb;refine⟨.slice none 0 0,?_,by simp[CR]⟩;rw[hx,run_sliceAt_slice w t _ _ _ _ (by rw[hel];exact hu),run_slice_any w t none _ 0 (by rw[hel];exact hu),hb];simp[hel,z0b hie,sliced]
   .cases e
  .cases e
 case build t parts=>
  refine .of (s:=Instr.build t (parts.map fun(i,x)=>(i,a.eval x))) (by simp only[execOp,ho]) ?_;split at e
  .rename_i y ff e1 e0;split at e
   .rename_i cs e2;simp only[Ac,Ak] at e;obtain⟨_,rfl⟩:=e;obtain⟨i,z,hi,hs,hz,hzc⟩:=ok.tzi _ _ e1;obtain⟨it,z',fs,places,hit,hu,hz',hpl,hfl⟩:=ok.bld _ _ ff.1 ff.2.1 ff.2.2 e0;rw[hi] at hit;cases hit;rw[hz] at hz';cases hz';obtain⟨us,k1,k2⟩:=y5x (B:=B) (w:=w) (H:=H) (N:=C.N B) (Np:=C.Np B) hfl (vparts:=(parts.map fun(i,x)=>(i,a.eval x)).toList) (vs:=z.cells) e2 (by
     intro i p hp;simp only[Et,Ea] at hp;obtain⟨q,hq,rfl⟩:=hp;refine⟨a.eval q.2,?_,fun hok=>z2b (cr q.2) (fun hu=> ?_)⟩
     .simp only[Eg,Et,hq];rfl
     .rw[hu] at hok;exact absurd hok (by simp[okD])) (by simp) (by rw[hzc];exact z2z y)
    refine⟨.agg us,run_build w t _ us ?_,?_⟩
    .simp only[Program.built,hi,hu,hz,hpl];exact k1
    .simp only[CR];exact⟨us,rfl,k2⟩
   .cases e
  .cases e
 case makeFunc fn first caps=>
  cases fn with
  | func gg=>
   simp only at e;split at e
   .rename_i e1;simp only[Ac,Ak] at e;obtain⟨_,rfl⟩:=e;have hf:first= #[] :=by cases first;simp_all
    subst hf;refine⟨.func (.func gg) #[] (caps.map a.eval),by simp[execOp,ho,Instr.makeFunc],?_⟩;simp only[CR];exact⟨_,rfl,by simpa using z9l h caps.toList⟩
   .cases e
  | _=>cases e
 case call c=>
  cases hc:c.callee with
  | value f=>rw[hc] at e;simp only at e;cases e | invoke r m=>rw[hc] at e;simp only at e;cases e | builtin b=>
   rw[hc] at e;have hargs:∀l,c.args.toList=l->c.args.map a.eval=(l.map a.eval).toArray:=by
    intro l hl;rw[←hl];apply Fj;rw[Eg]
   split at e
   .rename_i x hb ha;cases hb;split at e
    .rename_i t ts ht;split at e
     .rename_i n hn;simp only[Ac,Ak] at e;obtain⟨_,rfl⟩:=e;have ht0:c.argTypes[0]? =some t:=by
       have:c.argTypes.toList[0]? =some t:=by rw[ht];rfl
       simpa using this
      refine⟨.int .i64 n,?_,by simp[CR]⟩;simp only[execOp,ho,resolve,hc,hargs _ ha,invoke,Go.builtin,Sem.run_bind,Sem.run_pure,Result.andThen_ok];rw[show([x].map a.eval).toArray= #[a.eval x] from rfl,y6d ok h.toHS ht0 (cr x) hn];simp
     .cases e
    .cases e
   .rename_i x hb ha;cases hb;split at e
    .rename_i t ts ht;split at e
     .rename_i ee e1 e2;simp only[Ac,Ak] at e;obtain⟨_,rfl⟩:=e;have ht0:c.argTypes[0]? =some t:=by
       have:c.argTypes.toList[0]? =some t:=by rw[ht];rfl
       simpa using this
      obtain⟨et,hu,_⟩:=ok.sl _ _ e1;have hx:=cr x;rw[e2] at hx;simp only[CR] at hx;refine⟨.int .i64 0,?_,by simp[CR]⟩;simp only[execOp,ho,resolve,hc,hargs _ ha,invoke,Go.builtin,Sem.run_bind,Sem.run_pure,Result.andThen_ok];rw[show([x].map a.eval).toArray= #[a.eval x] from rfl];simp[Builtin.cap_,ht0,run_underlying hu,hx,goInt]
     .cases e
    .cases e
   .rename_i x y hb ha;cases hb;split at e
    .rename_i k n k' m e1 e2;split at e
     .rename_i e0;subst e0;simp only[Ac,Ak] at e;obtain⟨_,rfl⟩:=e;have hx:=cr x;have hy:=cr y;rw[e1] at hx;rw[e2] at hy;simp only[CR] at hx hy;refine⟨.int k (y8x n m),?_,by simp[CR]⟩;simp only[execOp,ho,resolve,hc,hargs _ ha,invoke,Go.builtin,Sem.run_bind,Sem.run_pure,Result.andThen_ok];rw[show([x,y].map a.eval).toArray= #[a.eval x,a.eval y] from rfl,hx,hy,run_max_int2];simp[y8x]
     .cases e
    .cases e
   .rename_i x y hb ha;cases hb;split at e
    .rename_i k n k' m e1 e2;split at e
     .rename_i e0;subst e0;simp only[Ac,Ak] at e;obtain⟨_,rfl⟩:=e;have hx:=cr x;have hy:=cr y;rw[e1] at hx;rw[e2] at hy;simp only[CR] at hx hy;refine⟨.int k (y8y n m),?_,by simp[CR]⟩;simp only[execOp,ho,resolve,hc,hargs _ ha,invoke,Go.builtin,Sem.run_bind,Sem.run_pure,Result.andThen_ok];rw[show([x,y].map a.eval).toArray= #[a.eval x,a.eval y] from rfl,hx,hy,run_min_int2];simp[y8y]
     .cases e
    .cases e
   .cases e
end
end Go.Proofs.YtkphhjdbdnoekaaGreatDoor.Ab
