import Derived.Test.YtkphhjdbdnoekaaGreatDoorAbE7
namespace Go.Proofs.YtkphhjdbdnoekaaGreatDoor.Ab
open Go
set_option linter.unusedVariables false
set_option linter.unusedSimpArgs false
set_option linter.unnecessarySimpa false
section
variable {P:Program} {A:Ann} {V:Lvl A} {ops:Array Oper} {C:Cx} {env env' E:List D} {H H0 H1 H' :z0a} {B:List (Option Nat)} {a:Act} {w w' :World} {e:Nat}
theorem St.sub (h:St C env H B a w) (h1:∀t,get env' t= .undef\/get env' t=get env t) (h2:env'.length=env.length):St C env' H B a w where
 toHS:=h.toHS
 envs:=fun t=>by
  rcases h1 t with q | q
  .rw[q];exact z5j
  .rw[q];exact h.envs t
 envlen:=h2.trans h.envlen
 defers:=h.defers
 siz:=h.siz
 fix:=h.fix
theorem z2j {env:List D} {t:Nat} (h:env.length<=t):get env t= .undef:=by
 simp[get,Be h]
structure Sure (ops:Array Oper):Prop where
 after:∀(i:Nat) o,ops[i]? =some o-> ∀x∈o.after,Region.binds .any x=true->x.on<i
 one:∀(i j:Nat) o q t,ops[i]? =some o->ops[j]? =some q->o.dst=some t->q.dst=some t->i=j
 reads:∀(i j:Nat) o q t,ops[i]? =some o->ops[j]? =some q->q.dst=some t->(t∈z5d o\/ ∃g want,o.guard=some (g,want)/\(ops[g]?).bind (·.dst)=some t)->(j<i/\z0p o j=true)\/(i<j/\z0p q i=true)
theorem y0s (h:y1m ops.toList=true):Sure ops:=by
 unfold y1m at h;rw[Bg] at h
 have key:∀(i:Nat) o,ops[i]? =some o->(∀x∈o.after,Region.binds .any x=true->x.on<i)/\ ∀(j:Nat) q t,ops[j]? =some q->q.dst=some t->(i=j\/o.dst≠some t)/\
  ((t∈z5d o\/ ∃g want,o.guard=some (g,want)/\(ops[g]?).bind (·.dst)=some t)->(j<i/\z0p o j=true)\/(i<j/\z0p q i=true)):=by
  intro i o hi;have hlt:i<ops.toList.length:=by simpa using(Cj.1 hi).1
  have h1:=h i (Bq.mpr hlt);have hi' :ops.toList[i]? =some o:=by simpa using hi
  rw[hi'] at h1;simp only[Ai] at h1;refine⟨fun x hx hbx=> ?_,fun j q t hj hq=> ?_⟩
  .have:=Array.all_eq_true_iff_forall_mem.mp h1.1 x hx;rw[hbx] at this;exact Hi.mp (by simpa using this)
  .have hlj:j<ops.toList.length:=by simpa using(Cj.1 hj).1
   have h2:=Bg.mp h1.2 j (Bq.mpr hlj);have hj' :ops.toList[j]? =some q:=by simpa using hj
   rw[hj'] at h2;simp only at h2;rw[hq] at h2;simp only[Ai,Cr,Bj] at h2;obtain⟨h3,h4⟩:=h2;refine⟨?_,fun hr=> ?_⟩
   .rcases h3 with h3 | h3
    .exact .inl (Av h3)
    .exact .inr (by simpa using h3)
   .rcases h4 with (h4 | h4) | h4
    .exfalso;rcases hr with hr | ⟨g,want,hg,hgt⟩
     .have:(z5d o).contains t=true:=by simpa using hr
      rw[this] at h4;simp at h4
     .have hgt' :(ops.toList[g]?).bind (·.dst)=some t:=by simpa using hgt
      rw[hg] at h4;simp only[hgt'] at h4;simp at h4
    .exact .inl ⟨Hi.mp h4.1,h4.2⟩
    .exact .inr ⟨Hi.mp h4.1,h4.2⟩
 refine⟨fun i o hi=>(key i o hi).1,fun i j o q t hi hj h1 h2=> ?_,fun i j o q t hi hj h1 h2=> ?_⟩
 .exact((key i o hi).2 j q t hj h2).1.resolve_right (fun z=>z h1)
 .exact((key i o hi).2 j q t hj h1).2 h2
theorem y3j (h:z6g ops.toList=true):y1m ops.toList=true:=by
 unfold z6g at h;unfold y1m;rw[Bg] at h ⊢;intro i hi;have h1:=h i hi;cases ho:ops.toList[i]? with
 | none=>rw[ho] at h1;cases h1 | some o=>
  rw[ho] at h1;simp only[Ai] at h1 ⊢;refine⟨h1.1,?_⟩;rw[Bg];intro j hj;have h2:=Bg.mp h1.2 j hj;cases hq:ops.toList[j]? with
  | none=>rw[hq] at h2;cases h2 | some q=>
   rw[hq] at h2;simp only at h2 ⊢;cases hd:q.dst with
   | none=>rfl | some t=>rw[hd] at h2;exact h2
theorem y1n (h:z6g ops.toList=true):Sure ops:=y0s (y3j h)
def wr (ops:Array Oper) (t:Nat) (p:Nat->Bool):Bool:=(List.range ops.size).any fun j=>p j&&((ops[j]?).bind (·.dst)==some t)
theorem z8x {t:Nat} {p:Nat->Bool} :wr ops t p=true↔ ∃(j:Nat) (o:Oper),ops[j]? =some o/\o.dst=some t/\p j=true:=by
 unfold wr;rw[Cm];constructor
 .rintro⟨j,hj,h⟩
  rw[Bq] at hj;simp only[Ai,Hq] at h;have:ops[j]? =some ops[j] :=Do hj;rw[this] at h;exact⟨j,_,this,h.2,h.1⟩
 .rintro⟨j,o,h1,h2,h3⟩
  refine⟨j,Bq.mpr (Cj.1 h1).1,?_⟩;simp[h1,h2,h3]
def mix (ops:Array Oper) (env E:List D) (p:Nat->Bool):List D:=
 (List.range env.length).map fun t=>if wr ops t p then get E t else get env t
theorem z1x (hl:E.length=env.length) (p:Nat->Bool) (t:Nat):
 get (mix ops env E p) t=if wr ops t p then get E t else get env t:=by
 by_cases ht:t<env.length
 .simp[mix,get,ht]
 .rw[z2j (by simp[mix];omega)];split
  .rw[z2j (by omega)]
  .rw[z2j (by omega)]
theorem z0q (p:Nat->Bool):(mix ops env E p).length=env.length:=by simp[mix]
def cnt (p:Nat->Bool):Nat->Nat
 | 0=>0 | n+1=>cnt p n+(match p n with | true=>0 | false=>1)
theorem y4s {p q:Nat->Bool} (h:∀j,p j=true->q j=true):∀n,cnt q n<=cnt p n
 | 0=>Au _ | n+1=>by
  have:=y4s h n;simp only[cnt];cases hp:p n
  .cases q n<;>simp only[] <;>omega
  .rw[h n hp];simp only[];omega
theorem y4t {p q:Nat->Bool} (h:∀j,p j=true->q j=true) {i:Nat} (h1:p i=false) (h2:q i=true):∀n,i<n->cnt q n<cnt p n
 | 0,hi=>absurd hi (by omega) | n+1,hi=>by
  simp only[cnt];by_cases e:i=n
  .subst e;have:=y4s h i;rw[h1,h2];simp only[];omega
  .have:=y4t h h1 h2 n (by omega);cases hp:p n
   .cases q n<;>simp only[] <;>omega
   .rw[h n hp];simp only[];omega
theorem y0b {p:Nat->Bool} :∀n,cnt p n=0-> ∀j,j<n->p j=true
 | 0,_,j,hj=>absurd hj (by omega) | n+1,h,j,hj=>by
  simp only[cnt] at h;by_cases e:j=n
  .subst e;cases hp:p j
   .rw[hp] at h;simp at h
   .rfl
  .exact y0b n (by omega) j (by omega)
theorem z8g {op:Op} (h:Same op env env'):eff A env H op=eff A env' H op:=by
 cases op<;>simp only[Same,Op.operands] at h<;>simp only[eff] <;>try rfl
 case buildSlice t n ps=>
  rw[z3o (fun x hx=>h x (by simpa using hx))]
 case call c=>
  have hc:∀x∈c.args,opd env x=opd env' x:=fun x hx=>h x (by simp[Call.operands,hx])
  split
  .rename_i s x t t2 h1 h2 h3;have e1:opd env s=opd env' s:=hc s (by rw[←Db,h2];simp);have e2:opd env x=opd env' x:=hc x (by rw[←Db,h2];simp);rw[e1,e2]
  .rename_i x t h1 h2 h3;have e1:opd env x=opd env' x:=hc x (by rw[←Db,h2];simp);rw[e1]
  .rfl
 all_goals (simp_all)
def Keeps (R:Ids) (H H' :z0a):Prop:= ∀(id:Nat) (b:Blk),(match R with
 | none=>True | some l=>id∈l)->H[id]? =some b->H'[id]? =some b
theorem Keeps.refl (R:Ids) (H:z0a):Keeps R H H:=fun _ _ _ h=>h
theorem Keeps.trans {R:Ids} (h1:Keeps R H H0) (h2:Keeps R H0 H1):Keeps R H H1:=fun id b h k=>h2 id b h (h1 id b h k)
theorem Keeps.all {R:Ids} (h:Keeps none H H'):Keeps R H H' :=fun id b _ k=>h id b trivial k
theorem Keeps.id {x:D} {id:Nat} {b:Blk} (h:Keeps (y3z x) H H') (hx:y3z x=some [id] \/y3z x=none) (k:H[id]? =some b):H'[id]? =some b:=by
 refine h id b ?_ k;rcases hx with hx | hx<;>rw[hx] <;>simp
theorem z9k {n:Nat} {ag:Bool} {x d:D} (k:Keeps (y3z x) H H') (h:z9j H n ag x=some d):z9j H' n ag x=some d:=by
 unfold z9j at h ⊢;cases x<;>simp only at h ⊢ <;>try (cases h;done)
 case ptr id off=>
  cases e:H[id]? with
  | none=>rw[e] at h;cases h | some b=>rw[e] at h;rw[k.id (.inl rfl) e];exact h
 case eptr id st i c=>
  cases e:H[id]? with
  | none=>rw[e] at h;cases h | some b=>rw[e] at h;rw[k.id (.inl rfl) e];exact h
 case rptr=>exact h
theorem z5f {e0:Ty} {x:D} {i:Int} {r:Bool×D} (k:Keeps (y3z x) H H') (h:z1j H e0 x i=some r):z1j H' e0 x i=some r:=by
 unfold z1j at h ⊢;cases x<;>simp only at h ⊢ <;>try (cases h;done)
 case nilsl=>exact h
 case sl=>exact h
 case hd id st=>
  cases e:H[id]? with
  | none=>rw[e] at h;cases h | some b=>rw[e] at h;rw[k.id (.inl rfl) e];exact h
 case hds id st off len=>
  cases e:H[id]? with
  | none=>rw[e] at h;cases h | some b=>rw[e] at h;rw[k.id (.inl rfl) e];exact h
theorem z9t {e0:Ty} {x:D} {r:Bool×List e0.den} (k:Keeps none H H') (h:z6e H e0 x=some r):z6e H' e0 x=some r:=by
 unfold z6e at h ⊢;cases x<;>simp only at h ⊢ <;>try (cases h;done)
 case nilsl=>exact h
 case sl=>exact h
 case str=>exact h
 case hd id st=>
  cases e:H[id]? with
  | none=>rw[e] at h;cases h | some b=>rw[e] at h;rw[k id b trivial e];exact h
 case hds id st off len=>
  cases e:H[id]? with
  | none=>rw[e] at h;cases h | some b=>rw[e] at h;rw[k id b trivial e];exact h
theorem y0y {t:Option Ty} {x:D} {n:Int} (k:Keeps (y3z x) H H') (h:y6t H t x=some n):y6t H' t x=some n:=by
 unfold y6t at h ⊢;split at h
 .exact h
 .exact h
 .exact h
 .rename_i id st;cases e:H[id]? with
  | none=>rw[e] at h;cases h | some b=>rw[e] at h;simp only[k.id (.inl rfl) e];exact h
 .rename_i id st _ len;cases e:H[id]? with
  | none=>rw[e] at h;cases h | some b=>rw[e] at h;simp only[k.id (.inl rfl) e];exact h
 .cases h
end
section
variable {P:Program} {A:Ann} {V:Lvl A} {ops:Array Oper} {C:Cx} {env env' E:List D} {H H0 H1 H' :z0a} {B:List (Option Nat)} {a:Act} {w w' :World} {e:Nat}
theorem y1p (k:Keeps none H H'):∀ {t:Ty} {ds:List D} {r:t.den×List D×Bool×List Nat},z1m H t ds=some r->z1m H' t ds=some r:=by
 intro t
 induction t with
 | int kk=>intro ds r h;cases ds with
  | nil=>simp[z1m] at h | cons d ds=>cases d<;>simp only[z1m] at h ⊢ <;>first | exact h | (cases h;done)
 | bool=>intro ds r h;cases ds with
  | nil=>simp[z1m] at h | cons d ds=>cases d<;>simp only[z1m] at h ⊢ <;>first | exact h | (cases h;done)
 | str=>intro ds r h;cases ds with
  | nil=>simp[z1m] at h | cons d ds=>cases d<;>simp only[z1m] at h ⊢ <;>first | exact h | (cases h;done)
 | sl t ih=>intro ds r h;cases ds with
  | nil=>simp[z1m] at h | cons d ds=>
   cases d<;>simp only[z1m] at h ⊢ <;>first | exact h | (cases h;done) | skip
   case hd id st=>
    cases e:H[id]? with
    | none=>rw[e] at h;cases h | some b=>rw[e] at h;rw[k id b trivial e];exact h
 | pair a b iha ihb=>
  intro ds r h;simp only[z1m] at h ⊢;cases e1:z1m H a ds with
  | none=>rw[e1] at h;cases h | some x=>
   obtain⟨x,ds1,q1,f1⟩:=x;rw[e1] at h;rw[iha e1];simp only at h ⊢;cases e2:z1m H b ds1 with
   | none=>rw[e2] at h;cases h | some y=>
    rw[e2] at h;rw[ihb e2];exact h
theorem z5q (k:Keeps none H H') {t:Ty} :∀ {ps:List (Nat×D)} {p:Bool} {l:List t.den} {f:List Nat} {r:Bool×List t.den×List Nat},z3h H t ps p l f=some r->z3h H' t ps p l f=some r
 | [],p,l,f,r,h=>h | (i,x)::ps,p,l,f,r,h=>by
  simp only[z3h] at h ⊢;cases e1:z1m H t (cellsOf x) with
  | none=>rw[e1] at h;cases h | some y=>
   rw[e1] at h;rw[y1p k e1];obtain⟨y,ds,q,g⟩:=y;cases ds with
   | cons _ _=>cases h | nil=>
    simp only at h ⊢;split at h
    .rename_i hi;rw[Al hi];exact z5q k h
    .cases h
theorem y1a (k:Keeps none H H') {op:Op} {d:D} (h:z8l A env H op=some d):z8l A env H' op=some d:=by
 unfold z8l at h ⊢;split at h
 .rename_i t len parts;split at h
  .rename_i e0 ht;split at h
   .rename_i hl;rw[Al hl];split at h
    .rename_i p l hf;rw[z5q k hf];exact h
    .cases h
   .cases h
  .cases h
 .cases h
theorem z8o {op:Op} {r:Bool×D} (k:Keeps (z3p env op) H H') (h:nev A env H op=some r):nev A env H' op=some r:=by
 cases op<;>simp only[z3p] at k<;>simp only[nev] at h ⊢ <;>try (exact h)
 case makeFunc f fs cs=>cases f<;>exact h
 case load t x=>
  split at h
  .rename_i n ag ht;split at h
   .rename_i d hd;rw[z9k k hd];exact h
   .cases h
  .cases h
 case fieldAddr s x f=>
  split at h
  .rename_i o _ _ hf;cases hx:opd env x<;>rw[hx] at h k<;>simp only at h ⊢ <;>try (cases h;done)
   case ptr id off=>
    cases e:H[id]? with
    | none=>rw[e] at h;cases h | some b=>rw[e] at h;rw[k.id (.inl rfl) e];exact h
   case eptr id st i c=>
    cases e:H[id]? with
    | none=>rw[e] at h;cases h | some b=>rw[e] at h;rw[k.id (.inl rfl) e];exact h
   case rptr=>exact h
  .cases h
 case indexAddr t x i=>
  split at h
  .rename_i e0 kk n h1 h2;exact z5f k h
  .cases h
 case nilCheck x=>
  cases hx:opd env x<;>rw[hx] at h k<;>simp only at h ⊢ <;>try (cases h;done)
  case ptr id off=>
   cases e:H[id]? with
   | none=>rw[e] at h;cases h | some b=>rw[e] at h;rw[k.id (.inl rfl) e];exact h
  case rptr=>exact h
 case convert src dst x=>
  split at h
  .exact h
  .exact h
  .rename_i h1 h2;simp only[h1,h2];cases hx:opd env x<;>rw[hx] at h<;>simp only at h ⊢ <;>try (cases h;done)
   all_goals
    split at h
    .rename_i q l hs;rw[z9t k hs];exact h
    .cases h
  .cases h
 case slice t x lo hi mx=>
  cases mx with
  | some m=>cases h | none=>
   simp only at h ⊢;split at h
   .rename_i lo' hi' h1 h2;split at h
    .exact h
    .exact h
    .rename_i e0 id st h3 h4;cases e:H[id]? with
     | none=>rw[e] at h;cases h | some b=>rw[e] at h;rw[h4] at k;rw[k.id (.inl rfl) e];exact h
    .exact h
    .cases h
   .cases h
 case call c=>
  split at h
  .rename_i x h1 h2;simp only[h1,h2] at k;split at h
   .split at h
    .rename_i n hn;rw[y0y k hn];exact h
    .cases h
   .cases h
  .exact h
  .exact h
  .exact h
  .cases h
def Used.inH (H:z0a) (u:Used):Prop:= ∀id,(id,true)∈u->id<H.length
theorem Used.inH_lent {u:Used} {id:Nat} (h:u.inH H):Used.inH H ((id,false)::u):=fun i hi=>by
 simp only[A8,Ak] at hi;rcases hi with ⟨_,q⟩ | q
 .cases q
 .exact h i q
theorem Used.inH_took {u:Used} {id:Nat} {b:Blk} (hb:H[id]? =some b) (h:u.inH H):Used.inH H ((id,true)::u):=fun i hi=>by
 simp only[A8,Ak] at hi;rcases hi with ⟨rfl,_⟩ | q
 .exact z1k hb
 .exact h i q
theorem y5w {lend:Bool} :∀ {s:Sh} {ds:List D} {u u' :Used} {x:s.den} {r:List D},ext lend H s ds u=some (x,r,u')->u.inH H->u'.inH H:=by
 intro s
 induction s with
 | int k=>
  intro ds u u' x r h hu;cases ds with
  | nil=>simp[ext] at h | cons d ds=>
   cases d<;>simp only[ext] at h<;>try (cases h;done)
   split at h
   .simp only[Ac,Ak] at h;obtain⟨_,_,rfl⟩:=h;exact hu
   .cases h
 | bool=>
  intro ds u u' x r h hu;cases ds with
  | nil=>simp[ext] at h | cons d ds=>
   cases d<;>simp only[ext] at h<;>try (cases h;done)
   simp only[Ac,Ak] at h;obtain⟨_,_,rfl⟩:=h;exact hu
 | str=>
  intro ds u u' x r h hu;cases ds with
  | nil=>simp[ext] at h | cons d ds=>
   cases d<;>simp only[ext] at h<;>try (cases h;done)
   simp only[Ac,Ak] at h;obtain⟨_,_,rfl⟩:=h;exact hu
 | tr p t=>
  intro ds u u' x r h hu;cases ds with
  | nil=>simp[ext] at h | cons d ds=>
   cases d<;>simp only[ext] at h<;>try (cases h;done)
   .split at h
    .split at h
     .simp only[Ac,Ak] at h;obtain⟨_,_,rfl⟩:=h;exact hu
     .cases h
    .cases h
   .simp only[Ac,Ak] at h;obtain⟨_,_,rfl⟩:=h;exact hu
   .split at h
    .split at h
     .split at h
      .simp only[Ac,Ak] at h;obtain⟨_,_,rfl⟩:=h;exact Used.inH_lent hu
      .cases h
     .cases h
    .cases h
   .split at h
    .split at h
     .split at h
      .simp only[Ac,Ak] at h;obtain⟨_,_,rfl⟩:=h;exact Used.inH_lent hu
      .cases h
     .cases h
    .cases h
 | own p t=>
  intro ds u u' x r h hu;cases ds with
  | nil=>simp[ext] at h | cons d ds=>
   cases d<;>simp only[ext] at h<;>try (cases h;done)
   .simp only[Ac,Ak] at h;obtain⟨_,_,rfl⟩:=h;exact hu
   .split at h
    .rename_i hH;split at h
     .split at h
      .simp only[Ac,Ak] at h;obtain⟨_,_,rfl⟩:=h;exact Used.inH_took hH hu
      .cases h
     .cases h
    .cases h
   .split at h
    .rename_i hH;split at h
     .split at h
      .simp only[Ac,Ak] at h;obtain⟨_,_,rfl⟩:=h;exact Used.inH_took hH hu
      .cases h
     .cases h
    .cases h
 | box s ih=>
  intro ds u u' x r h hu;cases ds with
  | nil=>simp[ext] at h | cons d ds=>
   cases d<;>simp only[ext] at h<;>try (cases h;done)
   split at h
   .rename_i hH;split at h
    .split at h
     .rename_i e2;split at h
      .cases h
      simp only[Ac,Ak] at h;obtain⟨_,_,rfl⟩:=h;exact Used.inH_took hH (ih e2 hu)
     .cases h
    .cases h
   .cases h
 | rbox s ih=>
  intro ds u u' x r h hu;cases ds with
  | nil=>simp[ext] at h | cons d ds=>
   cases d<;>simp only[ext] at h<;>try (cases h;done)
   .split at h
    .split at h
     .split at h
      .rename_i e2;simp only[Ac,Ak] at h;obtain⟨_,_,rfl⟩:=h;exact ih e2 (Used.inH_lent hu)
      .cases h
     .cases h
    .cases h
   .split at h
    .split at h
     .rename_i e2;simp only[Ac,Ak] at h;obtain⟨_,_,rfl⟩:=h;exact ih e2 hu
     .cases h
    .cases h
 | clo g s ih=>
  intro ds u u' x r h hu;cases ds with
  | nil=>simp[ext] at h | cons d ds=>
   cases d<;>simp only[ext] at h<;>try (cases h;done)
   split at h
   .split at h
    .rename_i e2;simp only[Ac,Ak] at h;obtain⟨_,_,rfl⟩:=h;exact ih e2 hu
    .cases h
   .cases h
 | agg s ih=>
  intro ds u u' x r h hu;cases ds with
  | nil=>simp[ext] at h | cons d ds=>
   cases d<;>simp only[ext] at h<;>try (cases h;done)
   split at h
   .rename_i e2;simp only[Ac,Ak] at h;obtain⟨_,_,rfl⟩:=h;exact ih e2 hu
   .cases h
 | pair a b iha ihb=>
  intro ds u u' x r h hu;simp only[ext] at h;split at h
  .rename_i e1;split at h
   .rename_i e2;simp only[Ac,Ak] at h;obtain⟨_,_,rfl⟩:=h;exact ihb e2 (iha e1 hu)
   .cases h
  .cases h
 | unit=>
  intro ds u u' x r h hu;simp only[ext,Ac,Ak] at h;obtain⟨_,_,rfl⟩:=h;exact hu
 | ref k=>
  intro ds u u' x r h hu;cases ds with
  | nil=>simp[ext] at h | cons d ds=>
   cases d<;>simp only[ext] at h<;>try (cases h;done)
   split at h
   .split at h
    .simp only[Ac,Ak] at h;obtain⟨_,_,rfl⟩:=h;exact hu
    .cases h
   .cases h
 | skip=>
  intro ds u u' x r h hu;cases ds with
  | nil=>simp[ext] at h | cons d ds=>
   simp only[ext,Ac,Ak] at h;obtain⟨_,_,rfl⟩:=h;exact hu
 | nil=>
  intro ds u u' x r h hu;cases ds with
  | nil=>simp[ext] at h | cons d ds=>
   cases d<;>simp only[ext] at h<;>try (cases h;done)
   simp only[Ac,Ak] at h;obtain⟨_,_,rfl⟩:=h;exact hu
theorem z3m (k:Keeps none H H'):∀ {u:Used},u.inH H->u.boxes H' =u.boxes H
 | [],_=>rfl | (id,false)::u,h=>by
  simp only[Used.boxes];exact z3m k (fun i hi=>h i (by simp[hi]))
 | (id,true)::u,h=>by
  have hl:id<H.length:=h id (by simp);have e:=A4 hl;have e' :=k id _ trivial e;have:z2t H' id=z2t H id:=by unfold z2t;rw[e',e]
  simp only[Used.boxes,this];rw[z3m k (fun i hi=>h i (by simp[hi]))]
theorem y2h (k:Keeps none H H') {lend:Bool} :∀ {s:Sh} {ds:List D} {u:Used} {r:s.den×List D×Used},u.inH H->ext lend H s ds u=some r->ext lend H' s ds u=some r:=by
 intro s
 induction s with
 | int kk=>intro ds u r hu h;cases ds with
  | nil=>simp[ext] at h | cons d ds=>cases d<;>simp only[ext] at h ⊢ <;>first | exact h | (cases h;done)
 | bool=>intro ds u r hu h;cases ds with
  | nil=>simp[ext] at h | cons d ds=>cases d<;>simp only[ext] at h ⊢ <;>first | exact h | (cases h;done)
 | str=>intro ds u r hu h;cases ds with
  | nil=>simp[ext] at h | cons d ds=>cases d<;>simp only[ext] at h ⊢ <;>first | exact h | (cases h;done)
 | unit=>intro ds u r _ h;simp only[ext] at h ⊢;exact h | tr p t=>intro ds u r hu h;cases ds with
  | nil=>simp[ext] at h | cons d ds=>
   cases d<;>simp only[ext] at h ⊢ <;>first | exact h | (cases h;done) | skip
   case hd id st=>
    cases e:H[id]? with
    | none=>rw[e] at h;cases h | some b=>rw[e] at h;rw[k id b trivial e];exact h
   case hds id st off len=>
    cases e:H[id]? with
    | none=>rw[e] at h;cases h | some b=>rw[e] at h;rw[k id b trivial e];exact h
 | own p t=>intro ds u r hu h;cases ds with
  | nil=>simp[ext] at h | cons d ds=>
   cases d<;>simp only[ext] at h ⊢ <;>first | exact h | (cases h;done) | skip
   case hd id st=>
    cases e:H[id]? with
    | none=>rw[e] at h;cases h | some b=>rw[e] at h;rw[k id b trivial e];exact h
   case hds id st off len=>
    cases e:H[id]? with
    | none=>rw[e] at h;cases h | some b=>rw[e] at h;rw[k id b trivial e];exact h
 | box s ih=>intro ds u r hu h;cases ds with
  | nil=>simp[ext] at h | cons d ds=>
   cases d<;>simp only[ext] at h ⊢ <;>try (cases h;done)
   case ptr id off=>
    cases e:H[id]? with
    | none=>rw[e] at h;cases h | some b=>
     rw[e] at h;rw[k id b trivial e];cases b with
     | dead=>cases h | arr _ _ _ _=>cases h | box cells=>
      simp only at h ⊢;split at h
      .split at h
       .rename_i he;rw[ih hu he];exact h
       .cases h
      .cases h
 | rbox s ih=>intro ds u r hu h;cases ds with
  | nil=>simp[ext] at h | cons d ds=>
   cases d<;>simp only[ext] at h ⊢ <;>try (cases h;done)
   case ptr id off=>
    cases e:H[id]? with
    | none=>rw[e] at h;cases h | some b=>
     rw[e] at h;rw[k id b trivial e];cases b with
     | dead=>cases h | arr _ _ _ _=>cases h | box cells=>
      simp only at h ⊢;split at h
      .split at h
       .rename_i he;rw[ih (Used.inH_lent hu) he];exact h
       .cases h
      .cases h
   case rptr cells off=>
    split at h
    .split at h
     .rename_i he;rw[ih hu he];exact h
     .cases h
    .cases h
 | clo g s ih=>intro ds u r hu h;cases ds with
  | nil=>simp[ext] at h | cons d ds=>
   cases d<;>simp only[ext] at h ⊢ <;>try (cases h;done)
   case clo g' caps=>
    split at h
    .split at h
     .rename_i he;rw[ih hu he];exact h
     .cases h
    .cases h
 | agg s ih=>intro ds u r hu h;cases ds with
  | nil=>simp[ext] at h | cons d ds=>
   cases d<;>simp only[ext] at h ⊢ <;>try (cases h;done)
   case agg cs=>
    split at h
    .rename_i he;rw[ih hu he];exact h
    .cases h
 | pair a b iha ihb=>
  intro ds u r hu h;simp only[ext] at h ⊢;split at h
  .rename_i x ds' u' e1;rw[iha hu e1];simp only at h ⊢;split at h
   .rename_i y ds'' u'' e2;rw[ihb (y5w e1 hu) e2];exact h
   .cases h
  .cases h
 | ref kk=>intro ds u r hu h;cases ds with
  | nil=>simp[ext] at h | cons d ds=>
   cases d<;>simp only[ext] at h ⊢ <;>try (cases h;done)
   rw[z3m k hu];exact h
 | skip=>intro ds u r hu h;cases ds with
  | nil=>simp[ext] at h | cons d ds=>simp only[ext] at h ⊢;exact h
 | nil=>intro ds u r hu h;cases ds with
  | nil=>simp[ext] at h | cons d ds=>cases d<;>simp only[ext] at h ⊢ <;>first | exact h | (cases h;done)
theorem CallNV.keeps (k:Keeps none H H') {f:Nat} {ds:List D} {d:D} (h:CallNV A V H f ds d):CallNV A V H' f ds d:=by
 obtain⟨x,u,y,h1,h2⟩:=h;exact⟨x,u,y,y2h k (fun _ q=>by cases q) h1,h2⟩
def NV.reads (A:Ann) (V:Lvl A) (H:z0a) (env:List D) (o:Oper) (d:D) (R:Ids):Prop:=
 (nev A env H o.op=some (true,d)/\R=z3p env o.op)\/(NV A V H env o d/\R=none)
theorem NV.reads_keeps {o:Oper} {d:D} {R:Ids} (h:NV.reads A V H env o d R) (k:Keeps R H H'):NV A V H' env o d:=by
 rcases h with ⟨h,rfl⟩ | ⟨h,rfl⟩
 .exact .inl (z8o k h)
 .rcases h with h | h | ⟨c,f,ds,h1,h2,h3⟩
  .exact .inl (z8o k.all h)
  .exact .inr (.inl (y1a k h))
  .exact .inr (.inr ⟨c,f,ds,h1,h2,h3.keeps k⟩)
theorem y2v {op:Op} (hp:z6q op=true):nev A env H op=nev A env H' op:=by
 cases op<;>simp only[z6q] at hp<;>first | rfl | (cases hp;done)
def z4j (t:Ids) (H H' :z0a):Prop:= ∀l,t=some l-> ∀(id:Nat) (b:Blk),¬id∈l->H[id]? =some b->H'[id]? =some b
theorem y0w {t R:Ids} (h:z4j t H H') (d:y5r t R=true):Keeps R H H' :=by
 intro id b hR k;unfold y5r at d;split at d
 .exact h [] rfl id b (by simp) k
 .simp at hR
 .rename_i l1 l2 _ _;refine h l1 rfl id b (fun hm=> ?_) k;have:=Bg.mp d id hm;simp only[Bj] at this;have:=Ct.mp this id hR;exact this (Gi _)
 .cases d
theorem z0r (blk:Blk):z4j (some []) H (H++ [blk]):=by
 intro l hl id b _ k;have hlt:id<H.length:=by
  rcases B8 id H.length with q | q
  .exact q
  .rw[Be q] at k;cases k
 rw[Aj hlt];exact k
theorem z6h (n:Nat) (blk:Blk):z4j (some [n]) H (H.set n blk):=by
 intro l hl id b hn k;cases hl;rw[Gx (fun z=>hn (by simp[z]))];exact k
theorem z2c (d:D) {r:List D} {id:Nat} (h:id∈z3y r):id∈z3y (d::r):=by
 cases d<;>simp only[z3y] <;>first | exact h | exact Bm _ h
theorem y4p:∀ {t:Ty} {ds:List D} {x:t.den} {r:List D} {p:Bool} {f:List Nat},z1m H t ds=some (x,r,p,f)->(∀id∈f,id∈z3y ds)/\ ∀id∈z3y r,id∈z3y ds:=by
 intro t
 induction t with
 | int k=>intro ds x r p f h;cases ds with
  | nil=>simp[z1m] at h | cons d ds=>
   cases d<;>simp only[z1m] at h<;>try (cases h;done)
   split at h
   .cases h;exact⟨(fun _ h=>by cases h),fun _ h=>z2c _ h⟩
   .cases h
 | bool=>intro ds x r p f h;cases ds with
  | nil=>simp[z1m] at h | cons d ds=>
   cases d<;>simp only[z1m] at h<;>try (cases h;done)
   cases h;exact⟨(fun _ h=>by cases h),fun _ h=>z2c _ h⟩
 | str=>intro ds x r p f h;cases ds with
  | nil=>simp[z1m] at h | cons d ds=>
   cases d<;>simp only[z1m] at h<;>try (cases h;done)
   cases h;exact⟨(fun _ h=>by cases h),fun _ h=>z2c _ h⟩
 | sl e ih=>intro ds x r p f h;cases ds with
  | nil=>simp[z1m] at h | cons d ds=>
   cases d<;>simp only[z1m] at h<;>try (cases h;done)
   case sl q t l=>
    split at h
    .cases h;exact⟨(fun _ h=>by cases h),fun _ h=>z2c _ h⟩
    .cases h
   case nilsl=>cases h;exact⟨(fun _ h=>by cases h),fun _ h=>z2c _ h⟩
   case hd id st=>
    split at h
    .split at h
     .split at h
      .cases h;refine⟨fun i hi=> ?_,fun _ h=>z2c _ h⟩;simp only[A8,Ep,Em] at hi;subst hi;simp[z3y]
      .cases h
     .cases h
    .cases h
 | pair a b iha ihb=>
  intro ds x r p f h;simp only[z1m] at h;cases e1:z1m H a ds with
  | none=>rw[e1] at h;cases h | some y=>
   obtain⟨y,ds1,p1,f1⟩:=y;rw[e1] at h;simp only at h;cases e2:z1m H b ds1 with
   | none=>rw[e2] at h;cases h | some z=>
    obtain⟨z,ds2,p2,f2⟩:=z;rw[e2] at h;cases h;obtain⟨a1,a2⟩:=iha e1;obtain⟨b1,b2⟩:=ihb e2;refine⟨fun id hid=> ?_,fun id hid=>a2 id (b2 id hid)⟩;rcases Ay.mp hid with q | q
    .exact a1 id q
    .exact a2 id (b1 id q)
theorem z8h {t:Ty} :∀ {ps:List (Nat×D)} {p:Bool} {l:List t.den} {f:List Nat} {p' :Bool} {l' :List t.den} {f' :List Nat},z3h H t ps p l f=some (p',l',f')-> ∀id∈f',id∈f\/id∈ps.flatMap fun q=>z3y (cellsOf q.2)
 | [],p,l,f,p',l',f',h,id,hid=>by
  simp only[z3h] at h;cases h;exact .inl hid
 | (i,x)::ps,p,l,f,p',l',f',h,id,hid=>by
  simp only[z3h] at h;cases e1:z1m H t (cellsOf x) with
  | none=>rw[e1] at h;cases h | some y=>
   obtain⟨y,ds,q,g⟩:=y;rw[e1] at h;cases ds with
   | cons _ _=>cases h | nil=>
    simp only at h;split at h
    .have:=z8h h id hid;simp only[List.flatMap_cons,Ay] at this ⊢;rcases this with (q1 | q1) | q1
     .exact .inl q1
     .exact .inr (.inl ((y4p e1).1 id q1))
     .exact .inr (.inr q1)
    .cases h
theorem z5n {op:Op} {g:Bool} {d:D} (h:eff A env H op=some (g,d,H')):z4j (z2y env op) H H' :=by
 intro l hl;cases op<;>simp only[z2y] at hl<;>try (cases hl;done)
 case alloc t=>
  simp only[eff] at h;split at h
  .cases h;cases hl;exact z0r _ _ rfl
  .split at h
   .cases h;cases hl;exact z0r _ _ rfl
   .cases h
 case box t x=>
  simp only[eff] at h;split at h
  .cases h;cases hl;exact z0r _ _ rfl
  .cases h
 case makeSlice t lo co=>
  simp only[eff] at h;split at h
  .cases h;cases hl;exact z0r _ _ rfl
  .cases h
 case buildSlice t len parts=>
  simp only[eff] at h;split at h
  .split at h
   .split at h
    .rename_i p l' f hf;cases h;cases hl;intro id b hn k;have hlt:id<H.length:=z1k k;have hnf: ¬id∈f:=fun hin=>by
      rcases z8h hf id hin with q | q
      .cases q
      .refine hn ?_;simpa[List.flatMap_map] using q
     rw[Aj (by rw[z3f];exact hlt),z0w,Ao (fun z=>hnf z.1)];exact k
    .cases h
   .cases h
  .cases h
 case store t x y=>
  simp only[eff] at h;split at h
  .split at h
   .split at hl
    .rename_i id off hx;cases hl;rw[hx] at h;simp only at h;split at h
     .split at h
      .cases h;exact z6h _ _ _ rfl
      .cases h
     .cases h
    .cases hl
   .cases h
  .cases h
 case call c=>
  simp only[eff] at h;split at hl
  .rename_i s x h1 h2;split at hl
   .rename_i hs;cases hl;split at h
    .rename_i s' x' t t2 k1 k2 k3;rw[h2] at k2;cases k2;split at h
     .split at h
      .rw[hs] at h;cases h;exact z0r _ _ rfl
      .cases h
     .split at h
      .cases h;exact z0r _ _ rfl
      .cases h
     .cases h
    .rename_i x' t k1 k2 k3;rw[h2] at k2;cases k2
    .cases h
   .rename_i id st hs;cases hl;split at h
    .rename_i s' x' t t2 k1 k2 k3;rw[h2] at k2;cases k2;split at h
     .split at h
      .rw[hs] at h;simp only at h;split at h
       .split at h
        .split at h
         .cases h;exact z6h _ _ _ rfl
         .cases h
        .cases h
       .cases h
      .cases h
     .split at h
      .rename_i q1 q2 q3;rw[hs] at q2;cases q2
      .cases h
     .cases h
    .rename_i x' t k1 k2 k3;rw[h2] at k2;cases k2
    .cases h
   .cases hl
  .cases hl
theorem z7c {R:Type} {f:Nat} {ds:List D} {K:D->z0a->Option R} {r0:R} (h:z5e A V R f ds H K=some r0):∃d H',K d H' =some r0/\z4j (z2e A f ds H) H H' /\
 ∀K2:D->z0a->Option (D×z0a),(∀d H,K2 d H=some (d,H))->z5e A V (D×z0a) f ds H K2=some (d,H'):=by
 obtain⟨x,u,y,rs,H2,r,he,hp,hy,hrs,hr,hk⟩:=z3b h;refine⟨_,_,hk,?_,fun K2 hK2=> ?_⟩
 .intro l hl id b hn hb;unfold z2e at hl;rw[he] at hl;simp only[Ac] at hl;subst hl;obtain⟨hid,hpw⟩:=z2f hr;have hlt:id<H.length:=z1k hb;have hkl:(kill H u.ids).length=H.length:=z3f _ _;obtain⟨Hn,e1⟩:=z5o (A.sig f).out y (kill H u.ids);rw[hrs] at e1;simp only at e1;unfold y1r;rw[z0w,Ao (fun z=>by
   obtain⟨e,he',hz⟩:=Bx.mp z.1;have:=(hid e he').2.2;omega),z4g r _ id (fun e he' hz=>hn (by rw[←hz];exact(hid e he').1)),e1,Aj (by rw[hkl];exact hlt),z0w,Ao (fun z=>hn z.1)]
  exact hb
 .unfold z5e;rw[he];simp only[hp,hy,zOb,hrs,hr];exact hK2 _ _
end
section
variable {P:Program} {A:Ann} {V:Lvl A} {ops:Array Oper} {C:Cx} {env env' E:List D} {H H0 H1 H' :z0a} {B:List (Option Nat)} {a:Act} {w w' :World} {e:Nat}
def z3i (acc:List Nat) (l:List Edge) (m:Nat):Nat:=l.foldl (fun m e=>match Region.binds .any e with
 | true=>(m ||| (1<<<e.on)) ||| acc.getD e.on 0
 | false=>m) m
theorem y1c:∀(os:List Oper) (acc:List Nat),(z4a os acc).length=acc.length+os.length
 | [],acc=>rfl | o::os,acc=>by rw[z4a,y1c];simp;omega
theorem z6r:∀(os:List Oper) (acc:List Nat) (i:Nat),i<acc.length->(z4a os acc).getD i 0=acc.getD i 0
 | [],acc,i,_=>rfl | o::os,acc,i,h=>by
  rw[z4a,z6r os _ i (by simp;omega)];simp[A5,Aj h]
theorem z8n {L:Nat->Prop} {acc:List Nat} (hg:∀j,j<acc.length->L j-> ∀i,Nat.testBit (acc.getD j 0) i=true->L i):
 ∀(l:List Edge) (m:Nat),(∀i,Nat.testBit m i=true->L i)->(∀e∈l,Region.binds .any e=true->L e.on)-> ∀i,Nat.testBit (z3i acc l m) i=true->L i
 | [],m,hm,_,i,h=>hm i h | e::l,m,hm,hl,i,h=>by
  unfold z3i at h;rw[Bs] at h;refine z8n hg l _ (fun i hi=> ?_) (fun e' he=>hl e' (Bm _ he)) i h;split at hi
  .rename_i hb;have hon:=hl e (C9 ..) hb;rw[Nat.testBit_or,Nat.testBit_or] at hi;simp only[Cr] at hi;rcases hi with (hi | hi) | hi
   .exact hm i hi
   .have:i=e.on:=by
     rw[Nat.one_shiftLeft,Nat.testBit_two_pow] at hi;exact(Ej hi).symm
    rw[this];exact hon
   .by_cases hlt:e.on<acc.length
    .exact hg e.on hlt hon i hi
    .rw[A5,Be (by omega)] at hi;simp at hi
  .exact hm i hi
theorem z5w {L:Nat->Prop} :∀(os:List Oper) (acc:List Nat),(∀j,j<acc.length->L j-> ∀i,Nat.testBit (acc.getD j 0) i=true->L i)->
 (∀(j:Nat) o,os[j]? =some o->L (acc.length+j)-> ∀e∈o.after.toList,Region.binds .any e=true->L e.on)->
 ∀(j:Nat) o,os[j]? =some o->(∀e∈o.after.toList,Region.binds .any e=true->L e.on)-> ∀i,Nat.testBit ((z4a os acc).getD (acc.length+j) 0) i=true->L i
 | [],acc,hg,hc,j,o,hj,_,i,_=>by simp at hj
 | o' ::os,acc,hg,hc,j,o,hj,hd,i,hi=>by
  rw[z4a] at hi;have hm:∀(hd:∀e∈o'.after.toList,Region.binds .any e=true->L e.on) i,Nat.testBit (z3i acc o'.after.toList 0) i=true->L i:=fun hd i hi=>z8n hg _ 0 (fun i hi=>by simp at hi) hd i hi
  have hlen:(acc++ [z3i acc o'.after.toList 0]).length=acc.length+1:=by simp
  have hlast:(acc++ [z3i acc o'.after.toList 0]).getD acc.length 0=z3i acc o'.after.toList 0:=by simp[A5]
  cases j with
  | zero=>
   simp only[Bt,Ac] at hj;subst hj;have h2:=z6r os (acc++ [z3i acc o'.after.toList 0]) acc.length (by omega);rw[hlast] at h2;have hi:Nat.testBit ((z4a os (acc++ [z3i acc o'.after.toList 0])).getD (acc.length+0) 0) i=true:=hi;rw[Df,h2] at hi;exact hm hd i hi
  | succ j=>
   have ih:=z5w (L:=L) os (acc++ [z3i acc o'.after.toList 0]) (fun k hk hL i hi=>by
    by_cases hlt:k<acc.length
    .have:(acc++ [z3i acc o'.after.toList 0]).getD k 0=acc.getD k 0:=by simp[A5,Aj hlt]
     rw[this] at hi;exact hg k hlt hL i hi
    .have:k=acc.length:=by omega
     subst this;rw[hlast] at hi;exact hm (hc 0 o' rfl hL) i hi) (fun k q hk hL=>hc (k+1) q (by simpa using hk) (by rw[hlen] at hL;rw[show acc.length+(k+1)=acc.length+1+k by omega];exact hL)) j o (by simpa using hj) hd i
   rw[hlen] at ih;exact ih (by rw[show acc.length+1+j=acc.length+(j+1) by omega];exact hi)
def z7t (ops:Array Oper) (L:Nat->Bool):Prop:= ∀(j:Nat) o,ops[j]? =some o->L j=true-> ∀e∈o.after,Region.binds .any e=true->L e.on=true
theorem z0k {L:Nat->Bool} (hc:z7t ops L) {j:Nat} {o:Oper} (hj:ops[j]? =some o) (hd:∀e∈o.after,Region.binds .any e=true->L e.on=true) {i:Nat} (hi:Nat.testBit ((z4p ops.toList).getD j 0) i=true):L i=true:=by
 have:=z5w (L:=fun i=>L i=true) ops.toList [] (fun j hj=>by simp at hj) (fun j o hj hL e he hb=>hc j o (by simpa using hj) (by simpa using hL) e (by simpa using he) hb) j o (by simpa using hj) (fun e he hb=>hd e (by simpa using he) hb) i;refine this ?_;simpa[z4p] using hi
inductive Kd where
 | free | pend | neu (R:Ids) | eff (t:Ids) (ad:Option (Nat×Blk))
structure Row where
 kd:Kd
 d:D
 eA:List D
 hA:z0a
def hAt (H0:z0a):List Row->z0a
 | [] =>H0 | x::_=>x.hA
def eAt (env0:List D):List Row->List D
 | [] =>env0 | x::_=>x.eA
def z4h:List Row->List (Nat×Ids×z0a)
 | [] => [] | x::r=>match x.kd with
  | .eff t _=>(r.length,t,x.hA)::z4h r | _=>z4h r
def y4h:List Row->List (Nat×Ids)
 | [] => [] | x::r=>match x.kd with
  | .neu R=>(r.length,R)::y4h r | _=>y4h r
def EV (A:Ann) (V:Lvl A) (env:List D) (H:z0a) (o:Oper) (d:D) (H' :z0a):Prop:=
 eff A env H o.op=some (true,d,H')\/ ∃c f ds,o.op= .call c/\z0s A env c=some (f,ds)/\z5e A V (D×z0a) f ds H (fun d H=>some (d,H))=some (d,H')
def y0u (A:Ann) (V:Lvl A) (ops:Array Oper) (nd:List Nat) (con:List (Option Nat)) (env0:List D) (H0:z0a) (pre:List Row) (o:Oper) (x:Row):Prop:=
 match x.kd with
 | .pend=>(∃c,con.getD pre.length none=some c)/\x.eA=eAt env0 pre/\x.hA=hAt H0 pre
 | .free=>con.getD pre.length none=none/\x.eA=z1f (eAt env0 pre) o.dst x.d/\x.hA=hAt H0 pre/\
  ((Want ops.toList (eAt env0 pre) o true/\z6q o.op=true/\nev A (eAt env0 pre) [] o.op=some (true,x.d))\/(Want ops.toList (eAt env0 pre) o false/\x.d= .tup []))
 | .neu R=>con.getD pre.length none=none/\z2h con pre.length=none/\x.eA=z1f (eAt env0 pre) o.dst x.d/\x.hA=hAt H0 pre/\Want ops.toList (eAt env0 pre) o true/\
  NV.reads A V (z3x H0 (nd.getD pre.length 0) (z4h pre)) (eAt env0 pre) o x.d R/\z7k (nd.getD pre.length 0) R (z4h pre)=true
 | .eff t ad=>con.getD pre.length none=none/\Want ops.toList (eAt env0 pre) o true/\z7n (nd.getD pre.length 0) (z4h pre)=true/\z8f (nd.getD pre.length 0) t (y4h pre)=true/\z4j t (hAt H0 pre) x.hA/\
  (match ad with
  | none=>z2h con pre.length=none/\EV A V (eAt env0 pre) (hAt H0 pre) o x.d x.hA/\x.eA=z1f (eAt env0 pre) o.dst x.d
  | some (s,blk)=>(∃a,z2h con pre.length=some a/\(ops[a]?).bind (z0i A)=some (s,blk))/\
   eff A ((eAt env0 pre).set s (z1p (hAt H0 pre).length blk)) (hAt H0 pre++ [blk]) o.op=some (true,x.d,x.hA)/\x.eA=z1f ((eAt env0 pre).set s (z1p (hAt H0 pre).length blk)) o.dst x.d)
def RowsOk (A:Ann) (V:Lvl A) (ops:Array Oper) (nd:List Nat) (con:List (Option Nat)) (env0:List D) (H0:z0a):List Row->Prop
 | [] =>True | x::pre=>RowsOk A V ops nd con env0 H0 pre/\ ∃o,ops[pre.length]? =some o/\y0u A V ops nd con env0 H0 pre o x
theorem z6p {m:Nat} :∀ {ms:List (Nat×Ids)},z8f m (some []) ms=true
 | [] =>rfl | e::ms=>by
  have:=z6p (m:=m) (ms:=ms);unfold z8f at this ⊢;simp only[Gc,this,Cz,Cr];right;rfl
theorem y2r {n:Nat} {t:Ids} (h:y0o n t=true):t=some [n] :=by
 unfold y0o at h;split at h
 .rw[Av h]
 .cases h
theorem z8r {R:Type} {K:List D->z0a->Option R} {r:R} {nd:List Nat} {con:List (Option Nat)} {env0:List D} :∀(os:List Oper) (pre:List Row),(∀i:Nat,os[i]? =ops[pre.length+i]?)->RowsOk A V ops nd con env0 H0 pre->
 z8z A V R ⟨ops.toList,nd,con,H0⟩ K os pre.length (z4h pre) (y4h pre) (eAt env0 pre) (hAt H0 pre)=some r->
 ∃rows,RowsOk A V ops nd con env0 H0 rows/\rows.length=pre.length+os.length/\K (eAt env0 rows) (hAt H0 rows)=some r
 | [],pre,_,hp,h=>⟨pre,hp,rfl,h⟩ | o::os,pre,hos,hp,h=>by
  have ho:ops[pre.length]? =some o:=by have:=hos 0;simpa using this.symm
  have next:∀x:Row,y0u A V ops nd con env0 H0 pre o x->z8z A V R ⟨ops.toList,nd,con,H0⟩ K os (x::pre).length (z4h (x::pre)) (y4h (x::pre)) (eAt env0 (x::pre)) (hAt H0 (x::pre))=some r->
   ∃rows,RowsOk A V ops nd con env0 H0 rows/\rows.length=pre.length+(o::os).length/\K (eAt env0 rows) (hAt H0 rows)=some r:=fun x hx hr=>by
   obtain⟨rows,k1,k2,k3⟩:=z8r os (x::pre) (fun i=>by
    have:=hos (i+1);rw[Gh] at this;rw[this,Bc,show pre.length+(i+1)=pre.length+1+i by omega]) ⟨hp,o,ho,hx⟩ hr
   exact⟨rows,k1,by rw[k2];simp;omega,k3⟩
  simp only[z8z] at h;split at h
  .rename_i c hc;exact next ⟨.pend, .undef,eAt env0 pre,hAt H0 pre⟩ ⟨⟨c,hc⟩,rfl,rfl⟩ h
  .rename_i hc;rcases z3n h with ⟨hw,h⟩ | ⟨hw,h⟩
   .split at h
    .rename_i hpu;split at h
     .rename_i g d he;cases g with
      | false=>cases h | true=>exact next ⟨.free,d,z1f (eAt env0 pre) o.dst d,hAt H0 pre⟩ ⟨hc,rfl,rfl, .inl ⟨hw,hpu,he⟩⟩ h
     .cases h
    .split at h
     .rename_i a0 ha;split at h
      .rename_i s blk hb hord;split at h
       .rename_i g d H' hid he;cases g with
        | false=>cases h | true=>
         refine next ⟨.eff (some []) (some (s,blk)),d,z1f ((eAt env0 pre).set s (z1p (hAt H0 pre).length blk)) o.dst d,H'⟩ ⟨hc,hw,hord,z6p,?_,⟨a0,ha,by simpa using hb⟩,he,rfl⟩ h
         have ht:=z5n he;intro l hl id b _ hb;have hlt:id<(hAt H0 pre).length:=z1k hb;refine ht [(hAt H0 pre).length] (y2r hid) id b (fun hm=>by
          simp only[A8,Ep,Em] at hm;omega) ?_
         rw[Aj hlt];exact hb
       .cases h
      .cases h
     .rename_i ha;split at h
      .rename_i g d he;split at h
       .rename_i hn;cases g with
        | false=>cases h | true=>exact next ⟨.neu (z3p (eAt env0 pre) o.op),d,z1f (eAt env0 pre) o.dst d,hAt H0 pre⟩ ⟨hc,ha,rfl,rfl,hw, .inl ⟨he,rfl⟩,hn⟩ h
       .cases h
      .split at h
       .rename_i d he;split at h
        .rename_i hn;exact next ⟨.neu none,d,z1f (eAt env0 pre) o.dst d,hAt H0 pre⟩ ⟨hc,ha,rfl,rfl,hw, .inr ⟨.inr (.inl he),rfl⟩,hn⟩ h
        .cases h
       .split at h
        .rename_i g d H' he;split at h
         .rename_i hoe;simp only[Ai] at hoe;cases g with
          | false=>cases h | true=>exact next ⟨.eff (z2y (eAt env0 pre) o.op) none,d,z1f (eAt env0 pre) o.dst d,H'⟩ ⟨hc,hw,hoe.1,hoe.2,z5n he,ha, .inl he,rfl⟩ h
         .cases h
        .split at h
         .rename_i c hop;split at h
          .rename_i f ds hcal;split at h
           .split at h
            .rename_i hn;obtain⟨d,hd,h⟩:=z6o h;exact next ⟨.neu none,d,z1f (eAt env0 pre) o.dst d,hAt H0 pre⟩ ⟨hc,ha,rfl,rfl,hw, .inr ⟨.inr (.inr ⟨c,f,ds,hop,hcal,hd⟩),rfl⟩,hn⟩ h
            .cases h
           .split at h
            .rename_i hoe;simp only[Ai] at hoe;obtain⟨d,H',h,ht,hk⟩:=z7c h;exact next ⟨.eff (z2e A f ds (hAt H0 pre)) none,d,z1f (eAt env0 pre) o.dst d,H'⟩ ⟨hc,hw,hoe.1,hoe.2,ht,ha, .inr ⟨c,f,ds,hop,hcal,hk _ (fun _ _=>rfl)⟩,rfl⟩ h
            .cases h
          .cases h
         .cases h
   .exact next ⟨.free, .tup [],z1f (eAt env0 pre) o.dst (.tup []),hAt H0 pre⟩ ⟨hc,rfl,rfl, .inr ⟨hw,rfl⟩⟩ h
end
section
variable {P:Program} {A:Ann} {V:Lvl A} {ops:Array Oper} {C C1:Cx} {env env' E:List D} {H H0 H1 H' :z0a} {B:List (Option Nat)} {a:Act} {w w' :World} {e:Nat}
def z5g (rb:Nat):Blk->Value
 | .box _=> .pointer (some ⟨rb,0,none⟩) | _=> .slice (some ⟨rb,0,none⟩) 0 0
def y7y (blk:Blk) (cs:Array Value):Prop:=(∃y,blk= .box (z2g y)/\cs.toList=z2n y)\/ ∃t,blk= .arr true 0 t []
theorem y4j (ok:TyOk P A) {o:Oper} {s:Nat} {blk:Blk} (hp:z0i A o=some (s,blk)):
 o.guard=none/\o.dst=some s/\ ∃cs el,(execOp a.eval o).run P w= .ok (.value (z5g w.heap.size blk)) (w.alloc (.cells cs el))/\y7y blk cs:=by
 unfold z0i at hp;split at hp
 .rename_i s' t hg hd ho;split at hp
  .rename_i y hy;cases hp;obtain⟨i,z,hi,hs,hz,hzc⟩:=ok.tzi _ _ hy;refine⟨hg,hd,z.cells,t,?_, .inl ⟨y,rfl,hzc⟩⟩;simp[execOp,ho,Instr.alloc,zeroValue,typeInfo,hi,hz,newVar,newRow,z5g]
  .cases hp
 .rename_i s' t parts hg hd ho;split at hp
  .rename_i e0 ht hpa;cases hp;obtain⟨et,hu,hty⟩:=ok.sl _ _ ht;obtain⟨ie,z,hie,hs,hz,hzc,hb⟩:=ok.tyi _ _ hty;have hpe:parts= #[] :=by
    apply Fj;simpa using hpa
   subst hpe;refine⟨hg,hd,#[],et,?_, .inr ⟨e0,rfl⟩⟩;have hr0:Array.range 0= #[] :=rfl;have hrun:(Instr.buildSlice t 0 ((#[] :Array (Nat×Operand)).map fun(i,x)=>(i,a.eval x))).run P w= .ok (.slice (some ⟨w.heap.size,0,none⟩) 0 0) (w.alloc (.cells #[] et)):=by
    simp[Instr.buildSlice,Instr.fill,run_underlying hu,z0b hie,hs,newRow,hr0]
   simp only[execOp,ho];exact y3b hrun
  .cases hp
 .cases hp
def Cx.park (C:Cx) (B:List (Option Nat)) (w:World) (rb s:Nat) (v:Value):Cx where
 w0:=w
 W0:=Has B
 Lb b:=C.Lb b\/b=rb
 Lp b:=C.Lp b\/b=rb
 nt:=C.nt
 fx:=(List.range (max C.fx.length (s+1))).map fun t=>Nat.beq t s || C.fx.getD t false
 fv t:=if t=s then v else C.fv t
 gd:=C.gd
theorem z5x {rb s:Nat} {v:Value} (t:Nat):(C.park B w rb s v).fx.getD t false=(Nat.beq t s || C.fx.getD t false):=by
 simp only[Cx.park];by_cases h:t<max C.fx.length (s+1)
 .simp[A5,h]
 .have h1:C.fx.length<=t:=by omega
  have h2:Nat.beq t s=false:=by
   cases q:Nat.beq t s with
   | false=>rfl | true=>have:=Av q;omega
  rw[h2,Ci];simp only[A5];rw[Be (by simp;omega),Be h1]
theorem St.park (h:St C env H B a w) {cs:Array Value} {el:TypeId} {s:Nat} {v:Value} (hs:a.tmps[s]? =some v):
 St (C.park B (w.alloc (.cells cs el)) w.heap.size s v) env H B a (w.alloc (.cells cs el)):=by
 have hheap:∀b,b<w.heap.size->(w.alloc (.cells cs el)).heap[b]? =w.heap[b]? :=fun b hb=>Go.RowKit.Below.heap_alloc w _ b hb
 have hsz:w.heap.size+1=(w.alloc (.cells cs el)).heap.size:=by show _=(w.heap.push _).size;simp
 have hcells:∀rb cs0,Cells w rb cs0-> ∃cs',Cells (w.alloc (.cells cs el)) rb cs' /\cs'.size=cs0.size:=by
  intro rb cs0 k;have:=k.lt;obtain⟨e,k⟩:=k;exact⟨cs0,⟨e,by rw[hheap rb this];exact k⟩,rfl⟩
 let C' :=C.park B (w.alloc (.cells cs el)) w.heap.size s v
 have s1:Step (C.N B) (C.Np B) (C'.N B) (C'.Np B) H B w H B (w.alloc (.cells cs el)):=by
  refine⟨⟨by omega,fun b hb _=>hheap b hb,fun b hb hn k=> ?_⟩,⟨by omega,fun b hb _=>hheap b hb,fun b hb hn k=> ?_⟩,Au _,fun id _ cells e=>⟨⟨_,e⟩,rfl⟩,
   fun id _ p st t l e=>⟨_,_,_,_,e,Au _,fun _=>⟨rfl,rfl,rfl⟩⟩,hcells⟩
  .rcases k with k | k | k
   .exact hn (.inl k)
   .exact hn (.inr k)
   .omega
  .rcases k with k | k | k
   .exact hn (.inl k)
   .exact hn (.inr k)
   .omega
 exact {
  lenB:=h.lenB
  nodup:=h.nodup
  alloc:=fun i rb q=>by
   have:=h.alloc i rb q;refine⟨by omega,fun k=> ?_, .inl ⟨i,q⟩⟩;rcases k with k | k
   .exact this.2.1 k
   .omega
  blk:=fun i b ob q1 q2=>(h.blk i b ob q1 q2).step s1 (fun rb e=>by subst e;exact hheap rb (h.alloc i rb q2).1)
  lb:=fun b k=>k.imp (h.lb b) id
  lp:=fun b k=>by
   show b<(w.alloc (.cells cs el)).heap.size;rcases k with k | k
   .have:=h.lp b k;have:=h.fr.size;omega
   .omega
  fr:=Fr.refl _ _
  gl:=fun b q=>by
   have hb:b<w.heap.size:=Bp (h.gl b q).1 h.fr.size;refine⟨by show b<(w.alloc (.cells cs el)).heap.size;omega,h.glob q,fun k=> ?_⟩;rcases k with k | k
   .exact(h.gl b q).2.2 k
   .omega
  gp:=C.gd.stable _ _ (fun b q=>by
   have hb:b<w.heap.size:=Bp (h.gl b q).1 h.fr.size;exact hheap b hb) h.gpw
  envs:=fun t=>(h.envs t).step s1
  envlen:=h.envlen
  defers:=h.defers
  siz:=h.siz
  fix:=fun t ht=>by
   have ht:C'.fx.getD t false=true:=ht;rw[z5x] at ht;show _=some (if t=s then v else C.fv t);by_cases e:t=s
   .rw[Al e,e];exact hs
   .rw[Ao e];have:Nat.beq t s=false:=by
     cases q:Nat.beq t s with
     | false=>rfl | true=>exact absurd (Av q) e
    rw[this,Ci] at ht;exact h.fix t ht}
structure Pk (C1:Cx) (s:Nat) (blk:Blk) (rb:Nat):Prop where
 lt:rb<C1.w0.heap.size
 w0: ¬C1.W0 rb
 cs:∃cs,Cells C1.w0 rb cs/\y7y blk cs
 fx:C1.fx.getD s false=true
 fv:C1.fv s=z5g rb blk
 lb:C1.Lb rb
theorem Pk.new {cs:Array Value} {el:TypeId} {s:Nat} {blk:Blk} (h:St C env H B a w) (hf:y7y blk cs):Pk (C.park B (w.alloc (.cells cs el)) w.heap.size s (z5g w.heap.size blk)) s blk w.heap.size where
 lt:=by show w.heap.size<(w.heap.push _).size;simp
 w0:=fun⟨i,q⟩=>by have:=(h.alloc i _ q).1;omega
 cs:=⟨cs,⟨el,by show(w.heap.push _)[w.heap.size]? =_;simp⟩,hf⟩
 fx:=by rw[z5x,Gi];rfl
 fv:=by show(if s=s then _ else _)=_;rw[Al rfl]
 lb:= .inr rfl
theorem Pk.keep {cs:Array Value} {el:TypeId} {s s' rb:Nat} {v:Value} {blk:Blk} (h:St C env H B a w) (k:Pk C s blk rb) (hne:s≠s'):Pk (C.park B (w.alloc (.cells cs el)) w.heap.size s' v) s blk rb where
 lt:=by
  show rb<(w.heap.push _).size;have:=k.lt;have:=h.fr.size;simp;omega
 w0:=fun⟨i,q⟩=>(h.alloc i _ q).2.1 (h.lb _ k.lb)
 cs:=by
  obtain⟨c,⟨el',q1⟩,q2⟩:=k.cs;refine⟨c,⟨el',?_⟩,q2⟩;have hlt:rb<w.heap.size:=Bp k.lt h.fr.size;show(w.alloc _).heap[rb]? =_;rw[Go.RowKit.Below.heap_alloc w _ rb hlt,h.fr.same rb k.lt k.w0];exact q1
 fx:=by rw[z5x,k.fx,Ew]
 fv:=by show(if s=s' then _ else _)=_;rw[Ao hne];exact k.fv
 lb:= .inl k.lb
def Cx.adopt (C:Cx) (B:List (Option Nat)) (w:World) (rb:Nat):Cx where
 w0:=w
 W0 b:=Has B b\/b=rb
 Lb b:=C.Lb b/\b≠rb
 Lp b:=C.Lp b/\b≠rb
 nt:=C.nt
 fx:=C.fx
 fv:=C.fv
 gd:=C.gd
theorem St.adopt (h:St C env H B a w) {s rb:Nat} {blk:Blk} (k:Pk C s blk rb):St (C.adopt B w rb) (env.set s (z1p H.length blk)) (H++ [blk]) (B++ [some rb]) a w:=by
 have hlp:=h.lb _ k.lb;have hnh: ¬Has B rb:=fun⟨i,q⟩=>(h.alloc i _ q).2.1 hlp
 obtain⟨cs,q1,q2⟩:=k.cs;have hcell:Cells w rb cs:=by
  obtain⟨el,q1⟩:=q1;exact⟨el,(h.fr.same rb k.lt k.w0).trans q1⟩
 let C' :=C.adopt B w rb
 have hHas:∀b,Has (B++ [some rb]) b->Has B b\/b=rb:=fun b q=>by
  rcases q.append with q | q
  .exact .inl q
  .simp at q;exact .inr q
 have s1:Step (C.N B) (C.Np B) (C'.N (B++ [some rb])) (C'.Np (B++ [some rb])) H B w (H++ [blk]) (B++ [some rb]) w:=by
  refine⟨⟨Au _,fun _ _ _=>rfl,fun b hb hn q=> ?_⟩,⟨Au _,fun _ _ _=>rfl,fun b hb hn q=> ?_⟩,by simp,?_,?_,fun _ cs q=>⟨cs,q,rfl⟩⟩
  .rcases q with q | q
   .rcases hHas b q with q | q
    .exact hn (.inl q)
    .subst q;exact hn (.inr k.lb)
   .exact hn (.inr q.1)
  .rcases q with q | q
   .rcases hHas b q with q | q
    .exact hn (.inl q)
    .subst q;exact hn (.inr hlp)
   .exact hn (.inr q.1)
  .intro i hi cells e;rw[Aj hi] at e;exact⟨⟨_,e⟩,Aj (by rw[h.lenB];exact hi)⟩
  .intro i hi p st t l e;rw[Aj hi] at e;exact⟨_,_,_,_,e,Au _,fun _=>⟨rfl,rfl,Aj (by rw[h.lenB];exact hi)⟩⟩
 have last:∀ {X:Type} {l:List X} {x y:X} {i:Nat},¬i<l.length->(l++ [x])[i]? =some y->i=l.length/\y=x:=by
  intro X l x y i hi e;rw[Aq (by omega)] at e;rcases De (i - l.length) with q | q
  .rw[q] at e;simp at e;exact⟨by omega,e.symm⟩
  .rw[Be (by simp;omega)] at e;cases e
 have hbr:BR (C'.N (B++ [some rb])) (C'.Np (B++ [some rb])) (H++ [blk]) (B++ [some rb]) w blk (some rb):=by
  rcases q2 with ⟨y,rfl,hz⟩ | ⟨t,rfl⟩
  .exact⟨rb,cs,rfl,hcell,by rw[hz];exact z2z y⟩
  .exact⟨cs,hcell,by simp,fun i hi=>by simp at hi⟩
 have hcr:CR (C'.N (B++ [some rb])) (C'.Np (B++ [some rb])) (H++ [blk]) (B++ [some rb]) w (z1p H.length blk) (z5g rb blk):=by
  rcases q2 with ⟨y,rfl,hz⟩ | ⟨t,rfl⟩
  .simp only[z1p,z5g,CR];refine⟨⟨by simp,rfl⟩,fun cells _=>⟨rb,?_,rfl⟩⟩;rw[Aq (by rw[h.lenB];exact Au _),h.lenB];simp
  .exact y2l (l:=([] :List t.den)) h.lenB hcell (by simp)
 exact {
  lenB:=by simp[h.lenB]
  nodup:=fun i j b e1 e2=>by
   by_cases q1:i<B.length<;>by_cases q2:j<B.length
   .rw[Aj q1] at e1;rw[Aj q2] at e2;exact h.nodup i j b e1 e2
   .rw[Aj q1] at e1;obtain⟨_,z⟩:=last q2 e2;cases z;exact absurd ⟨i,e1⟩ hnh
   .rw[Aj q2] at e2;obtain⟨_,z⟩:=last q1 e1;cases z;exact absurd ⟨j,e2⟩ hnh
   .obtain⟨k1,_⟩:=last q1 e1;obtain⟨k2,_⟩:=last q2 e2;omega
  alloc:=fun i b e=>by
   by_cases q1:i<B.length
   .rw[Aj q1] at e;obtain⟨p1,p2,p3⟩:=h.alloc i b e;exact⟨p1,fun z=>p2 z.1, .inl (.inl ⟨i,e⟩)⟩
   .obtain⟨_,z⟩:=last q1 e;cases z;exact⟨hcell.lt,fun z=>z.2 rfl, .inl (.inr rfl)⟩
  blk:=fun i b ob e1 e2=>by
   by_cases q1:i<H.length
   .rw[Aj q1] at e1;rw[Aj (by rw[h.lenB];exact q1)] at e2;exact(h.blk i b ob e1 e2).step s1 (fun _ _=>rfl)
   .obtain⟨_,z⟩:=last q1 e1;obtain⟨_,z2⟩:=last (by rw[h.lenB];exact q1) e2;subst z;subst z2;exact hbr
  lb:=fun b q=>⟨h.lb b q.1,q.2⟩
  lp:=fun b q=>Bp (h.lp b q.1) h.fr.size
  fr:=Fr.refl _ _
  gl:=fun b q=>by
   refine⟨Bp (h.gl b q).1 h.fr.size,fun z=> ?_,fun z=>(h.gl b q).2.2 z.1⟩;rcases z with z | rfl
   .exact h.glob q z
   .exact(h.gl b q).2.2 hlp
  gp:=h.gpw
  envs:=fun t=>by
   rw[z0m];split
   .rename_i z;have hfix:=h.fix s k.fx;rw[k.fv] at hfix;rw[←z.1];have:a.tmps.getD s undef=z5g rb blk:=by rw[Cy,hfix];rfl
    rw[this];exact hcr
   .exact(h.envs t).step s1
  envlen:=by rw[Dq];exact h.envlen
  defers:=h.defers
  siz:=h.siz
  fix:=h.fix}
theorem Pk.keep2 {s rb rb' :Nat} {blk:Blk} (h:St C env H B a w) (k:Pk C s blk rb) (hne:rb≠rb'):Pk (C.adopt B w rb') s blk rb where
 lt:=Bp k.lt h.fr.size
 w0:=fun q=>by
  rcases q with ⟨i,q⟩ | q
  .exact(h.alloc i _ q).2.1 (h.lb _ k.lb)
  .exact hne q
 cs:=by
  obtain⟨c,⟨el',q1⟩,q2⟩:=k.cs;refine⟨c,⟨el',?_⟩,q2⟩;show w.heap[rb]? =_;rw[h.fr.same rb k.lt k.w0];exact q1
 fx:=k.fx
 fv:=k.fv
 lb:=⟨k.lb,hne⟩
structure Reb (C C1:Cx) (pk:Nat->Prop) (sl:Nat->Prop):Prop where
 nt:C1.nt=C.nt
 fx:∀t,C.fx.getD t false=true->C1.fx.getD t false=true/\C1.fv t=C.fv t
 fx2:∀t,C1.fx.getD t false=true->C.fx.getD t false=true\/sl t
 lb:∀b,C1.Lb b↔C.Lb b\/pk b
 lp:∀b,C1.Lp b↔C.Lp b\/pk b
 new:∀b,pk b-> ¬C.Lp b/\C.w0.heap.size<=b
 hlb:∀b,C.Lb b->C.Lp b
 hlp:∀b,C.Lp b->b<C.w0.heap.size
 fr:Fr C.W0 C.w0 C1.w0
 W0:∀b,C1.W0 b->C.W0 b\/C.w0.heap.size<=b
 gd:C1.gd=C.gd
 gl:∀b,C.gd.G b->b<C.w0.heap.size/\ ¬C.W0 b/\ ¬C.Lp b
 gp:C.gd.pre C.w0
theorem Fr.join {C C1:Cx} (h1:Fr C.W0 C.w0 C1.w0) (h2:Fr C1.W0 C1.w0 w) (hW:∀b,C1.W0 b->C.W0 b\/C.w0.heap.size<=b):Fr C.W0 C.w0 w where
 size:=A9 h1.size h2.size
 same:=fun b hb hn=>(h2.same b (Bp hb h1.size) (fun q=>(hW b q).elim hn (fun z=>by omega))).trans (h1.same b hb hn)
 cells:=fun rb cs k=>by
  obtain⟨cs1,k1,e1⟩:=h1.cells rb cs k;obtain⟨cs2,k2,e2⟩:=h2.cells rb cs1 k1;exact⟨cs2,k2,e2.trans e1⟩
 os:=h2.os.trans h1.os
 tape:=h2.tape.trans h1.tape
 output:=h2.output.trans h1.output
theorem Reb.refl {sl:Nat->Prop} (hlb:∀b,C.Lb b->C.Lp b) (hlp:∀b,C.Lp b->b<C.w0.heap.size) (hgl:∀b,C.gd.G b->b<C.w0.heap.size/\ ¬C.W0 b/\ ¬C.Lp b) (hgp:C.gd.pre C.w0):Reb C C (fun _=>False) sl where
 hlb:=hlb
 hlp:=hlp
 nt:=rfl
 fx:=fun t h=>⟨h,rfl⟩
 fx2:=fun t h=> .inl h
 lb:=fun b=>by simp
 lp:=fun b=>by simp
 new:=fun b h=>h.elim
 fr:=Fr.refl _ _
 W0:=fun b h=> .inl h
 gd:=rfl
 gl:=hgl
 gp:=hgp
theorem Reb.mono {pk pk' sl sl' :Nat->Prop} (h:Reb C C1 pk sl) (h1:∀b,pk b↔pk' b) (h2:∀t,sl t->sl' t):Reb C C1 pk' sl' where
 hlb:=h.hlb
 hlp:=h.hlp
 nt:=h.nt
 fx:=h.fx
 fx2:=fun t q=>(h.fx2 t q).imp id (h2 t)
 lb:=fun b=>by rw[h.lb b,h1 b]
 lp:=fun b=>by rw[h.lp b,h1 b]
 new:=fun b q=>h.new b ((h1 b).mpr q)
 fr:=h.fr
 W0:=h.W0
 gd:=h.gd
 gl:=h.gl
 gp:=h.gp
theorem Reb.park {pk sl:Nat->Prop} (r:Reb C C1 pk sl) (h:St C1 env H B a w) {cs:Array Value} {el:TypeId} {s:Nat} {v:Value} (hs:C.fx.getD s false=false):
 Reb C (C1.park B (w.alloc (.cells cs el)) w.heap.size s v) (fun b=>pk b\/b=w.heap.size) (fun t=>sl t\/t=s) where
 hlb:=r.hlb
 hlp:=r.hlp
 nt:=r.nt
 fx:=fun t ht=>by
  refine⟨by rw[z5x,(r.fx t ht).1,Ew],?_⟩;show(if t=s then v else C1.fv t)=_;rw[Ao (fun e=>by rw[e,hs] at ht;cases ht)];exact(r.fx t ht).2
 fx2:=fun t ht=>by
  rw[z5x,Cr] at ht;rcases ht with ht | ht
  .exact .inr (.inr (Av ht))
  .exact(r.fx2 t ht).imp id .inl
 lb:=fun b=>by show C1.Lb b\/_↔_;rw[r.lb b,or_assoc]
 lp:=fun b=>by show C1.Lp b\/_↔_;rw[r.lp b,or_assoc]
 new:=fun b q=>by
  rcases q with q | q
  .exact r.new b q
  .have h1:=h.fr.size;have h2:=r.fr.size;refine⟨fun z=> ?_,by omega⟩;have:=h.lp b ((r.lp b).mpr (.inl z));omega
 fr:=by
  have h1:=Fr.join r.fr h.fr r.W0;have hheap:∀b,b<w.heap.size->(w.alloc (.cells cs el)).heap[b]? =w.heap[b]? :=fun b hb=>Go.RowKit.Below.heap_alloc w _ b hb
  have hsz:w.heap.size+1=(w.alloc (.cells cs el)).heap.size:=by show _=(w.heap.push _).size;simp
  show Fr C.W0 C.w0 (w.alloc (.cells cs el));refine h1.trans' (by omega) (fun b hb _=>hheap b (Bp hb h1.size)) ?_ rfl rfl rfl;intro rb cs0 k;have:=k.lt;obtain⟨e,k⟩:=k;exact⟨cs0,⟨e,by rw[hheap rb this];exact k⟩,rfl⟩
 W0:=fun b ⟨i,q⟩=>by
  rcases(h.alloc i b q).2.2 with z | z
  .exact r.W0 b z
  .exact .inr (A9 r.fr.size z)
 gd:=r.gd
 gl:=r.gl
 gp:=r.gp
theorem Reb.adopt {pk sl:Nat->Prop} (r:Reb C C1 pk sl) (h:St C1 env H B a w) {s rb:Nat} {blk:Blk} (k:Pk C1 s blk rb) (hrb:pk rb):Reb C (C1.adopt B w rb) (fun b=>pk b/\b≠rb) sl where
 hlb:=r.hlb
 hlp:=r.hlp
 nt:=r.nt
 fx:=r.fx
 fx2:=r.fx2
 lb:=fun b=>by
  show C1.Lb b/\_↔_;rw[r.lb b];constructor
  .rintro⟨q1 | q1,q2⟩
   .exact .inl q1
   .exact .inr ⟨q1,q2⟩
  .rintro(q | q)
   .exact⟨.inl q,fun z=>by subst z;exact(r.new _ hrb).1 (r.hlb _ q)⟩
   .exact⟨.inr q.1,q.2⟩
 lp:=fun b=>by
  show C1.Lp b/\_↔_;rw[r.lp b];constructor
  .rintro⟨q1 | q1,q2⟩
   .exact .inl q1
   .exact .inr ⟨q1,q2⟩
  .rintro(q | q)
   .exact⟨.inl q,fun z=>by subst z;exact(r.new _ hrb).1 q⟩
   .exact⟨.inr q.1,q.2⟩
 new:=fun b q=>r.new b q.1
 fr:=Fr.join r.fr h.fr r.W0
 W0:=fun b q=>by
  rcases q with ⟨i,q⟩ | q
  .rcases(h.alloc i b q).2.2 with z | z
   .exact r.W0 b z
   .exact .inr (A9 r.fr.size z)
  .subst q;exact .inr (r.new _ hrb).2
 gd:=r.gd
 gl:=r.gl
 gp:=r.gp
theorem St.back {sl:Nat->Prop} (h:St C1 env H B a w) (r:Reb C C1 (fun _=>False) sl):St C env H B a w:=by
 have s1:Step (C1.N B) (C1.Np B) (C.N B) (C.Np B) H B w H B w:=z2x (fun b k=>k.imp id (fun q=>(r.lb b).mpr (.inl q))) (fun b k=>k.imp id (fun q=>(r.lp b).mpr (.inl q)))
 exact {
  lenB:=h.lenB
  nodup:=h.nodup
  alloc:=fun i rb q=>by
   obtain⟨p1,p2,p3⟩:=h.alloc i rb q;refine⟨p1,fun z=>p2 ((r.lp rb).mpr (.inl z)),?_⟩;rcases p3 with z | z
   .exact r.W0 rb z
   .exact .inr (A9 r.fr.size z)
  blk:=fun i b ob e1 e2=>(h.blk i b ob e1 e2).step s1 (fun _ _=>rfl)
  lb:=r.hlb
  lp:=r.hlp
  fr:=Fr.join r.fr h.fr r.W0
  gl:=r.gl
  gp:=r.gp
  envs:=fun t=>(h.envs t).step s1
  envlen:=h.envlen
  defers:=h.defers
  siz:=h.siz.trans r.nt
  fix:=fun t ht=>by
   obtain⟨q1,q2⟩:=r.fx t ht;rw[←q2];exact h.fix t q1}
end
section
variable {P:Program} {A:Ann} {V:Lvl A} {ops:Array Oper} {C C1:Cx} {env env' env0 E:List D} {H H0 H1 H' :z0a} {B:List (Option Nat)} {a:Act} {w w' :World} {e:Nat}
theorem z1i (env:List D) (dst:Option Nat) (d:D):(z1f env dst d).length=env.length:=by
 cases dst<;>simp[z1f]
theorem z1h {env:List D} {dst:Option Nat} {d:D} {t:Nat} (h:dst≠some t):get (z1f env dst d) t=get env t:=by
 cases dst with
 | none=>rfl | some u=>
  simp only[z1f];rw[z0m,Ao (fun z=>h (by rw[z.1]))]
theorem z5y {env:List D} {d:D} {t:Nat} (h:t<env.length):get (z1f env (some t) d) t=d:=by
 simp only[z1f];rw[z0m,Al ⟨rfl,h⟩]
theorem Same.tmps {o:Oper} (h:∀t∈z5d o,get env t=get env' t):Same o.op env env' :=by
 intro x hx;cases x with
 | tmp t=>exact h t (List.mem_filterMap.mpr ⟨.tmp t,by simpa using hx,rfl⟩) | _=>rfl
theorem Want.congr {o:Oper} {all:List Oper} {b:Bool} (h:∀g want t,o.guard=some (g,want)->(all[g]?).bind (·.dst)=some t->get env t=get env' t) (hw:Want all env o b):Want all env' o b:=by
 unfold Want at*;cases hg:o.guard with
 | none=>rw[hg] at hw;exact hw | some g=>
  obtain⟨g,want⟩:=g;rw[hg] at hw;obtain⟨t,h1,h2⟩:=hw;rw[h g want t hg h1] at h2;exact⟨t,h1,h2⟩
theorem y3v {a0 c:Nat} (h:(z0g A ops.toList).getD a0 none=some c):y5q A ops.toList (z4p ops.toList) a0=some c/\a0<ops.size:=by
 unfold z0g at h;rw[A5,Et] at h;by_cases hlt:a0<ops.toList.length
 .rw[List.getElem?_range hlt] at h;exact⟨by simpa using h,by simpa using hlt⟩
 .rw[Be (by simpa using hlt)] at h;cases h
theorem z0h {a0 c:Nat} (h:(z0g A ops.toList).getD a0 none=some c):∃o s blk q,ops[a0]? =some o/\z0i A o=some (s,blk)/\a0<c/\ops[c]? =some q/\z4l q=some s/\
 Nat.testBit ((z4p ops.toList).getD c 0) a0=true/\ ∀(i:Nat) o',ops[i]? =some o' ->i≠c->z4b ops.toList o' s=true->c<i/\Nat.testBit ((z4p ops.toList).getD i 0) c=true:=by
 obtain⟨h,hlt⟩:=y3v h;unfold y5q at h;split at h
 .cases h
 .rename_i s blk hp;split at h
  .cases h
  .rename_i j hj;split at h
   .rename_i hc;cases h;have ho:ops[a0]? =some ops[a0] :=Do hlt;have hp:z0i A ops[a0] =some (s,blk):=by
     have:ops.toList[a0]? =some ops[a0] :=by simpa using ho
     rw[this] at hp;exact hp
    have hf:=Gz hj;simp only[Ai,Hq] at hf;have hac:a0<c:=Hi.mp hf.1;cases hq:ops.toList[c]? with
    | none=>rw[hq] at hf;simp at hf | some q=>
     rw[hq] at hf;simp only[Ai] at hc;refine⟨_,s,blk,q,ho,hp,hac,by simpa using hq,by simpa using hf.2,hc.1,fun i o' hi hne hr=> ?_⟩;have hil:i<ops.toList.length:=by simpa using(Cj.1 hi).1
     have:=Bg.mp hc.2 i (Bq.mpr hil);have hi' :ops.toList[i]? =some o' :=by simpa using hi
     rw[hi'] at this;simp only[hr,Ap,Ci,Cr,Ai] at this;rcases this with z | z
     .exact absurd (Av z) hne
     .exact⟨Hi.mp z.1,z.2⟩
   .cases h
theorem z0e {o:Oper} {s:Nat} {blk:Blk} (hp:z0i A o=some (s,blk)):o.guard=none/\o.dst=some s:=by
 unfold z0i at hp;split at hp
 .rename_i s' t hg hd ho;split at hp
  .cases hp;exact⟨hg,hd⟩
  .cases hp
 .rename_i s' t parts hg hd ho;split at hp
  .cases hp;exact⟨hg,hd⟩
  .cases hp
 .cases hp
theorem z3c {o:Oper} {s:Nat} (h:z4l o=some s):o.guard=none/\z6q o.op=false/\z0i A o=none:=by
 unfold z4l at h;split at h
 .rename_i t s' x hg ho;refine⟨hg,by rw[ho];rfl,?_⟩;unfold z0i;rw[ho];split<;>simp_all
 .rename_i c hg ho;refine⟨hg,by rw[ho];rfl,?_⟩;unfold z0i;rw[ho];split<;>simp_all
 .cases h
theorem y2a {a0 c:Nat} (h:(z0g A ops.toList).getD a0 none=some c):(z0g A ops.toList).getD c none=none:=by
 obtain⟨o,s,blk,q,_,_,_,hq,hs,_⟩:=z0h h;cases hc:(z0g A ops.toList).getD c none with
 | none=>rfl | some c' =>
  obtain⟨o',s',blk',_,ho',hp',_⟩:=z0h hc;rw[hq] at ho';cases ho';rw[(z3c (A:=A) hs).2.2] at hp';cases hp'
theorem z1t {con:List (Option Nat)} {j a0:Nat} (h:z2h con j=some a0):con.getD a0 none=some j:=by
 have:=Gz h;exact eq_of_beq this
theorem z1s {con:List (Option Nat)} {j a0:Nat} (h:z2h con j=none):con.getD a0 none≠some j:=by
 intro k;have hlt:a0<con.length:=by
  rcases B8 a0 con.length with q | q
  .exact q
  .rw[A5,Be q] at k;cases k
 have:=List.find?_eq_none.mp h a0 (Bq.mpr hlt);rw[k] at this;simp at this
theorem y0r {X:Type} {s1 s2 l:List X} (h1:s1<:+l) (h2:s2<:+l) (h:s1.length=s2.length):s1=s2:=by
 rw[List.suffix_iff_eq_drop.mp h1,List.suffix_iff_eq_drop.mp h2,h]
theorem z4u {X:Type} {s1 s2 l:List X} (h1:s1<:+l) (h2:s2<:+l) (h:s1.length<=s2.length):s1<:+s2:=by
 obtain⟨t1,rfl⟩:=h1;exact List.suffix_of_suffix_length_le (List.suffix_append _ _) h2 h
theorem y7t {X:Type} {l:List X} {i:Nat} (h:i<l.length):∃x pre,(x::pre)<:+l/\pre.length=i:=by
 have hs:l.drop (l.length - (i+1))<:+l:=List.drop_suffix _ _;have hl:(l.drop (l.length - (i+1))).length=i+1:=by simp;omega
 cases hd:l.drop (l.length - (i+1)) with
 | nil=>rw[hd] at hl;cases hl | cons x pre=>rw[hd] at hs hl;exact⟨x,pre,hs,by simpa using hl⟩
theorem z1w {X:Type} {x:X} {s l:List X} (h:(x::s)<:+l):s<:+l:=(Gt x s).trans h
theorem z2m {X:Type} {y:X} {s l:List X} (h:s<:+y::l):s=y::l\/s<:+l:=List.suffix_cons_iff.mp h
section
variable {nd:List Nat} {con:List (Option Nat)}
theorem RowsOk.suf:∀ {l s:List Row},RowsOk A V ops nd con env0 H0 l->s<:+l->RowsOk A V ops nd con env0 H0 s
 | [],s,h,hs=>by rw[Fa.mp hs];trivial
 | y::l,s,h,hs=>by
  rcases z2m hs with rfl | hs
  .exact h
  .exact RowsOk.suf h.1 hs
theorem z9g {t:Ids} {ad:Option (Nat×Blk)} {x:Row} :∀ {l pre:List Row},(x::pre)<:+l->x.kd= .eff t ad->(pre.length,t,x.hA)∈z4h l
 | [],pre,h,_=>by have:=Fa.mp h;cases this
 | y::l,pre,h,hk=>by
  rcases z2m h with q | h
  .cases q;simp only[z4h,hk];exact C9 ..
  .have:=z9g h hk;simp only[z4h];split
   .exact Bm _ this
   .exact this
theorem y2o {R:Ids} {x:Row} :∀ {l pre:List Row},(x::pre)<:+l->x.kd= .neu R->(pre.length,R)∈y4h l
 | [],pre,h,_=>by have:=Fa.mp h;cases this
 | y::l,pre,h,hk=>by
  rcases z2m h with q | h
  .cases q;simp only[y4h,hk];exact C9 ..
  .have:=y2o h hk;simp only[y4h];split
   .exact Bm _ this
   .exact this
theorem y0f (m:Nat):∀(pre:List Row),∃s,s<:+pre/\z3x H0 m (z4h pre)=hAt H0 s/\(s= [] \/ ∃y r t ad,s=y::r/\y.kd= .eff t ad/\Nat.testBit m r.length=true)/\
 ∀y r t ad,(y::r)<:+pre->y.kd= .eff t ad->s.length<=r.length->Nat.testBit m r.length=false
 | [] =>⟨[],Gu _,rfl, .inl rfl,fun y r t ad h=>by have:=Fa.mp h;cases this⟩ | y::pre=>by
  obtain⟨s,h1,h2,h3,h4⟩:=y0f m pre
  have skip:(z3x H0 m (z4h (y::pre))=z3x H0 m (z4h pre))->(∀t ad,y.kd= .eff t ad->Nat.testBit m pre.length=false)->
   ∃s,s<:+(y::pre)/\z3x H0 m (z4h (y::pre))=hAt H0 s/\(s= [] \/ ∃y r t ad,s=y::r/\y.kd= .eff t ad/\Nat.testBit m r.length=true)/\
   ∀y' r t ad,(y' ::r)<:+(y::pre)->y'.kd= .eff t ad->s.length<=r.length->Nat.testBit m r.length=false:=fun he hb=>
   ⟨s,h1.trans (Gt _ _),he.trans h2,h3,fun y' r t ad hs hk hl=>by
     rcases z2m hs with q | hs
     .cases q;exact hb t ad hk
     .exact h4 y' r t ad hs hk hl⟩
  cases hk:y.kd with
  | free=>exact skip (by simp only[z4h,hk]) (fun t ad z=>by rw[hk] at z;cases z) | pend=>exact skip (by simp only[z4h,hk]) (fun t ad z=>by rw[hk] at z;cases z) | neu R=>exact skip (by simp only[z4h,hk]) (fun t ad z=>by rw[hk] at z;cases z) | eff t ad=>
   cases hb:Nat.testBit m pre.length with
   | false=>exact skip (by simp only[z4h,hk,z3x,hb]) (fun _ _ _=>hb) | true=>
    refine⟨y::pre,Gu _,by simp only[z4h,hk,z3x,hb];rfl, .inr ⟨y,pre,t,ad,rfl,hk,hb⟩,fun y' r t' ad' hs hk' hl=> ?_⟩;have:=hs.length_le;simp only[Bc] at this hl;omega
theorem z7h:∀ {l s:List Row},RowsOk A V ops nd con env0 H0 l->s<:+l->(∀x pre t ad,(x::pre)<:+l->s.length<=pre.length->x.kd≠ .eff t ad)->hAt H0 l=hAt H0 s
 | [],s,_,hs,_=>by rw[Fa.mp hs]
 | y::l,s,h,hs,hn=>by
  rcases z2m hs with rfl | hs'
  .rfl
  .obtain⟨h1,o,ho,hf⟩:=h;have ih:=z7h h1 hs' (fun x pre t ad hx=>hn x pre t ad (hx.trans (Gt _ _)));rw[←ih];have hne:=hn y l;show y.hA=_;unfold y0u at hf;cases hk:y.kd with
   | free=>rw[hk] at hf;exact hf.2.2.1 | pend=>rw[hk] at hf;exact hf.2.2 | neu R=>rw[hk] at hf;exact hf.2.2.2.1 | eff t ad=>exact absurd hk (hne t ad (Gu _) hs'.length_le)
theorem z8j {R:Ids} :∀ {l s:List Row},RowsOk A V ops nd con env0 H0 l->s<:+l->(∀x pre t ad,(x::pre)<:+l->s.length<=pre.length->x.kd= .eff t ad->y5r t R=true)->Keeps R (hAt H0 s) (hAt H0 l)
 | [],s,_,hs,_=>by rw[Fa.mp hs];exact Keeps.refl _ _
 | y::l,s,h,hs,hn=>by
  rcases z2m hs with rfl | hs'
  .exact Keeps.refl _ _
  .obtain⟨h1,o,ho,hf⟩:=h;have ih:=z8j h1 hs' (fun x pre t ad hx=>hn x pre t ad (hx.trans (Gt _ _)));refine ih.trans ?_;show Keeps R (hAt H0 l) y.hA;unfold y0u at hf;cases hk:y.kd with
   | free=>rw[hk] at hf;rw[hf.2.2.1];exact Keeps.refl _ _ | pend=>rw[hk] at hf;rw[hf.2.2];exact Keeps.refl _ _ | neu R=>rw[hk] at hf;rw[hf.2.2.2.1];exact Keeps.refl _ _ | eff t ad=>
    rw[hk] at hf;exact y0w hf.2.2.2.2.1 (hn y l t ad (Gu _) hs'.length_le hk)
def WrI (ops:Array Oper) (con:List (Option Nat)) (k t:Nat):Prop:=
 (∃o,ops[k]? =some o/\o.dst=some t/\con.getD k none=none)\/(∃a o,con.getD a none=some k/\ops[a]? =some o/\o.dst=some t)
theorem y6k {pre:List Row} {o:Oper} {x:Row} (hf:y0u A V ops nd con env0 H0 pre o x):x.eA.length=(eAt env0 pre).length:=by
 unfold y0u at hf;cases hk:x.kd with
 | free=>rw[hk] at hf;rw[hf.2.1,z1i] | pend=>rw[hk] at hf;rw[hf.2.1] | neu R=>rw[hk] at hf;rw[hf.2.2.1,z1i] | eff t ad=>
  rw[hk] at hf;obtain⟨_,_,_,_,_,hf⟩:=hf;cases ad with
  | none=>rw[hf.2.2,z1i] | some q=>rw[hf.2.2,z1i,Dq]
theorem z1o:∀ {l:List Row},RowsOk A V ops nd con env0 H0 l->(eAt env0 l).length=env0.length
 | [],_=>rfl | y::l,⟨h1,o,ho,hf⟩=>by
  show y.eA.length=_;rw[y6k hf,z1o h1]
theorem y4l {pre:List Row} {o:Oper} {x:Row} (ho:ops[pre.length]? =some o) (hf:y0u A V ops nd con env0 H0 pre o x) {t:Nat} (hn: ¬WrI ops con pre.length t):get x.eA t=get (eAt env0 pre) t:=by
 have hd:con.getD pre.length none=none->o.dst≠some t:=fun hc h=>hn (.inl ⟨o,ho,h,hc⟩)
 unfold y0u at hf;cases hk:x.kd with
 | free=>rw[hk] at hf;rw[hf.2.1,z1h (hd hf.1)] | pend=>rw[hk] at hf;rw[hf.2.1] | neu R=>rw[hk] at hf;rw[hf.2.2.1,z1h (hd hf.1)] | eff t' ad=>
  rw[hk] at hf;obtain⟨hc,_,_,_,_,hf⟩:=hf;cases ad with
  | none=>rw[hf.2.2,z1h (hd hc)] | some q=>
   obtain⟨s,blk⟩:=q;obtain⟨⟨a0,ha,hp⟩,_,he⟩:=hf;rw[he,z1h (hd hc),z0m];split
   .rename_i z;exfalso;cases hq:ops[a0]? with
    | none=>rw[hq] at hp;cases hp | some oa=>
     rw[hq] at hp;exact hn (.inr ⟨a0,oa,z1t ha,hq,by rw[(z0e (A:=A) hp).2,z.1]⟩)
   .rfl
theorem z2l {t:Nat} :∀ {l s:List Row},RowsOk A V ops nd con env0 H0 l->s<:+l->(∀k,s.length<=k->k<l.length-> ¬WrI ops con k t)->get (eAt env0 l) t=get (eAt env0 s) t
 | [],s,_,hs,_=>by rw[Fa.mp hs]
 | y::l,s,h,hs,hn=>by
  rcases z2m hs with rfl | hs'
  .rfl
  .obtain⟨h1,o,ho,hf⟩:=h;rw[←z2l h1 hs' (fun k hk hl=>hn k hk (by simp;omega))];exact y4l ho hf (hn l.length hs'.length_le (by simp))
end
theorem WrI.op {con:List (Option Nat)} {k t:Nat} (h:WrI ops con k t):∃j o,ops[j]? =some o/\o.dst=some t/\((j=k/\con.getD j none=none)\/con.getD j none=some k):=by
 rcases h with ⟨o,h1,h2,h3⟩ | ⟨j,o,h1,h2,h3⟩
 .exact⟨k,o,h1,h2, .inl ⟨rfl,h3⟩⟩
 .exact⟨j,o,h2,h3, .inr h1⟩
theorem WrI.uniq (hs:Sure ops) {con:List (Option Nat)} {k k' t:Nat} (h:WrI ops con k t) (h' :WrI ops con k' t):k=k' :=by
 obtain⟨j,o,a1,a2,a3⟩:=h.op;obtain⟨j',o',b1,b2,b3⟩:=h'.op;have:=hs.one j j' o o' t a1 b1 a2 b2;subst this;rcases a3 with ⟨rfl,a3⟩ | a3<;>rcases b3 with ⟨rfl,b3⟩ | b3
 .rfl
 .rw[a3] at b3;cases b3
 .rw[a3] at b3;cases b3
 .rw[a3] at b3;exact Ds b3
def hat (con:List (Option Nat)) (L:Nat->Bool) (j:Nat):Bool:=L j&&(match con.getD j none with
 | none=>true | some c=>L c)
end
section
variable {P:Program} {A:Ann} {V:Lvl A} {ops:Array Oper} {C C1:Cx} {env env' env0 E:List D} {H H0 H1 H' :z0a} {B B' :List (Option Nat)} {a a' :Act} {w w' :World} {e:Nat} {rows:List Row}
abbrev Rok (A:Ann) (V:Lvl A) (ops:Array Oper) (env0:List D) (H0:z0a) (rows:List Row):Prop:=RowsOk A V ops (z4p ops.toList) (z0g A ops.toList) env0 H0 rows
theorem y3w (hsu:Sure ops) (hr:Rok A V ops env0 H0 rows) {x:Row} {pre:List Row} (hx:(x::pre)<:+rows) {a0:Nat} (hc:(z0g A ops.toList).getD a0 none=some pre.length):
 ∃t s blk o,x.kd= .eff t (some (s,blk))/\ops[a0]? =some o/\z0i A o=some (s,blk):=by
 obtain⟨h1,o,ho,hf⟩:=hr.suf hx;obtain⟨oa,s,blk,q,ha,hp,_,hq,hs,_⟩:=z0h hc;rw[ho] at hq;cases hq;obtain⟨hg,hpu,_⟩:=z3c (A:=A) hs;unfold y0u at hf;cases hk:x.kd with
 | free=>
  rw[hk] at hf;rcases hf.2.2.2 with ⟨_,z,_⟩ | ⟨z,_⟩
  .rw[hpu] at z;cases z
  .unfold Want at z;rw[hg] at z;cases z
 | pend=>
  rw[hk] at hf;obtain⟨⟨c,z⟩,_⟩:=hf;rw[y2a hc] at z;cases z
 | neu R=>
  rw[hk] at hf;exact absurd hc (z1s hf.2.1)
 | eff t ad=>
  rw[hk] at hf;obtain⟨_,_,_,_,_,hf⟩:=hf;cases ad with
  | none=>exact absurd hc (z1s hf.1) | some sb=>
   obtain⟨s',blk'⟩:=sb;obtain⟨⟨a',had,hp'⟩,_⟩:=hf;obtain⟨oa',s2,blk2,q2,ha',hp2,_,hq2,hs2,_⟩:=z0h (z1t had);rw[ho] at hq2;cases hq2;rw[hs] at hs2;cases hs2;rw[ha'] at hp';have hp' :z0i A oa' =some (s',blk'):=hp';rw[hp2] at hp';cases hp';have hd1:=(z0e hp).2;have hd2:=(z0e hp2).2;have:=hsu.one a' a0 oa' oa s ha' ha hd2 hd1;subst this;exact⟨t,_,_,oa',rfl,ha',hp2⟩
structure Inv (A:Ann) (ops:Array Oper) (C:Cx) (env0:List D) (H0:z0a) (rows:List Row) (L:Nat->Bool) (pf:List (Nat×Nat)) (C1:Cx) (H:z0a) (B:List (Option Nat)) (a:Act) (w:World):Prop where
 cl:z7t ops L
 st:St C1 (mix ops env0 (eAt env0 rows) (hat (z0g A ops.toList) L)) H B a w
 pos:∃s,s<:+rows/\H=hAt H0 s/\ ∀x pre t ad,(x::pre)<:+rows->x.kd= .eff t ad->(L pre.length=true↔pre.length<s.length)
 reb:Reb C C1 (fun b=> ∃a,(a,b)∈pf) (fun t=> ∃a o c,(z0g A ops.toList).getD a none=some c/\ops[a]? =some o/\o.dst=some t/\L a=true)
 pf1:∀a c,(z0g A ops.toList).getD a none=some c->L a=true->L c=false-> ∃rb,(a,rb)∈pf
 pf2:∀a rb,(a,rb)∈pf-> ∃c o s blk,(z0g A ops.toList).getD a none=some c/\L a=true/\L c=false/\ops[a]? =some o/\z0i A o=some (s,blk)/\Pk C1 s blk rb
 pf3:∀a a' rb rb',(a,rb)∈pf->(a',rb')∈pf->(a=a' ↔rb=rb')
def z4s (L:Nat->Bool) (i:Nat):Nat->Bool:=fun j=>if j=i then true else L j
theorem z1q {L:Nat->Bool} {i:Nat} :z4s L i i=true:=Al rfl
theorem z0f {L:Nat->Bool} {i j:Nat} (h:j≠i):z4s L i j=L j:=Ao h
theorem z0o {L:Nat->Bool} {i j:Nat} (h:L j=true):z4s L i j=true:=by
 unfold z4s;split
 .rfl
 .exact h
theorem z3s {L:Nat->Bool} {i:Nat} {o:Oper} (hc:z7t ops L) (ho:ops[i]? =some o) (hd:∀x∈o.after,Region.binds .any x=true->L x.on=true):z7t ops (z4s L i):=by
 intro j q hj hl x hx hb;by_cases e:j=i
 .subst e;rw[ho] at hj;cases hj;exact z0o (hd x hx hb)
 .rw[z0f e] at hl;exact z0o (hc j q hj hl x hx hb)
section
variable (hsu:Sure ops) (hrw:Rok A V ops env0 H0 rows)
include hsu hrw in
theorem y4k {L:Nat->Bool} (hcl:z7t ops L) {i:Nat} {o:Oper} (ho:ops[i]? =some o) (h0:L i=false) (hd:∀x∈o.after,Region.binds .any x=true->L x.on=true)
 {x:Row} {pre:List Row} (hx:(x::pre)<:+rows) (hpi:pre.length=i) {t:Nat} (hr:t∈z5d o\/ ∃g want,o.guard=some (g,want)/\(ops[g]?).bind (·.dst)=some t)
 (hne:∀a0 q,(z0g A ops.toList).getD a0 none=some i->ops[a0]? =some q->q.dst≠some t):
 get (eAt env0 pre) t=get (mix ops env0 (eAt env0 rows) (hat (z0g A ops.toList) L)) t:=by
 have hE:(eAt env0 rows).length=env0.length:=z1o hrw;have hpre:pre<:+rows:=z1w hx;have hpok:=hrw.suf hpre;have lt:=hx.length_le;simp only[Bc] at lt;have wl:∀j,z0p o j=true->L j=true:=fun j hj=>by
  unfold z0p at hj;rw[←Array.any_toList,Cm] at hj;obtain⟨x,hx,hj⟩:=hj;rw[Db] at hx;simp only[Ai] at hj;have:=Av hj.1;subst this;exact hd x hx hj.2
 have clw:∀(q:Oper) (j:Nat),ops[j]? =some q->L j=true->z0p q i=true->False:=fun q j hj hl hw=>by
  unfold z0p at hw;rw[←Array.any_toList,Cm] at hw;obtain⟨x,hx,hw⟩:=hw;rw[Db] at hx;simp only[Ai] at hw;have e:=Av hw.1;have:=hcl j q hj hl x hx hw.2;rw[e,h0] at this;cases this
 have early:∀k,WrI ops (z0g A ops.toList) k t->k<i->get (eAt env0 pre) t=get (eAt env0 rows) t:=fun k hk hki=>
  (z2l hrw hpre (fun k' hk' _ hw=>by have:=hk.uniq hsu hw;omega)).symm
 have late:∀k,WrI ops (z0g A ops.toList) k t->i<=k->get (eAt env0 pre) t=get env0 t:=fun k hk hki=>
  z2l hpok (G9) (fun k' _ hk' hw=>by have:=hk.uniq hsu hw;omega)
 rw[z1x hE];by_cases hw:∃(j:Nat) (q:Oper),ops[j]? =some q/\q.dst=some t
 .obtain⟨j,q,hj,hq⟩:=hw;have huni:∀j' q',ops[j']? =some q' ->q'.dst=some t->j' =j:=fun j' q' hj' hq' =>hsu.one j' j q' q t hj' hj hq' hq
  have wrj:∀p:Nat->Bool,wr ops t p=p j:=fun p=>by
   rw[Cd,z8x];exact⟨fun⟨j',q',a1,a2,a3⟩=>by rw[←huni j' q' a1 a2];exact a3,fun z=>⟨j,q,hj,hq,z⟩⟩
  rw[wrj];cases hcj:(z0g A ops.toList).getD j none with
  | none=>
   have hW:WrI ops (z0g A ops.toList) j t:= .inl ⟨q,hj,hq,hcj⟩;have hh:hat (z0g A ops.toList) L j=L j:=by unfold hat;rw[hcj,Cz]
   rw[hh];rcases hsu.reads i j o q t ho hj hq hr with ⟨h1,h2⟩ | ⟨h1,h2⟩
   .rw[wl j h2,Al rfl];exact early j hW h1
   .have:L j=false:=by
     cases z:L j with
     | false=>rfl | true=>exact(clw q j hj z h2).elim
    rw[this,Ao (by simp)];exact late j hW (by omega)
  | some c=>
   have hW:WrI ops (z0g A ops.toList) c t:= .inr ⟨j,q,hcj,hj,hq⟩;obtain⟨q',s,blk,oc,hj',hp,hjc,hoc,hcs,hbit,hall⟩:=z0h hcj;rw[hj] at hj';cases hj';have hst:s=t:=by
    have:=(z0e hp).2;rw[hq] at this;cases this;rfl
   subst hst;have hic:i≠c:=fun z=>by subst z;exact hne j q hcj hj hq
   have hrs:z4b ops.toList o s=true:=by
    unfold z4b;rw[Cr];rcases hr with hr | ⟨g,want,hg,hgt⟩
    .left;rw[Cm];exact⟨s,hr,Gi _⟩
    .right;have hgt' :(ops.toList[g]?).bind (·.dst)=some s:=by simpa using hgt
     rw[hg];simp only[hgt',beq_self_eq_true]
   obtain⟨h1,h2⟩:=hall i o ho hic hrs;have hLc:L c=true:=z0k hcl ho hd h2;have hLj:L j=true:=z0k hcl hoc (fun x hx hb=>hcl c oc hoc hLc x hx hb) hbit;have hh:hat (z0g A ops.toList) L j=true:=by unfold hat;rw[hcj,hLj,Bz];exact hLc
   rw[hh,Al rfl];exact early c hW h1
 .have hnone:∀(j:Nat) o,ops[j]? =some o->o.dst≠some t:=fun j o hj hd=>hw ⟨j,o,hj,hd⟩
  have nw: ¬wr ops t (hat (z0g A ops.toList) L)=true:=fun z=>by
   obtain⟨j,o,hj,hd,_⟩:=z8x.mp z;exact hnone j o hj hd
  rw[Ao nw];exact z2l hpok (G9) (fun k _ _ hw=>by
   obtain⟨j,q,a1,a2,_⟩:=hw.op;exact hnone j q a1 a2)
include hsu hrw in
theorem y0n {L:Nat->Bool} {i:Nat} {o:Oper} (ho:ops[i]? =some o) {x:Row} {pre:List Row} (hx:(x::pre)<:+rows) (hpi:pre.length=i) (hci:(z0g A ops.toList).getD i none=none)
 {d:D} {M:List D} (hM:M.length=env0.length) (hv:∀t,o.dst=some t->t<env0.length->get x.eA t=d)
 (hoth:∀t,o.dst≠some t->get (mix ops env0 (eAt env0 rows) (hat (z0g A ops.toList) (z4s L i))) t= .undef\/get (mix ops env0 (eAt env0 rows) (hat (z0g A ops.toList) (z4s L i))) t=get M t) (t:Nat):
 get (mix ops env0 (eAt env0 rows) (hat (z0g A ops.toList) (z4s L i))) t= .undef\/get (mix ops env0 (eAt env0 rows) (hat (z0g A ops.toList) (z4s L i))) t=get (z1f M o.dst d) t:=by
 have hE:(eAt env0 rows).length=env0.length:=z1o hrw;by_cases hd:o.dst=some t
 .by_cases hlt:t<env0.length
  .right;rw[z1x hE,Al (z8x.mpr ⟨i,o,ho,hd,by unfold hat;rw[hci,z1q];rfl⟩),hd,z5y (by omega)];have hW:WrI ops (z0g A ops.toList) i t:= .inl ⟨o,ho,hd,hci⟩;rw[z2l hrw hx (fun k hk _ hw=>by
    have:=hW.uniq hsu hw;simp only[Bc] at hk;omega)]
   exact hv t hd hlt
  .left;exact z2j (by rw[z0q];omega)
 .rw[z1h hd];exact hoth t hd
theorem y2t {m:Nat} {pre r:List Row} {y:Row} {t:Ids} {ad:Option (Nat×Blk)} (h:z7n m (z4h pre)=true) (hy:(y::r)<:+pre) (hk:y.kd= .eff t ad):Nat.testBit m r.length=true:=
 Bg.mp h _ (z9g hy hk)
theorem y6g {m:Nat} {pre r:List Row} {y:Row} {t R:Ids} {ad:Option (Nat×Blk)} (h:z7k m R (z4h pre)=true) (hy:(y::r)<:+pre) (hk:y.kd= .eff t ad):Nat.testBit m r.length=true\/y5r t R=true:=by
 have:=Bg.mp h _ (z9g hy hk);simpa using this
theorem y5t {m:Nat} {pre r:List Row} {y:Row} {t R:Ids} (h:z8f m t (y4h pre)=true) (hy:(y::r)<:+pre) (hk:y.kd= .neu R):Nat.testBit m r.length=true\/y5r t R=true:=by
 have:=Bg.mp h _ (y2o hy hk);simpa using this
variable {L:Nat->Bool} {pf:List (Nat×Nat)} {i:Nat} {o:Oper} {x:Row} {pre:List Row}
theorem Inv.heap (inv:Inv A ops C env0 H0 rows L pf C1 H B a w) (hrw:Rok A V ops env0 H0 rows) (ho:ops[i]? =some o) (h0:L i=false) (hd:∀x∈o.after,Region.binds .any x=true->L x.on=true)
 (hx:(x::pre)<:+rows) (hpi:pre.length=i) {t:Ids} {ad:Option (Nat×Blk)} (hk:x.kd= .eff t ad) (hord:z7n ((z4p ops.toList).getD pre.length 0) (z4h pre)=true):
 H=hAt H0 pre/\ ∀y r t' ad',(y::r)<:+rows->y.kd= .eff t' ad' ->(z4s L i r.length=true↔r.length<(x::pre).length):=by
 obtain⟨s,hs,hH,hp⟩:=inv.pos;have hpre:pre<:+rows:=z1w hx;subst hpi;have hlt:s.length<=pre.length:=by
  rcases B8 pre.length s.length with z | z
  .have:=(hp x pre t ad hx hk).mpr z;rw[h0] at this;cases this
  .exact z
 have before:∀y r t' ad',(y::r)<:+pre->y.kd= .eff t' ad' ->L r.length=true:=fun y r t' ad' hy hk' =>
  z0k inv.cl ho hd (y2t hord hy hk')
 refine⟨?_,fun y r t' ad' hy hk' => ?_⟩
 .rw[hH];refine(z7h (hrw.suf hpre) (z4u hs hpre hlt) (fun y r t' ad' hy hl hk' => ?_)).symm;have h1:=before y r t' ad' hy hk';have:=(hp y r t' ad' (hy.trans hpre) hk').mp h1;omega
 .simp only[Bc];rcases Gk r.length pre.length with z | z | z
  .have hy' :(y::r)<:+pre:=z4u hy hpre (by simp;omega);exact⟨fun _=>by omega,fun _=>z0o (before y r t' ad' hy' hk')⟩
  .rw[z,z1q];exact⟨fun _=>by omega,fun _=>rfl⟩
  .rw[z0f (by omega)];refine⟨fun hl=> ?_,fun hl=>by omega⟩;exfalso;have hpy:(x::pre)<:+r:=z4u hx (z1w hy) (by simp;omega);obtain⟨_,oy,hoy,hfy⟩:=hrw.suf hy;unfold y0u at hfy;rw[hk'] at hfy;have hb:=y2t hfy.2.2.1 hpy hk;have:=z0k inv.cl hoy (fun e he hb=>inv.cl r.length oy hoy hl e he hb) hb;rw[h0] at this;cases this
theorem Inv.posN (inv:Inv A ops C env0 H0 rows L pf C1 H B a w) (hx:(x::pre)<:+rows) (hpi:pre.length=i) (hk:∀t ad,x.kd≠ .eff t ad):
 ∃s,s<:+rows/\H=hAt H0 s/\ ∀y r t ad,(y::r)<:+rows->y.kd= .eff t ad->(z4s L i r.length=true↔r.length<s.length):=by
 obtain⟨s,hs,hH,hp⟩:=inv.pos;refine⟨s,hs,hH,fun y r t ad hy hk' => ?_⟩;have hne:r.length≠i:=fun z=>by
  have:=y0r hy hx (by simp only[Bc];omega);cases this;exact hk t ad hk'
 rw[z0f hne];exact hp y r t ad hy hk'
theorem Inv.neu (inv:Inv A ops C env0 H0 rows L pf C1 H B a w) (hrw:Rok A V ops env0 H0 rows) (ho:ops[i]? =some o) (h0:L i=false) (hd:∀x∈o.after,Region.binds .any x=true->L x.on=true)
 (hx:(x::pre)<:+rows) (hpi:pre.length=i) {R:Ids} (hk:x.kd= .neu R) (hnv:NV.reads A V (z3x H0 ((z4p ops.toList).getD pre.length 0) (z4h pre)) (eAt env0 pre) o x.d R)
 (hne:z7k ((z4p ops.toList).getD pre.length 0) R (z4h pre)=true):NV A V H (eAt env0 pre) o x.d:=by
 obtain⟨s,hs,hH,hp⟩:=inv.pos;have hpre:pre<:+rows:=z1w hx;subst hpi;obtain⟨s',k1,k2,k3,k4⟩:=y0f (H0:=H0) ((z4p ops.toList).getD pre.length 0) pre;rw[k2] at hnv;refine NV.reads_keeps hnv ?_;rw[hH];have hle:s'.length<=s.length:=by
  rcases k3 with rfl | ⟨y,r,t,ad,rfl,hky,hb⟩
  .exact Cn _
  .exact(hp y r t ad (k1.trans hpre) hky).mp (z0k inv.cl ho hd hb)
 refine z8j (hrw.suf hs) (z4u (k1.trans hpre) hs hle) (fun y r t ad hy hl hky=> ?_);have hyr:(y::r)<:+rows:=hy.trans hs;have hLr:L r.length=true:=(hp y r t ad hyr hky).mpr (by have:=hy.length_le;simp only[Bc] at this;omega);rcases Gk r.length pre.length with z | z | z
 .have hy' :(y::r)<:+pre:=z4u hyr hpre (by simp;omega);have hb:=k4 y r t ad hy' hky hl;rcases y6g hne hy' hky with q | q
  .rw[hb] at q;cases q
  .exact q
 .have:=y0r hyr hx (by simp only[Bc];omega);cases this;rw[hk] at hky;cases hky
 .have hpy:(x::pre)<:+r:=z4u hx (z1w hyr) (by simp;omega);obtain⟨_,oy,hoy,hfy⟩:=hrw.suf hyr;unfold y0u at hfy;rw[hky] at hfy;rcases y5t hfy.2.2.2.1 hpy hk with q | q
  .have:=z0k inv.cl hoy (fun e he hb=>inv.cl r.length oy hoy hLr e he hb) q;rw[h0] at this;cases this
  .exact q
theorem Inv.step (inv:Inv A ops C env0 H0 rows L pf C1 H B a w) (hsu:Sure ops) (hrw:Rok A V ops env0 H0 rows) (ho:ops[i]? =some o) (h0:L i=false) (hd:∀x∈o.after,Region.binds .any x=true->L x.on=true)
 (hx:(x::pre)<:+rows) (hpi:pre.length=i) (hci:(z0g A ops.toList).getD i none=none) (hnc:∀a0,(z0g A ops.toList).getD a0 none≠some i) (he:x.eA=z1f (eAt env0 pre) o.dst x.d)
 (hst:St C1 (z1f (mix ops env0 (eAt env0 rows) (hat (z0g A ops.toList) L)) o.dst x.d) H' B' a' w')
 (hpos:∃s,s<:+rows/\H' =hAt H0 s/\ ∀y r t ad,(y::r)<:+rows->y.kd= .eff t ad->(z4s L i r.length=true↔r.length<s.length)):
 Inv A ops C env0 H0 rows (z4s L i) pf C1 H' B' a' w' :=by
 have hE:(eAt env0 rows).length=env0.length:=z1o hrw;have hP:(eAt env0 pre).length=env0.length:=z1o (hrw.suf (z1w hx));have hatn:∀j,j≠i->hat (z0g A ops.toList) (z4s L i) j=hat (z0g A ops.toList) L j:=fun j hj=>by
  unfold hat;rw[z0f hj];cases hcj:(z0g A ops.toList).getD j none with
  | none=>rfl | some c=>
   have:c≠i:=fun z=>hnc j (by rw[hcj,z])
   simp only[z0f this]
 exact {
  cl:=z3s inv.cl ho hd
  st:=hst.sub (y0n hsu hrw ho hx hpi hci (by rw[z0q]) (fun t hdt hlt=>by rw[he,hdt];exact z5y (by rw[hP];exact hlt)) (fun t hdt=> .inr (by
   rw[z1x hE,z1x hE];have:wr ops t (hat (z0g A ops.toList) (z4s L i))=wr ops t (hat (z0g A ops.toList) L):=by
    rw[Cd,z8x,z8x];constructor
    .rintro⟨j,q,a1,a2,a3⟩
     have:j≠i:=fun z=>by subst z;rw[ho] at a1;cases a1;exact hdt a2
     exact⟨j,q,a1,a2,by rw[←hatn j this];exact a3⟩
    .rintro⟨j,q,a1,a2,a3⟩
     have:j≠i:=fun z=>by subst z;rw[ho] at a1;cases a1;exact hdt a2
     exact⟨j,q,a1,a2,by rw[hatn j this];exact a3⟩
   rw[this]))) (by rw[z0q,z1i,z0q])
  pos:=hpos
  reb:=inv.reb.mono (fun _=>Hp) (fun t ⟨a0,q,c,z1,z2,z3,z4⟩=>⟨a0,q,c,z1,z2,z3,z0o z4⟩)
  pf1:=fun a0 c h1 h2 h3=>by
   have n1:a0≠i:=fun z=>by rw[z,hci] at h1;cases h1
   have n2:c≠i:=fun z=>hnc a0 (by rw[h1,z])
   rw[z0f n1] at h2;rw[z0f n2] at h3;exact inv.pf1 a0 c h1 h2 h3
  pf2:=fun a0 rb hm=>by
   obtain⟨c,q,s,blk,z1,z2,z3,z4⟩:=inv.pf2 a0 rb hm;have n2:c≠i:=fun z=>hnc a0 (by rw[z1,z])
   exact⟨c,q,s,blk,z1,z0o z2,by rw[z0f n2];exact z3,z4⟩
  pf3:=inv.pf3}
theorem Inv.pend (inv:Inv A ops C env0 H0 rows L pf C1 H B a w) (hsu:Sure ops) (hrw:Rok A V ops env0 H0 rows) (hf:y5h C o) (ho:ops[i]? =some o) (h0:L i=false) (hd:∀x∈o.after,Region.binds .any x=true->L x.on=true)
 (hx:(x::pre)<:+rows) (hpi:pre.length=i) (hk:x.kd= .pend) {c s:Nat} {blk:Blk} (hci:(z0g A ops.toList).getD i none=some c) (hp:z0i A o=some (s,blk)) (hu:get env0 s= .undef) {cs:Array Value} {el:TypeId} (hfit:y7y blk cs)
 (hsl:s<a.tmps.size):
 Inv A ops C env0 H0 rows (z4s L i) ((i,w.heap.size)::pf) (C1.park B (w.alloc (.cells cs el)) w.heap.size s (z5g w.heap.size blk)) H B (a.put o.dst (z5g w.heap.size blk)) (w.alloc (.cells cs el)):=by
 have hE:(eAt env0 rows).length=env0.length:=z1o hrw;have hds:=(z0e hp).2;obtain⟨o',s',blk',oc,ho',hp',hic,hoc,hcs,hbit,hall⟩:=z0h hci;rw[ho] at ho';cases ho';rw[hp] at hp';cases hp';have hLc:L c=false:=by
  cases z:L c with
  | false=>rfl | true=>
   have:=z0k inv.cl hoc (fun e he hb=>inv.cl c oc hoc z e he hb) hbit;rw[h0] at this;cases this
 have hnc:∀a0,(z0g A ops.toList).getD a0 none≠some i:=fun a0 z=>by rw[y2a z] at hci;cases hci
 have hatn:∀j,hat (z0g A ops.toList) (z4s L i) j=hat (z0g A ops.toList) L j:=fun j=>by
  by_cases e:j=i
  .subst e;unfold hat;rw[hci,z1q,h0];show z4s L j c=false;rw[z0f (by omega)];exact hLc
  .unfold hat;rw[z0f e];cases hcj:(z0g A ops.toList).getD j none with
   | none=>rfl | some c' =>
    have:c' ≠i:=fun z=>hnc j (by rw[hcj,z])
    simp only[z0f this]
 have hfx1:C1.fx.getD s false=false:=by
  cases z:C1.fx.getD s false with
  | false=>rfl | true=>
   rcases inv.reb.fx2 s z with q | ⟨a0,q,c',q1,q2,q3,q4⟩
   .rw[hf s hds] at q;cases q
   .have:=hsu.one a0 i q o s q2 ho q3 hds;subst this;rw[h0] at q4;cases q4
 have hput:=inv.st.put (d:= .undef) (v:=z5g w.heap.size blk) (by simp[CR]) o.dst (fun t ht=>by rw[hds] at ht;cases ht;exact hfx1);have hst:=hput.park (cs:=cs) (el:=el) (s:=s) (v:=z5g w.heap.size blk) (by rw[hds];simp[Act.put,hsl])
 exact {
  cl:=z3s inv.cl ho hd
  st:=by
   refine hst.sub (fun t=> ?_) (by rw[z0q,z1i,z0q]);have hm:mix ops env0 (eAt env0 rows) (hat (z0g A ops.toList) (z4s L i))=mix ops env0 (eAt env0 rows) (hat (z0g A ops.toList) L):=by
    congr 1
    funext j
    exact hatn j
   rw[hm];by_cases e:o.dst=some t
   .left;rw[hds] at e;cases e;rw[z1x hE,Ao (fun z=>by
     obtain⟨j,q,a1,a2,a3⟩:=z8x.mp z;have:=hsu.one j i q o s a1 ho a2 hds;subst this;unfold hat at a3;rw[h0] at a3;cases a3)]
    exact hu
   .right;rw[z1h e]
  pos:=inv.posN hx hpi (fun t ad z=>by rw[hk] at z;cases z)
  reb:=(inv.reb.park (cs:=cs) (el:=el) (v:=z5g w.heap.size blk) inv.st (hf s hds)).mono (fun b=>by
   constructor
   .rintro(⟨a0,q⟩ | rfl)
    .exact⟨a0,Bm _ q⟩
    .exact⟨i,C9 ..⟩
   .rintro⟨a0,q⟩
    rcases A8.mp q with q | q
    .cases q;exact .inr rfl
    .exact .inl ⟨a0,q⟩) (fun t q=>by
   rcases q with ⟨a0,q,c',z1,z2,z3,z4⟩ | rfl
   .exact⟨a0,q,c',z1,z2,z3,z0o z4⟩
   .exact⟨i,o,c,hci,ho,hds,z1q⟩)
  pf1:=fun a0 c' h1 h2 h3=>by
   by_cases e:a0=i
   .exact⟨w.heap.size,by rw[e];exact C9 ..⟩
   .rw[z0f e] at h2;have n2:c' ≠i:=fun z=>hnc a0 (by rw[h1,z])
    rw[z0f n2] at h3;obtain⟨rb,q⟩:=inv.pf1 a0 c' h1 h2 h3;exact⟨rb,Bm _ q⟩
  pf2:=fun a0 rb hm=>by
   rcases A8.mp hm with q | q
   .cases q;exact⟨c,o,s,blk,hci,z1q,by rw[z0f (by omega)];exact hLc,ho,hp,Pk.new hput hfit⟩
   .obtain⟨c',q',s',blk',z1,z2,z3,z4,z5,z6⟩:=inv.pf2 a0 rb q;have n2:c' ≠i:=fun z=>hnc a0 (by rw[z1,z])
    refine⟨c',q',s',blk',z1,z0o z2,by rw[z0f n2];exact z3,z4,z5,z6.keep hput (fun z=> ?_)⟩;subst z;have:=hsu.one a0 i q' o s' z4 ho (z0e z5).2 hds;subst this;rw[h0] at z2;cases z2
  pf3:=fun a0 a1 rb rb1 h1 h2=>by
   have fresh:∀a0 rb,(a0,rb)∈pf->a0≠i/\rb≠w.heap.size:=fun a0 rb q=>by
    obtain⟨c',q',s',blk',z1,z2,z3,z4,z5,z6⟩:=inv.pf2 a0 rb q;have h1:=z6.lt;have h2:=inv.st.fr.size;exact⟨fun z=>(by rw[z,h0] at z2;cases z2),by omega⟩
   rcases A8.mp h1 with q | q<;>rcases A8.mp h2 with q' | q'
   .cases q;cases q';simp
   .cases q;have:=fresh _ _ q';exact⟨fun z=>absurd z.symm this.1,fun z=>absurd z.symm this.2⟩
   .cases q';have:=fresh _ _ q;exact⟨fun z=>absurd z this.1,fun z=>absurd z this.2⟩
   .exact inv.pf3 _ _ _ _ q q'}
end
end
section
variable {P:Program} {A:Ann} {V:Lvl A} {all:List Oper} {ops:Array Oper} {C C1:Cx} {env env' env0 E:List D} {H H0 H1 H' :z0a} {B B' :List (Option Nat)} {a a' :Act} {w w' :World} {e:Nat} {rows:List Row}
variable {L:Nat->Bool} {pf:List (Nat×Nat)} {i:Nat} {o:Oper} {x:Row} {pre:List Row}
theorem Inv.used (inv:Inv A ops C env0 H0 rows L pf C1 H B a w) (hsu:Sure ops) (hrw:Rok A V ops env0 H0 rows) (ho:ops[i]? =some o) (h0:L i=false) (hd:∀x∈o.after,Region.binds .any x=true->L x.on=true)
 (hx:(x::pre)<:+rows) (hpi:pre.length=i) (hci:(z0g A ops.toList).getD i none=none) {a0 s rb:Nat} {blk:Blk} {oa:Oper} (hca:(z0g A ops.toList).getD a0 none=some i) (hoa:ops[a0]? =some oa) (hp:z0i A oa=some (s,blk)) (hrb:(a0,rb)∈pf) (hpk:Pk C1 s blk rb)
 (he:x.eA=z1f ((eAt env0 pre).set s (z1p H.length blk)) o.dst x.d)
 (hst:St (C1.adopt B w rb) (z1f ((mix ops env0 (eAt env0 rows) (hat (z0g A ops.toList) L)).set s (z1p H.length blk)) o.dst x.d) H' B' a' w')
 (hpos:∃s,s<:+rows/\H' =hAt H0 s/\ ∀y r t ad,(y::r)<:+rows->y.kd= .eff t ad->(z4s L i r.length=true↔r.length<s.length)):
 Inv A ops C env0 H0 rows (z4s L i) (pf.filter fun q=>q.1 !=a0) (C1.adopt B w rb) H' B' a' w' :=by
 have hE:(eAt env0 rows).length=env0.length:=z1o hrw;have hP:(eAt env0 pre).length=env0.length:=z1o (hrw.suf (z1w hx));have hds:=(z0e hp).2;obtain⟨oa',s',blk',oc,hoa',hp',hac,hoc,hcs,hbit,hall⟩:=z0h hca;rw[hoa] at hoa';cases hoa';rw[hp] at hp';cases hp';rw[ho] at hoc;cases hoc;have hLa:L a0=true:=z0k inv.cl ho hd hbit;have only:∀j,(z0g A ops.toList).getD j none=some i->j=a0:=fun j hj=>by
  obtain⟨oj,sj,bj,qj,z1,z2,z3,z4,z5,_⟩:=z0h hj;rw[ho] at z4;cases z4;rw[hcs] at z5;cases z5;exact hsu.one j a0 oj oa s z1 hoa (z0e z2).2 hds
 have hdne:o.dst≠some s:=fun z=>by
  have:=hsu.one i a0 o oa s ho hoa z hds;omega
 have hatn:∀j,j≠i->j≠a0->hat (z0g A ops.toList) (z4s L i) j=hat (z0g A ops.toList) L j:=fun j hj hj2=>by
  unfold hat;rw[z0f hj];cases hcj:(z0g A ops.toList).getD j none with
  | none=>rfl | some c=>
   have:c≠i:=fun z=>hj2 (only j (by rw[hcj,z]))
   simp only[z0f this]
 have hWs:WrI ops (z0g A ops.toList) i s:= .inr ⟨a0,oa,hca,hoa,hds⟩;have hEs:get (eAt env0 rows) s=get x.eA s:=z2l hrw hx (fun k hk _ hw=>by
  have:=hWs.uniq hsu hw;simp only[Bc] at hk;omega)
 exact {
  cl:=z3s inv.cl ho hd
  st:=hst.sub (y0n hsu hrw ho hx hpi hci (by rw[Dq,z0q]) (fun t hdt hlt=>by rw[he,hdt];exact z5y (by rw[Dq,hP];exact hlt)) (fun t hdt=>by
   by_cases e:t=s
   .subst e;by_cases hlt:t<env0.length
    .right;have hm:hat (z0g A ops.toList) (z4s L i) a0=true:=by
      unfold hat;rw[hca,z0o hLa];exact z1q
     rw[z1x hE,Al (z8x.mpr ⟨a0,oa,hoa,hds,hm⟩),hEs,he,z1h hdne,z0m,z0m,Al ⟨rfl,by rw[hP];exact hlt⟩,Al ⟨rfl,by rw[z0q];exact hlt⟩]
    .left;exact z2j (by rw[z0q];exact Fz hlt)
   .right;rw[z0m,Ao (fun z=>e z.1.symm),z1x hE,z1x hE];have:wr ops t (hat (z0g A ops.toList) (z4s L i))=wr ops t (hat (z0g A ops.toList) L):=by
     have nn:∀j q,ops[j]? =some q->q.dst=some t->j≠i/\j≠a0:=fun j q a1 a2=>by
      refine⟨fun z=> ?_,fun z=> ?_⟩
      .subst z;rw[ho] at a1;cases a1;exact hdt a2
      .subst z;rw[hoa] at a1;cases a1;rw[hds] at a2;cases a2;exact e rfl
     rw[Cd,z8x,z8x];constructor
     .rintro⟨j,q,a1,a2,a3⟩
      exact⟨j,q,a1,a2,by rw[←hatn j (nn j q a1 a2).1 (nn j q a1 a2).2];exact a3⟩
     .rintro⟨j,q,a1,a2,a3⟩
      exact⟨j,q,a1,a2,by rw[hatn j (nn j q a1 a2).1 (nn j q a1 a2).2];exact a3⟩
    rw[this])) (by rw[z0q,z1i,Dq,z0q])
  pos:=hpos
  reb:=(inv.reb.adopt inv.st hpk ⟨a0,hrb⟩).mono (fun b=>by
   constructor
   .rintro⟨⟨a1,q⟩,hne⟩
    refine⟨a1,A6.mpr ⟨q,?_⟩⟩;have:a1≠a0:=fun z=>hne ((inv.pf3 _ _ _ _ q hrb).mp z)
    simpa using this
   .rintro⟨a1,q⟩
    obtain⟨q1,q2⟩:=A6.mp q;have q2:a1≠a0:=by simpa using q2
    exact⟨⟨a1,q1⟩,fun z=>q2 ((inv.pf3 _ _ _ _ q1 hrb).mpr z)⟩) (fun t ⟨a1,q,c,z1,z2,z3,z4⟩=>⟨a1,q,c,z1,z2,z3,z0o z4⟩)
  pf1:=fun a1 c h1 h2 h3=>by
   have n1:a1≠i:=fun z=>by rw[z,hci] at h1;cases h1
   have n2:c≠i:=fun z=>by rw[z,z1q] at h3;cases h3
   rw[z0f n1] at h2;rw[z0f n2] at h3;obtain⟨rb',q⟩:=inv.pf1 a1 c h1 h2 h3;refine⟨rb',A6.mpr ⟨q,?_⟩⟩;have:a1≠a0:=fun z=>by rw[z,hca] at h1;cases h1;exact n2 rfl
   simpa using this
  pf2:=fun a1 rb' hm=>by
   obtain⟨q1,q2⟩:=A6.mp hm;have q2:a1≠a0:=by simpa using q2
   obtain⟨c,q,s',blk',z1,z2,z3,z4,z5,z6⟩:=inv.pf2 a1 rb' q1;have n2:c≠i:=fun z=>q2 (only a1 (by rw[z1,z]))
   exact⟨c,q,s',blk',z1,z0o z2,by rw[z0f n2];exact z3,z4,z5,z6.keep2 inv.st (fun z=>q2 ((inv.pf3 _ _ _ _ q1 hrb).mpr z))⟩
  pf3:=fun a1 a2 rb1 rb2 h1 h2=>inv.pf3 _ _ _ _ (A6.mp h1).1 (A6.mp h2).1}
theorem EV.ok (ok:TyOk P A) (hV:LvlOk P A V) (hgd:C.gd=A.gd) (h:St C env H B a w) {d:D} (hev:EV A V env H o d H') {K:Act->World->Prop} {Q:Exit->Act->World->Prop}
 (hK:∀v B' w',St C env H' B' a w' ->CR (C.N B') (C.Np B') H' B' w' d v->K (a.put o.dst v) w'):o.wp P a w K Q:=by
 rcases hev with he | ⟨c,f,ds,hop,hc,he⟩
 .obtain⟨v,B',w',h1,h2,h3⟩:=y4u ok h he rfl;rcases h1 with h1 | ⟨h1,rfl⟩
  .simp only[Oper.wp,h1,Oper.upon];exact hK _ _ _ h2 h3
  .simp only[Oper.wp,h1,Oper.upon];exact hK _ _ _ h2 h3
 .obtain⟨x0,u,y,rs,H2,r0,he0,hp,hy,hrs,hr0,hk⟩:=z3b he;have hb:=(hV f x0 y hy).1;obtain⟨args,h1,h2⟩:=z4k h hop hc hb;obtain⟨_,d',H2',hk',hcalls⟩:=z9z hV hgd h h1 he;cases hk';simp only[Oper.wp,h2,Oper.upon];refine Calls.mono hcalls ?_
  rintro e w' ⟨v,rfl,B2,h3,h4⟩
  exact hK v B2 w' h3 h4
theorem EV.congr {d:D} (h:Same o.op env env') (k:EV A V env H o d H'):EV A V env' H o d H' :=by
 rcases k with k | ⟨c,f,ds,hop,hc,he⟩
 .exact .inl (by rw[←z8g h];exact k)
 .exact .inr ⟨c,f,ds,hop,by rw[←z3v (by rw[←hop];exact h)];exact hc,he⟩
theorem y2w {listed:Array Bool} (hs:Sure ops) (hsz:listed.size=ops.size) (h:Region.ready .any ops listed= []):∀j,j<ops.size->listed.getD j false=true:=by
 intro j
 induction j using Nat.strongRecOn with
 | _ j ih=>
  intro hj;cases hc:listed.getD j false with
  | true=>rfl | false=>
   exfalso;have hm:j∈Region.ready .any ops listed:=by
    rw[mem_ready];have hjl:j<listed.size:=by omega
    refine⟨?_,ops[j],Do hj,fun x hx hbx=> ?_⟩
    .simp[Cy,hjl] at hc ⊢;exact hc
    .have:=hs.after j _ (Do hj) x hx hbx;exact ih _ this (by omega)
   rw[h] at hm;cases hm
theorem y6x (ok:TyOk P A) (hV:LvlOk P A V) (hgd:C.gd=A.gd) (hsu:Sure ops) (hrw:Rok A V ops env0 H0 rows) (hlen:rows.length=ops.size)
 (hu:∀a0 c oa s,(z0g A ops.toList).getD a0 none=some c->ops[a0]? =some oa->oa.dst=some s->get env0 s= .undef) {Q:Exit->Act->World->Prop}
 (hQ:∀B a w,St C (eAt env0 rows) (hAt H0 rows) B a w->Q .normal a w) (hf:∀(i:Nat) o,ops[i]? =some o->y5h C o) (hsz0:∀a0 c oa s,(z0g A ops.toList).getD a0 none=some c->ops[a0]? =some oa->oa.dst=some s->s<C.nt):
 ∀(fuel:Nat) (listed:Array Bool) (pf:List (Nat×Nat)) (C1:Cx) (H:z0a) (B:List (Option Nat)) (a:Act) (w:World),listed.size=ops.size->cnt (fun j=>listed.getD j false) ops.size<=fuel->
  Inv A ops C env0 H0 rows (fun j=>listed.getD j false) pf C1 H B a w->wpAny P .any ops Q fuel listed a w:=by
 have hE:(eAt env0 rows).length=env0.length:=z1o hrw
 have fin:∀(listed:Array Bool) (pf:List (Nat×Nat)) (C1:Cx) (H:z0a) (B:List (Option Nat)) (a:Act) (w:World),(∀j,j<ops.size->listed.getD j false=true)->
  Inv A ops C env0 H0 rows (fun j=>listed.getD j false) pf C1 H B a w->Q .normal a w:=by
  intro listed pf C1 H B a w hall inv;have hpf:pf= [] :=by
   cases pf with
   | nil=>rfl | cons q pf=>
    obtain⟨a0,rb⟩:=q;obtain⟨c,oa,s,blk,z1,z2,z3,_⟩:=inv.pf2 a0 rb (C9 ..);obtain⟨_,_,_,q,_,_,_,hq,_⟩:=z0h z1;rw[hall c (Cj.1 hq).1] at z3;cases z3
  subst hpf;have hb:=inv.st.back (inv.reb.mono (pk' :=fun _=>False) (fun b=>by simp) (fun _ q=>q));obtain⟨s,hs,hH,hp⟩:=inv.pos;have hHr:hAt H0 rows=H:=by
   rw[hH];refine z7h hrw hs (fun y r t ad hy hl hk=> ?_);have hl2:=hy.length_le;simp only[Bc] at hl2;have:=(hp y r t ad hy hk).mp (hall r.length (by omega));omega
  rw[←hHr] at hb;refine hQ B a w (hb.sub (fun t=> .inr ?_) (by rw[z0q,hE]));rw[z1x hE];by_cases hw:∃(j:Nat) (q:Oper),ops[j]? =some q/\q.dst=some t
  .obtain⟨j,q,a1,a2⟩:=hw;rw[Al (z8x.mpr ⟨j,q,a1,a2,by
    unfold hat;have:=hall j (Cj.1 a1).1;simp only[this,Bz];split
    .rfl
    .rename_i c hc;obtain⟨_,_,_,q',_,_,_,hq,_⟩:=z0h hc;exact hall c (Cj.1 hq).1⟩)]
  .rw[Ao (fun z=>by
    obtain⟨j,q,a1,a2,_⟩:=z8x.mp z;exact hw ⟨j,q,a1,a2⟩)]
   exact(z2l hrw G9 (fun k _ _ z=>by
    obtain⟨j,q,a1,a2,_⟩:=z.op;exact hw ⟨j,q,a1,a2⟩))
 intro fuel
 induction fuel with
 | zero=>
  intro listed pf C1 H B a w hsz hc inv;have hall:=y0b ops.size (Nat.le_zero.mp hc);refine⟨?_,fin listed pf C1 H B a w hall inv⟩;cases hr:Region.ready .any ops listed with
  | nil=>rfl | cons j rest=>
   have hm:j∈Region.ready .any ops listed:=by rw[hr];simp
   rw[mem_ready] at hm;obtain⟨h0,o,ho,_⟩:=hm;have hj:=(Cj.1 ho).1;have:=hall j hj;have hjl:j<listed.size:=by omega
   simp[Cy,hjl] at h0 this;rw[h0] at this;cases this
 | succ fuel ih=>
  intro listed pf C1 H B a w hsz hc inv;refine⟨fun hr=>fin listed pf C1 H B a w (y2w hsu hsz hr) inv,fun i hi=> ?_⟩;rw[mem_ready] at hi;obtain⟨h0,o,ho,hall⟩:=hi;have hio:=(Cj.1 ho).1;have hil:i<listed.size:=by omega
  have h0' :listed.getD i false=false:=by simp[Cy,hil] at h0 ⊢;exact h0
  have hd:∀x∈o.after,Region.binds .any x=true->listed.getD x.on false=true:=hall;have hsetL:(fun j=>(listed.setIfInBounds i true).getD j false)=z4s (fun j=>listed.getD j false) i:=by
   funext j
   unfold z4s;by_cases e:j=i
   .subst e;simp[hil]
   .rw[Ao e];exact getD_set_ne false (fun z=>e z.symm)
  have hsz' :(listed.setIfInBounds i true).size=ops.size:=by simp[hsz]
  have hcnt:cnt (fun j=>(listed.setIfInBounds i true).getD j false) ops.size<=fuel:=by
   have:=y4t (p:=fun j=>listed.getD j false) (q:=fun j=>(listed.setIfInBounds i true).getD j false) (fun j hj=>getD_set_true hj) h0' (by simp[hil]) ops.size hio;omega
  have next:∀pf' C' H' B' a' w',Inv A ops C env0 H0 rows (z4s (fun j=>listed.getD j false) i) pf' C' H' B' a' w' ->wpAny P .any ops Q fuel (listed.setIfInBounds i true) a' w' :=fun pf' C' H' B' a' w' h=>
   ih _ pf' C' H' B' a' w' hsz' hcnt (by rw[hsetL];exact h)
  obtain⟨x,pre,hx,hpi⟩:=y7t (l:=rows) (i:=i) (by omega);obtain⟨_,o',ho',hfact⟩:=hrw.suf hx;rw[hpi] at ho';rw[ho] at ho';cases ho';have hP:(eAt env0 pre).length=env0.length:=z1o (hrw.suf (z1w hx));have hrd:=fun t hr hne=>y4k hsu hrw inv.cl ho h0' hd hx hpi (t:=t) hr hne
  have hfree:∀t,o.dst=some t->C1.fx.getD t false=false:=fun t ht=>by
   cases z:C1.fx.getD t false with
   | false=>rfl | true=>
    rcases inv.reb.fx2 t z with q | ⟨a0,q,c,z1,z2,z3,z4⟩
    .rw[hf i o ho t ht] at q;cases q
    .have:=hsu.one a0 i q o t z2 ho z3 ht;subst this;have z4:listed.getD a0 false=true:=z4;rw[h0'] at z4;cases z4
  unfold wpOp;simp only[ho];have hfact0:=hfact;unfold y0u at hfact;rw[hpi] at hfact;cases hk:x.kd with
  | pend=>
   rw[hk] at hfact;obtain⟨⟨c,hci⟩,he,_⟩:=hfact;obtain⟨o',s,blk,q,ho2,hp,_⟩:=z0h hci;rw[ho] at ho2;cases ho2;obtain⟨hg,hds,cs,el,hrun,hfit⟩:=y4j (P:=P) (a:=a) (w:=w) ok hp;have hwant:Region.wanted o (yielded ops a.tmps)=true:=by unfold Region.wanted;rw[hg]
   rw[hwant,Al rfl];left;simp only[Oper.wp,hrun,Oper.upon];refine next _ _ _ _ _ _ (inv.pend hsu hrw (hf i o ho) ho h0' hd hx hpi hk hci hp (hu i c o s hci ho hds) hfit ?_)
   rw[inv.st.siz,inv.reb.nt];exact hsz0 i c o s hci ho hds
  | free=>
   rw[hk] at hfact;obtain⟨hci,he,_,hv⟩:=hfact;have hnc:∀a0,(z0g A ops.toList).getD a0 none≠some i:=fun a0 z=>by
    obtain⟨_,_,_,_,z1,_⟩:=y3w hsu hrw hx (a0:=a0) (by rw[hpi];exact z);rw[hk] at z1;cases z1
   have hrd' :=fun t hr=>hrd t hr (fun a0 q z=>absurd z (hnc a0))
   have hsame:Same o.op (eAt env0 pre) (mix ops env0 (eAt env0 rows) (hat (z0g A ops.toList) fun j=>listed.getD j false)):=Same.tmps fun t ht=>hrd' t (.inl ht)
   have hwant:∀ {b},Want ops.toList (eAt env0 pre) o b->Want ops.toList (mix ops env0 (eAt env0 rows) (hat (z0g A ops.toList) fun j=>listed.getD j false)) o b:=fun {b} hw=>
    hw.congr fun g want t hg ht=>hrd' t (.inr ⟨g,want,hg,by simpa using ht⟩)
   have hpos:=inv.posN hx hpi (fun t ad z=>by rw[hk] at z;cases z);rcases hv with ⟨hw,hpu,hn⟩ | ⟨hw,hdd⟩
   .rw[z2o inv.st (hwant hw),Al rfl];left;have hnv:NV A V H (mix ops env0 (eAt env0 rows) (hat (z0g A ops.toList) fun j=>listed.getD j false)) o x.d:=by
     refine NV.congr hsame (.inl ?_);rw[y2v (H' := []) hpu];exact hn
    exact y3p ok hV (inv.reb.gd.trans hgd) inv.st hnv (fun v w' k1 k2=>next _ _ _ _ _ _ (inv.step hsu hrw ho h0' hd hx hpi hci hnc he (k1.put k2 o.dst hfree) hpos))
   .rw[z2o inv.st (hwant hw),Ao (by simp)];exact next _ _ _ _ _ _ (inv.step hsu hrw ho h0' hd hx hpi hci hnc he (inv.st.put (by rw[hdd];exact z9q) o.dst hfree) hpos)
  | neu R=>
   rw[hk] at hfact;obtain⟨hci,had,he,_,hw,hnr,hne⟩:=hfact;have hnc:∀a0,(z0g A ops.toList).getD a0 none≠some i:=fun a0=>z1s had
   have hrd' :=fun t hr=>hrd t hr (fun a0 q z=>absurd z (hnc a0))
   have hsame:Same o.op (eAt env0 pre) (mix ops env0 (eAt env0 rows) (hat (z0g A ops.toList) fun j=>listed.getD j false)):=Same.tmps fun t ht=>hrd' t (.inl ht)
   have hwant:Want ops.toList (mix ops env0 (eAt env0 rows) (hat (z0g A ops.toList) fun j=>listed.getD j false)) o true:=hw.congr fun g want t hg ht=>hrd' t (.inr ⟨g,want,hg,by simpa using ht⟩)
   have hpos:=inv.posN hx hpi (fun t ad z=>by rw[hk] at z;cases z);rw[z2o inv.st hwant,Al rfl];left;have hnv:=NV.congr hsame (inv.neu hrw ho h0' hd hx hpi hk (by rw[hpi];exact hnr) (by rw[hpi];exact hne));exact y3p ok hV (inv.reb.gd.trans hgd) inv.st hnv (fun v w' k1 k2=>next _ _ _ _ _ _ (inv.step hsu hrw ho h0' hd hx hpi hci hnc he (k1.put k2 o.dst hfree) hpos))
  | eff t ad=>
   rw[hk] at hfact;obtain⟨hci,hw,hord,heo,_,hv⟩:=hfact;obtain⟨hH,hpos⟩:=inv.heap hrw ho h0' hd hx hpi hk (by rw[hpi];exact hord);have hpos' :x.hA=hAt H0 (x::pre):=rfl;cases ad with
   | none=>
    obtain⟨had,hev,he⟩:=hv;have hnc:∀a0,(z0g A ops.toList).getD a0 none≠some i:=fun a0=>z1s had
    have hrd' :=fun t hr=>hrd t hr (fun a0 q z=>absurd z (hnc a0))
    have hsame:Same o.op (eAt env0 pre) (mix ops env0 (eAt env0 rows) (hat (z0g A ops.toList) fun j=>listed.getD j false)):=Same.tmps fun t ht=>hrd' t (.inl ht)
    have hwant:Want ops.toList (mix ops env0 (eAt env0 rows) (hat (z0g A ops.toList) fun j=>listed.getD j false)) o true:=hw.congr fun g want t hg ht=>hrd' t (.inr ⟨g,want,hg,by simpa using ht⟩)
    rw[z2o inv.st hwant,Al rfl];left;rw[←hH] at hev;exact(hev.congr hsame).ok ok hV (inv.reb.gd.trans hgd) inv.st (fun v B' w' k1 k2=>next _ _ _ _ _ _ (inv.step hsu hrw ho h0' hd hx hpi hci hnc he (k1.put k2 o.dst hfree) ⟨_,hx,rfl,hpos⟩))
   | some sb=>
    obtain⟨s,blk⟩:=sb;obtain⟨⟨a0,had,hpb⟩,hev,he⟩:=hv;have hca:=z1t had;cases hoa:ops[a0]? with
    | none=>rw[hoa] at hpb;cases hpb | some oa=>
     rw[hoa] at hpb;have hpb:z0i A oa=some (s,blk):=hpb;have hds:=(z0e hpb).2;obtain⟨oa',s',blk',oc,hoa',hp',hac,hoc,hcs,hbit,hall'⟩:=z0h hca;rw[ho] at hoc;cases hoc;have hg:o.guard=none:=(z3c (A:=A) hcs).1;have hLa:listed.getD a0 false=true:=z0k inv.cl ho hd hbit;obtain⟨rb,hrb⟩:=inv.pf1 a0 i hca hLa h0';obtain⟨c',oa2,s2,blk2,z1,z2,z3,z4,z5,z6⟩:=inv.pf2 a0 rb hrb;rw[hoa] at z4;cases z4;rw[hpb] at z5;cases z5;have only:∀a1 q t,(z0g A ops.toList).getD a1 none=some i->ops[a1]? =some q->t≠s->q.dst≠some t:=fun a1 q t y1 y2 y3 y4=>by
      obtain⟨o1,s1,b1,q1,x1,x2,x3,x4,x5,_⟩:=z0h y1;rw[ho] at x4;cases x4;rw[hcs] at x5;cases x5;rw[y2] at x1;cases x1;obtain⟨o3,s3,b3,q3,w1,w2,w3,w4,w5,_⟩:=z0h hca;rw[ho] at w4;cases w4;rw[hcs] at w5;cases w5;rw[hoa] at w1;cases w1;rw[hpb] at w2;cases w2;rw[(z0e x2).2] at y4;cases y4;exact y3 rfl
     have hwant:Region.wanted o (yielded ops a.tmps)=true:=by unfold Region.wanted;rw[hg]
     rw[hwant,Al rfl];left;have hst:=inv.st.adopt z6;rw[←hH] at hev he;have hsame:Same o.op ((eAt env0 pre).set s (z1p H.length blk)) ((mix ops env0 (eAt env0 rows) (hat (z0g A ops.toList) fun j=>listed.getD j false)).set s (z1p H.length blk)):=Same.tmps fun t ht=>by
      rw[z0m,z0m,hP,z0q];by_cases e:s=t/\t<env0.length
      .rw[Al e,Al e]
      .rw[Ao e,Ao e];by_cases e2:t=s
       .subst e2;have hge:env0.length<=t:=Fz fun z=>e ⟨rfl,z⟩
        rw[z2j (by omega),z2j (by rw[z0q];omega)]
       .exact hrd t (.inl ht) (fun a1 q y1 y2=>only a1 q t y1 y2 e2)
     rw[z8g hsame] at hev;refine EV.ok (C:=C1.adopt B w rb) ok hV (show(C1.adopt B w rb).gd=A.gd from inv.reb.gd.trans hgd) hst (.inl hev) (fun v B' w' k1 k2=>next _ _ _ _ _ _ (inv.used hsu hrw ho h0' hd hx hpi hci hca hoa hpb hrb z6 he (k1.put k2 o.dst hfree) ⟨_,hx,rfl,hpos⟩))
end
end Go.Proofs.YtkphhjdbdnoekaaGreatDoor.Ab
