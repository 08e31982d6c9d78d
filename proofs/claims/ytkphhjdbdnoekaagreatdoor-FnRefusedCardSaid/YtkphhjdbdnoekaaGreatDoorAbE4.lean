import Derived.Test.YtkphhjdbdnoekaaGreatDoorAbD7
namespace Go.Proofs.YtkphhjdbdnoekaaGreatDoor.Ab
open Go
set_option linter.unusedVariables false
set_option linter.unusedSimpArgs false
set_option linter.unnecessarySimpa false
section
variable {P:Program} {A:Ann} {V:Lvl A} {all:List Oper} {C:Cx} {env env' :List D} {H:z0a} {B:List (Option Nat)} {a:Act} {w w' :World}
def Same (op:Op) (env env' :List D):Prop:= ∀x∈op.operands,opd env x=opd env' x
theorem z3o {ps:Array (Nat×Operand)} (h:∀x∈ps.map (·.2),opd env x=opd env' x):
 (ps.toList.map fun p=>(p.1,opd env p.2))=(ps.toList.map fun p=>(p.1,opd env' p.2)):=
 Ff fun p hm=>by
  have:=h p.2 (Array.mem_map.2 ⟨p,by simpa using hm,rfl⟩);rw[this]
theorem z6n {ps:Array Operand} (h:∀x∈ps,opd env x=opd env' x):ps.toList.map (opd env)=ps.toList.map (opd env'):=
 Ff fun p hm=>h p (by simpa using hm)
theorem y2p {op:Op} (h:Same op env env'):nev A env H op=nev A env' H op:=by
 cases op<;>simp only[Same,Op.operands] at h<;>simp only[nev] <;>try rfl
 case build t ps=>
  rw[z3o (fun x hx=>h x (by simpa using hx))]
 case makeFunc f fs cs=>
  cases f<;>simp only[] <;>try rfl
  rw[z6n (ps:=cs) fun x hx=>h x (by simp[hx])]
 case call c=>
  have hc:∀x∈c.args,opd env x=opd env' x:=fun x hx=>h x (by simp[Call.operands,hx])
  split
  .rename_i x h1 h2;have:opd env x=opd env' x:=hc x (by rw[←Db,h2];simp);rw[this]
  .rename_i x h1 h2;have:opd env x=opd env' x:=hc x (by rw[←Db,h2];simp);rw[this]
  .rename_i x y h1 h2;have e1:opd env x=opd env' x:=hc x (by rw[←Db,h2];simp);have e2:opd env y=opd env' y:=hc y (by rw[←Db,h2];simp);rw[e1,e2]
  .rename_i x y h1 h2;have e1:opd env x=opd env' x:=hc x (by rw[←Db,h2];simp);have e2:opd env y=opd env' y:=hc y (by rw[←Db,h2];simp);rw[e1,e2]
  .rfl
 case slice t x lo hi mx=>cases lo<;>cases hi<;>cases mx<;>simp_all [nev]
 all_goals (simp_all)
theorem y0z {op:Op} (h:Same op env env'):z8l A env H op=z8l A env' H op:=by
 cases op<;>simp only[Same,Op.operands] at h<;>simp only[z8l] <;>try rfl
 case buildSlice t n ps=>
  rw[z3o (fun x hx=>h x (by simpa using hx))]
theorem z7x {c:Call} (h:Same (.call c) env env'):callee env c=callee env' c:=by
 simp only[Same,Op.operands] at h;have hc:∀x∈c.args,opd env x=opd env' x:=fun x hx=>h x (by simp[Call.operands,hx])
 unfold callee;split
 .rename_i f hf;have:opd env f=opd env' f:=h f (by simp[Call.operands,hf]);rw[this,z6n hc]
 .rfl
theorem z3v {c:Call} (h:Same (.call c) env env'):z0s A env c=z0s A env' c:=by
 unfold z0s;rw[z7x h]
theorem z4x {c:Call} {f:Nat} {ds:List D} (h:z0s A env c=some (f,ds)):callee env c=some (A.fn f,ds):=by
 unfold z0s at h;split at h
 .rename_i g ds' hc;split at h
  .rename_i e;have e:=Av e;simp only[Ac,Ak] at h;obtain⟨rfl,rfl⟩:=h;rw[e];exact hc
  .cases h
 .cases h
def CallNV (A:Ann) (V:Lvl A) (H:z0a) (f:Nat) (ds:List D) (d:D):Prop:=
 ∃x u y,ext true H (A.sig f).ins ds [] =some (x, [],u)/\(((A.sig f).out.perm || !u.lent)&&u.ids.isEmpty&&(A.sig f).inout.isEmpty&&z3j (A.sig f).out)=true/\
  V.call f x=some y/\d=y5a ((z7s (A.sig f).out y).take (A.sig f).nres)
def NV (A:Ann) (V:Lvl A) (H:z0a) (env:List D) (o:Oper) (d:D):Prop:=
 nev A env H o.op=some (true,d)\/z8l A env H o.op=some d\/ ∃c f ds,o.op= .call c/\z0s A env c=some (f,ds)/\CallNV A V H f ds d
theorem NV.congr {o:Oper} {d:D} (h:Same o.op env env') (k:NV A V H env o d):NV A V H env' o d:=by
 rcases k with k | k | ⟨c,f,ds,h1,h2,h3⟩
 .exact .inl (by rw[←y2p h];exact k)
 .exact .inr (.inl (by rw[←y0z h];exact k))
 .exact .inr (.inr ⟨c,f,ds,h1,by rw[←z3v (by rw[←h1];exact h)];exact h2,h3⟩)
def Want (all:List Oper) (env:List D) (o:Oper) (b:Bool):Prop:=
 match o.guard with
 | none=>b=true | some (j,want)=> ∃t,(all[j]?).bind (·.dst)=some t/\((∃c,get env t= .bool c/\b=(c==want))\/(get env t= .tup [] /\b=false))
def OpV (A:Ann) (V:Lvl A) (all:List Oper) (H:z0a) (env:List D) (o:Oper) (d:D):Prop:=
 (Want all env o true/\NV A V H env o d)\/(Want all env o false/\d= .tup [])
inductive Tr (A:Ann) (V:Lvl A) (all:List Oper) (H:z0a):List Oper->List D->List D->Prop
 | nil (env:List D):Tr A V all H [] env env | cons {o:Oper} {os:List Oper} {env E:List D} {d:D} :OpV A V all H env o d->Tr A V all H os (z1f env o.dst d) E->Tr A V all H (o::os) env E
theorem y4m {t:Nat} {d:D} (h:get env t=d):env.set t d=env:=by
 by_cases hl:t<env.length
 .subst h;have:get env t=env[t] :=by simp[get,hl]
  rw[this];exact List.set_getElem_self hl
 .exact Gb (by omega)
theorem z3n {R:Type} {o:Oper} {yes no:List D->Option R} {r:R} (h:z5b R all o env yes no=some r):
 (Want all env o true/\yes env=some r)\/(Want all env o false/\no env=some r):=by
 unfold z5b at h;cases hg:o.guard with
 | none=>rw[hg] at h;exact .inl ⟨by simp[Want,hg],h⟩ | some g=>
  obtain⟨j,want⟩:=g;rw[hg] at h;simp only at h;cases ht:(all[j]?).bind (·.dst) with
  | none=>rw[ht] at h;cases h | some t=>
   rw[ht] at h;simp only at h;cases hb:get env t<;>rw[hb] at h<;>(try simp only at h)<;>try (cases h;done)
   case tup vs=>
    cases vs with
    | cons _ _=>cases h | nil=>exact .inr ⟨by unfold Want;rw[hg];exact⟨t,ht, .inr ⟨hb,rfl⟩⟩,h⟩
   rename_i b;have hw:∀c,(b==want)=c->Want all env o c:=fun c hc=>by
    unfold Want;rw[hg];exact⟨t,ht, .inl ⟨b,hb,hc.symm⟩⟩
   cases want<;>cases b<;>simp only[cond] at h<;>rw[y4m hb] at h
   .exact .inl ⟨hw _ rfl,h⟩
   .exact .inr ⟨hw _ rfl,h⟩
   .exact .inr ⟨hw _ rfl,h⟩
   .exact .inl ⟨hw _ rfl,h⟩
theorem z6o {R:Type} {f:Nat} {ds:List D} {K:D->Option R} {r:R} (h:z9e A V R f ds H K=some r):∃d,CallNV A V H f ds d/\K d=some r:=by
 unfold z9e at h;split at h
 .rename_i x u he;split at h
  .rename_i hc;cases hy:V.call f x with
   | none=>rw[hy] at h;cases h | some y=>
    rw[hy] at h;exact⟨_,⟨x,u,y,he,hc,hy,rfl⟩,h⟩
  .cases h
 .cases h
theorem z6b {R:Type} {K:List D->Option R} {r:R} :∀ {ops:List Oper} {env:List D},y2y A V R all H K ops env=some r-> ∃E,Tr A V all H ops env E/\K E=some r
 | [],env,h=>⟨env, .nil env,h⟩ | o::os,env,h=>by
  simp only[y2y] at h;rcases z3n h with ⟨hw,h⟩ | ⟨hw,h⟩
  .split at h
   .rename_i g d he;cases g with
    | false=>cases h | true=>
     obtain⟨E,h1,h2⟩:=z6b h;exact⟨E, .cons (.inl ⟨hw, .inl he⟩) h1,h2⟩
   .split at h
    .rename_i d he;obtain⟨E,h1,h2⟩:=z6b h;exact⟨E, .cons (.inl ⟨hw, .inr (.inl he)⟩) h1,h2⟩
    .split at h
     .rename_i c ho;split at h
      .rename_i f ds hc;obtain⟨d,hd,h⟩:=z6o h;obtain⟨E,h1,h2⟩:=z6b h;exact⟨E, .cons (.inl ⟨hw, .inr (.inr ⟨c,f,ds,ho,hc,hd⟩)⟩) h1,h2⟩
      .cases h
     .cases h
  .obtain⟨E,h1,h2⟩:=z6b h;exact⟨E, .cons (.inr ⟨hw,rfl⟩) h1,h2⟩
end
def z0z:List Bool->List Value->List Value
 | true::bs,d::ds=>d::z0z bs ds | false::bs,_::ds=>z0z bs ds | _,_=> []
def y2x:List Value->Value
 | [v] =>v | vs=> .tuple vs.toArray
def z1n (P:Program) (gd:Guard) (f:Nat) (s:Sig) (x:s.ins.den) (y:s.out.den):Prop:=
 ∀(C:Cx) (B:List (Option Nat)) (args:List Value),C.gd=gd->HS C (emb s.ins x []).2 B C.w0->CRs (C.N B) (C.Np B) (emb s.ins x []).2 B C.w0 (emb s.ins x []).1 args->
  Calls P f args.toArray C.w0 fun e w' =>match e with
   | .returned v=> ∃H1 B1 ds vs u,HS C H1 B1 w' /\CRs (C.N B1) (C.Np B1) H1 B1 w' ds (vs++z0z s.inout args)/\ext false H1 s.out ds [] =some (y, [],u)/\vs.length=s.nres/\v=y2x vs | _=>False
def z4i (P:Program) (f:Nat):Prop:= ∃fn,P.funcs[f]? =some fn/\(fn.name== "runtime.NumGoroutine")=false/\fn.body.isNone=false
def LvlOk (P:Program) (A:Ann) (V:Lvl A):Prop:=
 ∀f x y,V.call f x=some y->z4i P (A.fn f)/\z1n P A.gd (A.fn f) (A.sig f) x y
section
variable {P:Program} {A:Ann} {V:Lvl A} {all:List Oper} {C:Cx} {env env' :List D} {H:z0a} {B:List (Option Nat)} {a:Act} {w w' :World}
theorem CRs.keep {N Np:Nat->Prop} :∀(bs:List Bool) {ds:List D} {vs:List Value},CRs N Np H B w ds vs->CRs N Np H B w (keep bs ds) (z0z bs vs)
 | [],ds,vs,h=>by simp[Ab.keep,z0z,CRs]
 | b::bs, [],vs,h=>by simp only[CRs] at h;subst h;cases b<;>simp[Ab.keep,z0z,CRs]
 | true::bs,d::ds,vs,h=>by
  simp only[CRs] at h;obtain⟨u,us,rfl,h1,h2⟩:=h;simp only[Ab.keep,z0z,CRs];exact⟨_,_,rfl,h1,h2.keep bs⟩
 | false::bs,d::ds,vs,h=>by
  simp only[CRs] at h;obtain⟨u,us,rfl,h1,h2⟩:=h;simp only[Ab.keep,z0z];exact h2.keep bs
theorem y5b {N Np:Nat->Prop} {ds:List D} {vs:List Value} (h:CRs N Np H B w ds vs):CR N Np H B w (y5a ds) (y2x vs):=by
 match ds,vs,h with
 | [],vs,h=>simp only[CRs] at h;subst h;simp only[y5a,y2x,CR];exact⟨_,rfl,by simp[CRs]⟩ | [d],vs,h=>
  simp only[CRs] at h;obtain⟨u,us,rfl,h1,rfl⟩:=h;exact h1
 | d::e::ds,vs,h=>
  have h' :=h;simp only[CRs] at h;obtain⟨u,us,rfl,h1,u2,us2,rfl,h2,h3⟩:=h;simp only[y5a,y2x,CR];exact⟨_,rfl,h'⟩
theorem y5u:∀(s:Sh) (x:s.den) (H H' :z0a),s.norefs=true->H.length=H'.length->(emb s x H).1=(emb s x H').1/\ ∃Hn,(emb s x H).2=H++Hn/\(emb s x H').2=H' ++Hn:=by
 intro s
 induction s with
 | int k=>intro x H H' _ h;exact⟨rfl, [],by simp[emb],by simp[emb]⟩ | bool=>intro x H H' _ h;exact⟨rfl, [],by simp[emb],by simp[emb]⟩ | str=>intro x H H' _ h;exact⟨rfl, [],by simp[emb],by simp[emb]⟩ | tr p t=>intro x H H' _ h;exact⟨rfl, [],by simp[emb],by simp[emb]⟩ | own p t=>intro x H H' _ h;exact⟨by simp[emb,h], [.arr p 0 t x],rfl,rfl⟩ | box s ih=>
  intro x H H' hs h;obtain⟨e1,Hn,e2,e3⟩:=ih x H H' (by exact hs) h;refine⟨by simp only[emb,e2,e3,Ba,h],Hn++ [.box (emb s x H).1],by simp[emb,e2],by simp[emb,e3,e1]⟩
 | rbox s ih=>
  intro x H H' hs h;obtain⟨e1,Hn,e2,e3⟩:=ih x H H' (by exact hs) h;exact⟨by simp only[emb,e1],Hn,e2,e3⟩
 | clo g s ih=>
  intro x H H' hs h;obtain⟨e1,Hn,e2,e3⟩:=ih x H H' (by exact hs) h;exact⟨by simp only[emb,e1],Hn,e2,e3⟩
 | agg s ih=>
  intro x H H' hs h;obtain⟨e1,Hn,e2,e3⟩:=ih x H H' (by exact hs) h;exact⟨by simp only[emb,e1],Hn,e2,e3⟩
 | pair a b iha ihb=>
  intro x H H' hs h;simp only[Sh.norefs,Ai] at hs;obtain⟨e1,Hn,e2,e3⟩:=iha x.1 H H' hs.1 h;obtain⟨f1,Hm,f2,f3⟩:=ihb x.2 (emb a x.1 H).2 (emb a x.1 H').2 hs.2 (by rw[e2,e3];simp[h]);refine⟨by simp only[emb,e1,f1],Hn++Hm,?_,?_⟩
  .simp only[emb];rw[f2,e2];simp
  .simp only[emb];rw[f3,e3];simp
 | unit=>intro x H H' _ h;exact⟨rfl, [],by simp[emb],by simp[emb]⟩ | ref k=>intro x H H' hs h;cases hs | skip=>intro x H H' _ h;exact⟨rfl, [],by simp[emb],by simp[emb]⟩ | nil=>intro x H H' _ h;exact⟨rfl, [],by simp[emb],by simp[emb]⟩
theorem z5o:∀(s:Sh) (x:s.den) (H:z0a),∃Hn,(emb s x H).2=H++Hn:=by
 intro s
 induction s with
 | own p t=>intro x H;exact⟨[.arr p 0 t x],rfl⟩ | box s ih=>intro x H;obtain⟨Hn,e⟩:=ih x H;exact⟨Hn++ [.box (emb s x H).1],by simp[emb,e]⟩ | rbox s ih=>intro x H;obtain⟨Hn,e⟩:=ih x H;exact⟨Hn,e⟩ | clo g s ih=>intro x H;obtain⟨Hn,e⟩:=ih x H;exact⟨Hn,e⟩ | agg s ih=>intro x H;obtain⟨Hn,e⟩:=ih x H;exact⟨Hn,e⟩ | pair a b iha ihb=>
  intro x H;obtain⟨Hn,e⟩:=iha x.1 H;obtain⟨Hm,f⟩:=ihb x.2 (emb a x.1 H).2;exact⟨Hn++Hm,by simp only[emb];rw[f,e];simp⟩
 | _=>intro x H;exact⟨[],by simp[emb]⟩
theorem y8w {u:Used} {id:Nat} :id∈u.ids↔(id,true)∈u:=by
 induction u with
 | nil=>simp[Used.ids] | cons e u ih=>
  obtain⟨i,b⟩:=e;cases b<;>simp[Used.ids,ih]
theorem y4e {u:Used} {id:Nat} (h:(id,false)∈u):u.lent=true:=by
 unfold Used.lent;rw[Cm];exact⟨_,h,rfl⟩
def Moved (B:List (Option Nat)) (u:Used) (b:Nat):Prop:= ∃id,(id,true)∈u/\B[id]? =some (some b)
theorem Moved.has {u:Used} {b:Nat} (h:Moved B u b):Has B b:=by
 obtain⟨id,_,e⟩:=h;exact⟨id,e⟩
def Cx.callee (C:Cx) (B:List (Option Nat)) (u:Used) (w:World):Cx where
 w0:=w
 W0:=Moved B u
 Lb b:=C.Lb b\/(u.lent=false/\Has B b/\ ¬Moved B u b)
 Lp b:=C.Lp b\/(Has B b/\ ¬Moved B u b)
 nt:=0
 fx:= []
 fv:=fun _=>undef
 gd:=C.gd
theorem z2x {N Np N' Np' :Nat->Prop} (h1:∀b,N' b->N b) (h2:∀b,Np' b->Np b):Step N Np N' Np' H B w H B w where
 g:=⟨Au _,fun _ _ _=>rfl,fun b _ q k=>q (h1 b k)⟩
 gp:=⟨Au _,fun _ _ _=>rfl,fun b _ q k=>q (h2 b k)⟩
 len:=Au _
 box:=fun id _ cells e=>⟨⟨_,e⟩,rfl⟩
 arr:=fun id _ p st t l e=>⟨_,_,_,_,e,Au _,fun _=>⟨rfl,rfl,rfl⟩⟩
 cells:=fun _ cs k=>⟨cs,k,rfl⟩
theorem HS.glob (h:HS C H B w) {b:Nat} (q:C.gd.G b): ¬Has B b:=fun⟨id,k⟩=>by
 obtain⟨q1,q2,_⟩:=h.gl b q;rcases(h.alloc id b k).2.2 with z | z
 .exact q2 z
 .omega
theorem HS.gpw (h:HS C H B w):C.gd.pre w:=C.gd.stable _ _ (fun b q=>h.fr.same b (h.gl b q).1 (h.gl b q).2.1) h.gp
theorem y0d (h:HS C H B w) {s:Sh} {ds:List D} {args:List Value} (hc:CRs (C.N B) (C.Np B) H B w ds args) {x:s.den} {u:Used} (he:ext true H s ds [] =some (x, [],u)):
 ∃B0,HS (C.callee B u w) (emb s x []).2 B0 w/\CRs ((C.callee B u w).N B0) ((C.callee B u w).Np B0) (emb s x []).2 B0 w (emb s x []).1 args:=by
 have hex:=z5h he (fun id k=>absurd k (by simp));have hlb:∀b,(C.callee B u w).Lb b->(C.callee B u w).Lp b:=fun b k=>k.elim (fun q=> .inl (h.lb b q)) (fun q=> .inr q.2)
 obtain⟨us,vs',hv,hnil,Bn,L,_⟩:=z2s (Nt:=fun b=>Moved B u b\/(C.callee B u w).Lb b) (Ntp:=fun b=>Moved B u b\/(C.callee B u w).Lp b) (fun b=>Cx.N_Np h.lb) (fun b k=>k.imp id (hlb b)) h.lenB h.blk
  (fun b _ hn k=>hn (by
   rcases k with k | k | k
   .exact .inl k.has
   .exact .inr k
   .exact .inl k.1))
  (fun _ b _ hn k=>hn (by
   rcases k with k | k | k
   .exact .inl k.has
   .exact .inr k
   .exact .inl k.2.1)) he hc
  (fun id rb hid hb=>⟨fun k=>by
   rcases k with ⟨id',h1,h2⟩ | k | k
   .have:=h.nodup _ _ _ hb h2;subst this;exact hex _ h1 hid
   .exact(h.alloc id rb hb).2.1 (h.lb _ k)
   .rw[y4e hid] at k;exact absurd k.1 (by simp),fun q=>by cases q⟩) [] [] rfl (.inr Mp.start)
 simp only[CRs] at hnil;subst hnil;rw[Bw] at hv;subst hv;obtain⟨⟨Hn,e1,e2,e3⟩,hcells,M,m1,m2,m3,m4⟩:=L;rw[Cf] at e1;rw[Cf] at hcells;simp only[Cf] at e3;have hmv:∀i rb:Nat,Bn[i]? =some (some rb)->Moved B u rb:=fun i rb q=>by
  obtain⟨id,k1,k2⟩:=m3 i rb q;exact⟨id,(m2 _ _ k1).1,k2⟩
 have hs:Step (fun b=>Moved B u b\/(C.callee B u w).Lb b) (fun b=>Moved B u b\/(C.callee B u w).Lp b) ((C.callee B u w).N Bn) ((C.callee B u w).Np Bn) (emb s x []).2 Bn w (emb s x []).2 Bn w:=
  z2x (fun b k=>k.imp (fun⟨i,q⟩=>hmv i b q) (fun q=>q)) (fun b k=>k.imp (fun⟨i,q⟩=>hmv i b q) (fun q=>q))
 refine⟨Bn,?_,hcells.step hs⟩
 exact {
  lenB:=by rw[e1,e2]
  nodup:=fun i j rb q1 q2=>by
   obtain⟨id,k1,k2⟩:=m3 i rb q1;obtain⟨jd,k3,k4⟩:=m3 j rb q2;have:=h.nodup _ _ _ k2 k4;subst this;exact m4 _ _ _ k1 k3
  alloc:=fun i rb q=>by
   have hm:=hmv i rb q;obtain⟨id,k1,k2⟩:=hm;have:=h.alloc id rb k2;exact⟨this.1,fun k=>k.elim this.2.1 (fun z=>z.2 (hmv i rb q)), .inl (hmv i rb q)⟩
  blk:=fun i b ob q1 q2=>(e3 i b ob (by rw[←e1];exact q1) q2).step hs (fun _ _=>rfl)
  lb:=hlb
  lp:=fun b k=>by
   rcases k with k | ⟨⟨i,q⟩,_⟩
   .exact Bp (h.lp b k) h.fr.size
   .exact(h.alloc i b q).1
  fr:=Fr.refl _ _
  gl:=fun b q=>by
   refine⟨Bp (h.gl b q).1 h.fr.size,fun k=>h.glob q k.has,fun k=> ?_⟩;rcases k with k | k
   .exact(h.gl b q).2.2 k
   .exact h.glob q k.1
  gp:=h.gpw}
theorem y3x {N Np Nt Ntp:Nat->Prop} {H3:z0a} {B3:List (Option Nat)} (hlt:∀b,N b->Np b) (hl:B3.length=H3.length) (blk:∀(i:Nat) b ob,H3[i]? =some b->B3[i]? =some ob->BR Nt Ntp H3 B3 w b ob)
 (h0:∀b,N b->Nt b) (h1:∀b,Np b->Ntp b) {n:Nat} (hout:∀i rb:Nat,n<=i->B3[i]? =some (some rb)-> ¬Np rb):
 ∀ {s:Sh} {x:s.den} {H2 X:z0a} {us:List Value},z3j s=true->n<=H2.length->H3=(emb s x H2).2++X->CRs Nt Ntp H3 B3 w (emb s x H2).1 us->CRs N Np H B w (z7s s x) us:=by
 intro s
 induction s with
 | int k=>intro x H2 X us hs hn he hc;simpa[emb,z7s,CRs,CR] using hc | bool=>intro x H2 X us hs hn he hc;simpa[emb,z7s,CRs,CR] using hc | str=>intro x H2 X us hs hn he hc;simpa[emb,z7s,CRs,CR] using hc | tr p t=>
  intro x H2 X us hs hn he hc;simp only[emb,z7s,CRs,CR] at hc ⊢;obtain⟨v,vs,rfl,hd,rfl⟩:=hc;refine⟨v,_,rfl,?_,rfl⟩;cases p
  .exact hd.mono ⟨Au _,fun _ _ _=>rfl,fun b _ q k=>q (h0 b k)⟩
  .exact hd.mono ⟨Au _,fun _ _ _=>rfl,fun b _ q k=>q (h1 b k)⟩
 | own p t=>
  intro x H2 X us hs hn he hc;simp only[emb,z7s,CRs,CR] at hc ⊢;simp only[emb] at he;obtain⟨v,vs,rfl,hd,rfl⟩:=hc;refine⟨v,_,rfl,?_,rfl⟩;have hH:H3[H2.length]? =some (.arr p 0 t x):=by rw[he];simp
  have hid:H2.length<B3.length:=by rw[hl,he];simp
  have hB:=A4 hid;refine y0j hH hB (blk _ _ _ hH hB) hd ?_ ?_
  .intro b hb q k;cases p
   .exact q (h0 b k)
   .exact q (h1 b k)
  .intro rb e k;have:=hout _ rb hn (by rw[hB,e]);cases p
   .exact this (hlt _ k)
   .exact this k
 | box s ih=>intro x H2 X us hs;cases hs | rbox s ih=>intro x H2 X us hs;cases hs | clo g s ih=>intro x H2 X us hs;cases hs | agg s ih=>
  intro x H2 X us hs hn he hc;simp only[emb,z7s,CRs,CR] at hc ⊢;obtain⟨v,vs,rfl,⟨ws,rfl,hd⟩,rfl⟩:=hc;exact⟨_,_,rfl,⟨ws,rfl,ih (by exact hs) hn he hd⟩,rfl⟩
 | pair a b iha ihb=>
  intro x H2 X us hs hn he hc;simp only[z3j,Ai] at hs;simp only[emb] at hc he;simp only[z7s];obtain⟨Hn,ea2⟩:=z5o a x.1 H2;obtain⟨Hm,eb2⟩:=z5o b x.2 (emb a x.1 H2).2;have hlen:=hc.length;obtain⟨us1,us2,rfl,k1,k2⟩:∃us1 us2,us=us1++us2/\CRs Nt Ntp H3 B3 w (emb a x.1 H2).1 us1/\CRs Nt Ntp H3 B3 w (emb b x.2 (emb a x.1 H2).2).1 us2:=by
   refine⟨us.take (emb a x.1 H2).1.length,us.drop (emb a x.1 H2).1.length,by simp,?_,?_⟩
   .have:=hc.take (emb a x.1 H2).1.length;simpa using this
   .have:=hc.drop (emb a x.1 H2).1.length;simpa using this
  exact(iha hs.1 hn (X:=Hm++X) (by rw[he,eb2];simp) k1).append (ihb hs.2 (by rw[ea2];simp;omega) he k2)
 | unit=>intro x H2 X us hs hn he hc;simpa[emb,z7s,CRs] using hc | ref k=>intro x H2 X us hs;cases hs | skip=>intro x H2 X us hs;cases hs | nil=>intro x H2 X us hs;cases hs
end
section
variable {P:Program} {A:Ann} {V:Lvl A} {all:List Oper} {C:Cx} {env env' :List D} {H:z0a} {B:List (Option Nat)} {a:Act} {w w' :World}
theorem y1w (h:HS C H B w) {u:Used} {H1:z0a} {B1:List (Option Nat)} (k:HS (C.callee B u w) H1 B1 w') (hu:∀id,(id,true) ∉ u):
 Step (C.N B) (C.Np B) (C.N B) (C.Np B) H B w H B w' :=by
 have hmv:∀b,¬Moved B u b:=fun b q=>by obtain⟨id,k1,_⟩:=q;exact hu id k1
 exact {
  g:=⟨k.fr.size,fun b hb _=>k.fr.same b hb (hmv b),fun _ _ q=>q⟩
  gp:=⟨k.fr.size,fun b hb _=>k.fr.same b hb (hmv b),fun _ _ q=>q⟩
  len:=Au _
  box:=fun id _ cells e=>⟨⟨_,e⟩,rfl⟩
  arr:=fun id _ p st t l e=>⟨_,_,_,_,e,Au _,fun _=>⟨rfl,rfl,rfl⟩⟩
  cells:=k.fr.cells}
theorem z7y (h:HS C H B w) {u:Used} {H1:z0a} {B1:List (Option Nat)} (k:HS (C.callee B u w) H1 B1 w'):Fr C.W0 C.w0 w' :=
 h.fr.trans' k.fr.size (fun b hb hn=>k.fr.same b (Bp hb h.fr.size) (fun⟨id,_,e⟩=>by
  rcases(h.alloc id b e).2.2 with q | q
  .exact hn q
  .omega)) k.fr.cells k.fr.os k.fr.tape k.fr.output
theorem z1g:∀s:Sh,z3j s=true->s.norefs=true
 | .int _,_ | .bool,_ | .str,_ | .tr _ _,_ | .own _ _,_ | .unit,_=>rfl | .agg s,h=>z1g s h | .pair a b,h=>by
  simp only[z3j,Ai] at h;simp only[Sh.norefs,Ai];exact⟨z1g a h.1,z1g b h.2⟩
 | .box _,h | .rbox _,h | .clo _ _,h | .ref _,h | .skip,h | .nil,h=>by cases h
theorem y3t (hV:LvlOk P A V) (hgd:C.gd=A.gd) (h:St C env H B a w) {f:Nat} {ds:List D} {args:List Value} (hc:CRs (C.N B) (C.Np B) H B w ds args) {d:D} (hd:CallNV A V H f ds d):
 z4i P (A.fn f)/\Calls P (A.fn f) args.toArray w fun e w' => ∃v,e= .returned v/\St C env H B a w' /\CR (C.N B) (C.Np B) H B w' d v:=by
 obtain⟨x,u,y,he,hch,hy,rfl⟩:=hd;simp only[Ai,Cr,Bj,List.isEmpty_iff] at hch;obtain⟨⟨⟨hperm,hids⟩,hinout⟩,hns⟩:=hch;obtain⟨hb,ha⟩:=hV f x y hy;refine⟨hb,?_⟩;obtain⟨B0,k1,k2⟩:=y0d h.toHS hc he;refine Calls.mono (ha (C.callee B u w) B0 args hgd k1 k2) ?_;intro e w' hR;cases e with
 | panicked _=>exact hR.elim | outgrown=>exact hR.elim | returned v=>
  obtain⟨H1,B1,ds1,vs,u1,g1,g2,g3,g4,g5⟩:=hR;have hkv:z0z (A.sig f).inout args= [] :=by rw[hinout];rfl
  rw[hkv,Bw] at g2;have hno:∀id,(id,true) ∉ u:=fun id q=>by
   have:=y8w.mpr q;rw[hids] at this;cases this
  have hs:=y1w h.toHS g1 hno;have hmv:∀b,¬Moved B u b:=fun b q=>by obtain⟨id,k1,_⟩:=q;exact hno id k1
  have hout:∀i rb:Nat,B1[i]? =some (some rb)-> ¬C.Np B rb:=fun i rb q z=>by
   have hal:=g1.alloc i rb q;rcases z with ⟨j,z⟩ | z
   .exact hal.2.1 (.inr ⟨⟨j,z⟩,hmv rb⟩)
   .exact hal.2.1 (.inl z)
  have hst:St C env H B a w' :=h.go hs {
   lenB:=h.lenB
   nodup:=h.nodup
   alloc:=fun i rb q=>⟨Bp (h.alloc i rb q).1 g1.fr.size,(h.alloc i rb q).2⟩
   blk:=fun i b ob q1 q2=>(h.blk i b ob q1 q2).step hs (fun rb e=>by
    subst e;exact g1.fr.same rb (h.alloc i rb q2).1 (hmv rb))
   lb:=h.lb
   lp:=h.lp
   fr:=z7y h.toHS g1
   gl:=h.gl
   gp:=h.gp}
  obtain⟨us,vs',hv,hnil,Bn,L,_⟩:=z2s (Nt:=C.N B) (Ntp:=C.Np B) (fun b=>Cx.N_Np g1.lb) (fun b=>Cx.N_Np h.lb) g1.lenB g1.blk
   (fun b _ hn k=>hn (by
    rcases k with k | k
    .exact .inr (.inr ⟨k,hmv b⟩)
    .exact .inr (.inl k)))
   (fun hp b _ hn k=>hn (by
    rcases k with k | k
    .exact .inr (.inr ⟨hperm.resolve_left (by rw[hp];exact Hf),k,hmv b⟩)
    .exact .inr (.inl k))) g3 g2
   (fun id rb hid hb=>⟨fun q=>hout id rb hb (Cx.N_Np h.lb q),fun _=>hout id rb hb⟩) H B h.lenB (.inl (z1g _ hns))
  simp only[CRs] at hnil;subst hnil;rw[Bw] at hv;subst hv;obtain⟨⟨Hn,e1,e2,e3⟩,hcells,M,m1,m2,m3,m4⟩:=L
  have hcr:=y3x (H:=H) (B:=B) (N:=C.N B) (Np:=C.Np B) (n:=H.length) (H3:=(emb (A.sig f).out y H).2) (B3:=B++Bn) (fun b=>Cx.N_Np h.lb) (by rw[e1];simp[h.lenB,e2])
   (fun i b ob q1 q2=>by
    rw[e1] at q1;rcases B8 i H.length with z | z
    .rw[Aj z] at q1;rw[Aj (by rw[h.lenB];exact z)] at q2;have:=hst.blk i b ob q1 q2;have s2:=Step.app (N:=C.N B) (Np:=C.Np B) (w:=w') h.lenB Hn Bn;rw[e1];exact this.step s2 (fun _ _=>rfl)
    .rw[Aq z] at q1;rw[Aq (by rw[h.lenB];exact z),h.lenB] at q2;exact e3 _ _ _ q1 q2) (fun _ q=>q) (fun _ q=>q)
   (fun i rb hi q=>by
    rw[Aq (by rw[h.lenB];exact hi)] at q;obtain⟨id,z1,z2⟩:=m3 _ _ q;exact hout id rb z2) (X:= []) hns (Au _) (by simp) hcells
  refine⟨v,rfl,hst,?_⟩;have:=hcr.take (A.sig f).nres;rw[←g4,Cq] at this;rw[g5,←g4];exact y5b this
end
section
variable {P:Program} {A:Ann} {V:Lvl A} {all:List Oper} {C:Cx} {env env' :List D} {H:z0a} {B:List (Option Nat)} {a:Act} {w w' :World}
def WbE (H:z0a) (B:List (Option Nat)) (ids:List Nat) (H2:z0a) (B3:List (Option Nat)) (e:Nat×Blk×Nat):Prop:=
 e.1∈ids/\H.length<=e.2.2/\B3[e.2.2]? =B[e.1]? /\
 ((∃c0 c,H[e.1]? =some (.box c0)/\H2[e.2.2]? =some (.box c)/\e.2.1= .box c)\/
  (∃p0 st t l0 q st1 l,H[e.1]? =some (.arr p0 st t l0)/\H2[e.2.2]? =some (.arr q st1 t l)/\e.2.1= .arr q st t l/\l.length=l0.length))
theorem z7a {f:List Nat} {id:Nat} (h:f.any (Nat.beq id)=true):id∈f:=by
 rw[Cm] at h;obtain⟨x,hx,e⟩:=h;have:=Av e;subst this;exact hx
theorem y7w {N Np Nt Ntp:Nat->Prop} {ids:List Nat} {H2:z0a} {H3:z0a} {B3:List (Option Nat)} (hl:B.length=H.length) (hl3:B3.length=H3.length) (h23:∀i,H.length<=i->H3[i]? =H2[i]?) {c d:D} {v:Value} {e:Nat×Blk×Nat}
 (h1:CR N Np H B w c v) (h2:CR Nt Ntp H3 B3 w' d v) (he:wb1 H ids c d H2=some (some e)):WbE H B ids H2 B3 e:=by
 unfold wb1 at he;split at he
 .cases he
 .rename_i id id';split at he
  .rename_i c0 c q1 q2 q3;simp only[Ac] at he;subst he;simp only[Ai] at q3;have hge:=Cw q3.2;simp only[CR] at h1 h2;obtain⟨_,h1⟩:=h1;obtain⟨rb,b1,v1⟩:=h1 _ q1;obtain⟨_,h2⟩:=h2;obtain⟨rb',b2,v2⟩:=h2 c (by rw[h23 _ hge];exact q2);rw[v1] at v2;simp only[Value.pointer.injEq,Ac,Addr.mk.injEq] at v2;refine⟨z7a q3.1,hge,?_, .inl ⟨c0,c,q1,q2,rfl⟩⟩;show B3[id']? =B[id]?;rw[b1,b2,v2.1]
  .cases he
 .rename_i id st id' st';split at he
  .rename_i p0 st0 t0 l0 q st1 t l q1 q2 q3;split at he
   .rename_i hc;obtain⟨rfl,rfl,rfl⟩:=hc;simp only[Ac] at he;subst he;simp only[Ai] at q3;have hge:=Cw q3.2;simp only[CR] at h1 h2;obtain⟨⟨hid,_⟩,h1⟩:=h1;obtain⟨_,h1⟩:=h1 _ _ _ _ q1;obtain⟨a1,c1,v1,_,r1⟩:=h1 rfl;obtain⟨⟨hid',_⟩,h2⟩:=h2;obtain⟨_,h2⟩:=h2 q st1 t0 l (by rw[h23 _ hge];exact q2);obtain⟨a2,c2,v2,_,r2⟩:=h2 rfl;rw[v1] at v2;simp only[Value.slice.injEq] at v2;obtain⟨ea,el,ec⟩:=v2;subst ea;refine⟨z7a q3.1,hge,?_, .inr ⟨p0,st0,t0,l0,q,st1,l,q1,q2,rfl,el.symm⟩⟩;show B3[id']? =B[id]?;have hb1:id<B.length:=by omega
    have hb2:id' <B3.length:=by omega
    unfold RowP at r1 r2;rw[A4 hb1] at r1 ⊢;rw[A4 hb2] at r2 ⊢;congr 1;cases e1:B[id] with
    | none=>
     rw[e1] at r1;cases e2:B3[id'] with
     | none=>rfl | some rb=>
      rw[e2] at r2;simp only at r1 r2;rw[r1.1] at r2;exact absurd r2.1 (by simp)
    | some rb=>
     rw[e1] at r1;cases e2:B3[id'] with
     | none=>
      rw[e2] at r2;simp only at r1 r2;rw[r2.1] at r1;exact absurd r1.1 (by simp)
     | some rb' =>
      rw[e2] at r2;simp only at r1 r2;have:=r1.1.symm.trans r2.1;simp only[Ac,Addr.mk.injEq] at this;rw[this.1]
   .cases he
  .cases he
 .cases he
theorem z8t {ids:List Nat} {H2:z0a} :∀ {cs ds:List D} {r:List (Nat×Blk×Nat)},z1r H ids H2 cs ds=some r->cs.length=ds.length
 | [], [],_,_=>rfl | [],d::ds,r,he=>by simp[z1r] at he
 | c::cs, [],r,he=>by simp[z1r] at he
 | c::cs,d::ds,r,he=>by
  simp only[z1r] at he;split at he
  .rename_i q r' q1 q2;simp only[Bc,z8t q2]
  .cases he
mutual
theorem y4q {N Np Nt Ntp:Nat->Prop} {ids:List Nat} {H2:z0a} {H3:z0a} {B3:List (Option Nat)} (hl:B.length=H.length) (hl3:B3.length=H3.length) (h23:∀i,H.length<=i->H3[i]? =H2[i]?) (hsm:∀b,b<w.heap.size-> ¬N b->w'.heap[b]? =w.heap[b]?):
 ∀ {c d:D} {v:Value} {r:List (Nat×Blk×Nat)},CR N Np H B w c v->CR Nt Ntp H3 B3 w' d v->y3m H ids H2 c d=some r-> ∀e∈r,WbE H B ids H2 B3 e
 | c,d,v,r,h1,h2,he=>by
  unfold y3m at he;split at he
  .rename_i cs ds;simp only[CR] at h1 h2;obtain⟨vs,rfl,k1⟩:=h1;obtain⟨vs',e1,k2⟩:=h2;cases e1;exact z4e hl hl3 h23 hsm k1 k2 he
  .rename_i cs ds;simp only[CR] at h1 h2;obtain⟨vs,rfl,k1⟩:=h1;obtain⟨vs',e1,k2⟩:=h2;cases e1;exact z4e hl hl3 h23 hsm k1 k2 he
  .rename_i cs ds;simp only[CR] at h1 h2;obtain⟨rb,ro,rfl,n1,l1,vs,k1,c1⟩:=h1;obtain⟨rb',ro',e1,n2,l2,vs',k2,c2⟩:=h2;simp only[Value.pointer.injEq,Ac,Addr.mk.injEq,Df] at e1;obtain⟨rfl,rfl,_⟩:=e1;have hlen:=z8t he;have hvs:vs=vs' :=by
    apply Gj;intro i;rcases B8 i vs.length with z | z
    .have z' :i<vs'.length:=by rw[k2.length,←hlen,←k1.length];exact z
     rw[←c1 i z,←c2 i z'];exact(World.cell?_of_block (w:=w) (hsm rb l1 n1)).symm
    .rw[Be z,Be (by rw[k2.length,←hlen,←k1.length];exact z)]
   subst hvs;exact z4e hl hl3 h23 hsm k1 k2 he
  .cases he;simp
  .cases he;simp
  .cases he;simp
  .cases he;simp
  .cases he;simp
  .split at he
   .rename_i e q1;simp only[Ac] at he;subst he;intro e' hm;simp only[A8,Ep,Em] at hm;subst hm;exact y7w hl hl3 h23 h1 h2 q1
   .cases he;simp
   .cases he
theorem z4e {N Np Nt Ntp:Nat->Prop} {ids:List Nat} {H2:z0a} {H3:z0a} {B3:List (Option Nat)} (hl:B.length=H.length) (hl3:B3.length=H3.length) (h23:∀i,H.length<=i->H3[i]? =H2[i]?) (hsm:∀b,b<w.heap.size-> ¬N b->w'.heap[b]? =w.heap[b]?):
 ∀ {cs ds:List D} {vs:List Value} {r:List (Nat×Blk×Nat)},CRs N Np H B w cs vs->CRs Nt Ntp H3 B3 w' ds vs->z1r H ids H2 cs ds=some r-> ∀e∈r,WbE H B ids H2 B3 e
 | [], [],vs,r,h1,h2,he=>by simp only[z1r,Ac] at he;subst he;simp
 | [],d::ds,vs,r,h1,h2,he=>by simp[z1r] at he
 | c::cs, [],vs,r,h1,h2,he=>by simp[z1r] at he
 | c::cs,d::ds,vs,r,h1,h2,he=>by
  simp only[CRs] at h1 h2;obtain⟨u,us,rfl,k1,k2⟩:=h1;obtain⟨u',us',e1,k3,k4⟩:=h2;obtain⟨rfl,rfl⟩:=List.cons.inj e1;simp only[z1r] at he;split at he
  .rename_i q r' q1 q2;split at he
   .cases he
   .simp only[Ac] at he;subst he;intro e' hm;rcases Ay.mp hm with hm | hm
    .exact y4q hl hl3 h23 hsm k1 k3 q1 e' hm
    .exact z4e hl hl3 h23 hsm k2 k4 q2 e' hm
  .cases he
end
mutual
theorem y3n {ids:List Nat} {H2:z0a} :∀ {c d:D} {r:List (Nat×Blk×Nat)},y3m H ids H2 c d=some r->(∀e∈r,e.1∈ids/\e.1<H.length/\H.length<=e.2.2)/\r.Pairwise (fun x y=>x.1≠y.1)
 | c,d,r,he=>by
  unfold y3m at he;split at he
  .rename_i cs ds;exact z2f he
  .rename_i cs ds;exact z2f he
  .rename_i cs ds;exact z2f he
  .cases he;simp
  .cases he;simp
  .cases he;simp
  .cases he;simp
  .cases he;simp
  .split at he
   .rename_i e q1;simp only[Ac] at he;subst he;refine⟨fun e' hm=> ?_,by simp⟩;simp only[A8,Ep,Em] at hm;subst hm;have hlt:∀ {i:Nat} {b:Blk},H[i]? =some b->i<H.length:=fun {i b} z=>by
     rcases B8 i H.length with y | y
     .exact y
     .rw[Be y] at z;cases z
    unfold wb1 at q1;split at q1
    .cases q1
    .split at q1
     .rename_i z1 z2 z3;simp only[Ac] at q1;subst q1;simp only[Ai] at z3;exact⟨z7a z3.1,hlt z1,Cw z3.2⟩
     .cases q1
    .split at q1
     .rename_i z1 z2 z3;split at q1
      .simp only[Ac] at q1;subst q1;simp only[Ai] at z3;exact⟨z7a z3.1,hlt z1,Cw z3.2⟩
      .cases q1
     .cases q1
    .cases q1
   .cases he;simp
   .cases he
theorem z2f {ids:List Nat} {H2:z0a} :∀ {cs ds:List D} {r:List (Nat×Blk×Nat)},z1r H ids H2 cs ds=some r->(∀e∈r,e.1∈ids/\e.1<H.length/\H.length<=e.2.2)/\r.Pairwise (fun x y=>x.1≠y.1)
 | [], [],r,he=>by simp only[z1r,Ac] at he;subst he;simp
 | [],d::ds,r,he=>by simp[z1r] at he
 | c::cs, [],r,he=>by simp[z1r] at he
 | c::cs,d::ds,r,he=>by
  simp only[z1r] at he;split at he
  .rename_i q r' q1 q2;split at he
   .cases he
   .rename_i hany;simp only[Ac] at he;subst he;obtain⟨i1,i2⟩:=y3n q1;obtain⟨j1,j2⟩:=z2f q2;refine⟨fun e' hm=>(Ay.mp hm).elim (i1 e') (j1 e'),Cg.mpr ⟨i2,j2,fun x hx y hy e=> ?_⟩⟩;have k:=Ct.mp hany x hx;have k2:(r'.any fun z=>Nat.beq x.1 z.1)=true:=Cm.mpr ⟨y,hy,by rw[e];exact Gi _⟩;exact k k2
  .cases he
end
def z4f (B:List (Option Nat)):List (Nat×Blk×Nat)->List (Option Nat)->List (Option Nat)
 | [],X=>X | e::r,X=>z4f B r (X.set e.1 (B.getD e.1 none))
theorem z8w:∀(r:List (Nat×Blk×Nat)) (X:z0a),(z3t r X).length=X.length
 | [],_=>rfl | e::r,X=>by rw[z3t,z8w];simp
theorem z6z:∀(r:List (Nat×Blk×Nat)) (X:List (Option Nat)),(z4f B r X).length=X.length
 | [],_=>rfl | e::r,X=>by rw[z4f,z6z];simp
theorem z8v:∀(r:List (Nat×Blk×Nat)) (X Y:z0a),(∀e∈r,e.1<X.length)->z3t r (X++Y)=z3t r X++Y
 | [],_,_,_=>rfl | e::r,X,Y,h=>by
  rw[z3t,z3t,List.set_append_left _ _ (h e (by simp)),z8v r _ _ (fun e' he=>by simpa using h e' (by simp[he]))]
theorem z4g:∀(r:List (Nat×Blk×Nat)) (X:z0a) (i:Nat),(∀e∈r,e.1≠i)->(z3t r X)[i]? =X[i]?
 | [],_,_,_=>rfl | e::r,X,i,h=>by
  rw[z3t,z4g r _ _ (fun e' he=>h e' (by simp[he])),Gx (h e (by simp))]
theorem z4v:∀(r:List (Nat×Blk×Nat)) (X:List (Option Nat)) (i:Nat),(∀e∈r,e.1≠i)->(z4f B r X)[i]? =X[i]?
 | [],_,_,_=>rfl | e::r,X,i,h=>by
  rw[z4f,z4v r _ _ (fun e' he=>h e' (by simp[he])),Gx (h e (by simp))]
theorem y0t:∀(r:List (Nat×Blk×Nat)) (X:z0a),r.Pairwise (fun x y=>x.1≠y.1)-> ∀e∈r,e.1<X.length->(z3t r X)[e.1]? =some e.2.1
 | [],_,_,e,he,_=>by cases he
 | e0::r,X,hp,e,he,hl=>by
  rw[Ch] at hp;rw[z3t];rcases A8.mp he with rfl | he
  .rw[z4g r _ _ (fun e' h' =>fun q=>hp.1 e' h' q.symm)];simp[hl]
  .exact y0t r _ hp.2 e he (by simpa using hl)
theorem z8u:∀(r:List (Nat×Blk×Nat)) (X:List (Option Nat)),r.Pairwise (fun x y=>x.1≠y.1)-> ∀e∈r,e.1<X.length->X.length=B.length->(z4f B r X)[e.1]? =B[e.1]?
 | [],_,_,e,he,_,_=>by cases he
 | e0::r,X,hp,e,he,hl,hB=>by
  rw[Ch] at hp;rw[z4f];rcases A8.mp he with rfl | he
  .rw[z4v r _ _ (fun e' h' =>fun q=>hp.1 e' h' q.symm)];have:e.1<B.length:=by omega
   simp[hl,this]
  .exact z8u r _ hp.2 e he (by simpa using hl) (by simpa using hB)
theorem z1k {X:Type} {l:List X} {i:Nat} {x:X} (h:l[i]? =some x):i<l.length:=by
 rcases B8 i l.length with y | y
 .exact y
 .rw[Be y] at h;cases h
end
end Go.Proofs.YtkphhjdbdnoekaaGreatDoor.Ab
