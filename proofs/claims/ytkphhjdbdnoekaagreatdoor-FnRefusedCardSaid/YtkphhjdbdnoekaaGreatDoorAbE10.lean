import Derived.Test.YtkphhjdbdnoekaaGreatDoorAbE9e
namespace Go.Proofs.YtkphhjdbdnoekaaGreatDoor.Ab
open Go
set_option linter.unusedVariables false
set_option linter.unusedSimpArgs false
set_option linter.unnecessarySimpa false
section
variable {P:Program} {A:Ann} {V:Lvl A} {all:List Oper} {ops:Array Oper} {C C1:Cx} {env env' env0 E:List D} {H H0 H1 H' :z0a} {B B' :List (Option Nat)} {a a' :Act} {w w' :World} {e:Nat} {rows:List Row}
theorem z8c {os:List Oper} {con:List (Option Nat)} :∀(l:List Nat) (env:List D),(z0t os con l env).length=env.length
 | [],env=>rfl | b::l,env=>by
  rw[z0t,z8c l];split<;>simp
theorem z3w {os:List Oper} {con:List (Option Nat)} :∀(l:List Nat) (env:List D) (t:Nat),get (z0t os con l env) t= .undef\/get (z0t os con l env) t=get env t
 | [],env,t=> .inr rfl | b::l,env,t=>by
  rw[z0t];split
  .rename_i s _ _;rcases z3w l (env.set s .undef) t with h | h
   .exact .inl h
   .rw[h,z0m];split
    .exact .inl rfl
    .exact .inr rfl
  .exact z3w l env t
theorem z5m {os:List Oper} {con:List (Option Nat)} {b c s:Nat} (hc:con.getD b none=some c) (hd:(os[b]?).bind (·.dst)=some s):∀(l:List Nat) (env:List D),b∈l->get (z0t os con l env) s= .undef
 | [],env,h=>by cases h
 | b' ::l,env,h=>by
  rw[z0t];rcases A8.mp h with rfl | h
  .rw[hc,hd];simp only;rcases z3w (os:=os) (con:=con) l (env.set s .undef) s with q | q
   .exact q
   .rw[q,z0m];split
    .rfl
    .rename_i z;exact z2j (Fz fun y=>z ⟨rfl,y⟩)
  .exact z5m hc hd l _ h
theorem z6s (ok:TyOk P A) (hV:LvlOk P A V) (hgd:C.gd=A.gd) (hsu:Sure ops) (hrw:Rok A V ops env0 H0 rows) (hlen:rows.length=ops.size)
 (hu:∀a0 c oa s,(z0g A ops.toList).getD a0 none=some c->ops[a0]? =some oa->oa.dst=some s->get env0 s= .undef) {Q:Exit->Act->World->Prop}
 (hQ:∀B a w,St C (eAt env0 rows) (hAt H0 rows) B a w->Q .normal a w) {id:Nat} (hf:∀(i:Nat) o,ops[i]? =some o->y5h C o)
 (hsz0:∀a0 c oa s,(z0g A ops.toList).getD a0 none=some c->ops[a0]? =some oa->oa.dst=some s->s<C.nt)
 (h:St C env H0 B a w) (he:∀t,get env0 t= .undef\/get env0 t=get env t) (hel:env0.length=env.length):(Code.region id ops true).wp P Q a w:=by
 refine wp_region_any ok.mixed ?_;have hE:(eAt env0 rows).length=env0.length:=z1o hrw;have hl:∀j,(Array.replicate ops.size false).getD j false=false:=by
  intro j;by_cases hj:j<ops.size<;>simp[hj]
 refine y6x ok hV hgd hsu hrw hlen hu hQ hf hsz0 ops.size (Array.replicate ops.size false) [] C H0 B a _ (by simp) ?_ ?_
 .have:∀(p:Nat->Bool) (n:Nat),cnt p n<=n:=by
   intro p n
   induction n with
   | zero=>exact Au _ | succ n ih=>simp only[cnt];split<;>omega
  exact this _ _
 .have hnw:∀t,wr ops t (hat (z0g A ops.toList) fun j=>(Array.replicate ops.size false).getD j false)=false:=fun t=>by
   cases q:wr ops t (hat (z0g A ops.toList) fun j=>(Array.replicate ops.size false).getD j false) with
   | false=>rfl | true=>
    obtain⟨j,o,_,_,z⟩:=z8x.mp q;simp[hat,hl] at z
  exact {
   cl:=fun j o _ z=>by simp only[hl j] at z;cases z
   st:=h.drew.sub (fun t=>by
    rw[z1x hE,hnw t,Ao (by simp)];exact he t) (by rw[z0q,hel])
   pos:=⟨[],G9,rfl,fun y r t ad _ _=>by rw[hl];simp⟩
   reb:=(Reb.refl h.lb h.lp h.gl h.gp).mono (fun b=>by simp) (fun t q=>q)
   pf1:=fun a0 c _ z=>by simp only[hl a0] at z;cases z
   pf2:=fun a0 rb z=>by cases z
   pf3:=fun a0 a1 rb rb1 z=>by cases z}
theorem y7a {d:D} {c:Nat} {o:Oper} {s:Nat} (hs:z4l o=some s) (h:OpV A V all H env o d):False:=by
 have hg:=(z3c (A:=A) hs).1;rcases h with ⟨_,h⟩ | ⟨h,_⟩
 .unfold z4l at hs;rw[hg] at hs;split at hs
  .rename_i t s' x _ ho;rcases h with h | h | ⟨c,f,ds,h1,_⟩
   .rw[ho] at h;simp[nev] at h
   .rw[ho] at h;simp[z8l] at h
   .rw[ho] at h1;cases h1
  .rename_i c _ ho;split at hs
   .rename_i s' y hc ha;rcases h with h | h | ⟨c',f,ds,h1,h2,_⟩
    .rw[ho] at h;simp[nev,hc] at h
    .rw[ho] at h;simp[z8l] at h
    .rw[ho] at h1;cases h1;replace h2:=z4x h2;unfold callee at h2;rw[hc] at h2;cases h2
   .cases hs
  .cases hs
 .unfold Want at h;rw[hg] at h;cases h
theorem Tr.op:∀ {os:List Oper} {env E:List D},Tr A V all H os env E-> ∀(j:Nat) o,os[j]? =some o-> ∃env_j d,OpV A V all H env_j o d
 | [],_,_,h,j,o,hj=>by simp at hj
 | o' ::os,env,_,h,0,o,hj=>by
  simp only[Bt,Ac] at hj;subst hj;cases h with
  | cons h1 h2=>exact⟨_,_,h1⟩
 | o' ::os,env,_,h,j+1,o,hj=>by
  cases h with
  | cons h1 h2=>exact h2.op j o (by simpa using hj)
theorem Tr.nocon (h:Tr A V all H ops.toList env E) (a0:Nat):(z0g A ops.toList).getD a0 none=none:=by
 cases hc:(z0g A ops.toList).getD a0 none with
 | none=>rfl | some c=>
  obtain⟨_,_,_,q,_,_,_,hq,hs,_⟩:=z0h hc;obtain⟨env_j,d,k⟩:=h.op c q (by simpa using hq);exact(y7a (c:=c) hs k).elim
theorem Tr.len:∀ {os:List Oper} {env E:List D},Tr A V all H os env E->E.length=env.length
 | [],_,_,h=>by cases h;rfl
 | _::_,_,_,h=>by
  cases h with
  | cons h1 h2=>rw[h2.len,z1i]
theorem Tr.keep:∀ {os:List Oper} {env E:List D},Tr A V all H os env E-> ∀t,(∀(i:Nat) q,os[i]? =some q->q.dst≠some t)->get E t=get env t
 | [],_,_,h,t,_=>by cases h;rfl
 | o::os,_,_,h,t,hn=>by
  cases h with
  | cons h1 h2=>
   rw[h2.keep t (fun i q hi=>hn (i+1) q (by simpa using hi))];exact z1h (hn 0 o rfl)
theorem y3k (hnc:∀a0,(z0g A ops.toList).getD a0 none=none):∀(os:List Oper) (pre:List Row),(∀i:Nat,os[i]? =ops[pre.length+i]?)->Rok A V ops env0 H pre->z4h pre= [] ->hAt H pre=H->Tr A V ops.toList H os (eAt env0 pre) E->
 ∃rows,Rok A V ops env0 H rows/\rows.length=pre.length+os.length/\eAt env0 rows=E/\hAt H rows=H
 | [],pre,_,hp,_,hh,ht=>by cases ht;exact⟨pre,hp,rfl,rfl,hh⟩
 | o::os,pre,hos,hp,hs,hh,ht=>by
  have ho:ops[pre.length]? =some o:=by have:=hos 0;simpa using this.symm
  have had:∀j,z2h (z0g A ops.toList) j=none:=fun j=>by
   cases q:z2h (z0g A ops.toList) j with
   | none=>rfl | some a0=>
    have:=z1t q;rw[hnc a0] at this;cases this
  cases ht with
  | cons h1 h2=>
   rename_i d
   have go:∀x:Row,y0u A V ops (z4p ops.toList) (z0g A ops.toList) env0 H pre o x->x.eA=z1f (eAt env0 pre) o.dst d->z4h (x::pre)= [] ->x.hA=H->
    ∃rows,Rok A V ops env0 H rows/\rows.length=pre.length+(o::os).length/\eAt env0 rows=E/\hAt H rows=H:=fun x hx hxe hxs hxh=>by
    obtain⟨rows,k1,k2,k3,k4⟩:=y3k hnc os (x::pre) (fun i=>by
     have:=hos (i+1);rw[Gh] at this;rw[this,Bc,show pre.length+(i+1)=pre.length+1+i by omega]) ⟨hp,o,ho,hx⟩ hxs hxh (by show Tr A V ops.toList H os x.eA E;rw[hxe];exact h2)
    exact⟨rows,k1,by rw[k2];simp;omega,k3,k4⟩
   rcases h1 with ⟨hw,hn⟩ | ⟨hw,hd⟩
   .refine go ⟨.neu none,d,z1f (eAt env0 pre) o.dst d,H⟩ ⟨hnc _,had _,rfl,hh.symm,hw, .inr ⟨?_,rfl⟩,by rw[hs];rfl⟩ rfl (by simp only[z4h];exact hs) rfl;rw[hs];exact hn
   .exact go ⟨.free,d,z1f (eAt env0 pre) o.dst d,H⟩ ⟨hnc _,rfl,hh.symm, .inr ⟨hw,hd⟩⟩ rfl (by simp only[z4h];exact hs) rfl
theorem z7d {lend:Bool} :∀ {s:Sh} {ds:List D} {u u' :Used} {x:s.den} {r:List D},z6y s=true->ext lend H s ds u=some (x,r,u')->ds=z7s s x++r
 | .int k,ds,u,u',x,r,hs,h=>by
  cases ds with
  | nil=>simp[ext] at h | cons d ds=>
   cases d<;>simp only[ext] at h<;>try (cases h;done)
   split at h
   .rename_i e;subst e;simp only[Ac,Ak] at h;obtain⟨rfl,rfl,_⟩:=h;rfl
   .cases h
 | .bool,ds,u,u',x,r,hs,h=>by
  cases ds with
  | nil=>simp[ext] at h | cons d ds=>
   cases d<;>simp only[ext] at h<;>try (cases h;done)
   simp only[Ac,Ak] at h;obtain⟨rfl,rfl,_⟩:=h;rfl
 | .str,ds,u,u',x,r,hs,h=>by
  cases ds with
  | nil=>simp[ext] at h | cons d ds=>
   cases d<;>simp only[ext] at h<;>try (cases h;done)
   simp only[Ac,Ak] at h;obtain⟨rfl,rfl,_⟩:=h;rfl
 | .unit,ds,u,u',x,r,hs,h=>by
  simp only[ext,Ac,Ak] at h;obtain⟨_,rfl,_⟩:=h;rfl
 | .pair a b,ds,u,u',x,r,hs,h=>by
  simp only[z6y,Ai] at hs;simp only[ext] at h;split at h
  .rename_i x1 ds' u1 e1;split at h
   .rename_i y ds'' u2 e2;simp only[Ac,Ak] at h;obtain⟨rfl,rfl,_⟩:=h;rw[z7d hs.1 e1,z7d hs.2 e2];simp[z7s]
   .cases h
  .cases h
 | .tr _ _,_,_,_,_,_,hs,_=>by cases hs
 | .own _ _,_,_,_,_,_,hs,_=>by cases hs
 | .box _,_,_,_,_,_,hs,_=>by cases hs
 | .rbox _,_,_,_,_,_,hs,_=>by cases hs
 | .clo _ _,_,_,_,_,_,hs,_=>by cases hs
 | .agg _,_,_,_,_,_,hs,_=>by cases hs
theorem z6w (E:List D):∀(ts:List Nat) (env:List D),(∀t,get env t= .undef\/get env t=get E t)-> ∀t,get (z2w ts (ts.map (get E)) env) t= .undef\/get (z2w ts (ts.map (get E)) env) t=get E t
 | [],env,h,t=>h t | u::ts,env,h,t=>by
  simp only[C8,z2w];refine z6w E ts _ (fun t=> ?_) t;rw[z0m];split
  .rename_i z;rw[←z.1];exact .inr rfl
  .exact h t
theorem z4r:∀(ts:List Nat) (ds env:List D),(z2w ts ds env).length=env.length
 | [],ds,env=>by cases ds<;>rfl
 | t::ts, [],env=>rfl | t::ts,d::ds,env=>by rw[z2w,z4r];simp
theorem z6u:∀(os:List Oper) (env:List D),(z5z os env).length=env.length
 | [],env=>rfl | o::os,env=>by rw[z5z,z6u,z1i]
theorem z6t:∀(os:List Oper) (env:List D) (t:Nat),(get (z5z os env) t= .undef)\/(get (z5z os env) t=get env t/\ ∀(i:Nat) q,os[i]? =some q->q.dst≠some t)
 | [],env,t=> .inr ⟨rfl,fun i q h=>by simp at h⟩ | o::os,env,t=>by
  rw[z5z];rcases z6t os (z1f env o.dst .undef) t with h | ⟨h1,h2⟩
  .exact .inl h
  .by_cases hd:o.dst=some t
   .left;rw[h1,hd];simp only[z1f];rw[z0m];split
    .rfl
    .rename_i hne;have: ¬t<env.length:=fun z=>hne ⟨rfl,z⟩
     exact z2j (by omega)
   .refine .inr ⟨by rw[h1];exact z1h hd,fun i q hi=> ?_⟩;cases i with
    | zero=>simp at hi;subst hi;exact hd | succ i=>exact h2 i q (by simpa using hi)
theorem y1f (ok:TyOk P A) (hV:LvlOk P A V) (hgd:C.gd=A.gd) {fid id:Nat} {draw:Bool} {R:Type} {K:List D->z0a->Option R} {r:R} (hr:z3q A V fid id ops.toList draw R K env H=some r) (h:St C env H B a w)
 (hf:∀(i:Nat) o,ops[i]? =some o->y5h C o) {Q:Exit->Act->World->Prop} (hQ:∀E H' B' a' w',St C E H' B' a' w' ->K E H' =some r->Q .normal a' w'):(Code.region id ops draw).wp P Q a w:=by
 have hf' :∀o∈ops.toList,y5h C o:=fun o ho=>by
  obtain⟨i,hi⟩:=List.getElem?_of_mem ho;exact hf i o (by simpa using hi)
 unfold z3q at hr;split at hr
 .rename_i j hj;split at hr
  .rename_i hc;simp only[Ai] at hc;obtain⟨hss,hsure⟩:=hc;have hs:=y1n hsure;cases hx:y2y A V j.sh.den ops.toList H (fun env=>z3d j env H) ops.toList env with
   | none=>rw[hx] at hr;cases hr | some x=>
    rw[hx] at hr;simp only[zOb] at hr;obtain⟨E,htr,hext⟩:=z6b hx;have hE:z7s j.sh x=j.ts.map (get E):=by
     have hext:y2g j E H=some x:=by
      unfold z3d at hext;split at hext
      .exact hext
      .cases hext
     unfold y2g at hext;split at hext
     .rename_i x' u he;simp only[Ac] at hext;subst hext;have:=z7d hss he;rw[Bw] at this;exact this.symm
     .cases hext
    rw[hE] at hr;have last:∀B a w,St C E H B a w->Q .normal a w:=fun B a w hst=>by
     refine hQ _ _ B a w (hst.sub (fun t=>z6w E j.ts _ (fun t=> ?_) t) (by rw[z4r,z6u,htr.len])) hr;rcases z6t ops.toList env t with q | ⟨q1,q2⟩
     .exact .inl q
     .right;rw[q1];exact(htr.keep t q2).symm
    cases draw with
    | false=>exact wp_region_list (z9w ok hV hgd htr h hf' (fun a' w' hst=>last B a' w' hst)) | true=>
     obtain⟨rows,k1,k2,k3,k4⟩:=y3k (env0:=env) htr.nocon ops.toList [] (fun i=>by simp) trivial rfl rfl htr;refine z6s ok hV hgd hs k1 (by rw[k2];simp) (fun a0 c oa s z=> ?_) (fun B a w hst=> ?_) hf (fun a0 c oa s z=> ?_) h (fun t=> .inr rfl) rfl
     .rw[htr.nocon a0] at z;cases z
     .rw[k3,k4] at hst;exact last B a w hst
     .rw[htr.nocon a0] at z;cases z
  .cases hr
 .split at hr
  .exact wp_region_list (z3r ok hV hgd hQ hr h hf')
  .obtain⟨B',h⟩:=h.frz (Ab.regTakes ops.toList env H);unfold y5s at hr;split at hr
   .rename_i hc;simp only[Ai] at hc;obtain⟨hsd,hfp⟩:=hc;have hs:=y0s hsd;obtain⟨rows,k1,k2,k3⟩:=z8r (ops:=ops) ops.toList [] (fun i=>by simp) trivial hr;refine z6s ok hV hgd hs k1 (by rw[k2];simp) (fun a0 c oa s z1 z2 z3=> ?_) (fun B a w hst=>hQ _ _ B a w hst k3) hf (fun a0 c oa s z1 z2 z3=> ?_) h (fun t=>z3w _ _ t) (z8c _ _)
    .have hlt:=(Cj.1 z2).1
     exact z5m z1 (by have:ops.toList[a0]? =some oa:=by simpa using z2
                      rw[this];exact z3) _ _ (Bq.mpr (by simpa using hlt))
    .have hlt:=(Cj.1 z2).1;have:=Bg.mp hfp a0 (Bq.mpr (by simpa using hlt));have q:ops.toList[a0]? =some oa:=by simpa using z2
     rw[z1,q] at this;simp only[zOb,z3] at this;have:=Hi.mp this;rw[h.envlen,h.siz] at this;exact this
   .cases hr
end
end Go.Proofs.YtkphhjdbdnoekaaGreatDoor.Ab
