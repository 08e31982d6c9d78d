import Derived.Test.YtkphhjdbdnoekaaGreatDoorAbE6
namespace Go.Proofs.YtkphhjdbdnoekaaGreatDoor.Ab
open Go
set_option linter.unusedVariables false
set_option linter.unusedSimpArgs false
set_option linter.unnecessarySimpa false
section
variable {P:Program} {A:Ann} {C:Cx} {env:List D} {H:z0a} {B:List (Option Nat)} {a:Act} {w:World}
theorem St.frz1 (h:St C env H B a w) (id:Nat):∃B',St C (Ab.frz1 id (env,H)).1 (Ab.frz1 id (env,H)).2 B' a w:=by
 unfold Ab.frz1;cases hH:H[id]? with
 | none=>exact⟨B,h⟩ | some b=>
  cases b with
  | dead=>exact⟨B,h⟩ | box _=>exact⟨B,h⟩ | arr p st t l=>
   simp only;have h1:=h.kill1 id;have hid:id<H.length:=by
    rcases B8 id H.length with q | q
    .exact q
    .rw[Be q] at hH;cases hH
   have hhas:∀b,Has (B.set id none) b->Has B b:=fun b k=>by
    rcases k.set with q | q
    .exact q
    .cases q
   have hget:∀i:Nat,((H.set id .dead).map (y3y id st p t l))[i]? =((H.set id .dead)[i]?).map (y3y id st p t l):=fun(i:Nat)=>Et
   have hbx:∀(i:Nat) b,((H.set id .dead).map (y3y id st p t l))[i]? =some b-> ∃b0,(H.set id .dead)[i]? =some b0/\b=y3y id st p t l b0:=fun i b e=>by
    rw[hget] at e;cases q:(H.set id .dead)[i]? with
    | none=>rw[q] at e;cases e | some b0=>rw[q] at e;simp only[Dc,Ac] at e;exact⟨b0,rfl,e.symm⟩
   have hdead:∀(i:Nat) b0,(H.set id .dead)[i]? =some b0->b0= .dead\/(id≠i/\H[i]? =some b0):=fun i b0 e=>by
    rw[Cb] at e;by_cases q:id=i
    .subst q;rw[Al rfl,Al hid] at e;cases e;exact .inl rfl
    .rw[Ao q] at e;exact .inr ⟨q,e⟩
   have s:Step (C.N B) (C.Np B) (C.N (B.set id none)) (C.Np (B.set id none)) H B w ((H.set id .dead).map (y3y id st p t l)) (B.set id none) w:=by
    refine⟨⟨Au _,fun _ _ _=>rfl,fun b _ hn k=>hn (k.imp (hhas b) (fun q=>q))⟩,⟨Au _,fun _ _ _=>rfl,fun b _ hn k=>hn (k.imp (hhas b) (fun q=>q))⟩,by simp,?_,?_,fun rb cs k=>⟨cs,k,rfl⟩⟩
    .intro i hi cells e;obtain⟨b0,e0,e1⟩:=hbx i _ e;rcases hdead i b0 e0 with rfl | ⟨q,e2⟩
     .cases e1
     .cases b0 with
      | dead=>cases e1 | box cs=>exact⟨⟨cs,e2⟩,by simp[q]⟩ | arr _ _ _ _=>cases e1
    .intro i hi p' st' t' l' e;obtain⟨b0,e0,e1⟩:=hbx i _ e;rcases hdead i b0 e0 with rfl | ⟨q,e2⟩
     .cases e1
     .cases b0 with
      | dead=>cases e1 | box cs=>cases e1 | arr _ _ _ _=>cases e1;exact⟨_,_,_,_,e2,Au _,fun _=>⟨rfl,rfl,by simp[q]⟩⟩
   have cell:∀d v,CR (C.N B) (C.Np B) H B w d v->CR (C.N (B.set id none)) (C.Np (B.set id none)) ((H.set id .dead).map (y3y id st p t l)) (B.set id none) w (y6s id st p t l d) v:=by
    intro d v hd;cases d with
    | hd i s' =>
     simp only[y6s];cases hq:Nat.beq i id&&Nat.beq s' st with
     | false=>exact hd.step s | true=>
      simp only[Ai] at hq;have q1:=Av hq.1;have q2:=Av hq.2;subst q1;subst q2;have hu:z1m H (.sl t) [.hd i s'] =some (l, [],p, [i]):=by simp[z1m,hH,z2r]
      have hcr:CRs (C.N B) (C.Np B) H B w [.hd i s'] [v] :=by simp only[CRs];exact⟨v, [],rfl,hd,rfl⟩
      have hpq:imp p p=true:=by cases p<;>rfl
      obtain⟨us1,vs1,e1,hnil,hd1⟩:=z6i (fun b=>Cx.N_Np h.lb) h.lenB h.blk hu hcr (z2u h.lb [i] hpq) (fun id0 hi0 rb0 e0 k=>by
       have:=z4o h.toHS (f:= [i]) hi0 e0;cases p
       .exact this (Cx.N_Np h.lb k)
       .exact this k)
      simp only[CRs] at hnil;subst hnil;rw[Bw] at e1;subst e1;simp only[CR];exact hd1
    | _=>exact hd.step s
   have cells:∀ds vs,CRs (C.N B) (C.Np B) H B w ds vs->CRs (C.N (B.set id none)) (C.Np (B.set id none)) ((H.set id .dead).map (y3y id st p t l)) (B.set id none) w (ds.map (y6s id st p t l)) vs:=by
    intro ds
    induction ds with
    | nil=>intro vs hc;simpa[CRs] using hc | cons d ds ih=>
     intro vs hc;simp only[CRs,C8] at hc ⊢;obtain⟨u,us,e,k1,k2⟩:=hc;exact⟨u,us,e,cell d u k1,ih us k2⟩
   have one:∀d v,CR (C.N B) (C.Np B) H B w d v->CR (C.N (B.set id none)) (C.Np (B.set id none)) ((H.set id .dead).map (y3y id st p t l)) (B.set id none) w (y7e id st p t l d) v:=by
    intro d v hd;cases d with
    | agg cs=>
     simp only[CR,y7e] at hd ⊢;obtain⟨vs,e,k⟩:=hd;exact⟨vs,e,cells _ _ k⟩
    | _=>exact cell _ v hd
   refine⟨B.set id none,{toHS:= {lenB:=by simp[h.lenB],nodup:=h1.nodup,alloc:=h1.alloc,blk:= ?_,lb:=h1.lb,lp:=h1.lp,fr:=h1.fr,gl:=h1.gl,gp:=h1.gp},envs:=fun u=> ?_,envlen:=by simp[h.envlen],defers:=h.defers,siz:=h.siz,fix:=h.fix}⟩
   .intro i b ob e1 e2;obtain⟨b0,e0,rfl⟩:=hbx i b e1;cases b0 with
    | dead=>trivial | box cs=>
     rcases hdead i _ e0 with q | ⟨q,e3⟩
     .cases q
     .rw[Cb,Ao q] at e2;obtain⟨rb,arr,k1,k2,k3⟩:=h.blk i _ _ e3 e2;exact⟨rb,arr,k1,k2,cells _ _ k3⟩
    | arr _ _ _ _=>exact h1.blk i _ _ e0 e2
   .have:=one _ _ (h.envs u);have e:get (env.map (y7e id st p t l)) u=y7e id st p t l (get env u):=by
     unfold get;rw[A5,A5,Et];cases env[u]? <;>rfl
    rw[e];exact this
theorem St.frz:∀(ids:List Nat) {env:List D} {H:z0a} {B:List (Option Nat)},St C env H B a w-> ∃B',St C (Ab.frz ids (env,H)).1 (Ab.frz ids (env,H)).2 B' a w
 | [],_,_,B,h=>⟨B,h⟩ | id::r,env,H,B,h=>by
  obtain⟨B1,h1⟩:=h.frz1 id;exact St.frz r h1
end
end Go.Proofs.YtkphhjdbdnoekaaGreatDoor.Ab
