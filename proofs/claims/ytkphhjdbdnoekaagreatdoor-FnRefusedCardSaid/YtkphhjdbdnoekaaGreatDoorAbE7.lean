import Derived.Test.YtkphhjdbdnoekaaGreatDoorAbE6f
namespace Go.Proofs.YtkphhjdbdnoekaaGreatDoor.Ab
open Go
set_option linter.unusedVariables false
set_option linter.unusedSimpArgs false
set_option linter.unnecessarySimpa false
section
variable {P:Program} {A:Ann} {V:Lvl A} {ops:Array Oper} {C:Cx} {env env' :List D} {H:z0a} {B:List (Option Nat)} {a:Act} {w w' :World}
theorem z2o (h:St C env H B a w) {o:Oper} {b:Bool} (hw:Want ops.toList env o b):Region.wanted o (yielded ops a.tmps)=b:=by
 unfold Want at hw;unfold Region.wanted;cases hg:o.guard with
 | none=>rw[hg] at hw;exact hw.symm | some g=>
  obtain⟨j,want⟩:=g;rw[hg] at hw;obtain⟨t,ht,⟨c,hc,rfl⟩ | ⟨hc,rfl⟩⟩:=hw;rotate_left
  .have ht' :(ops[j]?).bind (·.dst)=some t:=by simpa using ht
   have hcr:=h.envs t;rw[hc] at hcr;simp only[CR,CRs] at hcr;obtain⟨vs,hv,_⟩:=hcr;have hy:yielded ops a.tmps j=none:=by
    unfold yielded;rw[ht'];simp only[zOb];rw[Cy] at hv;cases e:a.tmps[t]? with
    | none=>rfl | some v=>rw[e] at hv;simp at hv;subst hv;rfl
   simp only[hy];cases want<;>rfl
  have hy:yielded ops a.tmps j=some c:=by
   have ht' :(ops[j]?).bind (·.dst)=some t:=by simpa using ht
   have hcr:=h.envs t;rw[hc] at hcr;simp only[CR] at hcr;have hv:a.tmps[t]? =some (.bool c):=by
    rw[Cy] at hcr;cases e:a.tmps[t]? with
    | none=>rw[e] at hcr;simp[undef] at hcr | some v=>rw[e] at hcr;simp at hcr;rw[hcr]
   unfold yielded;rw[ht'];simp only[zOb,hv]
  simp only[hy];cases c<;>cases want<;>rfl
def y5h (C:Cx) (o:Oper):Prop:= ∀t,o.dst=some t->C.fx.getD t false=false
theorem z9q {N Np:Nat->Prop} :CR N Np H B w (.tup []) undef:=by
 simp only[CR,CRs];exact⟨#[],rfl,rfl⟩
theorem z5j {N Np:Nat->Prop} {v:Value} :CR N Np H B w .undef v:=by simp[CR]
theorem z9w (ok:TyOk P A) (hV:LvlOk P A V) (hgd:C.gd=A.gd) {Q:Exit->Act->World->Prop} :∀ {os:List Oper} {env E:List D} {a:Act} {w:World},Tr A V ops.toList H os env E->St C env H B a w->
 (∀o∈os,y5h C o)->(∀a' w',St C E H B a' w' ->Q .normal a' w')->wpList P ops Q os a w
 | [],env,E,a,w,ht,h,hf,hQ=>by
  cases ht;exact hQ a w h
 | o::os,env,E,a,w,ht,h,hf,hQ=>by
  have hf0:=hf o (by simp);have hf1:=fun x (hx:x∈os)=>hf x (by simp[hx])
  cases ht with
  | cons hv ht=>
   unfold wpList;rcases hv with ⟨hw,hn⟩ | ⟨hw,rfl⟩
   .rw[z2o h hw,Al rfl];exact .inl (y3p ok hV hgd h hn (fun v w' h1 h2=>z9w ok hV hgd ht (h1.put h2 o.dst hf0) hf1 hQ))
   .rw[z2o h hw,Ao (by simp)];exact z9w ok hV hgd ht (h.put z9q o.dst hf0) hf1 hQ
theorem y7g {op:Op} {d:D} (h:y8k A env H op=some d):z8l A env H op=some d:=by
 unfold y8k at h;split at h
 .split at h
  .exact h
  .cases h
 .cases h
theorem z3r (ok:TyOk P A) (hV:LvlOk P A V) (hgd:C.gd=A.gd) {R:Type} {K:List D->z0a->Option R} {r:R} {Q:Exit->Act->World->Prop}
 (hQ:∀E H' B' a' w',St C E H' B' a' w' ->K E H' =some r->Q .normal a' w'):∀ {os:List Oper} {env:List D} {H:z0a} {B:List (Option Nat)} {a:Act} {w:World},
 y2z A V R ops.toList K os env H=some r->St C env H B a w->(∀o∈os,y5h C o)->wpList P ops Q os a w
 | [],env,H,B,a,w,hr,h,hf=>hQ _ _ _ _ _ h hr | o::os,env,H,B,a,w,hr,h,hf=>by
  have hf0:=hf o (by simp);have hf1:=fun x (hx:x∈os)=>hf x (by simp[hx])
  simp only[y2z] at hr;unfold wpList;rcases z3n hr with ⟨hw,hr⟩ | ⟨hw,hr⟩
  .rw[z2o h hw,Al rfl];refine .inl ?_;split at hr
   .rename_i g d he;cases g with
    | false=>cases hr | true=>
     obtain⟨v,h1,h2⟩:=y4z ok h he rfl;simp only[Oper.wp,h1,Oper.upon];exact z3r ok hV hgd hQ hr (h.put h2 o.dst hf0) hf1
   .split at hr
    .rename_i d he;refine y3p ok hV hgd h (d:=d) (.inr (.inl ?_)) (fun v w' h1 h2=>z3r ok hV hgd hQ hr (h1.put h2 o.dst hf0) hf1);exact y7g he
    split at hr
    .rename_i g d H' he;cases g with
     | false=>cases hr | true=>
      obtain⟨B0,h0⟩:=h.frz (y1o env o.op);obtain⟨v,B',w',h1,h2,h3⟩:=y4u ok h0 he rfl;rcases h1 with h1 | ⟨h1,rfl⟩
      .simp only[Oper.wp,h1,Oper.upon];exact z3r ok hV hgd hQ hr (h2.put h3 o.dst hf0) hf1
      .simp only[Oper.wp,h1,Oper.upon];exact z3r ok hV hgd hQ hr (h2.put h3 o.dst hf0) hf1
    .split at hr
     .rename_i c ho;split at hr
      .rename_i f ds hc;obtain⟨x,u,y,rs,H2,r0,he,hp,hy,hrs,hr0,hk⟩:=z3b hr;have hb:=(hV f x y hy).1;obtain⟨args,h1,h2⟩:=z4k h ho hc hb;obtain⟨_,d,H2,hk,hcalls⟩:=z9z hV hgd h h1 hr;simp only[Oper.wp,h2,Oper.upon];refine Calls.mono hcalls ?_
       rintro e w' ⟨v,rfl,B2,h3,h4⟩
       exact z3r ok hV hgd hQ hk (h3.put h4 o.dst hf0) hf1
      .cases hr
     .cases hr
  .rw[z2o h hw,Ao (by simp)];exact z3r ok hV hgd hQ hr (h.put z9q o.dst hf0) hf1
end
end Go.Proofs.YtkphhjdbdnoekaaGreatDoor.Ab
