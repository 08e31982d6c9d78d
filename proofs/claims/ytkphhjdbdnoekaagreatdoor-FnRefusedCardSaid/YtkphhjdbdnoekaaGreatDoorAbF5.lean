import Derived.Test.YtkphhjdbdnoekaaGreatDoorAbF4
namespace Go.Proofs.YtkphhjdbdnoekaaGreatDoor.Ab

section
open Go Go.ChangeShapes Go.RowKit
set_option linter.unusedVariables false
set_option linter.unusedSimpArgs false
set_option linter.unnecessarySimpa false
set_option linter.unusedSimpArgs false
set_option linter.unusedVariables false
theorem y4c {H:Type} {enc:TypeId×Value->H} {C:Checked} {f:Nat} {fn:Func} {s:ChangeSpec} {conds:List PathCond} {ps:List Par} {rt:Nat} (hl:laidOutB C.prog=true) (hfit:z0l C.prog fn.params.toList ps=true)
 (hread:(fn.params.toList.all fun t=>C.prog.readableRec t&&decide (t<C.prog.types.size))=true) (hres:fn.resultTypes= #[rt]) (hbool:C.prog.underlying rt=some .bool) (hvars:s.vars= [])
 (hspec:∀ds:List (DataW H),ds.length=ps.length->s.fn H ds= {results:= [.lit (.bool true)],args:=ds})
 {gd:Guard} {X:World->Array Value->Prop} (hX:∀W args,X W args->gd.pre W/\ ∀b,gd.G b->b<W.heap.size)
 (hans:∀x:y6n ps,z7f ps x->z1n C.prog gd f {ins:=z3z ps,inout:= [],out:= .bool,nres:=1} (z4d ps x) true):
 ∀(W:World) (base:Nat) (args:Array Value) (ds gs:List (DataW H)) (before:List MemPlace),
  (∀(j:Nat) t v,fn.params[j]? =some t->args[j]? =some v->Value.okWide C.prog W .any base t v)->
  DataW.Whole enc C.prog fn.params.toList s.vars false W args.toList ds gs before->
  conds.all (PathCond.test C.prog ⟨fn.params.toList,ds,s.plain.varTypes C.prog,gs⟩)=true->
  (DataW.weightsEach C.prog (fn.params.toList++s.plain.varTypes C.prog) (ds++gs)).all (·<=reachBytes)=true->
  X W args->
  ({} :Assume).holds C.prog (lone (Frame.enter C.prog f args .normal) [] W)->
  Calls C.prog f args W fun e W' => ∃v,e= .returned v/\s.post enc C.prog fn false true false false W args v W' :=by
 intro W base args ds gs before hval hW _ _ hxw _;obtain⟨hgp,hgl⟩:=hX W args hxw;have hW' :=hW;obtain⟨p,q,hA,hV,rfl,_,_⟩:=hW;rw[hvars] at hV;obtain⟨rfl,rfl⟩:=trodVars_none hV;obtain⟨x,hx,hc⟩:=z9m hfit (fun j t v h1 h2=>hval j t v (by simpa using h1) (by simpa using h2)) hA
 let C0:Cx:= {w0:=W,W0:=fun _=>False,Lb:=fun _=>False,Lp:=fun _=>False,nt:=0,fx:= [],fv:=fun _=>undef,gd:=gd}
 obtain⟨hc1,hc2⟩:=hc [] [];have hno:∀b:Nat,¬Has [] b:=fun b ⟨i,k⟩=>by simp at k
 have hs:HS C0 (emb (z3z ps) (z4d ps x) []).2 [] C0.w0:=by
  rw[hc2]
  exact {
   lenB:=rfl
   nodup:=fun i j rb k=>by simp at k
   alloc:=fun i rb k=>by simp at k
   blk:=fun i b ob k=>by simp at k
   lb:=fun b k=>k
   lp:=fun b k=>k.elim
   fr:=Fr.refl _ _
   gl:=fun b k=>⟨hgl b k,fun z=>z,fun z=>z⟩
   gp:=hgp}
 have hcr:CRs (C0.N []) (C0.Np []) (emb (z3z ps) (z4d ps x) []).2 [] C0.w0 (emb (z3z ps) (z4d ps x) []).1 args.toList:=by
  rw[hc2];exact hc1.step (z2x (fun b k=>k.elim (hno b) (fun z=>z)) (fun b k=>k.elim (hno b) (fun z=>z)))
 have:=hans x hx C0 [] args.toList rfl hs hcr;have ha:args.toList.toArray=args:=by simp
 rw[ha] at this;refine Calls.mono this ?_;intro e w' hR;cases e with
 | panicked _=>exact hR.elim | outgrown=>exact hR.elim | returned v=>
  obtain⟨H1,B1,ds1,vs,u1,g1,g2,g3,g4,g5⟩:=hR;have hds:=y0g g3;subst hds;have hkv:z0z [] args.toList= [] :=rfl;rw[hkv,Bw] at g2;simp only[CRs,CR] at g2;obtain⟨_,_,rfl,rfl,rfl⟩:=g2;have hbel:Below W.heap.size W w' :=⟨g1.fr.os,g1.fr.tape,g1.fr.output,g1.fr.size,fun k hk=>g1.fr.same k hk (fun z=>z)⟩;refine⟨_,rfl,?_⟩;have hlen:ds.length=ps.length:=by
   have l1:∀ {ts:List Nat} {vs:List Value} {ds:List (DataW H)} {p:List MemPlace},DataW.TrodAll enc C.prog W 0 (fun _=>true) true ts vs ds p->ds.length=ts.length:=by
    intro ts
    induction ts with
    | nil=>intro vs ds p h;obtain⟨_,rfl,_⟩:=trodAll_nil h;rfl | cons t ts ih=>intro vs ds p h;obtain⟨_,_,_,_,_,_,_,rfl,_,_,h2⟩:=trodAll_cons h;simp[ih h2]
   have l2:∀ {ts:List Nat} {ps:List Par},z0l C.prog ts ps=true->ts.length=ps.length:=by
    intro ts
    induction ts with
    | nil=>intro as h;cases as<;>simp[z0l] at h ⊢
    | cons t ts ih=>intro as h;cases as with
     | nil=>simp[z0l] at h | cons a as=>simp only[z0l,Ai] at h;simp[ih h.2]
   rw[l1 hA,l2 hfit]
  have hsp:=hspec (ds++ []) (by simpa using hlen);refine⟨ds, [],p++ [], [],p, [],hW',?_,?_,?_,hbel.frame _,fun h=>by cases h⟩
  .rw[hsp,g5,hres];exact trodAll_mk1 ⟨1,by simp[DataW.trod,Value.cells,hbool,y2x,Value.resultList]⟩
  .rw[hsp];simpa using z5k hl hbel hread hA
  .rw[hvars,hsp];exact rfl
end
end Go.Proofs.YtkphhjdbdnoekaaGreatDoor.Ab
