/- The law FnEngines returns true for every input,and its inputs read behind the call as they read r4c. Conditions:none. -/
import Derived.Test.YtbkicjpdlchbgaaGreatAbT4
import Derived.Test.YtbkicjpdlchbgaaGreatAbIS
import Derived.Test.YtbkicjpdlchbgaaGreatAbSI
import Derived.Test.YtbkicjpdlchbgaaGreatRows
import Derived.WalkKit
import Derived.ProofKit
import Derived.OpenShut
import Derived.ChangeOld
import Derived.SizedLaws
import Derived.KernelRfl
namespace Go.Proofs.YtbkicjpdlchbgaaGreat.Ab
open Go Go.ChangeShapes Go.WideShapes Go.ChangeAt Go.RowKit Go.Proofs.YtbkicjpdlchbgaaGreat
set_option linter.unusedVariables false
set_option linter.unusedSimpArgs false
set_option linter.unnecessarySimpa false
set_option linter.unusedVariables false
set_option maxRecDepth 100000
theorem own3:ownKnob Tryz.prog.godebug=none:=by kernel_rfl
theorem laidOut3:laidOutB Tryz.prog=true:=by kernel_rfl
theorem tabsOk:y7i Tryz.prog o0z=true:=by kernel_rfl
theorem mixedOk:Tryz.prog.follows .mixedOrders=true:=by kernel_rfl
theorem namesOk:(Tryz.prog.funcs.toList.all fun fn=> !(fn.name== "runtime.NumGoroutine"))=true:=by kernel_rfl
theorem tyOk:TyOk Tryz.prog A:=y8o (S:=p44) tabsOk mixedOk
theorem primsOk:y5b Tryz.prog A:=by
  intro f F x y hF h
  change p2h f=some F at hF
  unfold p2h at hF
  split at hF
  · cases hF
    exact ⟨⟨Tryz.f387,Tryz.func387,by kernel_rfl,by kernel_rfl⟩,y6e p4f h⟩
  · cases hF
    exact ⟨⟨Tryz.f325,Tryz.func325,by kernel_rfl,by kernel_rfl⟩,y7o p5t h⟩
  · cases hF
    exact ⟨⟨Tryz.f326,Tryz.func326,by kernel_rfl,by kernel_rfl⟩,y5c p5u h⟩
  · cases hF
theorem answers {f:Nat} {x:(A.sig f).ins.den} {y:(A.sig f).out.den} (h:(y5x Tryz.prog A).call f x=some y):z3i Tryz.prog A.gd (A.fn f) (A.sig f) x y:=by
  obtain ⟨k,hk⟩:=y7y h
  exact (y6y tyOk primsOk (y7z namesOk) k f x y hk).2
theorem lifted (os:Os) (started:os.Started) (H:Type) (enc:TypeId × Value→H):
    ReturnsInHanded {} Tryz.checked os 10 .any (Rows.fnEnginesSpec.pre6 enc Tryz.prog Tryz.f10 Rows.fnEnginesRow.domain false) (Rows.fnEnginesSpec.post enc Tryz.prog Tryz.f10 false true false false):=by
  refine returnsInHanded_of_change_sized (C:=Tryz.checked) own3 started (by kernel_rfl) Tryz.func10
    (ChangeSpec.witness6 (enc:=enc) (C:=Tryz.checked) false ⟨#[],#[.slice none 0 0], []⟩ 8 (by kernel_rfl) (by kernel_rfl) (by kernel_rfl) (by kernel_rfl)) ?_
  refine y4r (C:=Tryz.checked) (ps:= [(false,(.sl (.int .u8)))]) (rt:=4) laidOut3 (by kernel_rfl) (by kernel_rfl) rfl Tryz.underlying4 rfl (fun ds h=> ?_) (fun x hx=> ?_)
  · match ds,h with
    | [d0],_=>rfl
  · exact answers (q3o x hx)
theorem ov1:Tryz.pinned.checked.prog.funcNamed Rows.fnEnginesRow.func=some 10:=by kernel_rfl
set_option maxHeartbeats 8000000 in
theorem ov2:joinedFacts Tryz.pinned.checked.prog 10 Tryz.f10 Rows.fnEnginesSpec Rows.fnEnginesRow=true:=by
  unfold joinedFacts
  iterate 31 (rewrite [Bool.and_eq_true]; refine And.intro ?_ ?_)
  all_goals (as_aux_lemma=>kernel_rfl)
theorem ov3:Tryz.f10.isInstance Tryz.pinned.checked.prog Rows.fnEnginesRow.origin Rows.fnEnginesRow.targs:=(of_decide_eq_true (by kernel_rfl))
theorem ov4:Tryz.f10.isWrapper Tryz.pinned.checked.prog Rows.fnEnginesRow.wrapper Rows.fnEnginesRow.mainSum:=(by unfold Func.isWrapper; first | (rw [if_pos (by decide+kernel)]; kernel_rfl) | (rw [if_neg (by decide+kernel)]; exact ⟨rfl,rfl⟩))
theorem over:Rows.fnEnginesRow.holds Tryz.pinned (OpenSpec.ofChange Rows.fnEnginesSpec):=
  OpenClaim.holds_of_wide 10 Tryz.f10 rfl rfl rfl rfl rfl rfl rfl ⟨rfl,rfl,rfl,rfl,rfl⟩ rfl rfl rfl rfl rfl ov1 Tryz.func10 ov2 ov3 ov4
    (fun os started H enc _=>lifted os started H enc)
theorem proved:Rows.FnEnginesSaid:=over
end Go.Proofs.YtbkicjpdlchbgaaGreat.Ab
namespace Go.Proofs.YtbkicjpdlchbgaaGreat
/-- The row,under a short name,for the claim. -/
theorem fnEngines_holds:Rows.FnEnginesSaid:=Ab.proved
#print axioms fnEngines_holds
end Go.Proofs.YtbkicjpdlchbgaaGreat
