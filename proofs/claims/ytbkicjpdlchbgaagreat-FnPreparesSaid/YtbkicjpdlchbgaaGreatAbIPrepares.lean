/- The law FnPrepares returns true for every input,and its inputs read behind the call as they read r72. Conditions:none. -/
import Derived.Test.YtbkicjpdlchbgaaGreatAbPreparesT4
import Derived.Test.YtbkicjpdlchbgaaGreatAbPreparesSI
import Derived.Test.YtbkicjpdlchbgaaGreatRows
import Derived.WalkKit
import Derived.ProofKit
import Derived.OpenShut
import Derived.ChangeOld
import Derived.SizedLaws
import Derived.KernelRfl
namespace Go.Proofs.YtbkicjpdlchbgaaGreat.Ab
open Go Go.ChangeShapes Go.WideShapes Go.ChangeAt Go.RowKit Go.Proofs.YtbkicjpdlchbgaaGreat
set_option linter.unusedVariables false
set_option linter.unusedSimpArgs false
set_option linter.unnecessarySimpa false
set_option linter.unusedVariables false
set_option maxRecDepth 100000
theorem own3:ownKnob Tryz.prog.godebug=none:=by kernel_rfl
theorem laidOut3:laidOutB Tryz.prog=true:=by kernel_rfl
theorem tabsOk:y7i Tryz.prog o5d=true:=by kernel_rfl
theorem mixedOk:Tryz.prog.follows .mixedOrders=true:=by kernel_rfl
theorem namesOk:(Tryz.prog.funcs.toList.all fun fn=> !(fn.name== "runtime.NumGoroutine"))=true:=by kernel_rfl
theorem tyOk:TyOk Tryz.prog A:=y8o (S:=p8t) tabsOk mixedOk
theorem primsOk:y5b Tryz.prog A:=by
 intro f F x y hF h
 change p50 f=some F at hF
 unfold p50 at hF
 split at hF
 ·cases hF
  exact⟨⟨Tryz.f257,Tryz.func257,by kernel_rfl,by kernel_rfl⟩,y6e p72 h⟩
 ·cases hF
theorem answers {f:Nat} {x:(A.sig f).ins.den} {y:(A.sig f).out.den} (h:(y5x Tryz.prog A).call f x=some y):z3i Tryz.prog A.gd (A.fn f) (A.sig f) x y:=by
 obtain⟨k,hk⟩:=y7y h
 exact(y6y tyOk primsOk (y7z namesOk) k f x y hk).2
theorem lifted (os:Os) (started:os.Started) (H:Type) (enc:TypeId×Value→H):
 ReturnsInHanded {} Tryz.checked os 6 .any (Rows.fnPreparesSpec.pre6 enc Tryz.prog Tryz.f6 Rows.fnPreparesRow.domain false) (Rows.fnPreparesSpec.post enc Tryz.prog Tryz.f6 false true false false):=by
 refine returnsInHanded_of_change_sized (C:=Tryz.checked) own3 started (by kernel_rfl) Tryz.func6
  (ChangeSpec.witness6 (enc:=enc) (C:=Tryz.checked) false ⟨#[],#[.slice none 0 0], []⟩ 8 (by kernel_rfl) (by kernel_rfl) (by kernel_rfl) (by kernel_rfl)) ?_
 refine y4s (C:=Tryz.checked) (ps:= [(false,(.sl (.int .u8)))]) (rt:=4) laidOut3 (by kernel_rfl) (by kernel_rfl) rfl Tryz.underlying4 rfl (fun ds h=> ?_) (fun x hx=> ?_)
 ·match ds,h with
  | [d0],_=>rfl
 ·exact answers (q33 x hx)
theorem ov1:Tryz.pinned.checked.prog.funcNamed Rows.fnPreparesRow.func=some 6:=by kernel_rfl
set_option maxHeartbeats 8000000 in
theorem ov2:joinedFacts Tryz.pinned.checked.prog 6 Tryz.f6 Rows.fnPreparesSpec Rows.fnPreparesRow=true:=by
 unfold joinedFacts
 iterate 31 (rewrite[Bool.and_eq_true];refine And.intro ?_ ?_)
 all_goals (as_aux_lemma=>kernel_rfl)
theorem ov3:Tryz.f6.isInstance Tryz.pinned.checked.prog Rows.fnPreparesRow.origin Rows.fnPreparesRow.targs:=(of_decide_eq_true (by kernel_rfl))
theorem ov4:Tryz.f6.isWrapper Tryz.pinned.checked.prog Rows.fnPreparesRow.wrapper Rows.fnPreparesRow.mainSum:=(by unfold Func.isWrapper;first | (rw[if_pos (by decide+kernel)];kernel_rfl) | (rw[if_neg (by decide+kernel)];exact⟨rfl,rfl⟩))
theorem over:Rows.fnPreparesRow.holds Tryz.pinned (OpenSpec.ofChange Rows.fnPreparesSpec):=
 OpenClaim.holds_of_wide 6 Tryz.f6 rfl rfl rfl rfl rfl rfl rfl ⟨rfl,rfl,rfl,rfl,rfl⟩ rfl rfl rfl rfl rfl ov1 Tryz.func6 ov2 ov3 ov4
  (fun os started H enc _=>lifted os started H enc)
theorem proved:Rows.FnPreparesSaid:=over
end Go.Proofs.YtbkicjpdlchbgaaGreat.Ab
namespace Go.Proofs.YtbkicjpdlchbgaaGreat
/-- The row,under a short name,for the claim. -/
theorem fnPrepares_holds:Rows.FnPreparesSaid:=Ab.proved
#print axioms fnPrepares_holds
end Go.Proofs.YtbkicjpdlchbgaaGreat
