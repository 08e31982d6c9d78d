/- The law FnExactWorldNew returns true for every input,and its inputs read behind the call as they read before. Conditions:none. -/
import Derived.Test.YtkphhjdbdnoekaaAbWorldNewT1
import Derived.Test.YtkphhjdbdnoekaaAbWorldNewIS
import Derived.Test.YtkphhjdbdnoekaaRows
import Derived.WalkKit
import Derived.ProofKit
import Derived.OpenShut
import Derived.ChangeOld
import Derived.SizedLaws
import Derived.KernelRfl
namespace Go.Proofs.Ytkphhjdbdnoekaa.Ab
open Go Go.ChangeShapes Go.WideShapes Go.ChangeAt Go.RowKit Go.Proofs.Ytkphhjdbdnoekaa
set_option linter.unusedVariables false
set_option linter.unusedSimpArgs false
set_option linter.unnecessarySimpa false
set_option linter.unusedVariables false
set_option maxRecDepth 100000
theorem own3:ownKnob Try.prog.godebug=none:=by kernel_rfl
theorem laidOut3:laidOutB Try.prog=true:=by kernel_rfl
theorem tabsOk:y7e Try.prog t1c=true:=by kernel_rfl
theorem mixedOk:Try.prog.follows .mixedOrders=true:=by kernel_rfl
theorem namesOk:(Try.prog.funcs.toList.all fun fn=> !(fn.name== "runtime.NumGoroutine"))=true:=by kernel_rfl
theorem tyOk:TyOk Try.prog A:=y8p (S:=u9z) tabsOk mixedOk
theorem primsOk:y4w Try.prog A:=by
 intro f F x y hF h
 change u9k f=some F at hF
 unfold u9k at hF
 split at hF
 ·cases hF
  exact⟨⟨Try.f83,Try.func83,by kernel_rfl,by kernel_rfl⟩,y8a u98 u59 h⟩
 ·cases hF
theorem answers {f:Nat} {x:(A.sig f).ins.den} {y:(A.sig f).out.den} (h:(y5t Try.prog A).call f x=some y):z2k Try.prog A.gd (A.fn f) (A.sig f) x y:=by
 obtain⟨k,hk⟩:=y7v h
 exact(y6t tyOk primsOk (y7w namesOk) k f x y hk).2
theorem lifted (os:Os) (started:os.Started) (H:Type) (enc:TypeId×Value→H):
 ReturnsInHanded {} Try.checked os 4 .any (Rows.fnExactWorldNewSpec.pre6 enc Try.prog Try.f4 Rows.fnExactWorldNewRow.domain false) (Rows.fnExactWorldNewSpec.post enc Try.prog Try.f4 false true false false):=by
 refine returnsInHanded_of_change_sized (C:=Try.checked) own3 started (by kernel_rfl) Try.func4
  (ChangeSpec.witness6 (enc:=enc) (C:=Try.checked) false ⟨#[],#[], []⟩ 8 (by kernel_rfl) (by kernel_rfl) (by kernel_rfl) (by kernel_rfl)) ?_
 refine y4m (C:=Try.checked) (ps:= []) (rt:=4) laidOut3 (by kernel_rfl) (by kernel_rfl) rfl Try.underlying4 rfl (fun ds h=> ?_) (fun x hx=> ?_)
 ·match ds,h with
  | [],_=>rfl
 ·exact answers (u5t x hx)
theorem ov1:Try.pinned.checked.prog.funcNamed Rows.fnExactWorldNewRow.func=some 4:=by kernel_rfl
set_option maxHeartbeats 8000000 in
theorem ov2:joinedFacts Try.pinned.checked.prog 4 Try.f4 Rows.fnExactWorldNewSpec Rows.fnExactWorldNewRow=true:=by
 unfold joinedFacts
 iterate 31 (rewrite[Bool.and_eq_true];refine And.intro ?_ ?_)
 all_goals (as_aux_lemma=>kernel_rfl)
theorem ov3:Try.f4.isInstance Try.pinned.checked.prog Rows.fnExactWorldNewRow.origin Rows.fnExactWorldNewRow.targs:=(of_decide_eq_true (by kernel_rfl))
theorem ov4:Try.f4.isWrapper Try.pinned.checked.prog Rows.fnExactWorldNewRow.wrapper Rows.fnExactWorldNewRow.mainSum:=(by unfold Func.isWrapper;first | (rw[if_pos (by decide+kernel)];kernel_rfl) | (rw[if_neg (by decide+kernel)];exact⟨rfl,rfl⟩))
theorem over:Rows.fnExactWorldNewRow.holds Try.pinned (OpenSpec.ofChange Rows.fnExactWorldNewSpec):=
 OpenClaim.holds_of_wide 4 Try.f4 rfl rfl rfl rfl rfl rfl rfl ⟨rfl,rfl,rfl,rfl,rfl⟩ rfl rfl rfl rfl rfl ov1 Try.func4 ov2 ov3 ov4
  (fun os started H enc _=>lifted os started H enc)
theorem proved:Rows.FnExactWorldNewSaid:=over
end Go.Proofs.Ytkphhjdbdnoekaa.Ab
namespace Go.Proofs.Ytkphhjdbdnoekaa
/-- The row,under a short name,for the claim. -/
theorem fnExactWorldNew_holds:Rows.FnExactWorldNewSaid:=Ab.proved
#print axioms fnExactWorldNew_holds
end Go.Proofs.Ytkphhjdbdnoekaa
