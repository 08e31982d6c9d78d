/- The law FnWatches returns true for every input,and its inputs read behind the call as they read r1o. Conditions:none. -/
import Derived.Test.YtkphhjdbdnoekaaGreatAbWatchesT6
import Derived.Test.YtkphhjdbdnoekaaGreatAbWatchesIS
import Derived.Test.YtkphhjdbdnoekaaGreatAbWatchesSI
import Derived.Test.YtkphhjdbdnoekaaGreatRows
import Derived.WalkKit
import Derived.ProofKit
import Derived.OpenShut
import Derived.ChangeOld
import Derived.SizedLaws
import Derived.KernelRfl
namespace Go.Proofs.YtkphhjdbdnoekaaGreat.Ab
open Go Go.ChangeShapes Go.WideShapes Go.ChangeAt Go.RowKit Go.Proofs.YtkphhjdbdnoekaaGreat
set_option linter.unusedVariables false
set_option linter.unusedSimpArgs false
set_option linter.unnecessarySimpa false
set_option linter.unusedVariables false
set_option maxRecDepth 100000
theorem own3:ownKnob Tryz.prog.godebug=none:=by kernel_rfl
theorem laidOut3:laidOutB Tryz.prog=true:=by kernel_rfl
theorem tabsOk:y7e Tryz.prog c5f=true:=by kernel_rfl
theorem mixedOk:Tryz.prog.follows .mixedOrders=true:=by kernel_rfl
theorem namesOk:(Tryz.prog.funcs.toList.all fun fn=> !(fn.name== "runtime.NumGoroutine"))=true:=by kernel_rfl
theorem tyOk:TyOk Tryz.prog A:=y8i (S:=d3z) tabsOk mixedOk
theorem primsOk:y5a Tryz.prog A:=by
 intro f F x y hF h;change d0v f=some F at hF;unfold d0v at hF;split at hF
 .cases hF;exact⟨⟨Tryz.f315,Tryz.func315,by kernel_rfl,by kernel_rfl⟩,y7k d5e h⟩
 .cases hF;exact⟨⟨Tryz.f316,Tryz.func316,by kernel_rfl,by kernel_rfl⟩,y5b d5f h⟩
 .cases hF;exact⟨⟨Tryz.f307,Tryz.func307,by kernel_rfl,by kernel_rfl⟩,y6d d20 h⟩
 .cases hF;exact⟨⟨Tryz.f368,Tryz.func368,by kernel_rfl,by kernel_rfl⟩,y7y d5d p4x h⟩
 .cases hF
theorem answers {f:Nat} {x:(A.sig f).ins.den} {y:(A.sig f).out.den} (h:(y5v Tryz.prog A).call f x=some y):z2n Tryz.prog A.gd (A.fn f) (A.sig f) x y:=by
 obtain⟨k,hk⟩:=y7u h;exact(y6v tyOk primsOk (y7v namesOk) k f x y hk).2
theorem lifted (os:Os) (started:os.Started) (H:Type) (enc:TypeId×Value->H):
 ReturnsInHanded {} Tryz.checked os 7 .any (Rows.fnWatchesSpec.pre6 enc Tryz.prog Tryz.f7 Rows.fnWatchesRow.domain false) (Rows.fnWatchesSpec.post enc Tryz.prog Tryz.f7 false true false false):=by
 refine returnsInHanded_of_change_sized (C:=Tryz.checked) own3 started (by kernel_rfl) Tryz.func7
  (ChangeSpec.witness6 (enc:=enc) (C:=Tryz.checked) false ⟨#[],#[.slice none 0 0], []⟩ 8 (by kernel_rfl) (by kernel_rfl) (by kernel_rfl) (by kernel_rfl)) ?_
 refine y4q (C:=Tryz.checked) (ps:= [(false,(.sl (.int .u8)))]) (rt:=4) laidOut3 (by kernel_rfl) (by kernel_rfl) rfl Tryz.underlying4 rfl (fun ds h=> ?_) (fun x hx=> ?_)
 .match ds,h with
  | [d0],_=>rfl
 .exact answers (o94 x hx)
theorem ov1:Tryz.pinned.checked.prog.funcNamed Rows.fnWatchesRow.func=some 7:=by kernel_rfl
set_option maxHeartbeats 8000000 in
theorem ov2:joinedFacts Tryz.pinned.checked.prog 7 Tryz.f7 Rows.fnWatchesSpec Rows.fnWatchesRow=true:=by
 unfold joinedFacts
 iterate 31 (rewrite[Bool.and_eq_true];refine And.intro ?_ ?_)
 all_goals (as_aux_lemma=>kernel_rfl)
theorem ov3:Tryz.f7.isInstance Tryz.pinned.checked.prog Rows.fnWatchesRow.origin Rows.fnWatchesRow.targs:=(of_decide_eq_true (by kernel_rfl))
theorem ov4:Tryz.f7.isWrapper Tryz.pinned.checked.prog Rows.fnWatchesRow.wrapper Rows.fnWatchesRow.mainSum:=(by unfold Func.isWrapper;first | (rw[if_pos (by decide+kernel)];kernel_rfl) | (rw[if_neg (by decide+kernel)];exact⟨rfl,rfl⟩))
theorem over:Rows.fnWatchesRow.holds Tryz.pinned (OpenSpec.ofChange Rows.fnWatchesSpec):=
 OpenClaim.holds_of_wide 7 Tryz.f7 rfl rfl rfl rfl rfl rfl rfl ⟨rfl,rfl,rfl,rfl,rfl⟩ rfl rfl rfl rfl rfl ov1 Tryz.func7 ov2 ov3 ov4
  (fun os started H enc _=>lifted os started H enc)
theorem proved:Rows.FnWatchesSaid:=over
end Go.Proofs.YtkphhjdbdnoekaaGreat.Ab
namespace Go.Proofs.YtkphhjdbdnoekaaGreat
/-- The row,under a short name,for the claim. -/
theorem fnWatches_holds:Rows.FnWatchesSaid:=Ab.proved
#print axioms fnWatches_holds
end Go.Proofs.YtkphhjdbdnoekaaGreat
