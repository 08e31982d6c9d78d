/- The law FnCommits returns true for every input,and its inputs read behind the call as they read r7y. Conditions:none. -/
import Derived.Test.YtbkicjpdlchbgaaGreatAbCommitsT4
import Derived.Test.YtbkicjpdlchbgaaGreatAbCommitsSI
import Derived.Test.YtbkicjpdlchbgaaGreatRows
import Derived.WalkKit
import Derived.ProofKit
import Derived.OpenShut
import Derived.ChangeOld
import Derived.SizedLaws
import Derived.KernelRfl
namespace Go.Proofs.YtbkicjpdlchbgaaGreat.Ab
open Go Go.ChangeShapes Go.WideShapes Go.ChangeAt Go.RowKit Go.Proofs.YtbkicjpdlchbgaaGreat
set_option linter.unusedVariables false
set_option linter.unusedSimpArgs false
set_option linter.unnecessarySimpa false
set_option linter.unusedVariables false
set_option maxRecDepth 100000
theorem own3:ownKnob Tryz.prog.godebug=none:=by kernel_rfl
theorem laidOut3:laidOutB Tryz.prog=true:=by kernel_rfl
theorem tabsOk:y7i Tryz.prog o5o=true:=by kernel_rfl
theorem mixedOk:Tryz.prog.follows .mixedOrders=true:=by kernel_rfl
theorem namesOk:(Tryz.prog.funcs.toList.all fun fn=> !(fn.name== "runtime.NumGoroutine"))=true:=by kernel_rfl
theorem tyOk:TyOk Tryz.prog A:=y8o (S:=p87) tabsOk mixedOk
theorem primsOk:y5b Tryz.prog A:=by
 intro f F x y hF h
 change p6b f=some F at hF
 unfold p6b at hF
 split at hF
 ·cases hF
  exact⟨⟨Tryz.f257,Tryz.func257,by kernel_rfl,by kernel_rfl⟩,y6e p8b h⟩
 ·cases hF
  exact⟨⟨Tryz.f387,Tryz.func387,by kernel_rfl,by kernel_rfl⟩,y6e p8c h⟩
 ·cases hF
theorem answers {f:Nat} {x:(A.sig f).ins.den} {y:(A.sig f).out.den} (h:(y5x Tryz.prog A).call f x=some y):z3i Tryz.prog A.gd (A.fn f) (A.sig f) x y:=by
 obtain⟨k,hk⟩:=y7y h
 exact(y6y tyOk primsOk (y7z namesOk) k f x y hk).2
theorem lifted (os:Os) (started:os.Started) (H:Type) (enc:TypeId×Value→H):
 ReturnsInHanded {} Tryz.checked os 7 .any (Rows.fnCommitsSpec.pre6 enc Tryz.prog Tryz.f7 Rows.fnCommitsRow.domain false) (Rows.fnCommitsSpec.post enc Tryz.prog Tryz.f7 false true false false):=by
 refine returnsInHanded_of_change_sized (C:=Tryz.checked) own3 started (by kernel_rfl) Tryz.func7
  (ChangeSpec.witness6 (enc:=enc) (C:=Tryz.checked) false ⟨#[],#[.slice none 0 0], []⟩ 8 (by kernel_rfl) (by kernel_rfl) (by kernel_rfl) (by kernel_rfl)) ?_
 refine y4s (C:=Tryz.checked) (ps:= [(false,(.sl (.int .u8)))]) (rt:=4) laidOut3 (by kernel_rfl) (by kernel_rfl) rfl Tryz.underlying4 rfl (fun ds h=> ?_) (fun x hx=> ?_)
 ·match ds,h with
  | [d0],_=>rfl
 ·exact answers (q66 x hx)
theorem ov1:Tryz.pinned.checked.prog.funcNamed Rows.fnCommitsRow.func=some 7:=by kernel_rfl
set_option maxHeartbeats 8000000 in
theorem ov2:joinedFacts Tryz.pinned.checked.prog 7 Tryz.f7 Rows.fnCommitsSpec Rows.fnCommitsRow=true:=by
 unfold joinedFacts
 iterate 31 (rewrite[Bool.and_eq_true];refine And.intro ?_ ?_)
 all_goals (as_aux_lemma=>kernel_rfl)
theorem ov3:Tryz.f7.isInstance Tryz.pinned.checked.prog Rows.fnCommitsRow.origin Rows.fnCommitsRow.targs:=(of_decide_eq_true (by kernel_rfl))
theorem ov4:Tryz.f7.isWrapper Tryz.pinned.checked.prog Rows.fnCommitsRow.wrapper Rows.fnCommitsRow.mainSum:=(by unfold Func.isWrapper;first | (rw[if_pos (by decide+kernel)];kernel_rfl) | (rw[if_neg (by decide+kernel)];exact⟨rfl,rfl⟩))
theorem over:Rows.fnCommitsRow.holds Tryz.pinned (OpenSpec.ofChange Rows.fnCommitsSpec):=
 OpenClaim.holds_of_wide 7 Tryz.f7 rfl rfl rfl rfl rfl rfl rfl ⟨rfl,rfl,rfl,rfl,rfl⟩ rfl rfl rfl rfl rfl ov1 Tryz.func7 ov2 ov3 ov4
  (fun os started H enc _=>lifted os started H enc)
theorem proved:Rows.FnCommitsSaid:=over
end Go.Proofs.YtbkicjpdlchbgaaGreat.Ab
namespace Go.Proofs.YtbkicjpdlchbgaaGreat
/-- The row,under a short name,for the claim. -/
theorem fnCommits_holds:Rows.FnCommitsSaid:=Ab.proved
#print axioms fnCommits_holds
end Go.Proofs.YtbkicjpdlchbgaaGreat
