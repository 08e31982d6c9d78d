/- The law FnExactStoreOk returns true for every input,and its inputs read behind the call as they read r92. Conditions:none. -/
import Derived.Test.YtbkicjpdlchbgaaGreatAbStoreOkT4
import Derived.Test.YtbkicjpdlchbgaaGreatAbStoreOkIS
import Derived.Test.YtbkicjpdlchbgaaGreatAbStoreOkSI
import Derived.Test.YtbkicjpdlchbgaaGreatRows
import Derived.WalkKit
import Derived.ProofKit
import Derived.OpenShut
import Derived.ChangeOld
import Derived.SizedLaws
import Derived.KernelRfl
namespace Go.Proofs.YtbkicjpdlchbgaaGreat.Ab
open Go Go.ChangeShapes Go.WideShapes Go.ChangeAt Go.RowKit Go.Proofs.YtbkicjpdlchbgaaGreat
set_option linter.unusedVariables false
set_option linter.unusedSimpArgs false
set_option linter.unnecessarySimpa false
set_option linter.unusedVariables false
set_option maxRecDepth 100000
theorem own3:ownKnob Tryz.prog.godebug=none:=by kernel_rfl
theorem laidOut3:laidOutB Tryz.prog=true:=by kernel_rfl
theorem tabsOk:y7i Tryz.prog o6h=true:=by kernel_rfl
theorem mixedOk:Tryz.prog.follows .mixedOrders=true:=by kernel_rfl
theorem namesOk:(Tryz.prog.funcs.toList.all fun fn=> !(fn.name== "runtime.NumGoroutine"))=true:=by kernel_rfl
theorem tyOk:TyOk Tryz.prog A:=y8o (S:=p91) tabsOk mixedOk
theorem primsOk:y5b Tryz.prog A:=by
 intro f F x y hF h
 change p7f f=some F at hF
 unfold p7f at hF
 split at hF
 ·cases hF
  exact⟨⟨Tryz.f257,Tryz.func257,by kernel_rfl,by kernel_rfl⟩,y6e p89 h⟩
 ·cases hF
  exact⟨⟨Tryz.f325,Tryz.func325,by kernel_rfl,by kernel_rfl⟩,y7o o0r h⟩
 ·cases hF
  exact⟨⟨Tryz.f326,Tryz.func326,by kernel_rfl,by kernel_rfl⟩,y5c o0s h⟩
 ·cases hF
theorem answers {f:Nat} {x:(A.sig f).ins.den} {y:(A.sig f).out.den} (h:(y5x Tryz.prog A).call f x=some y):z3i Tryz.prog A.gd (A.fn f) (A.sig f) x y:=by
 obtain⟨k,hk⟩:=y7y h
 exact(y6y tyOk primsOk (y7z namesOk) k f x y hk).2
theorem lifted (os:Os) (started:os.Started) (H:Type) (enc:TypeId×Value→H):
 ReturnsInHanded {} Tryz.checked os 11 .any (Rows.fnExactStoreOkSpec.pre6 enc Tryz.prog Tryz.f11 Rows.fnExactStoreOkRow.domain false) (Rows.fnExactStoreOkSpec.post enc Tryz.prog Tryz.f11 false true false false):=by
 refine returnsInHanded_of_change_sized (C:=Tryz.checked) own3 started (by kernel_rfl) Tryz.func11
  (ChangeSpec.witness6 (enc:=enc) (C:=Tryz.checked) false ⟨#[],#[.agg #[.slice none 0 0, .slice none 0 0, .slice none 0 0, .int .i64 0, .int .i64 0, .slice none 0 0, .slice none 0 0, .slice none 0 0]], []⟩ 8 (by kernel_rfl) (by kernel_rfl) (by kernel_rfl) (by kernel_rfl)) ?_
 refine y4s (C:=Tryz.checked) (ps:= [(true,(.pair (.pair (.pair (.sl (.pair .str (.pair .str (.pair .bool (.int .i64))))) (.pair (.sl (.pair (.int .i64) (.pair (.int .i64) (.pair (.int .i64) (.pair (.int .i64) (.pair (.sl (.pair .str .str)) (.pair (.sl (.pair .str (.pair .str .bool))) (.pair .bool .str)))))))) (.pair (.sl (.pair (.int .i64) (.pair (.int .i64) (.pair (.int .i64) (.pair (.int .i64) (.pair (.sl (.pair .str .str)) (.pair (.sl (.pair .str (.pair .str .bool))) (.pair .bool .str)))))))) (.pair (.int .i64) (.int .i64))))) (.sl (.pair (.int .i64) (.pair (.int .i64) (.pair (.int .i64) (.pair (.int .i64) (.pair (.sl (.pair .str .str)) (.pair (.sl (.pair .str (.pair .str .bool))) (.pair .bool .str))))))))) (.pair (.sl .str) (.sl (.pair (.int .i64) .str)))))]) (rt:=4) laidOut3 (by kernel_rfl) (by kernel_rfl) rfl Tryz.underlying4 rfl (fun ds h=> ?_) (fun x hx=> ?_)
 ·match ds,h with
  | [d0],_=>rfl
 ·obtain⟨⟨⟨a1,⟨a2,⟨a3,⟨a4,a5⟩⟩⟩⟩,a6⟩,⟨a7,a8⟩⟩:=x
  exact answers (r7a ⟨⟨⟨a1,⟨a2,⟨a3,⟨a4,a5⟩⟩⟩⟩,a6⟩,⟨a7,a8⟩⟩ hx)
theorem ov1:Tryz.pinned.checked.prog.funcNamed Rows.fnExactStoreOkRow.func=some 11:=by kernel_rfl
set_option maxHeartbeats 8000000 in
theorem ov2:joinedFacts Tryz.pinned.checked.prog 11 Tryz.f11 Rows.fnExactStoreOkSpec Rows.fnExactStoreOkRow=true:=by
 unfold joinedFacts
 iterate 31 (rewrite[Bool.and_eq_true];refine And.intro ?_ ?_)
 all_goals (as_aux_lemma=>kernel_rfl)
theorem ov3:Tryz.f11.isInstance Tryz.pinned.checked.prog Rows.fnExactStoreOkRow.origin Rows.fnExactStoreOkRow.targs:=(of_decide_eq_true (by kernel_rfl))
theorem ov4:Tryz.f11.isWrapper Tryz.pinned.checked.prog Rows.fnExactStoreOkRow.wrapper Rows.fnExactStoreOkRow.mainSum:=(by unfold Func.isWrapper;first | (rw[if_pos (by decide+kernel)];kernel_rfl) | (rw[if_neg (by decide+kernel)];exact⟨rfl,rfl⟩))
theorem over:Rows.fnExactStoreOkRow.holds Tryz.pinned (OpenSpec.ofChange Rows.fnExactStoreOkSpec):=
 OpenClaim.holds_of_wide 11 Tryz.f11 rfl rfl rfl rfl rfl rfl rfl ⟨rfl,rfl,rfl,rfl,rfl⟩ rfl rfl rfl rfl rfl ov1 Tryz.func11 ov2 ov3 ov4
  (fun os started H enc _=>lifted os started H enc)
theorem proved:Rows.FnExactStoreOkSaid:=over
end Go.Proofs.YtbkicjpdlchbgaaGreat.Ab
namespace Go.Proofs.YtbkicjpdlchbgaaGreat
/-- The row,under a short name,for the claim. -/
theorem fnExactStoreOk_holds:Rows.FnExactStoreOkSaid:=Ab.proved
#print axioms fnExactStoreOk_holds
end Go.Proofs.YtbkicjpdlchbgaaGreat
