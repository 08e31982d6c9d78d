/- The law FnExactDoubtRight returns true for every input, and its inputs read behind the call as they read before. Conditions: none. -/
import Derived.Test.YthhpkgegmfjdmaaGreatAbLDoubtRight
import Derived.Test.YthhpkgegmfjdmaaGreatAbSI
import Derived.Test.YthhpkgegmfjdmaaGreatRows
import Derived.WalkKit
import Derived.ProofKit
import Derived.OpenShut
import Derived.ChangeOld
import Derived.SizedLaws
import Derived.KernelRfl
namespace Go.Proofs.YthhpkgegmfjdmaaGreat.Ab
open Go Go.ChangeShapes Go.WideShapes Go.ChangeAt Go.RowKit Go.Proofs.YthhpkgegmfjdmaaGreat
set_option linter.unusedVariables false
set_option linter.unusedSimpArgs false
set_option linter.unnecessarySimpa false
set_option linter.unusedVariables false
set_option maxRecDepth 100000
theorem own3 : ownKnob Tryz.prog.godebug = none := by kernel_rfl
theorem laidOut3 : laidOutB Tryz.prog = true := by kernel_rfl
theorem tabsOk : tabsE Tryz.prog tabs = true := by kernel_rfl
theorem mixedOk : Tryz.prog.follows .mixedOrders = true := by kernel_rfl
theorem namesOk : (Tryz.prog.funcs.toList.all fun fn => !(fn.name == "runtime.NumGoroutine")) = true := by kernel_rfl
theorem tyOk : TyOk Tryz.prog A := tyOk_of (S := planOf) tabsOk mixedOk
theorem primsOk : PrimsOk Tryz.prog A := by
  intro f F x y hF h
  change primOf f = some F at hF
  unfold primOf at hF
  split at hF
  · cases hF
    exact ⟨⟨Tryz.f97, Tryz.func97, by kernel_rfl, by kernel_rfl⟩, ans_insert roads97 h⟩
  · cases hF
theorem answers {f : Nat} {x : (A.sig f).ins.den} {y : (A.sig f).out.den} (h : (lvlW Tryz.prog A).call f x = some y) : Answers Tryz.prog A.gd (A.fn f) (A.sig f) x y := by
  obtain ⟨k, hk⟩ := lvlW_hit h
  exact (lvl_ok tyOk primsOk (names_of namesOk) k f x y hk).2
theorem lifted (os : Os) (started : os.Started) (H : Type) (enc : TypeId × Value → H) :
    ReturnsInHanded {} Tryz.checked os 3 .any (Rows.fnExactDoubtRightSpec.pre6 enc Tryz.prog Tryz.f3 Rows.fnExactDoubtRightRow.domain false) (Rows.fnExactDoubtRightSpec.post enc Tryz.prog Tryz.f3 false true false false) := by
  refine returnsInHanded_of_change_sized (C := Tryz.checked) own3 started (by kernel_rfl) Tryz.func3
    (ChangeSpec.witness6 (enc := enc) (C := Tryz.checked) false ⟨#[], #[.agg #[.slice none 0 0, .slice none 0 0, .slice none 0 0, .int .i64 0, .int .i64 0, .slice none 0 0, .slice none 0 0, .slice none 0 0, .slice none 0 0, .slice none 0 0, .slice none 0 0]], []⟩ 8 (by kernel_rfl) (by kernel_rfl) (by kernel_rfl) (by kernel_rfl)) ?_
  refine law_contract (C := Tryz.checked) (ps := [(true, (.pair (.pair (.pair (.pair (.sl (.pair .str (.pair .str (.pair .bool (.int .i64))))) (.pair (.sl (.pair (.int .i64) (.pair (.int .i64) (.pair (.int .i64) (.pair (.int .i64) (.pair (.sl (.pair .str .str)) (.pair (.sl (.pair .str (.pair .str .bool))) (.pair .bool .str)))))))) (.pair (.sl (.pair (.int .i64) (.pair (.int .i64) (.pair (.int .i64) (.pair (.int .i64) (.pair (.sl (.pair .str .str)) (.pair (.sl (.pair .str (.pair .str .bool))) (.pair .bool .str)))))))) (.pair (.int .i64) (.int .i64))))) (.sl (.pair (.int .i64) (.pair (.int .i64) (.pair (.int .i64) (.pair (.int .i64) (.pair (.sl (.pair .str .str)) (.pair (.sl (.pair .str (.pair .str .bool))) (.pair .bool .str))))))))) (.pair (.sl .str) (.sl (.pair (.int .i64) .str)))) (.pair (.sl (.pair (.int .i64) (.pair (.int .i64) (.pair (.int .i64) (.pair (.int .i64) (.pair (.sl (.pair .str .str)) (.pair (.sl (.pair .str (.pair .str .bool))) (.pair .bool .str)))))))) (.pair (.sl (.int .i64)) (.sl .str)))))]) (rt := 4) laidOut3 (by kernel_rfl) (by kernel_rfl) rfl Tryz.underlying4 rfl (fun ds h => ?_) (fun x hx => ?_)
  · match ds, h with
    | [d0], _ => rfl
  · obtain ⟨⟨⟨⟨a1, ⟨a2, ⟨a3, ⟨a4, a5⟩⟩⟩⟩, a6⟩, ⟨a7, a8⟩⟩, ⟨a9, ⟨a10, a11⟩⟩⟩ := x
    exact answers (law_FnExactDoubtRight ⟨⟨⟨⟨a1, ⟨a2, ⟨a3, ⟨a4, a5⟩⟩⟩⟩, a6⟩, ⟨a7, a8⟩⟩, ⟨a9, ⟨a10, a11⟩⟩⟩ hx)
theorem ov1 : Tryz.pinned.checked.prog.funcNamed Rows.fnExactDoubtRightRow.func = some 3 := by kernel_rfl
theorem ov2 : joinedFacts Tryz.pinned.checked.prog 3 Tryz.f3 Rows.fnExactDoubtRightSpec Rows.fnExactDoubtRightRow = true := by kernel_rfl
theorem ov3 : Tryz.f3.isInstance Tryz.pinned.checked.prog Rows.fnExactDoubtRightRow.origin Rows.fnExactDoubtRightRow.targs := (of_decide_eq_true (by kernel_rfl))
theorem ov4 : Tryz.f3.isWrapper Tryz.pinned.checked.prog Rows.fnExactDoubtRightRow.wrapper Rows.fnExactDoubtRightRow.mainSum := (by unfold Func.isWrapper; first | (rw [if_pos (by decide +kernel)]; kernel_rfl) | (rw [if_neg (by decide +kernel)]; exact ⟨rfl, rfl⟩))
theorem over : Rows.fnExactDoubtRightRow.holds Tryz.pinned (OpenSpec.ofChange Rows.fnExactDoubtRightSpec) :=
  OpenClaim.holds_of_wide 3 Tryz.f3 rfl rfl rfl rfl rfl rfl rfl ⟨rfl, rfl, rfl, rfl, rfl⟩ rfl rfl rfl rfl rfl ov1 Tryz.func3 ov2 ov3 ov4
    (fun os started H enc _ => lifted os started H enc)
theorem proved : Rows.FnExactDoubtRightSaid := over
end Go.Proofs.YthhpkgegmfjdmaaGreat.Ab
namespace Go.Proofs.YthhpkgegmfjdmaaGreat
/-- The row, under a short name, for the claim. -/
theorem fnExactDoubtRight_holds : Rows.FnExactDoubtRightSaid := Ab.proved
#print axioms fnExactDoubtRight_holds
end Go.Proofs.YthhpkgegmfjdmaaGreat
