/- The law FnExactPlayOne returns true for every input, and its inputs read behind the call as they read before. Conditions: none. -/
import Derived.Test.YtoafakkbmnnimaaAbP3
import Derived.Test.YtoafakkbmnnimaaRows
import Derived.WalkKit
import Derived.ProofKit
import Derived.OpenShut
import Derived.ChangeOld
import Derived.SizedLaws
import Derived.KernelRfl
namespace Go.Proofs.Ytoafakkbmnnimaa.Ab
open Go Go.ChangeShapes Go.WideShapes Go.ChangeAt Go.RowKit Go.Proofs.Ytoafakkbmnnimaa
set_option linter.unusedVariables false
set_option linter.unusedSimpArgs false
set_option linter.unnecessarySimpa false
set_option linter.unusedVariables false
set_option maxRecDepth 100000
theorem own3 : ownKnob Try.prog.godebug = none := by kernel_rfl
theorem laidOut3 : laidOutB Try.prog = true := by kernel_rfl
theorem tabsOk : tabsE Try.prog tabs = true := by kernel_rfl
theorem mixedOk : Try.prog.follows .mixedOrders = true := by kernel_rfl
theorem namesOk : (Try.prog.funcs.toList.all fun fn => !(fn.name == "runtime.NumGoroutine")) = true := by kernel_rfl
theorem tyOk : TyOk Try.prog A := tyOk_of (S := ⟨sigOf, joinOf, loopOf⟩) tabsOk mixedOk
theorem primsOk : PrimsOk Try.prog A := fun f F x y h => by cases h
theorem answers {f : Nat} {x : (A.sig f).ins.den} {y : (A.sig f).out.den} (h : (lvlW Try.prog A).call f x = some y) : Answers Try.prog f (A.sig f) x y := by
  obtain ⟨k, hk⟩ := lvlW_hit h
  exact (lvl_ok tyOk primsOk (names_of namesOk) k f x y hk).2
theorem lifted (os : Os) (started : os.Started) (H : Type) (enc : TypeId × Value → H) :
    ReturnsInHanded {} Try.checked os 8 .any (Rows.fnExactPlayOneSpec.pre6 enc Try.prog Try.f8 Rows.fnExactPlayOneRow.domain false) (Rows.fnExactPlayOneSpec.post enc Try.prog Try.f8 false true false false) := by
  refine returnsInHanded_of_change_sized (C := Try.checked) own3 started (by kernel_rfl) Try.func8
    (ChangeSpec.witness6 (enc := enc) (C := Try.checked) false ⟨#[], #[.slice none 0 0, .agg #[.int .i64 0, .int .i64 0, .int .i64 0, .int .i64 0, .slice none 0 0, .slice none 0 0, .bool false, .string ⟨#[]⟩]], []⟩ 8 (by kernel_rfl) (by kernel_rfl) (by kernel_rfl) (by kernel_rfl)) ?_
  refine law_contract (C := Try.checked) (ps := [(false, (.sl (.pair .str .str))), (true, (.pair (.int .i64) (.pair (.int .i64) (.pair (.int .i64) (.pair (.int .i64) (.pair (.sl (.pair .str .str)) (.pair (.sl (.pair .str (.pair .str .bool))) (.pair .bool .str))))))))]) (rt := 4) laidOut3 (by kernel_rfl) (by kernel_rfl) rfl Try.underlying4 rfl (fun ds h => ?_) (fun x hx => ?_)
  · match ds, h with
    | [d0, d1], _ => rfl
  · obtain ⟨a1, ⟨a2, ⟨a3, ⟨a4, ⟨a5, ⟨a6, ⟨a7, ⟨a8, a9⟩⟩⟩⟩⟩⟩⟩⟩ := x
    exact answers (law_FnExactPlayOne ⟨a1, ⟨a2, ⟨a3, ⟨a4, ⟨a5, ⟨a6, ⟨a7, ⟨a8, a9⟩⟩⟩⟩⟩⟩⟩⟩ hx)
theorem over : Rows.fnExactPlayOneRow.holds Try.pinned (OpenSpec.ofChange Rows.fnExactPlayOneSpec) :=
  OpenClaim.holds_of_wide 8 Try.f8 rfl rfl rfl rfl rfl rfl rfl ⟨rfl, rfl, rfl, rfl, rfl⟩ rfl rfl rfl rfl rfl (by kernel_rfl) Try.func8 (by kernel_rfl)
    (of_decide_eq_true (by kernel_rfl)) (by unfold Func.isWrapper; first | (rw [if_pos (by decide +kernel)]; kernel_rfl) | (rw [if_neg (by decide +kernel)]; exact ⟨rfl, rfl⟩))
    (fun os started H enc _ => lifted os started H enc)
theorem proved : Rows.FnExactPlayOneSaid := over
end Go.Proofs.Ytoafakkbmnnimaa.Ab
namespace Go.Proofs.Ytoafakkbmnnimaa
/-- The row, under a short name, for the claim. -/
theorem fnExactPlayOne_holds : Rows.FnExactPlayOneSaid := Ab.proved
#print axioms fnExactPlayOne_holds
end Go.Proofs.Ytoafakkbmnnimaa
