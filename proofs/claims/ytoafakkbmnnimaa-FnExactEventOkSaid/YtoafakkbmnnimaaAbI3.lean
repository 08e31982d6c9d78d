/- The law FnExactEventOk returns true for every input, and its input reads behind the call as it read before. Conditions: none. -/
import Derived.Test.YtoafakkbmnnimaaAbH3
import Derived.Test.YtoafakkbmnnimaaRows
import Derived.WalkKit
import Derived.ProofKit
import Derived.OpenShut
import Derived.ChangeOld
import Derived.SizedLaws
import Derived.KernelRfl
namespace Go.Proofs.Ytoafakkbmnnimaa.Ab
open Go Go.ChangeShapes Go.WideShapes Go.ChangeAt Go.RowKit Go.Proofs.Ytoafakkbmnnimaa
set_option linter.unusedVariables false
set_option linter.unusedSimpArgs false
set_option linter.unnecessarySimpa false
set_option linter.unusedVariables false
set_option maxRecDepth 100000
theorem own3 : ownKnob Try.prog.godebug = none := by kernel_rfl
theorem laidOut3 : laidOutB Try.prog = true := by kernel_rfl
theorem tabsOk : tabsE Try.prog tabs = true := by kernel_rfl
theorem mixedOk : Try.prog.follows .mixedOrders = true := by kernel_rfl
theorem namesOk : (Try.prog.funcs.toList.all fun fn => !(fn.name == "runtime.NumGoroutine")) = true := by kernel_rfl
theorem tyOk : TyOk Try.prog A := tyOk_of (S := ⟨sigOf, joinOf, loopOf⟩) tabsOk mixedOk
theorem primsOk : PrimsOk Try.prog A := fun f F x y h => by cases h
theorem answers {k f : Nat} {x : (A.sig f).ins.den} {y : (A.sig f).out.den} (h : (lvl Try.prog A k).call f x = some y) : Answers Try.prog f (A.sig f) x y :=
  (lvl_ok tyOk primsOk (names_of namesOk) k f x y h).2
theorem lifted (os : Os) (started : os.Started) (H : Type) (enc : TypeId × Value → H) :
    ReturnsInHanded {} Try.checked os 3 .any (Rows.fnExactEventOkSpec.pre6 enc Try.prog Try.f3 Rows.fnExactEventOkRow.domain false) (Rows.fnExactEventOkSpec.post enc Try.prog Try.f3 false true false false) := by
  refine returnsInHanded_of_change_sized (C := Try.checked) own3 started (by kernel_rfl) Try.func3
    (ChangeSpec.witness6 (enc := enc) (C := Try.checked) false ⟨#[], #[.agg #[.int .i64 0, .int .i64 0, .string ⟨#[]⟩, .string ⟨#[]⟩, .slice none 0 0]], []⟩ 8 (by kernel_rfl) (by kernel_rfl) (by kernel_rfl) (by kernel_rfl)) ?_
  refine law_contract (C := Try.checked) (ps := [(true, Y3)]) (rt := 4) laidOut3 (by kernel_rfl) (by kernel_rfl) rfl Try.underlying4 rfl (fun ds h => ?_) (fun x hx => ?_)
  · match ds, h with
    | [d], _ => rfl
  · obtain ⟨a, b, c, d, e⟩ := x
    obtain ⟨_, _, h3, h4, h5, _⟩ := hx
    obtain ⟨k, hk⟩ := law3 a b c d e h3 h4 h5
    exact answers hk
theorem over : Rows.fnExactEventOkRow.holds Try.pinned (OpenSpec.ofChange Rows.fnExactEventOkSpec) :=
  OpenClaim.holds_of_wide 3 Try.f3 rfl rfl rfl rfl rfl rfl rfl ⟨rfl, rfl, rfl, rfl, rfl⟩ rfl rfl rfl rfl rfl (by kernel_rfl) Try.func3 (by kernel_rfl)
    (of_decide_eq_true (by kernel_rfl)) (by unfold Func.isWrapper; first | (rw [if_pos (by decide +kernel)]; kernel_rfl) | (rw [if_neg (by decide +kernel)]; exact ⟨rfl, rfl⟩))
    (fun os started H enc _ => lifted os started H enc)
theorem proved : Rows.FnExactEventOkSaid := over
end Go.Proofs.Ytoafakkbmnnimaa.Ab
namespace Go.Proofs.Ytoafakkbmnnimaa
/-- The row, under a short name, for the claim. -/
theorem eventOk_holds : Rows.FnExactEventOkSaid := Ab.proved
end Go.Proofs.Ytoafakkbmnnimaa
