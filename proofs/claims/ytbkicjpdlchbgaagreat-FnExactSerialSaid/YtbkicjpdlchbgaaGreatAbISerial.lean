/- The law FnExactSerial returns true for every input, and its inputs read behind the call as they read before. Conditions: none. -/
import Derived.Test.YtbkicjpdlchbgaaGreatAbT1
import Derived.Test.YtbkicjpdlchbgaaGreatAbIS
import Derived.Test.YtbkicjpdlchbgaaGreatAbSI
import Derived.Test.YtbkicjpdlchbgaaGreatRows
import Derived.WalkKit
import Derived.ProofKit
import Derived.OpenShut
import Derived.ChangeOld
import Derived.SizedLaws
import Derived.KernelRfl
namespace Go.Proofs.YtbkicjpdlchbgaaGreat.Ab
open Go Go.ChangeShapes Go.WideShapes Go.ChangeAt Go.RowKit Go.Proofs.YtbkicjpdlchbgaaGreat
set_option linter.unusedVariables false
set_option linter.unusedSimpArgs false
set_option linter.unnecessarySimpa false
set_option linter.unusedVariables false
set_option maxRecDepth 100000
theorem own3 : ownKnob Tryz.prog.godebug = none := by kernel_rfl
theorem laidOut3 : laidOutB Tryz.prog = true := by kernel_rfl
theorem tabsOk : tabsE Tryz.prog tabs = true := by kernel_rfl
theorem mixedOk : Tryz.prog.follows .mixedOrders = true := by kernel_rfl
theorem namesOk : (Tryz.prog.funcs.toList.all fun fn => !(fn.name == "runtime.NumGoroutine")) = true := by kernel_rfl
theorem tyOk : TyOk Tryz.prog A := tyOk_of (S := planOf) tabsOk mixedOk
theorem primsOk : PrimsOk Tryz.prog A := by
  intro f F x y hF h
  change primOf f = some F at hF
  unfold primOf at hF
  split at hF
  · cases hF
    exact ⟨⟨Tryz.f257, Tryz.func257, by kernel_rfl, by kernel_rfl⟩, ans_insert roads257 h⟩
  · cases hF
    exact ⟨⟨Tryz.f325, Tryz.func325, by kernel_rfl, by kernel_rfl⟩, ans_sort lays190 h⟩
  · cases hF
    exact ⟨⟨Tryz.f326, Tryz.func326, by kernel_rfl, by kernel_rfl⟩, ans_compact lays194 h⟩
  · cases hF
theorem answers {f : Nat} {x : (A.sig f).ins.den} {y : (A.sig f).out.den} (h : (lvlW Tryz.prog A).call f x = some y) : Answers Tryz.prog A.gd (A.fn f) (A.sig f) x y := by
  obtain ⟨k, hk⟩ := lvlW_hit h
  exact (lvl_ok tyOk primsOk (names_of namesOk) k f x y hk).2
theorem lifted (os : Os) (started : os.Started) (H : Type) (enc : TypeId × Value → H) :
    ReturnsInHanded {} Tryz.checked os 5 .any (Rows.fnExactSerialSpec.pre6 enc Tryz.prog Tryz.f5 Rows.fnExactSerialRow.domain false) (Rows.fnExactSerialSpec.post enc Tryz.prog Tryz.f5 false true false false) := by
  refine returnsInHanded_of_change_sized (C := Tryz.checked) own3 started (by kernel_rfl) Tryz.func5
    (ChangeSpec.witness6 (enc := enc) (C := Tryz.checked) false ⟨#[], #[.agg #[.slice none 0 0, .slice none 0 0, .slice none 0 0, .int .i64 0, .int .i64 0, .slice none 0 0, .slice none 0 0, .slice none 0 0, .slice none 0 0, .slice none 0 0, .slice none 0 0]], []⟩ 8 (by kernel_rfl) (by kernel_rfl) (by kernel_rfl) (by kernel_rfl)) ?_
  refine law_contract (C := Tryz.checked) (ps := [(true, (.pair (.pair (.pair (.pair (.sl (.pair .str (.pair .str (.pair .bool (.int .i64))))) (.pair (.sl (.pair (.int .i64) (.pair (.int .i64) (.pair (.int .i64) (.pair (.int .i64) (.pair (.sl (.pair .str .str)) (.pair (.sl (.pair .str (.pair .str .bool))) (.pair .bool .str)))))))) (.pair (.sl (.pair (.int .i64) (.pair (.int .i64) (.pair (.int .i64) (.pair (.int .i64) (.pair (.sl (.pair .str .str)) (.pair (.sl (.pair .str (.pair .str .bool))) (.pair .bool .str)))))))) (.pair (.int .i64) (.int .i64))))) (.sl (.pair (.int .i64) (.pair (.int .i64) (.pair (.int .i64) (.pair (.int .i64) (.pair (.sl (.pair .str .str)) (.pair (.sl (.pair .str (.pair .str .bool))) (.pair .bool .str))))))))) (.pair (.sl .str) (.sl (.pair (.int .i64) .str)))) (.pair (.sl (.pair (.int .i64) (.pair (.int .i64) (.pair (.int .i64) (.pair (.int .i64) (.pair (.sl (.pair .str .str)) (.pair (.sl (.pair .str (.pair .str .bool))) (.pair .bool .str)))))))) (.pair (.sl (.int .i64)) (.sl .str)))))]) (rt := 4) laidOut3 (by kernel_rfl) (by kernel_rfl) rfl Tryz.underlying4 rfl (fun ds h => ?_) (fun x hx => ?_)
  · match ds, h with
    | [d0], _ => rfl
  · obtain ⟨⟨⟨⟨a1, ⟨a2, ⟨a3, ⟨a4, a5⟩⟩⟩⟩, a6⟩, ⟨a7, a8⟩⟩, ⟨a9, ⟨a10, a11⟩⟩⟩ := x
    exact answers (law_FnExactSerial ⟨⟨⟨⟨a1, ⟨a2, ⟨a3, ⟨a4, a5⟩⟩⟩⟩, a6⟩, ⟨a7, a8⟩⟩, ⟨a9, ⟨a10, a11⟩⟩⟩ hx)
theorem ov1 : Tryz.pinned.checked.prog.funcNamed Rows.fnExactSerialRow.func = some 5 := by kernel_rfl
set_option maxHeartbeats 8000000 in
theorem ov2 : joinedFacts Tryz.pinned.checked.prog 5 Tryz.f5 Rows.fnExactSerialSpec Rows.fnExactSerialRow = true := by
  unfold joinedFacts
  iterate 31 (rewrite [Bool.and_eq_true]; refine And.intro ?_ ?_)
  all_goals (as_aux_lemma => kernel_rfl)
theorem ov3 : Tryz.f5.isInstance Tryz.pinned.checked.prog Rows.fnExactSerialRow.origin Rows.fnExactSerialRow.targs := (of_decide_eq_true (by kernel_rfl))
theorem ov4 : Tryz.f5.isWrapper Tryz.pinned.checked.prog Rows.fnExactSerialRow.wrapper Rows.fnExactSerialRow.mainSum := (by unfold Func.isWrapper; first | (rw [if_pos (by decide +kernel)]; kernel_rfl) | (rw [if_neg (by decide +kernel)]; exact ⟨rfl, rfl⟩))
theorem over : Rows.fnExactSerialRow.holds Tryz.pinned (OpenSpec.ofChange Rows.fnExactSerialSpec) :=
  OpenClaim.holds_of_wide 5 Tryz.f5 rfl rfl rfl rfl rfl rfl rfl ⟨rfl, rfl, rfl, rfl, rfl⟩ rfl rfl rfl rfl rfl ov1 Tryz.func5 ov2 ov3 ov4
    (fun os started H enc _ => lifted os started H enc)
theorem proved : Rows.FnExactSerialSaid := over
end Go.Proofs.YtbkicjpdlchbgaaGreat.Ab
namespace Go.Proofs.YtbkicjpdlchbgaaGreat
/-- The row, under a short name, for the claim. -/
theorem fnExactSerial_holds : Rows.FnExactSerialSaid := Ab.proved
#print axioms fnExactSerial_holds
end Go.Proofs.YtbkicjpdlchbgaaGreat
