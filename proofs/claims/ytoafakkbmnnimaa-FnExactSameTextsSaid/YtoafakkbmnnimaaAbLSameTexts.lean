import Derived.Test.YtoafakkbmnnimaaAbP6
namespace Go.Proofs.Ytoafakkbmnnimaa.Ab
open Go
set_option linter.unusedVariables false
set_option linter.unusedSimpArgs false
set_option linter.unnecessarySimpa false
set_option linter.unusedSimpArgs false
set_option linter.unusedVariables false
theorem law_FnExactSameTexts (x : YDisk.den × YDisk.den) (hx : YDisk.fine x.1 ∧ YDisk.fine x.2) : q_laws_FnExactSameTexts x = some true := by
  obtain ⟨a, b⟩ := x
  obtain ⟨ha, hb⟩ := hx
  rw [e_laws_FnExactSameTexts]; unfold X_laws_FnExactSameTexts; simp only
  refine szr_law (sz_Disk a _ ha (by omega) (by omega)) (fun c1 => ?_)
  refine szr_law (sz_Disk b _ hb (by omega) (by omega)) (fun c2 => ?_)
  have wa : YDisk.wt a ≤ 1099511627776 := by omega
  have wb : YDisk.wt b ≤ 1099511627776 := by omega
  simp only [to_Disk a wa, to_Disk b wb, SameTexts_spec a b (by omega) (by omega), SameTexts_impl a b (by omega) (by omega), eq_Disk a wa, eq_Disk b wb, Option.bind_some, beq_self_eq_true, Bool.not_true, cond_false]
end Go.Proofs.Ytoafakkbmnnimaa.Ab
