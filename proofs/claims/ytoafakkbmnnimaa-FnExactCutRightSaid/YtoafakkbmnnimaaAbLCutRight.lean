import Derived.Test.YtoafakkbmnnimaaAbP7
namespace Go.Proofs.Ytoafakkbmnnimaa.Ab
open Go
set_option linter.unusedVariables false
set_option linter.unusedSimpArgs false
set_option linter.unnecessarySimpa false
set_option linter.unusedSimpArgs false
set_option linter.unusedVariables false
theorem law_FnExactCutRight (x : YDisk.den × YDisk.den × YDisk.den) (hx : YDisk.fine x.1 ∧ YDisk.fine x.2.1 ∧ YDisk.fine x.2.2) : q_laws_FnExactCutRight x = some true := by
  obtain ⟨a, b, c⟩ := x
  obtain ⟨ha, hb, hc⟩ := hx
  rw [e_laws_FnExactCutRight]; unfold X_laws_FnExactCutRight; simp only
  refine szr_law (sz_Disk a _ ha (by omega) (by omega)) (fun c1 => ?_)
  refine szr_law (sz_Disk b _ hb (by omega) (by omega)) (fun c2 => ?_)
  refine szr_law (sz_Disk c _ hc (by omega) (by omega)) (fun c3 => ?_)
  have wa : YDisk.wt a ≤ 1099511627776 := by omega
  have wb : YDisk.wt b ≤ 1099511627776 := by omega
  have wc : YDisk.wt c ≤ 1099511627776 := by omega
  simp only [to_Disk a wa, to_Disk b wb, to_Disk c wc, CutRight_spec a b c (by omega) (by omega) (by omega), CutRight_impl a b c (by omega) (by omega) (by omega), eq_Disk a wa, eq_Disk b wb, eq_Disk c wc, Option.bind_some, beq_self_eq_true, Bool.not_true, cond_false]
end Go.Proofs.Ytoafakkbmnnimaa.Ab
