import Derived.Test.YtoafakkbmnnimaaAbP1
namespace Go.Proofs.Ytoafakkbmnnimaa.Ab
open Go
set_option linter.unusedVariables false
set_option linter.unusedSimpArgs false
set_option linter.unnecessarySimpa false
set_option linter.unusedSimpArgs false
set_option linter.unusedVariables false
theorem law_FnExactBefore (x : YTxn.den × YTxn.den) (hx : YTxn.fine x.1 ∧ YTxn.fine x.2) : q_laws_FnExactBefore x = some true := by
  obtain ⟨a, b⟩ := x
  obtain ⟨ha, hb⟩ := hx
  rw [e_laws_FnExactBefore]; unfold X_laws_FnExactBefore; simp only
  refine szr_law (sz_Txn a _ ha (by omega) (by omega)) (fun c1 => ?_)
  refine szr_law (sz_Txn b _ hb (by omega) (by omega)) (fun c2 => ?_)
  have wa : YTxn.wt a ≤ 1099511627776 := by omega
  have wb : YTxn.wt b ≤ 1099511627776 := by omega
  simp only [to_Txn a wa, to_Txn b wb, Before_spec a b wa wb, Before_impl a b wa wb, eq_Txn a wa, eq_Txn b wb, Option.bind_some, beq_self_eq_true, Bool.not_true, cond_false]
end Go.Proofs.Ytoafakkbmnnimaa.Ab
