import Derived.Test.YtoafakkbmnnimaaAbP3
namespace Go.Proofs.Ytoafakkbmnnimaa.Ab
open Go
set_option linter.unusedVariables false
set_option linter.unusedSimpArgs false
set_option linter.unnecessarySimpa false
set_option linter.unusedSimpArgs false
set_option linter.unusedVariables false
theorem law_FnExactShowPairs (l : List YPair.den) (hx : (Ty.sl YPair).fine l) : q_laws_FnExactShowPairs l = some true := by
  rw [e_laws_FnExactShowPairs]; unfold X_laws_FnExactShowPairs
  refine szr_law (sz_PairS l _ hx (by omega) (by omega)) (fun c1 => ?_)
  have wl : (Ty.sl YPair).wt l ≤ 1048576 := by omega
  simp only [to_PairS l (by omega), ShowPairs_spec l wl, ShowPairs_impl l wl, eq_PairS l (by omega), strEq_refl, Option.bind_some, Bool.not_true, cond_false]
end Go.Proofs.Ytoafakkbmnnimaa.Ab
