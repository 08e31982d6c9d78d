import Derived.Test.YtoafakkbmnnimaaAbP2
namespace Go.Proofs.Ytoafakkbmnnimaa.Ab
open Go
set_option linter.unusedVariables false
set_option linter.unusedSimpArgs false
set_option linter.unnecessarySimpa false
set_option linter.unusedSimpArgs false
set_option linter.unusedVariables false
theorem law_FnExactViewOf (x : List YCell.den × YRange.den) (hx : (Ty.sl YCell).fine x.1 ∧ YRange.fine x.2) : q_laws_FnExactViewOf x = some true := by
  obtain ⟨m, r⟩ := x
  obtain ⟨hm, hr⟩ := hx
  rw [e_laws_FnExactViewOf]; unfold X_laws_FnExactViewOf; simp only
  refine szr_law (sz_CellS m _ hm (by omega) (by omega)) (fun c1 => ?_)
  refine szr_law (sz_Range r _ hr (by omega) (by omega)) (fun c2 => ?_)
  have wm : (Ty.sl YCell).wt m ≤ 1099511627776 := by omega
  have lm : m.length ≤ 1048576 := by
    have : (Ty.sl YCell).wt m = m.length + (m.map YCell.wt).sum := rfl
    omega
  have lv : (viewOf m r).length ≤ 1048576 := Nat.le_trans (List.length_filter_le _ _) lm
  have wr : YRange.wt r ≤ 1099511627776 := by omega
  have wv : (Ty.sl YPair).wt (viewOf m r) ≤ 1099511627776 := by
    have h1 : (Ty.sl YPair).wt (viewOf m r) = (viewOf m r).length + ((viewOf m r).map YPair.wt).sum := rfl
    have h2 : (Ty.sl YCell).wt m = m.length + (m.map YCell.wt).sum := rfl
    have h3 : ((viewOf m r).map YPair.wt).sum ≤ (m.map YCell.wt).sum := sum_filter_le
    omega
  have hk : decide (1 + 2 * (m.length : Int) < 0) = false := by simp; omega
  have hk2 : decide (1 + 2 * ((viewOf m r).length : Int) < 0) = false := by simp; omega
  simp only [to_CellS m wm, to_Range r wr, ViewOf_spec m r (by omega), ViewOf_impl m r (by omega), eq_PairS _ wv, eq_CellS m wm, markCellS_ok m (by omega), markPairS_ok (viewOf m r) (by omega), heldPairS_ok (viewOf m r).length (by omega), hk, hk2,
    Option.bind_some, decide_true, beq_self_eq_true, Bool.not_true, cond_false]
end Go.Proofs.Ytoafakkbmnnimaa.Ab
