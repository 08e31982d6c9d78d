import Derived.Test.YthhpkgegmfjdmaaAbVW
namespace Go.Proofs.Ythhpkgegmfjdmaa.Ab
open Go
set_option linter.unusedVariables false
set_option linter.unusedSimpArgs false
set_option linter.unnecessarySimpa false
set_option linter.unusedSimpArgs false
set_option linter.unusedVariables false

theorem txns_small {l : List YTxn.den} (h : (Ty.sl YTxn).wt l ≤ 1048576) : (∀ x ∈ l, YTxn.wt x ≤ big40) ∧ l.length + wsSum l ≤ 1048576 ∧ ∀ x ∈ l, x.2.2.2.2.1.length ≤ 1048576 := by
  have e : (Ty.sl YTxn).wt l = l.length + (l.map YTxn.wt).sum := rfl
  have hs : ∀ (l : List YTxn.den), wsSum l ≤ (l.map YTxn.wt).sum ∧ ∀ x ∈ l, YTxn.wt x ≤ (l.map YTxn.wt).sum := by
    intro l
    induction l with
    | nil => exact ⟨Nat.le_refl _, fun x h => by cases h⟩
    | cons t l ih =>
      have h1 := wt_writes (a := t)
      simp only [wsSum, List.map_cons, List.sum_cons] at ih ⊢
      refine ⟨by omega, fun x hx => ?_⟩
      rcases List.mem_cons.1 hx with rfl | hx
      · omega
      · have := ih.2 x hx
        omega
  obtain ⟨h1, h2⟩ := hs l
  refine ⟨fun x hx => by have := h2 x hx; unfold big40; omega, by omega, fun x hx => ?_⟩
  have := h2 x hx
  have := wt_reads (a := x)
  omega

theorem law_FnExactSerialRight (x : List YTxn.den) (hx : (Ty.sl YTxn).fine x) : q_laws_FnExactSerialRight x = some true := by
  rw [e_laws_FnExactSerialRight]; unfold X_laws_FnExactSerialRight
  refine szr_law (sz_TxnS x _ hx (by omega) (by omega)) (fun c1 => ?_)
  have wx : (Ty.sl YTxn).wt x ≤ 1099511627776 := by omega
  obtain ⟨p1, p2, p3⟩ := txns_small (l := x) (by omega)
  simp only [to_TxnS x wx, SerialRight_spec p1 p2 p3, SerialRight_impl p1 p2 p3, eq_TxnS x wx, Option.bind_some, beq_self_eq_true, Bool.not_true, cond_false]

end Go.Proofs.Ythhpkgegmfjdmaa.Ab
