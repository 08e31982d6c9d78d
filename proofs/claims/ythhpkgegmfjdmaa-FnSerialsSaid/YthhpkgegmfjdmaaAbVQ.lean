import Derived.Test.YthhpkgegmfjdmaaAbVS
namespace Go.Proofs.Ythhpkgegmfjdmaa.Ab
open Go
set_option linter.unusedVariables false
set_option linter.unusedSimpArgs false
set_option linter.unnecessarySimpa false
set_option linter.unusedSimpArgs false
set_option linter.unusedVariables false

abbrev PrT := ByteArray × ByteArray
theorem pairs_zip {a b : List PrT} (h : a.length = b.length) : (bif (a.zip b).any (fun p => !(strEq p.1.1 p.2.1 && (strEq p.1.2 p.2.2 && true))) then false else true) = decide (a = b) := by
  induction a generalizing b with
  | nil =>
    cases b with
    | nil => rfl
    | cons _ _ => simp at h
  | cons x a ih =>
    cases b with
    | nil => simp at h
    | cons y b =>
      have ih := ih (b := b) (by simpa using h)
      simp only [List.zip_cons_cons, List.any_cons]
      by_cases h1 : x.1 = y.1
      · by_cases h2 : x.2 = y.2
        · have hxy : x = y := Prod.ext h1 h2
          subst hxy
          rw [strEq_refl, strEq_refl]
          simp only [Bool.and_self, Bool.not_true, Bool.false_or, ih]
          simp
        · have := strEq_false.mpr h2
          rw [this]
          have hne : ¬ (x :: a = y :: b) := fun e => h2 (by injection e with e; rw [e])
          simp [hne]
      · have := strEq_false.mpr h1
        rw [this]
        have hne : ¬ (x :: a = y :: b) := fun e => h1 (by injection e with e; rw [e])
        simp [hne]

theorem Pairs_spec (a b : List PrT) (ha : a.length ≤ 1099511627776) : q_spec_l06Pairs (a, b) = some (decide (a = b)) := by
  rw [e_spec_l06Pairs]; unfold X_spec_l06Pairs
  by_cases h : a.length = b.length
  · have hz : (a.zip b).length = a.length := by simp [h]
    have L := W_any W_spec_l06Pairs_4 (a.zip b) (fun i => (a, b, i)) (fun p => !(strEq p.1.1 p.2.1 && (strEq p.1.2 p.2.2 && true))) (.inr false) (.inl ())
      (by rw [w_spec_l06Pairs_4, hz]; simp only [S_spec_l06Pairs_4, lt_cast, Nat.lt_irrefl, decide_false, cond_false])
      (fun i hi => by
        have hi1 : i < a.length := by omega
        have hi2 : i < b.length := by omega
        rw [w_spec_l06Pairs_4]; simp only [S_spec_l06Pairs_4, lt_cast, hi1, decide_true, cond_true, gIdx_nat hi1, gIdx_nat hi2, Int.toNat_natCast, rdL_get (t := YPair) hi1, rdL_get (t := YPair) hi2, List.getElem_zip]
        rw [wrap_succ (by omega)])
    have e1 : decide ((a.length : Int) = (b.length : Int)) = true := by simp [h]
    simp only [e1, Bool.not_true, cond_false, L, Option.bind_some]
    rw [← pairs_zip h]
    cases (a.zip b).any fun p => !(strEq p.1.1 p.2.1 && (strEq p.1.2 p.2.2 && true)) <;> rfl
  · have e1 : decide ((a.length : Int) = (b.length : Int)) = false := by simp; omega
    have e2 : decide (a = b) = false := by
      rw [decide_eq_false_iff_not]; intro e; exact h (by rw [e])
    rw [e1, e2]; rfl

theorem Pairs_impl (a b : List PrT) (ha : a.length ≤ 1099511627776) : q_slices_Equal_impl_Pair (a, b) = some (decide (a = b)) := by
  rw [e_slices_Equal_impl_Pair]; unfold X_slices_Equal_impl_Pair
  by_cases h : a.length = b.length
  · have hz : (a.zip b).length = a.length := by simp [h]
    have L := W_any W_slices_Equal_impl_Pair_4 (a.zip b) (fun i => (a, b, (a.length : Int), i)) (fun p => !(strEq p.1.1 p.2.1 && (strEq p.1.2 p.2.2 && true))) (.inr false) (.inl ())
      (by rw [w_slices_Equal_impl_Pair_4, hz]; simp only [S_slices_Equal_impl_Pair_4, lt_cast, Nat.lt_irrefl, decide_false, cond_false])
      (fun i hi => by
        have hi1 : i < a.length := by omega
        have hi2 : i < b.length := by omega
        rw [w_slices_Equal_impl_Pair_4]; simp only [S_slices_Equal_impl_Pair_4, lt_cast, hi1, decide_true, cond_true, gIdx_nat hi1, gIdx_nat hi2, Int.toNat_natCast, rdL_get (t := YPair) hi1, rdL_get (t := YPair) hi2, List.getElem_zip]
        rw [wrap_succ (by omega)])
    have e1 : decide ((a.length : Int) = (b.length : Int)) = true := by simp [h]
    simp only [e1, Bool.not_true, cond_false, L, Option.bind_some]
    rw [← pairs_zip h]
    cases (a.zip b).any fun p => !(strEq p.1.1 p.2.1 && (strEq p.1.2 p.2.2 && true)) <;> rfl
  · have e1 : decide ((a.length : Int) = (b.length : Int)) = false := by simp; omega
    have e2 : decide (a = b) = false := by
      rw [decide_eq_false_iff_not]; intro e; exact h (by rw [e])
    rw [e1, e2]; rfl

end Go.Proofs.Ythhpkgegmfjdmaa.Ab
