import Derived.Test.YthhpkgegmfjdmaaGreatAbVA
namespace Go.Proofs.YthhpkgegmfjdmaaGreat.Ab
open Go
set_option linter.unusedVariables false
set_option linter.unusedSimpArgs false
set_option linter.unnecessarySimpa false
set_option linter.unusedSimpArgs false
set_option linter.unusedVariables false

/-! ### Lists of transactions -/
/-- Few, and each with few ranges and writes. -/
def fewT (t : YTxn.den) : Prop := t.2.2.2.2.1.length ≤ 1048576 ∧ t.2.2.2.2.2.1.length ≤ 1048576
def fewL (l : List YTxn.den) : Prop := l.length ≤ 4194304 ∧ ∀ t ∈ l, fewT t

theorem few40 {n : Nat} (h : n ≤ 1048576) : n ≤ big40 := by unfold big40; omega

theorem OutOf_spec (t : YTxn.den) (l : List YTxn.den) (ht : fewT t) (hl : fewL l) : q_spec_OutOf (t, l) = some (outOf t l) := by
  obtain ⟨l1, l2⟩ := hl
  have L := W_any W_spec_OutOf_2 l (fun i => (l, t, i)) (fun x => decide (x.2.1 = 3) && ahead t x) (.inr true) (.inl ())
    (by rw [w_spec_OutOf_2]; simp only [S_spec_OutOf_2, lt_cast, Nat.lt_irrefl, decide_false, cond_false])
    (fun i hi => by
      have h1 := Ahead_spec t l[i] (few40 ht.1) (few40 (l2 _ (List.getElem_mem hi)).2)
      rw [w_spec_OutOf_2]
      simp only [S_spec_OutOf_2, lt_cast, hi, decide_true, cond_true, gIdx_nat hi, Int.toNat_natCast, rdL_get (t := YTxn) hi, h1, Option.bind_some]
      rw [wrap_succ (by omega)]
      cases decide (l[i].2.1 = 3) <;> cases ahead t l[i] <;> rfl)
  rw [e_spec_OutOf]; unfold X_spec_OutOf outOf
  simp only [L, Option.bind_some]
  cases l.any fun x => decide (x.2.1 = 3) && ahead t x <;> rfl

theorem OutOf_impl (t : YTxn.den) (l : List YTxn.den) (ht : fewT t) (hl : fewL l) : q_impl_OutOf (t, l) = some (outOf t l) := by
  obtain ⟨l1, l2⟩ := hl
  have hq : ∀ x ∈ l, q_impl_OutOf_1 (x, t) = some (decide (x.2.1 = 3) && ahead t x) := fun x hx => by
    have h1 := Ahead_impl t x (few40 ht.1) (few40 (l2 x hx).2)
    rw [e_impl_OutOf_1]; unfold X_impl_OutOf_1
    simp only [e_impl_isDone, X_impl_isDone, Option.bind_some, h1]
    cases decide (x.2.1 = 3) <;> rfl
  have L := Q.first (T := YTxn) (c := YTxn.den) (W := W_slices_IndexFunc_impl_Txn_impl_OutOf_1_2) (q := q_impl_OutOf_1) (p := fun x : YTxn.den => decide (x.2.1 = 3) && ahead t x) (fun x => w_slices_IndexFunc_impl_Txn_impl_OutOf_1_2 x) l t (by omega) hq
  rw [e_impl_OutOf]; unfold X_impl_OutOf outOf
  simp only [e_impl_some_impl_OutOf_1, X_impl_some_impl_OutOf_1, e_slices_ContainsFunc_impl_Txn_impl_OutOf_1, X_slices_ContainsFunc_impl_Txn_impl_OutOf_1, e_slices_IndexFunc_impl_Txn_impl_OutOf_1, X_slices_IndexFunc_impl_Txn_impl_OutOf_1, L, Option.bind_some]
  rw [← firstAt_any]
  by_cases h : firstAt (fun x : YTxn.den => decide (x.2.1 = 3) && ahead t x) l < l.length
  · simp [h]
  · simp [h]

theorem Copy_spec (t : YTxn.den) (h : fewT t) : q_spec_l07Copy t = some t := by
  rw [e_spec_l07Copy]; unfold X_spec_l07Copy
  simp only [List.length_nil, Nat.zero_add, List.nil_append, ble_cap (show t.2.2.2.2.1.length ≤ 1099511627776 by have := h.1; omega), ble_cap (show t.2.2.2.2.2.1.length ≤ 1099511627776 by have := h.2; omega), cond_true]
theorem Copy_impl (t : YTxn.den) (h : fewT t) : q_impl_copyTxn t = some t := by
  rw [e_impl_copyTxn]; unfold X_impl_copyTxn
  simp only [ble_cap (show t.2.2.2.2.1.length ≤ 1099511627776 by have := h.1; omega), ble_cap (show t.2.2.2.2.2.1.length ≤ 1099511627776 by have := h.2; omega), cond_true]

theorem Copies_spec (l : List YTxn.den) (h : fewL l) : q_spec_l09Txns l = some l := by
  have L := W_pick W_spec_l09Txns_3 l (fun a i => (l, a, i)) (fun _ => true) (fun x => x) (fun a => .inl a) (by have := h.1; omega)
    (fun a _ => by rw [w_spec_l09Txns_3]; simp only [S_spec_l09Txns_3, lt_cast, Nat.lt_irrefl, decide_false, cond_false])
    (fun i hi a ha => by
      have h1 := Copy_spec l[i] (h.2 _ (List.getElem_mem hi))
      have := h.1
      rw [w_spec_l09Txns_3]
      simp only [S_spec_l09Txns_3, lt_cast, hi, decide_true, cond_true, gIdx_nat hi, Int.toNat_natCast, rdL_get (t := YTxn) hi, h1, Option.bind_some, List.length_singleton, ble_cap (show a.length + 1 ≤ 1099511627776 by omega)]
      rw [wrap_succ (by omega)])
  rw [e_spec_l09Txns]; unfold X_spec_l09Txns
  simp only [L, Option.bind_some]
  simp

theorem Copies_impl (l : List YTxn.den) (h : fewL l) : q_impl_copyTxns l = some l := by
  have L := W_pick W_impl_copyTxns_3 l (fun a i => (a, l, (l.length : Int), i)) (fun _ => true) (fun x => x) (fun a => .inl a) (by have := h.1; omega)
    (fun a _ => by rw [w_impl_copyTxns_3]; simp only [S_impl_copyTxns_3, lt_cast, Nat.lt_irrefl, decide_false, cond_false])
    (fun i hi a ha => by
      have h1 := Copy_impl l[i] (h.2 _ (List.getElem_mem hi))
      have := h.1
      rw [w_impl_copyTxns_3]
      simp only [S_impl_copyTxns_3, lt_cast, hi, decide_true, cond_true, gIdx_nat hi, Int.toNat_natCast, rdL_get (t := YTxn) hi, h1, Option.bind_some, List.length_singleton, ble_cap (show a.length + 1 ≤ 1099511627776 by omega)]
      rw [wrap_succ (by omega)])
  rw [e_impl_copyTxns]; unfold X_impl_copyTxns
  simp only [L, Option.bind_some]
  simp

abbrev VerT := ByteArray × ByteArray × Bool × Int
abbrev BaseT := List VerT × List YTxn.den × List YTxn.den × Int × Int
def fewB (b : BaseT) : Prop := b.1.length ≤ 4194304 ∧ fewL b.2.1 ∧ fewL b.2.2.1

theorem CopyB_spec (b : BaseT) (h : fewB b) : q_spec_l09Copy b = some b := by
  have h1 := Copies_spec b.2.1 h.2.1
  have h2 := Copies_spec b.2.2.1 h.2.2
  rw [e_spec_l09Copy]; unfold X_spec_l09Copy
  simp only [List.length_nil, Nat.zero_add, List.nil_append, ble_cap (show b.1.length ≤ 1099511627776 by have := h.1; omega), cond_true, h1, h2, Option.bind_some]

theorem CopyB_impl (b : BaseT) (h : fewB b) : q_impl_copyBase b = some b := by
  have h1 := Copies_impl b.2.1 h.2.1
  have h2 := Copies_impl b.2.2.1 h.2.2
  rw [e_impl_copyBase]; unfold X_impl_copyBase
  simp only [ble_cap (show b.1.length ≤ 1099511627776 by have := h.1; omega), cond_true, h1, h2, Option.bind_some]

end Go.Proofs.YthhpkgegmfjdmaaGreat.Ab
