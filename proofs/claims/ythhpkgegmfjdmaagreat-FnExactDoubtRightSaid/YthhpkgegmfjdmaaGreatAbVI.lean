import Derived.Test.YthhpkgegmfjdmaaGreatAbVH
namespace Go.Proofs.YthhpkgegmfjdmaaGreat.Ab
open Go
set_option linter.unusedVariables false
set_option linter.unusedSimpArgs false
set_option linter.unnecessarySimpa false
set_option linter.unusedSimpArgs false
set_option linter.unusedVariables false

theorem delete_end {E : Type} (a : List E) (n : Nat) (h : n ≤ a.length) (z : List E) : (a.take n ++ z).take n = a.take n := by
  rw [List.take_append_of_le_length (by rw [List.length_take]; omega), List.take_take, Nat.min_self]

theorem filter_le {E : Type} (p : E → Bool) (l : List E) : (l.filter p).length ≤ l.length := List.length_filter_le _ _

theorem Delete_tidy (l : List YTxn.den) (c : Int) (hl : l.length ≤ 8388608) : q_slices_DeleteFunc_impl_Txn_impl_Tidied_1 (l, c) = some (l.filter fun x => !decide (x.2.2.2.1 ≤ c)) := by
  have hq : ∀ x ∈ l, q_impl_Tidied_1 (x, c) = some (decide (x.2.2.2.1 ≤ c)) := fun x _ => by rw [e_impl_Tidied_1]; rfl
  have L := Q.first (T := YTxn) (c := Int) (W := W_slices_IndexFunc_impl_Txn_impl_Tidied_1_2) (q := q_impl_Tidied_1) (p := fun x : YTxn.den => decide (x.2.2.2.1 ≤ c)) (fun x => w_slices_IndexFunc_impl_Txn_impl_Tidied_1_2 x) l c (by omega) hq
  rw [e_slices_DeleteFunc_impl_Txn_impl_Tidied_1]; unfold X_slices_DeleteFunc_impl_Txn_impl_Tidied_1
  simp only [e_slices_IndexFunc_impl_Txn_impl_Tidied_1, X_slices_IndexFunc_impl_Txn_impl_Tidied_1, L, Option.bind_some]
  by_cases hk : firstAt (fun x : YTxn.den => decide (x.2.2.2.1 ≤ c)) l < l.length
  · obtain ⟨a, e1, e2, e3⟩ := Q.delete (T := YTxn) (c := Int) (W := W_slices_DeleteFunc_impl_Txn_impl_Tidied_1_5) (q := q_impl_Tidied_1) (p := fun x : YTxn.den => decide (x.2.2.2.1 ≤ c)) (fun x => w_slices_DeleteFunc_impl_Txn_impl_Tidied_1_5 x) l c (by omega) hq hk
    have hn := filter_le (fun x : YTxn.den => !decide (x.2.2.2.1 ≤ c)) l
    obtain ⟨n, hne⟩ : ∃ n, n = (l.filter fun x : YTxn.den => !decide (x.2.2.2.1 ≤ c)).length := ⟨_, rfl⟩
    rw [← hne] at e1 e3 hn
    have c1 : decide (((firstAt (fun x : YTxn.den => decide (x.2.2.2.1 ≤ c)) l : Nat) : Int) = -1) = false := by simp
    have c2 : decide ((0 : Int) ≤ (n : Int)) = true := by simp
    have c3 : decide ((n : Int) ≤ (a.length : Int)) = true := by simp; omega
    have c4 : decide ((a.length : Int) ≤ (a.length : Int)) = true := by simp
    have hw := wrap_succ (i := firstAt (fun x : YTxn.den => decide (x.2.2.2.1 ≤ c)) l) (by omega)
    simp only [if_pos hk, Option.bind_some, c1, cond_false, hw, e1, c2, c3, c4, Bool.and_self, cond_true, Int.toNat_natCast, decide_true, Int.le_refl]
    have c5 : decide ((n : Int) ≤ ((a.take n ++ List.replicate (a.length - n) YTxn.zero ++ a.drop (n + (a.length - n))).length : Int)) = true := by simp; omega
    have c6 : (a.take n ++ List.replicate (a.length - n) YTxn.zero ++ a.drop (n + (a.length - n))).take (n - (0 : Int).toNat) = l.filter fun x : YTxn.den => !decide (x.2.2.2.1 ≤ c) := by
      rw [List.append_assoc, Int.toNat_zero, Nat.sub_zero, delete_end a n (by omega), e3]
    simp only [c5, Bool.and_self, cond_true, c6]
  · have hall : (l.filter fun x : YTxn.den => !decide (x.2.2.2.1 ≤ c)) = l := by
      rw [List.filter_eq_self]
      intro x hx
      obtain ⟨i, hi, rfl⟩ := List.getElem_of_mem hx
      rw [firstAt_no (p := fun x : YTxn.den => decide (x.2.2.2.1 ≤ c)) hi (by omega)]
      rfl
    simp only [if_neg hk, Option.bind_some, decide_true, cond_true, hall]

end Go.Proofs.YthhpkgegmfjdmaaGreat.Ab
