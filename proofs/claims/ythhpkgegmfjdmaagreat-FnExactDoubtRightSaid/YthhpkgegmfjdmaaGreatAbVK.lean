import Derived.Test.YthhpkgegmfjdmaaGreatAbVJ
namespace Go.Proofs.YthhpkgegmfjdmaaGreat.Ab
open Go
set_option linter.unusedVariables false
set_option linter.unusedSimpArgs false
set_option linter.unnecessarySimpa false
set_option linter.unusedSimpArgs false
set_option linter.unusedVariables false

theorem Delete_thr (l : List YTxn.den) (c : YTxn.den) (hl : l.length ≤ 8388608) : q_slices_DeleteFunc_impl_Txn_impl_Through_1 (l, c) = some (l.filter fun x => !decide (x.1 = c.1)) := by
  have hq : ∀ x ∈ l, q_impl_Through_1 (x, c) = some (decide (x.1 = c.1)) := fun x _ => by rw [e_impl_Through_1]; rfl
  have L := Q.first (T := YTxn) (c := YTxn.den) (W := W_slices_IndexFunc_impl_Txn_impl_Through_1_2) (q := q_impl_Through_1) (p := fun x : YTxn.den => decide (x.1 = c.1)) (fun x => w_slices_IndexFunc_impl_Txn_impl_Through_1_2 x) l c (by omega) hq
  rw [e_slices_DeleteFunc_impl_Txn_impl_Through_1]; unfold X_slices_DeleteFunc_impl_Txn_impl_Through_1
  simp only [e_slices_IndexFunc_impl_Txn_impl_Through_1, X_slices_IndexFunc_impl_Txn_impl_Through_1, L, Option.bind_some]
  by_cases hk : firstAt (fun x : YTxn.den => decide (x.1 = c.1)) l < l.length
  · obtain ⟨a, e1, e2, e3⟩ := Q.delete (T := YTxn) (c := YTxn.den) (W := W_slices_DeleteFunc_impl_Txn_impl_Through_1_5) (q := q_impl_Through_1) (p := fun x : YTxn.den => decide (x.1 = c.1)) (fun x => w_slices_DeleteFunc_impl_Txn_impl_Through_1_5 x) l c (by omega) hq hk
    have hn := filter_le (fun x : YTxn.den => !decide (x.1 = c.1)) l
    obtain ⟨n, hne⟩ : ∃ n, n = (l.filter fun x : YTxn.den => !decide (x.1 = c.1)).length := ⟨_, rfl⟩
    rw [← hne] at e1 e3 hn
    have c1 : decide (((firstAt (fun x : YTxn.den => decide (x.1 = c.1)) l : Nat) : Int) = -1) = false := by simp
    have c2 : decide ((0 : Int) ≤ (n : Int)) = true := by simp
    have c3 : decide ((n : Int) ≤ (a.length : Int)) = true := by simp; omega
    have c4 : decide ((a.length : Int) ≤ (a.length : Int)) = true := by simp
    have hw := wrap_succ (i := firstAt (fun x : YTxn.den => decide (x.1 = c.1)) l) (by omega)
    simp only [if_pos hk, Option.bind_some, c1, cond_false, hw, e1, c2, c3, c4, Bool.and_self, cond_true, Int.toNat_natCast, decide_true, Int.le_refl]
    have c5 : decide ((n : Int) ≤ ((a.take n ++ List.replicate (a.length - n) YTxn.zero ++ a.drop (n + (a.length - n))).length : Int)) = true := by simp; omega
    have c6 : (a.take n ++ List.replicate (a.length - n) YTxn.zero ++ a.drop (n + (a.length - n))).take (n - (0 : Int).toNat) = l.filter fun x : YTxn.den => !decide (x.1 = c.1) := by
      rw [List.append_assoc, Int.toNat_zero, Nat.sub_zero, delete_end a n (by omega), e3]
    simp only [c5, Bool.and_self, cond_true, c6]
  · have hall : (l.filter fun x : YTxn.den => !decide (x.1 = c.1)) = l := by
      rw [List.filter_eq_self]
      intro x hx
      obtain ⟨i, hi, rfl⟩ := List.getElem_of_mem hx
      rw [firstAt_no (p := fun x : YTxn.den => decide (x.1 = c.1)) hi (by omega)]
      rfl
    simp only [if_neg hk, Option.bind_some, decide_true, cond_true, hall]


/-! ### Through -/
def flag (d x : YTxn.den) : YTxn.den := (x.1, x.2.1, x.2.2.1, x.2.2.2.1, x.2.2.2.2.1, x.2.2.2.2.2.1, (x.2.2.2.2.2.2.1 || ahead x d), x.2.2.2.2.2.2.2)

end Go.Proofs.YthhpkgegmfjdmaaGreat.Ab
