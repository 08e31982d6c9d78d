import Derived.Test.YthhpkgegmfjdmaaGreatAbVB
namespace Go.Proofs.YthhpkgegmfjdmaaGreat.Ab
open Go
set_option linter.unusedVariables false
set_option linter.unusedSimpArgs false
set_option linter.unnecessarySimpa false
set_option linter.unusedSimpArgs false
set_option linter.unusedVariables false

/-! ### Oldest, ready ones, fullness -/
def oldest (b : BaseT) (open_ : List YTxn.den) : Int := open_.foldl (fun m t => if t.2.2.1 < m then t.2.2.1 else m) b.2.2.2.1

theorem Oldest_spec (b : BaseT) (o : List YTxn.den) (h : o.length ≤ 4194304) : q_spec_OldestOf (b, o) = some (oldest b o) := by
  have L := W_fold W_spec_OldestOf_3 o (fun a i => (o, a, i)) (fun (m : Int) t => if t.2.2.1 < m then t.2.2.1 else m) (fun a => .inl a) (fun _ _ => True)
    (fun a _ => by rw [w_spec_OldestOf_3]; simp only [S_spec_OldestOf_3, lt_cast, Nat.lt_irrefl, decide_false, cond_false])
    (fun i hi a _ => by
      refine ⟨trivial, ?_⟩
      rw [w_spec_OldestOf_3]
      simp only [S_spec_OldestOf_3, lt_cast, hi, decide_true, cond_true, gIdx_nat hi, Int.toNat_natCast, rdL_get (t := YTxn) hi]
      rw [wrap_succ (by omega)]
      by_cases hc : o[i].2.2.1 < a
      · simp only [hc, decide_true, cond_true, if_true]
      · simp only [hc, decide_false, cond_false, if_false]) b.2.2.2.1 trivial
  rw [e_spec_OldestOf]; unfold X_spec_OldestOf
  simp only [L, Option.bind_some]
  rfl

theorem Oldest_impl (b : BaseT) (o : List YTxn.den) (h : o.length ≤ 4194304) : q_impl_OldestOf (b, o) = some (oldest b o) := by
  have L := W_fold W_impl_OldestOf_3 o (fun a i => (a, o, (o.length : Int), i)) (fun (m : Int) t => if t.2.2.1 < m then t.2.2.1 else m) (fun a => .inl a) (fun _ _ => True)
    (fun a _ => by rw [w_impl_OldestOf_3]; simp only [S_impl_OldestOf_3, lt_cast, Nat.lt_irrefl, decide_false, cond_false])
    (fun i hi a _ => by
      refine ⟨trivial, ?_⟩
      rw [w_impl_OldestOf_3]
      simp only [S_impl_OldestOf_3, lt_cast, hi, decide_true, cond_true, gIdx_nat hi, Int.toNat_natCast, rdL_get (t := YTxn) hi]
      rw [wrap_succ (by omega)]
      have e : imin a o[i].2.2.1 = if o[i].2.2.1 < a then o[i].2.2.1 else a := by
        unfold imin
        split <;> rfl
      rw [e]) b.2.2.2.1 trivial
  rw [e_impl_OldestOf]; unfold X_impl_OldestOf
  simp only [L, Option.bind_some]
  rfl

def readyAt (b : BaseT) (n : ByteArray) : Int := if firstAt (fun x : YTxn.den => strEq x.2.2.2.2.2.2.2 n) b.2.2.1 < b.2.2.1.length then ((firstAt (fun x : YTxn.den => strEq x.2.2.2.2.2.2.2 n) b.2.2.1 : Nat) : Int) else -1

theorem ReadyAt_impl (b : BaseT) (n : ByteArray) (h : b.2.2.1.length ≤ 4194304) : q_impl_ReadyAt (b, n) = some (readyAt b n) := by
  have hq : ∀ x ∈ b.2.2.1, q_impl_ReadyAt_1 (x, n) = some (strEq x.2.2.2.2.2.2.2 n) := fun x _ => by
    rw [e_impl_ReadyAt_1]; unfold X_impl_ReadyAt_1; rfl
  have L := Q.first (T := YTxn) (c := ByteArray) (W := W_slices_IndexFunc_impl_Txn_impl_ReadyAt_1_2) (q := q_impl_ReadyAt_1) (p := fun x : YTxn.den => strEq x.2.2.2.2.2.2.2 n) (fun x => w_slices_IndexFunc_impl_Txn_impl_ReadyAt_1_2 x) b.2.2.1 n (by omega) hq
  rw [e_impl_ReadyAt]; unfold X_impl_ReadyAt readyAt
  simp only [e_slices_IndexFunc_impl_Txn_impl_ReadyAt_1, X_slices_IndexFunc_impl_Txn_impl_ReadyAt_1, L, Option.bind_some]
  by_cases hk : firstAt (fun x : YTxn.den => strEq x.2.2.2.2.2.2.2 n) b.2.2.1 < b.2.2.1.length
  · simp only [if_pos hk, Option.bind_some]
  · simp only [if_neg hk, Option.bind_some]

theorem ReadyAt_spec (b : BaseT) (n : ByteArray) (h : b.2.2.1.length ≤ 4194304) : q_spec_ReadyAt (b, n) = some (readyAt b n) := by
  have L := W_nat W_spec_ReadyAt_2 (firstAt (fun x : YTxn.den => strEq x.2.2.2.2.2.2.2 n) b.2.2.1) (fun (_ : Unit) i => (n, b, i)) (fun _ _ => if firstAt (fun x : YTxn.den => strEq x.2.2.2.2.2.2.2 n) b.2.2.1 < b.2.2.1.length then .inr ((firstAt (fun x : YTxn.den => strEq x.2.2.2.2.2.2.2 n) b.2.2.1 : Nat) : Int) else .inl ()) (fun _ _ => True)
    (fun a _ => by
      have hle := firstAt_le (fun x : YTxn.den => strEq x.2.2.2.2.2.2.2 n) b.2.2.1
      rw [w_spec_ReadyAt_2]
      by_cases hk : firstAt (fun x : YTxn.den => strEq x.2.2.2.2.2.2.2 n) b.2.2.1 < b.2.2.1.length
      · have hy := firstAt_yes hk
        simp only [S_spec_ReadyAt_2, lt_cast, hk, decide_true, cond_true, gIdx_nat hk, Int.toNat_natCast, rdL_get (t := YTxn) hk, hy, if_true]
      · simp only [S_spec_ReadyAt_2, lt_cast, hk, decide_false, cond_false, if_false])
    (fun i a hi _ => .inr ⟨(), trivial, rfl, by
      have hle := firstAt_le (fun x : YTxn.den => strEq x.2.2.2.2.2.2.2 n) b.2.2.1
      have hil : i < b.2.2.1.length := by omega
      have hn := firstAt_no hil hi
      rw [w_spec_ReadyAt_2]
      simp only [S_spec_ReadyAt_2, lt_cast, hil, decide_true, cond_true, gIdx_nat hil, Int.toNat_natCast, rdL_get (t := YTxn) hil, hn, cond_false]
      rw [wrap_succ (by omega)]⟩) 0 () (Nat.zero_le _) trivial
  have L : W_spec_ReadyAt_2 (n, b, 0) = _ := L
  rw [e_spec_ReadyAt]; unfold X_spec_ReadyAt readyAt
  simp only [L, Option.bind_some]
  by_cases hk : firstAt (fun x : YTxn.den => strEq x.2.2.2.2.2.2.2 n) b.2.2.1 < b.2.2.1.length
  · simp only [if_pos hk]
  · simp only [if_neg hk]

end Go.Proofs.YthhpkgegmfjdmaaGreat.Ab
