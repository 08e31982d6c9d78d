import Derived.Test.YthhpkgegmfjdmaaAbG1
import Derived.Test.YthhpkgegmfjdmaaAbQ1
namespace Go.Proofs.Ythhpkgegmfjdmaa.Ab
open Go
set_option linter.unusedVariables false
set_option linter.unusedSimpArgs false
set_option linter.unnecessarySimpa false
set_option linter.unusedSimpArgs false
set_option linter.unusedVariables false

theorem sz_Range (x : (YRange).den) (b : Int) (hf : (YRange).fine x) (hb : 0 ≤ b) (hb2 : b ≤ 1048576) : q_laws_szRange (x, b) = some (szr b ((YRange).wt x)) := by
  obtain ⟨hf0, hf1⟩ := hf
  have hs0 : x.1.size ≤ 9223372036854775807 := by have := hf0; simp only [Ty.fine, maxLen] at this; exact this
  have hs1 : x.2.size ≤ 9223372036854775807 := by have := hf1; simp only [Ty.fine, maxLen] at this; exact this
  have hw : (YRange).wt x = (x.1.size + (x.2.size + 0)) := by simp only [Ty.wt] <;> omega
  rw [hw, e_laws_szRange]; unfold X_laws_szRange; simp only
  rw [wrap64 (n := b - (x.1.size : Int)) (by omega) (by omega)]
  refine szr_str (fun c0 => ?_)
  rw [wrap64 (n := b - ((x.1.size : Nat) : Int) - (x.2.size : Int)) (by omega) (by omega)]
  refine szr_str (fun c1 => ?_)
  rw [szr_ok (by omega)]; simp
theorem sz_RangeS (l : List (YRange).den) (b : Int) (hf : (Ty.sl YRange).fine l) (hb : 0 ≤ b) (hb2 : b ≤ 1048576) : q_laws_szRangeS (l, b) = some (szr b ((Ty.sl YRange).wt l)) := by
  have hl : l.length ≤ 9223372036854775807 := by have := hf.1; simp only [maxLen] at this; exact this
  rw [e_laws_szRangeS]; unfold X_laws_szRangeS; simp only
  rw [wrap64 (n := b - (l.length : Int)) (by omega) (by omega)]
  have hw : (Ty.sl YRange).wt l = l.length + (l.map (YRange).wt).sum := rfl
  rw [hw]; refine szr_str (fun c => ?_)
  exact Q.size (T := YRange) (q := q_laws_szRange) (W := W_laws_szRangeS_5) (fun x => w_laws_szRangeS_5 x) l (by omega) (fun x hx c h1 h2 => ⟨_, sz_Range x c (fine_mem hf hx) h1 h2, szr_spec⟩) (b - (l.length : Int)) (by omega) (by omega)
theorem to_Range (x : (YRange).den) (hx : (YRange).wt x ≤ 1099511627776) : q_laws_toRange x = some x := by
  rw [e_laws_toRange]; rfl
theorem to_RangeS (l : List (YRange).den) (hx : (Ty.sl YRange).wt l ≤ 1099511627776) : q_laws_toRangeS l = some l := by
  have hw : (Ty.sl YRange).wt l = l.length + (l.map (YRange).wt).sum := rfl
  rw [hw] at hx; rw [e_laws_toRangeS]; unfold X_laws_toRangeS
  have h1 : (decide (0 ≤ (l.length : Int)) && decide ((l.length : Int) ≤ 1099511627776)) = true := by simp; omega
  have h2 : W_laws_toRangeS_3 (l, (List.replicate ((l.length : Int)).toNat (YRange).zero), (0 : Int)) = some (.inl (l.map fun x => x)) := Q.copy (T := YRange) (T' := YRange) (q := q_laws_toRange) (W := W_laws_toRangeS_3) (fun x => w_laws_toRangeS_3 x) l (by omega) (fun x hm => to_Range x (by have := wt_mem (f := (YRange).wt) hm; omega)) _
  rw [List.map_id'] at h2
  simp only [h1, cond_true, h2, Option.bind_some]
theorem eq_Range (x : (YRange).den) (hx : (YRange).wt x ≤ 1099511627776) : q_laws_eqRange (x, x) = some true := by
  simp only [Ty.wt] at hx
  rw [e_laws_eqRange]; unfold X_laws_eqRange; simp only
  simp only [Option.bind_some, strEq_refl, decide_true, beq_self_eq_true, Bool.not_true, cond_false]
theorem eq_RangeS (l : List (YRange).den) (hx : (Ty.sl YRange).wt l ≤ 1099511627776) : q_laws_eqRangeS (l, l) = some true := by
  have hw : (Ty.sl YRange).wt l = l.length + (l.map (YRange).wt).sum := rfl
  rw [hw] at hx; rw [e_laws_eqRangeS]; unfold X_laws_eqRangeS; simp only
  have h2 : W_laws_eqRangeS_4 (l, l, (0 : Int)) = some (.inl ()) := Q.same (T := YRange) (S := Unit) (q := q_laws_eqRange) (W := W_laws_eqRangeS_4) (fun x => w_laws_eqRangeS_4 x) l (by omega) (fun x hm => eq_Range x (by have := wt_mem (f := (YRange).wt) hm; omega))
  simp only [decide_true, Bool.not_true, cond_false, h2, Option.bind_some]
theorem sz_Write (x : (YWrite).den) (b : Int) (hf : (YWrite).fine x) (hb : 0 ≤ b) (hb2 : b ≤ 1048576) : q_laws_szWrite (x, b) = some (szr b ((YWrite).wt x)) := by
  obtain ⟨hf0, hf1, hf2⟩ := hf
  have hs0 : x.1.size ≤ 9223372036854775807 := by have := hf0; simp only [Ty.fine, maxLen] at this; exact this
  have hs1 : x.2.1.size ≤ 9223372036854775807 := by have := hf1; simp only [Ty.fine, maxLen] at this; exact this
  have hw : (YWrite).wt x = (x.1.size + (x.2.1.size + 0)) := by simp only [Ty.wt] <;> omega
  rw [hw, e_laws_szWrite]; unfold X_laws_szWrite; simp only
  rw [wrap64 (n := b - (x.1.size : Int)) (by omega) (by omega)]
  refine szr_str (fun c0 => ?_)
  rw [wrap64 (n := b - ((x.1.size : Nat) : Int) - (x.2.1.size : Int)) (by omega) (by omega)]
  refine szr_str (fun c1 => ?_)
  rw [szr_ok (by omega)]; simp
theorem sz_WriteS (l : List (YWrite).den) (b : Int) (hf : (Ty.sl YWrite).fine l) (hb : 0 ≤ b) (hb2 : b ≤ 1048576) : q_laws_szWriteS (l, b) = some (szr b ((Ty.sl YWrite).wt l)) := by
  have hl : l.length ≤ 9223372036854775807 := by have := hf.1; simp only [maxLen] at this; exact this
  rw [e_laws_szWriteS]; unfold X_laws_szWriteS; simp only
  rw [wrap64 (n := b - (l.length : Int)) (by omega) (by omega)]
  have hw : (Ty.sl YWrite).wt l = l.length + (l.map (YWrite).wt).sum := rfl
  rw [hw]; refine szr_str (fun c => ?_)
  exact Q.size (T := YWrite) (q := q_laws_szWrite) (W := W_laws_szWriteS_5) (fun x => w_laws_szWriteS_5 x) l (by omega) (fun x hx c h1 h2 => ⟨_, sz_Write x c (fine_mem hf hx) h1 h2, szr_spec⟩) (b - (l.length : Int)) (by omega) (by omega)
theorem to_Write (x : (YWrite).den) (hx : (YWrite).wt x ≤ 1099511627776) : q_laws_toWrite x = some x := by
  rw [e_laws_toWrite]; rfl
theorem to_WriteS (l : List (YWrite).den) (hx : (Ty.sl YWrite).wt l ≤ 1099511627776) : q_laws_toWriteS l = some l := by
  have hw : (Ty.sl YWrite).wt l = l.length + (l.map (YWrite).wt).sum := rfl
  rw [hw] at hx; rw [e_laws_toWriteS]; unfold X_laws_toWriteS
  have h1 : (decide (0 ≤ (l.length : Int)) && decide ((l.length : Int) ≤ 1099511627776)) = true := by simp; omega
  have h2 : W_laws_toWriteS_3 (l, (List.replicate ((l.length : Int)).toNat (YWrite).zero), (0 : Int)) = some (.inl (l.map fun x => x)) := Q.copy (T := YWrite) (T' := YWrite) (q := q_laws_toWrite) (W := W_laws_toWriteS_3) (fun x => w_laws_toWriteS_3 x) l (by omega) (fun x hm => to_Write x (by have := wt_mem (f := (YWrite).wt) hm; omega)) _
  rw [List.map_id'] at h2
  simp only [h1, cond_true, h2, Option.bind_some]
theorem eq_Write (x : (YWrite).den) (hx : (YWrite).wt x ≤ 1099511627776) : q_laws_eqWrite (x, x) = some true := by
  simp only [Ty.wt] at hx
  rw [e_laws_eqWrite]; unfold X_laws_eqWrite; simp only
  simp only [Option.bind_some, strEq_refl, decide_true, beq_self_eq_true, Bool.not_true, cond_false]
theorem eq_WriteS (l : List (YWrite).den) (hx : (Ty.sl YWrite).wt l ≤ 1099511627776) : q_laws_eqWriteS (l, l) = some true := by
  have hw : (Ty.sl YWrite).wt l = l.length + (l.map (YWrite).wt).sum := rfl
  rw [hw] at hx; rw [e_laws_eqWriteS]; unfold X_laws_eqWriteS; simp only
  have h2 : W_laws_eqWriteS_4 (l, l, (0 : Int)) = some (.inl ()) := Q.same (T := YWrite) (S := Unit) (q := q_laws_eqWrite) (W := W_laws_eqWriteS_4) (fun x => w_laws_eqWriteS_4 x) l (by omega) (fun x hm => eq_Write x (by have := wt_mem (f := (YWrite).wt) hm; omega))
  simp only [decide_true, Bool.not_true, cond_false, h2, Option.bind_some]
theorem sz_Txn (x : (YTxn).den) (b : Int) (hf : (YTxn).fine x) (hb : 0 ≤ b) (hb2 : b ≤ 1048576) : q_laws_szTxn (x, b) = some (szr b ((YTxn).wt x)) := by
  obtain ⟨hf0, hf1, hf2, hf3, hf4, hf5, hf6, hf7⟩ := hf
  have hs7 : x.2.2.2.2.2.2.2.size ≤ 9223372036854775807 := by have := hf7; simp only [Ty.fine, maxLen] at this; exact this
  have hw : (YTxn).wt x = ((Ty.sl YRange).wt x.2.2.2.2.1 + ((Ty.sl YWrite).wt x.2.2.2.2.2.1 + (x.2.2.2.2.2.2.2.size + 0))) := by simp only [Ty.wt] <;> omega
  rw [hw, e_laws_szTxn]; unfold X_laws_szTxn; simp only
  refine szr_bind (sz_RangeS _ _ hf4 (by omega) (by omega)) (fun c4 => ?_)
  refine szr_bind (sz_WriteS _ _ hf5 (by omega) (by omega)) (fun c5 => ?_)
  rw [wrap64 (n := b - (((Ty.sl YRange).wt x.2.2.2.2.1 : Nat) : Int) - (((Ty.sl YWrite).wt x.2.2.2.2.2.1 : Nat) : Int) - (x.2.2.2.2.2.2.2.size : Int)) (by omega) (by omega)]
  refine szr_str (fun c7 => ?_)
  rw [szr_ok (by omega)]; simp
theorem sz_TxnS (l : List (YTxn).den) (b : Int) (hf : (Ty.sl YTxn).fine l) (hb : 0 ≤ b) (hb2 : b ≤ 1048576) : q_laws_szTxnS (l, b) = some (szr b ((Ty.sl YTxn).wt l)) := by
  have hl : l.length ≤ 9223372036854775807 := by have := hf.1; simp only [maxLen] at this; exact this
  rw [e_laws_szTxnS]; unfold X_laws_szTxnS; simp only
  rw [wrap64 (n := b - (l.length : Int)) (by omega) (by omega)]
  have hw : (Ty.sl YTxn).wt l = l.length + (l.map (YTxn).wt).sum := rfl
  rw [hw]; refine szr_str (fun c => ?_)
  exact Q.size (T := YTxn) (q := q_laws_szTxn) (W := W_laws_szTxnS_5) (fun x => w_laws_szTxnS_5 x) l (by omega) (fun x hx c h1 h2 => ⟨_, sz_Txn x c (fine_mem hf hx) h1 h2, szr_spec⟩) (b - (l.length : Int)) (by omega) (by omega)
theorem to_Txn (x : (YTxn).den) (hx : (YTxn).wt x ≤ 1099511627776) : q_laws_toTxn x = some x := by
  simp only [Ty.wt] at hx
  rw [e_laws_toTxn]; unfold X_laws_toTxn
  simp only [to_RangeS x.2.2.2.2.1 (by simp only [Ty.wt]; omega), to_WriteS x.2.2.2.2.2.1 (by simp only [Ty.wt]; omega), Option.bind_some]
theorem to_TxnS (l : List (YTxn).den) (hx : (Ty.sl YTxn).wt l ≤ 1099511627776) : q_laws_toTxnS l = some l := by
  have hw : (Ty.sl YTxn).wt l = l.length + (l.map (YTxn).wt).sum := rfl
  rw [hw] at hx; rw [e_laws_toTxnS]; unfold X_laws_toTxnS
  have h1 : (decide (0 ≤ (l.length : Int)) && decide ((l.length : Int) ≤ 1099511627776)) = true := by simp; omega
  have h2 : W_laws_toTxnS_3 (l, (List.replicate ((l.length : Int)).toNat (YTxn).zero), (0 : Int)) = some (.inl (l.map fun x => x)) := Q.copy (T := YTxn) (T' := YTxn) (q := q_laws_toTxn) (W := W_laws_toTxnS_3) (fun x => w_laws_toTxnS_3 x) l (by omega) (fun x hm => to_Txn x (by have := wt_mem (f := (YTxn).wt) hm; omega)) _
  rw [List.map_id'] at h2
  simp only [h1, cond_true, h2, Option.bind_some]
theorem eq_Txn (x : (YTxn).den) (hx : (YTxn).wt x ≤ 1099511627776) : q_laws_eqTxn (x, x) = some true := by
  simp only [Ty.wt] at hx
  rw [e_laws_eqTxn]; unfold X_laws_eqTxn; simp only
  simp only [eq_RangeS x.2.2.2.2.1 (by simp only [Ty.wt]; omega), eq_WriteS x.2.2.2.2.2.1 (by simp only [Ty.wt]; omega), Option.bind_some, strEq_refl, decide_true, beq_self_eq_true, Bool.not_true, cond_false]
theorem eq_TxnS (l : List (YTxn).den) (hx : (Ty.sl YTxn).wt l ≤ 1099511627776) : q_laws_eqTxnS (l, l) = some true := by
  have hw : (Ty.sl YTxn).wt l = l.length + (l.map (YTxn).wt).sum := rfl
  rw [hw] at hx; rw [e_laws_eqTxnS]; unfold X_laws_eqTxnS; simp only
  have h2 : W_laws_eqTxnS_4 (l, l, (0 : Int)) = some (.inl ()) := Q.same (T := YTxn) (S := Unit) (q := q_laws_eqTxn) (W := W_laws_eqTxnS_4) (fun x => w_laws_eqTxnS_4 x) l (by omega) (fun x hm => eq_Txn x (by have := wt_mem (f := (YTxn).wt) hm; omega))
  simp only [decide_true, Bool.not_true, cond_false, h2, Option.bind_some]
end Go.Proofs.Ythhpkgegmfjdmaa.Ab
