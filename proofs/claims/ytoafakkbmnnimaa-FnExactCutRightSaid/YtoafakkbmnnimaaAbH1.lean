import Derived.Test.YtoafakkbmnnimaaAbG1
import Derived.Test.YtoafakkbmnnimaaAbQ1
namespace Go.Proofs.Ytoafakkbmnnimaa.Ab
open Go
set_option linter.unusedVariables false
set_option linter.unusedSimpArgs false
set_option linter.unnecessarySimpa false
set_option linter.unusedSimpArgs false
set_option linter.unusedVariables false

theorem sz_StringS (l : List (Ty.str).den) (b : Int) (hf : (Ty.sl Ty.str).fine l) (hb : 0 ≤ b) (hb2 : b ≤ 1048576) : q_laws_szStringS (l, b) = some (szr b ((Ty.sl Ty.str).wt l)) := by
  have hl : l.length ≤ 9223372036854775807 := by have := hf.1; simp only [maxLen] at this; exact this
  rw [e_laws_szStringS]; unfold X_laws_szStringS; simp only
  rw [wrap64 (n := b - (l.length : Int)) (by omega) (by omega)]
  have hw : (Ty.sl Ty.str).wt l = l.length + (l.map (Ty.str).wt).sum := rfl
  rw [hw]; refine szr_str (fun c => ?_)
  exact Q.size (T := Ty.str) (q := (fun x => some (IntKind.i64.wrap (x.2 - (x.1.size : Int))))) (W := W_laws_szStringS_5) (fun x => w_laws_szStringS_5 x) l (by omega) (fun x hx c h1 h2 => ⟨_, rfl, by have := fine_mem hf hx; simp only [Ty.fine, maxLen] at this; simp only [Ty.wt]; rw [wrap64 (by omega) (by omega)]; by_cases hc : ((ByteArray.size x : Nat) : Int) ≤ c <;> simp only [hc, if_true, if_false] <;> omega⟩) (b - (l.length : Int)) (by omega) (by omega)
theorem to_StringS (l : List (Ty.str).den) (hx : (Ty.sl Ty.str).wt l ≤ 1099511627776) : q_laws_toStringS l = some l := by
  have hw : (Ty.sl Ty.str).wt l = l.length + (l.map (Ty.str).wt).sum := rfl
  rw [hw] at hx; rw [e_laws_toStringS]; unfold X_laws_toStringS
  have h1 : (decide (0 ≤ (l.length : Int)) && decide ((l.length : Int) ≤ 1099511627776)) = true := by simp; omega
  have h2 : W_laws_toStringS_3 (l, (List.replicate ((l.length : Int)).toNat (Ty.str).zero), (0 : Int)) = some (.inl l) := Q.copy0 (T := Ty.str) (W := W_laws_toStringS_3) (fun x => w_laws_toStringS_3 x) l (by omega) _
  simp only [h1, cond_true, h2, Option.bind_some]
theorem eq_StringS (l : List (Ty.str).den) (hx : (Ty.sl Ty.str).wt l ≤ 1099511627776) : q_laws_eqStringS (l, l) = some true := by
  have hw : (Ty.sl Ty.str).wt l = l.length + (l.map (Ty.str).wt).sum := rfl
  rw [hw] at hx; rw [e_laws_eqStringS]; unfold X_laws_eqStringS; simp only
  have h2 : W_laws_eqStringS_4 (l, l, (0 : Int)) = some (.inl ()) := Q.same (T := Ty.str) (S := Unit) (q := fun x => some (strEq x.1 x.2)) (W := W_laws_eqStringS_4) (fun x => w_laws_eqStringS_4 x) l (by omega) (fun x _ => by simp [strEq_refl])
  simp only [decide_true, Bool.not_true, cond_false, h2, Option.bind_some]
theorem sz_Range (x : (YRange).den) (b : Int) (hf : (YRange).fine x) (hb : 0 ≤ b) (hb2 : b ≤ 1048576) : q_laws_szRange (x, b) = some (szr b ((YRange).wt x)) := by
  obtain ⟨hf0, hf1⟩ := hf
  have hs0 : x.1.size ≤ 9223372036854775807 := by have := hf0; simp only [Ty.fine, maxLen] at this; exact this
  have hs1 : x.2.size ≤ 9223372036854775807 := by have := hf1; simp only [Ty.fine, maxLen] at this; exact this
  have hw : (YRange).wt x = (x.1.size + (x.2.size + 0)) := by simp only [Ty.wt] <;> omega
  rw [hw, e_laws_szRange]; unfold X_laws_szRange; simp only
  rw [wrap64 (n := b - (x.1.size : Int)) (by omega) (by omega)]
  refine szr_str (fun c0 => ?_)
  rw [wrap64 (n := b - ((x.1.size : Nat) : Int) - (x.2.size : Int)) (by omega) (by omega)]
  refine szr_str (fun c1 => ?_)
  rw [szr_ok (by omega)]; simp
theorem sz_RangeS (l : List (YRange).den) (b : Int) (hf : (Ty.sl YRange).fine l) (hb : 0 ≤ b) (hb2 : b ≤ 1048576) : q_laws_szRangeS (l, b) = some (szr b ((Ty.sl YRange).wt l)) := by
  have hl : l.length ≤ 9223372036854775807 := by have := hf.1; simp only [maxLen] at this; exact this
  rw [e_laws_szRangeS]; unfold X_laws_szRangeS; simp only
  rw [wrap64 (n := b - (l.length : Int)) (by omega) (by omega)]
  have hw : (Ty.sl YRange).wt l = l.length + (l.map (YRange).wt).sum := rfl
  rw [hw]; refine szr_str (fun c => ?_)
  exact Q.size (T := YRange) (q := q_laws_szRange) (W := W_laws_szRangeS_5) (fun x => w_laws_szRangeS_5 x) l (by omega) (fun x hx c h1 h2 => ⟨_, sz_Range x c (fine_mem hf hx) h1 h2, szr_spec⟩) (b - (l.length : Int)) (by omega) (by omega)
theorem to_Range (x : (YRange).den) (hx : (YRange).wt x ≤ 1099511627776) : q_laws_toRange x = some x := by
  rw [e_laws_toRange]; rfl
theorem to_RangeS (l : List (YRange).den) (hx : (Ty.sl YRange).wt l ≤ 1099511627776) : q_laws_toRangeS l = some l := by
  have hw : (Ty.sl YRange).wt l = l.length + (l.map (YRange).wt).sum := rfl
  rw [hw] at hx; rw [e_laws_toRangeS]; unfold X_laws_toRangeS
  have h1 : (decide (0 ≤ (l.length : Int)) && decide ((l.length : Int) ≤ 1099511627776)) = true := by simp; omega
  have h2 : W_laws_toRangeS_3 (l, (List.replicate ((l.length : Int)).toNat (YRange).zero), (0 : Int)) = some (.inl (l.map fun x => x)) := Q.copy (T := YRange) (T' := YRange) (q := q_laws_toRange) (W := W_laws_toRangeS_3) (fun x => w_laws_toRangeS_3 x) l (by omega) (fun x hm => to_Range x (by have := wt_mem (f := (YRange).wt) hm; omega)) _
  rw [List.map_id'] at h2
  simp only [h1, cond_true, h2, Option.bind_some]
theorem eq_Range (x : (YRange).den) (hx : (YRange).wt x ≤ 1099511627776) : q_laws_eqRange (x, x) = some true := by
  simp only [Ty.wt] at hx
  rw [e_laws_eqRange]; unfold X_laws_eqRange; simp only
  simp only [Option.bind_some, strEq_refl, decide_true, beq_self_eq_true, Bool.not_true, cond_false]
theorem eq_RangeS (l : List (YRange).den) (hx : (Ty.sl YRange).wt l ≤ 1099511627776) : q_laws_eqRangeS (l, l) = some true := by
  have hw : (Ty.sl YRange).wt l = l.length + (l.map (YRange).wt).sum := rfl
  rw [hw] at hx; rw [e_laws_eqRangeS]; unfold X_laws_eqRangeS; simp only
  have h2 : W_laws_eqRangeS_4 (l, l, (0 : Int)) = some (.inl ()) := Q.same (T := YRange) (S := Unit) (q := q_laws_eqRange) (W := W_laws_eqRangeS_4) (fun x => w_laws_eqRangeS_4 x) l (by omega) (fun x hm => eq_Range x (by have := wt_mem (f := (YRange).wt) hm; omega))
  simp only [decide_true, Bool.not_true, cond_false, h2, Option.bind_some]
theorem sz_Write (x : (YWrite).den) (b : Int) (hf : (YWrite).fine x) (hb : 0 ≤ b) (hb2 : b ≤ 1048576) : q_laws_szWrite (x, b) = some (szr b ((YWrite).wt x)) := by
  obtain ⟨hf0, hf1, hf2⟩ := hf
  have hs0 : x.1.size ≤ 9223372036854775807 := by have := hf0; simp only [Ty.fine, maxLen] at this; exact this
  have hs1 : x.2.1.size ≤ 9223372036854775807 := by have := hf1; simp only [Ty.fine, maxLen] at this; exact this
  have hw : (YWrite).wt x = (x.1.size + (x.2.1.size + 0)) := by simp only [Ty.wt] <;> omega
  rw [hw, e_laws_szWrite]; unfold X_laws_szWrite; simp only
  rw [wrap64 (n := b - (x.1.size : Int)) (by omega) (by omega)]
  refine szr_str (fun c0 => ?_)
  rw [wrap64 (n := b - ((x.1.size : Nat) : Int) - (x.2.1.size : Int)) (by omega) (by omega)]
  refine szr_str (fun c1 => ?_)
  rw [szr_ok (by omega)]; simp
theorem sz_WriteS (l : List (YWrite).den) (b : Int) (hf : (Ty.sl YWrite).fine l) (hb : 0 ≤ b) (hb2 : b ≤ 1048576) : q_laws_szWriteS (l, b) = some (szr b ((Ty.sl YWrite).wt l)) := by
  have hl : l.length ≤ 9223372036854775807 := by have := hf.1; simp only [maxLen] at this; exact this
  rw [e_laws_szWriteS]; unfold X_laws_szWriteS; simp only
  rw [wrap64 (n := b - (l.length : Int)) (by omega) (by omega)]
  have hw : (Ty.sl YWrite).wt l = l.length + (l.map (YWrite).wt).sum := rfl
  rw [hw]; refine szr_str (fun c => ?_)
  exact Q.size (T := YWrite) (q := q_laws_szWrite) (W := W_laws_szWriteS_5) (fun x => w_laws_szWriteS_5 x) l (by omega) (fun x hx c h1 h2 => ⟨_, sz_Write x c (fine_mem hf hx) h1 h2, szr_spec⟩) (b - (l.length : Int)) (by omega) (by omega)
theorem to_Write (x : (YWrite).den) (hx : (YWrite).wt x ≤ 1099511627776) : q_laws_toWrite x = some x := by
  rw [e_laws_toWrite]; rfl
theorem to_WriteS (l : List (YWrite).den) (hx : (Ty.sl YWrite).wt l ≤ 1099511627776) : q_laws_toWriteS l = some l := by
  have hw : (Ty.sl YWrite).wt l = l.length + (l.map (YWrite).wt).sum := rfl
  rw [hw] at hx; rw [e_laws_toWriteS]; unfold X_laws_toWriteS
  have h1 : (decide (0 ≤ (l.length : Int)) && decide ((l.length : Int) ≤ 1099511627776)) = true := by simp; omega
  have h2 : W_laws_toWriteS_3 (l, (List.replicate ((l.length : Int)).toNat (YWrite).zero), (0 : Int)) = some (.inl (l.map fun x => x)) := Q.copy (T := YWrite) (T' := YWrite) (q := q_laws_toWrite) (W := W_laws_toWriteS_3) (fun x => w_laws_toWriteS_3 x) l (by omega) (fun x hm => to_Write x (by have := wt_mem (f := (YWrite).wt) hm; omega)) _
  rw [List.map_id'] at h2
  simp only [h1, cond_true, h2, Option.bind_some]
theorem eq_Write (x : (YWrite).den) (hx : (YWrite).wt x ≤ 1099511627776) : q_laws_eqWrite (x, x) = some true := by
  simp only [Ty.wt] at hx
  rw [e_laws_eqWrite]; unfold X_laws_eqWrite; simp only
  simp only [Option.bind_some, strEq_refl, decide_true, beq_self_eq_true, Bool.not_true, cond_false]
theorem eq_WriteS (l : List (YWrite).den) (hx : (Ty.sl YWrite).wt l ≤ 1099511627776) : q_laws_eqWriteS (l, l) = some true := by
  have hw : (Ty.sl YWrite).wt l = l.length + (l.map (YWrite).wt).sum := rfl
  rw [hw] at hx; rw [e_laws_eqWriteS]; unfold X_laws_eqWriteS; simp only
  have h2 : W_laws_eqWriteS_4 (l, l, (0 : Int)) = some (.inl ()) := Q.same (T := YWrite) (S := Unit) (q := q_laws_eqWrite) (W := W_laws_eqWriteS_4) (fun x => w_laws_eqWriteS_4 x) l (by omega) (fun x hm => eq_Write x (by have := wt_mem (f := (YWrite).wt) hm; omega))
  simp only [decide_true, Bool.not_true, cond_false, h2, Option.bind_some]
theorem sz_Pair (x : (YPair).den) (b : Int) (hf : (YPair).fine x) (hb : 0 ≤ b) (hb2 : b ≤ 1048576) : q_laws_szPair (x, b) = some (szr b ((YPair).wt x)) := by
  obtain ⟨hf0, hf1⟩ := hf
  have hs0 : x.1.size ≤ 9223372036854775807 := by have := hf0; simp only [Ty.fine, maxLen] at this; exact this
  have hs1 : x.2.size ≤ 9223372036854775807 := by have := hf1; simp only [Ty.fine, maxLen] at this; exact this
  have hw : (YPair).wt x = (x.1.size + (x.2.size + 0)) := by simp only [Ty.wt] <;> omega
  rw [hw, e_laws_szPair]; unfold X_laws_szPair; simp only
  rw [wrap64 (n := b - (x.1.size : Int)) (by omega) (by omega)]
  refine szr_str (fun c0 => ?_)
  rw [wrap64 (n := b - ((x.1.size : Nat) : Int) - (x.2.size : Int)) (by omega) (by omega)]
  refine szr_str (fun c1 => ?_)
  rw [szr_ok (by omega)]; simp
theorem sz_PairS (l : List (YPair).den) (b : Int) (hf : (Ty.sl YPair).fine l) (hb : 0 ≤ b) (hb2 : b ≤ 1048576) : q_laws_szPairS (l, b) = some (szr b ((Ty.sl YPair).wt l)) := by
  have hl : l.length ≤ 9223372036854775807 := by have := hf.1; simp only [maxLen] at this; exact this
  rw [e_laws_szPairS]; unfold X_laws_szPairS; simp only
  rw [wrap64 (n := b - (l.length : Int)) (by omega) (by omega)]
  have hw : (Ty.sl YPair).wt l = l.length + (l.map (YPair).wt).sum := rfl
  rw [hw]; refine szr_str (fun c => ?_)
  exact Q.size (T := YPair) (q := q_laws_szPair) (W := W_laws_szPairS_5) (fun x => w_laws_szPairS_5 x) l (by omega) (fun x hx c h1 h2 => ⟨_, sz_Pair x c (fine_mem hf hx) h1 h2, szr_spec⟩) (b - (l.length : Int)) (by omega) (by omega)
theorem to_Pair (x : (YPair).den) (hx : (YPair).wt x ≤ 1099511627776) : q_laws_toPair x = some x := by
  rw [e_laws_toPair]; rfl
theorem to_PairS (l : List (YPair).den) (hx : (Ty.sl YPair).wt l ≤ 1099511627776) : q_laws_toPairS l = some l := by
  have hw : (Ty.sl YPair).wt l = l.length + (l.map (YPair).wt).sum := rfl
  rw [hw] at hx; rw [e_laws_toPairS]; unfold X_laws_toPairS
  have h1 : (decide (0 ≤ (l.length : Int)) && decide ((l.length : Int) ≤ 1099511627776)) = true := by simp; omega
  have h2 : W_laws_toPairS_3 (l, (List.replicate ((l.length : Int)).toNat (YPair).zero), (0 : Int)) = some (.inl (l.map fun x => x)) := Q.copy (T := YPair) (T' := YPair) (q := q_laws_toPair) (W := W_laws_toPairS_3) (fun x => w_laws_toPairS_3 x) l (by omega) (fun x hm => to_Pair x (by have := wt_mem (f := (YPair).wt) hm; omega)) _
  rw [List.map_id'] at h2
  simp only [h1, cond_true, h2, Option.bind_some]
theorem eq_Pair (x : (YPair).den) (hx : (YPair).wt x ≤ 1099511627776) : q_laws_eqPair (x, x) = some true := by
  simp only [Ty.wt] at hx
  rw [e_laws_eqPair]; unfold X_laws_eqPair; simp only
  simp only [Option.bind_some, strEq_refl, decide_true, beq_self_eq_true, Bool.not_true, cond_false]
theorem eq_PairS (l : List (YPair).den) (hx : (Ty.sl YPair).wt l ≤ 1099511627776) : q_laws_eqPairS (l, l) = some true := by
  have hw : (Ty.sl YPair).wt l = l.length + (l.map (YPair).wt).sum := rfl
  rw [hw] at hx; rw [e_laws_eqPairS]; unfold X_laws_eqPairS; simp only
  have h2 : W_laws_eqPairS_4 (l, l, (0 : Int)) = some (.inl ()) := Q.same (T := YPair) (S := Unit) (q := q_laws_eqPair) (W := W_laws_eqPairS_4) (fun x => w_laws_eqPairS_4 x) l (by omega) (fun x hm => eq_Pair x (by have := wt_mem (f := (YPair).wt) hm; omega))
  simp only [decide_true, Bool.not_true, cond_false, h2, Option.bind_some]
theorem sz_Cell (x : (YCell).den) (b : Int) (hf : (YCell).fine x) (hb : 0 ≤ b) (hb2 : b ≤ 1048576) : q_laws_szCell (x, b) = some (szr b ((YCell).wt x)) := by
  obtain ⟨hf0, hf1⟩ := hf
  have hs0 : x.1.size ≤ 9223372036854775807 := by have := hf0; simp only [Ty.fine, maxLen] at this; exact this
  have hs1 : x.2.size ≤ 9223372036854775807 := by have := hf1; simp only [Ty.fine, maxLen] at this; exact this
  have hw : (YCell).wt x = (x.1.size + (x.2.size + 0)) := by simp only [Ty.wt] <;> omega
  rw [hw, e_laws_szCell]; unfold X_laws_szCell; simp only
  rw [wrap64 (n := b - (x.1.size : Int)) (by omega) (by omega)]
  refine szr_str (fun c0 => ?_)
  rw [wrap64 (n := b - ((x.1.size : Nat) : Int) - (x.2.size : Int)) (by omega) (by omega)]
  refine szr_str (fun c1 => ?_)
  rw [szr_ok (by omega)]; simp
theorem sz_CellS (l : List (YCell).den) (b : Int) (hf : (Ty.sl YCell).fine l) (hb : 0 ≤ b) (hb2 : b ≤ 1048576) : q_laws_szCellS (l, b) = some (szr b ((Ty.sl YCell).wt l)) := by
  have hl : l.length ≤ 9223372036854775807 := by have := hf.1; simp only [maxLen] at this; exact this
  rw [e_laws_szCellS]; unfold X_laws_szCellS; simp only
  rw [wrap64 (n := b - (l.length : Int)) (by omega) (by omega)]
  have hw : (Ty.sl YCell).wt l = l.length + (l.map (YCell).wt).sum := rfl
  rw [hw]; refine szr_str (fun c => ?_)
  exact Q.size (T := YCell) (q := q_laws_szCell) (W := W_laws_szCellS_5) (fun x => w_laws_szCellS_5 x) l (by omega) (fun x hx c h1 h2 => ⟨_, sz_Cell x c (fine_mem hf hx) h1 h2, szr_spec⟩) (b - (l.length : Int)) (by omega) (by omega)
theorem to_Cell (x : (YCell).den) (hx : (YCell).wt x ≤ 1099511627776) : q_laws_toCell x = some x := by
  rw [e_laws_toCell]; rfl
theorem to_CellS (l : List (YCell).den) (hx : (Ty.sl YCell).wt l ≤ 1099511627776) : q_laws_toCellS l = some l := by
  have hw : (Ty.sl YCell).wt l = l.length + (l.map (YCell).wt).sum := rfl
  rw [hw] at hx; rw [e_laws_toCellS]; unfold X_laws_toCellS
  have h1 : (decide (0 ≤ (l.length : Int)) && decide ((l.length : Int) ≤ 1099511627776)) = true := by simp; omega
  have h2 : W_laws_toCellS_3 (l, (List.replicate ((l.length : Int)).toNat (YCell).zero), (0 : Int)) = some (.inl (l.map fun x => x)) := Q.copy (T := YCell) (T' := YCell) (q := q_laws_toCell) (W := W_laws_toCellS_3) (fun x => w_laws_toCellS_3 x) l (by omega) (fun x hm => to_Cell x (by have := wt_mem (f := (YCell).wt) hm; omega)) _
  rw [List.map_id'] at h2
  simp only [h1, cond_true, h2, Option.bind_some]
theorem eq_Cell (x : (YCell).den) (hx : (YCell).wt x ≤ 1099511627776) : q_laws_eqCell (x, x) = some true := by
  simp only [Ty.wt] at hx
  rw [e_laws_eqCell]; unfold X_laws_eqCell; simp only
  simp only [Option.bind_some, strEq_refl, decide_true, beq_self_eq_true, Bool.not_true, cond_false]
theorem eq_CellS (l : List (YCell).den) (hx : (Ty.sl YCell).wt l ≤ 1099511627776) : q_laws_eqCellS (l, l) = some true := by
  have hw : (Ty.sl YCell).wt l = l.length + (l.map (YCell).wt).sum := rfl
  rw [hw] at hx; rw [e_laws_eqCellS]; unfold X_laws_eqCellS; simp only
  have h2 : W_laws_eqCellS_4 (l, l, (0 : Int)) = some (.inl ()) := Q.same (T := YCell) (S := Unit) (q := q_laws_eqCell) (W := W_laws_eqCellS_4) (fun x => w_laws_eqCellS_4 x) l (by omega) (fun x hm => eq_Cell x (by have := wt_mem (f := (YCell).wt) hm; omega))
  simp only [decide_true, Bool.not_true, cond_false, h2, Option.bind_some]
theorem sz_Put (x : (YPut).den) (b : Int) (hf : (YPut).fine x) (hb : 0 ≤ b) (hb2 : b ≤ 1048576) : q_laws_szPut (x, b) = some (szr b ((YPut).wt x)) := by
  obtain ⟨hf0, hf1⟩ := hf
  have hs1 : x.2.size ≤ 9223372036854775807 := by have := hf1; simp only [Ty.fine, maxLen] at this; exact this
  have hw : (YPut).wt x = (x.2.size + 0) := by simp only [Ty.wt] <;> omega
  rw [hw, e_laws_szPut]; unfold X_laws_szPut; simp only
  rw [wrap64 (n := b - (x.2.size : Int)) (by omega) (by omega)]
  refine szr_str (fun c1 => ?_)
  rw [szr_ok (by omega)]; simp
theorem sz_PutS (l : List (YPut).den) (b : Int) (hf : (Ty.sl YPut).fine l) (hb : 0 ≤ b) (hb2 : b ≤ 1048576) : q_laws_szPutS (l, b) = some (szr b ((Ty.sl YPut).wt l)) := by
  have hl : l.length ≤ 9223372036854775807 := by have := hf.1; simp only [maxLen] at this; exact this
  rw [e_laws_szPutS]; unfold X_laws_szPutS; simp only
  rw [wrap64 (n := b - (l.length : Int)) (by omega) (by omega)]
  have hw : (Ty.sl YPut).wt l = l.length + (l.map (YPut).wt).sum := rfl
  rw [hw]; refine szr_str (fun c => ?_)
  exact Q.size (T := YPut) (q := q_laws_szPut) (W := W_laws_szPutS_5) (fun x => w_laws_szPutS_5 x) l (by omega) (fun x hx c h1 h2 => ⟨_, sz_Put x c (fine_mem hf hx) h1 h2, szr_spec⟩) (b - (l.length : Int)) (by omega) (by omega)
theorem to_Put (x : (YPut).den) (hx : (YPut).wt x ≤ 1099511627776) : q_laws_toPut x = some x := by
  rw [e_laws_toPut]; rfl
theorem to_PutS (l : List (YPut).den) (hx : (Ty.sl YPut).wt l ≤ 1099511627776) : q_laws_toPutS l = some l := by
  have hw : (Ty.sl YPut).wt l = l.length + (l.map (YPut).wt).sum := rfl
  rw [hw] at hx; rw [e_laws_toPutS]; unfold X_laws_toPutS
  have h1 : (decide (0 ≤ (l.length : Int)) && decide ((l.length : Int) ≤ 1099511627776)) = true := by simp; omega
  have h2 : W_laws_toPutS_3 (l, (List.replicate ((l.length : Int)).toNat (YPut).zero), (0 : Int)) = some (.inl (l.map fun x => x)) := Q.copy (T := YPut) (T' := YPut) (q := q_laws_toPut) (W := W_laws_toPutS_3) (fun x => w_laws_toPutS_3 x) l (by omega) (fun x hm => to_Put x (by have := wt_mem (f := (YPut).wt) hm; omega)) _
  rw [List.map_id'] at h2
  simp only [h1, cond_true, h2, Option.bind_some]
theorem eq_Put (x : (YPut).den) (hx : (YPut).wt x ≤ 1099511627776) : q_laws_eqPut (x, x) = some true := by
  simp only [Ty.wt] at hx
  rw [e_laws_eqPut]; unfold X_laws_eqPut; simp only
  simp only [Option.bind_some, strEq_refl, decide_true, beq_self_eq_true, Bool.not_true, cond_false]
theorem eq_PutS (l : List (YPut).den) (hx : (Ty.sl YPut).wt l ≤ 1099511627776) : q_laws_eqPutS (l, l) = some true := by
  have hw : (Ty.sl YPut).wt l = l.length + (l.map (YPut).wt).sum := rfl
  rw [hw] at hx; rw [e_laws_eqPutS]; unfold X_laws_eqPutS; simp only
  have h2 : W_laws_eqPutS_4 (l, l, (0 : Int)) = some (.inl ()) := Q.same (T := YPut) (S := Unit) (q := q_laws_eqPut) (W := W_laws_eqPutS_4) (fun x => w_laws_eqPutS_4 x) l (by omega) (fun x hm => eq_Put x (by have := wt_mem (f := (YPut).wt) hm; omega))
  simp only [decide_true, Bool.not_true, cond_false, h2, Option.bind_some]
theorem sz_Disk (x : (YDisk).den) (b : Int) (hf : (YDisk).fine x) (hb : 0 ≤ b) (hb2 : b ≤ 1048576) : q_laws_szDisk (x, b) = some (szr b ((YDisk).wt x)) := by
  obtain ⟨hf0, hf1⟩ := hf
  have hw : (YDisk).wt x = ((Ty.sl Ty.str).wt x.1 + ((Ty.sl YPut).wt x.2 + 0)) := by simp only [Ty.wt] <;> omega
  rw [hw, e_laws_szDisk]; unfold X_laws_szDisk; simp only
  refine szr_bind (sz_StringS _ _ hf0 (by omega) (by omega)) (fun c0 => ?_)
  refine szr_bind (sz_PutS _ _ hf1 (by omega) (by omega)) (fun c1 => ?_)
  rw [szr_ok (by omega)]; simp
theorem to_Disk (x : (YDisk).den) (hx : (YDisk).wt x ≤ 1099511627776) : q_laws_toDisk x = some x := by
  simp only [Ty.wt] at hx
  rw [e_laws_toDisk]; unfold X_laws_toDisk
  simp only [to_StringS x.1 (by simp only [Ty.wt]; omega), to_PutS x.2 (by simp only [Ty.wt]; omega), Option.bind_some]
theorem eq_Disk (x : (YDisk).den) (hx : (YDisk).wt x ≤ 1099511627776) : q_laws_eqDisk (x, x) = some true := by
  simp only [Ty.wt] at hx
  rw [e_laws_eqDisk]; unfold X_laws_eqDisk; simp only
  simp only [eq_StringS x.1 (by simp only [Ty.wt]; omega), eq_PutS x.2 (by simp only [Ty.wt]; omega), Option.bind_some, strEq_refl, decide_true, beq_self_eq_true, Bool.not_true, cond_false]
theorem sz_Txn (x : (YTxn).den) (b : Int) (hf : (YTxn).fine x) (hb : 0 ≤ b) (hb2 : b ≤ 1048576) : q_laws_szTxn (x, b) = some (szr b ((YTxn).wt x)) := by
  obtain ⟨hf0, hf1, hf2, hf3, hf4, hf5, hf6, hf7⟩ := hf
  have hs7 : x.2.2.2.2.2.2.2.size ≤ 9223372036854775807 := by have := hf7; simp only [Ty.fine, maxLen] at this; exact this
  have hw : (YTxn).wt x = ((Ty.sl YRange).wt x.2.2.2.2.1 + ((Ty.sl YWrite).wt x.2.2.2.2.2.1 + (x.2.2.2.2.2.2.2.size + 0))) := by simp only [Ty.wt] <;> omega
  rw [hw, e_laws_szTxn]; unfold X_laws_szTxn; simp only
  refine szr_bind (sz_RangeS _ _ hf4 (by omega) (by omega)) (fun c4 => ?_)
  refine szr_bind (sz_WriteS _ _ hf5 (by omega) (by omega)) (fun c5 => ?_)
  rw [wrap64 (n := b - (((Ty.sl YRange).wt x.2.2.2.2.1 : Nat) : Int) - (((Ty.sl YWrite).wt x.2.2.2.2.2.1 : Nat) : Int) - (x.2.2.2.2.2.2.2.size : Int)) (by omega) (by omega)]
  refine szr_str (fun c7 => ?_)
  rw [szr_ok (by omega)]; simp
theorem to_Txn (x : (YTxn).den) (hx : (YTxn).wt x ≤ 1099511627776) : q_laws_toTxn x = some x := by
  simp only [Ty.wt] at hx
  rw [e_laws_toTxn]; unfold X_laws_toTxn
  simp only [to_RangeS x.2.2.2.2.1 (by simp only [Ty.wt]; omega), to_WriteS x.2.2.2.2.2.1 (by simp only [Ty.wt]; omega), Option.bind_some]
theorem eq_Txn (x : (YTxn).den) (hx : (YTxn).wt x ≤ 1099511627776) : q_laws_eqTxn (x, x) = some true := by
  simp only [Ty.wt] at hx
  rw [e_laws_eqTxn]; unfold X_laws_eqTxn; simp only
  simp only [eq_RangeS x.2.2.2.2.1 (by simp only [Ty.wt]; omega), eq_WriteS x.2.2.2.2.2.1 (by simp only [Ty.wt]; omega), Option.bind_some, strEq_refl, decide_true, beq_self_eq_true, Bool.not_true, cond_false]
end Go.Proofs.Ytoafakkbmnnimaa.Ab
