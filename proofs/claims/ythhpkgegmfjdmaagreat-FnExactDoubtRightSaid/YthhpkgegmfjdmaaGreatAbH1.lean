import Derived.Test.YthhpkgegmfjdmaaGreatAbG1
import Derived.Test.YthhpkgegmfjdmaaGreatAbQ1
namespace Go.Proofs.YthhpkgegmfjdmaaGreat.Ab
open Go
set_option linter.unusedVariables false
set_option linter.unusedSimpArgs false
set_option linter.unnecessarySimpa false
set_option linter.unusedSimpArgs false
set_option linter.unusedVariables false

theorem sz_IntS (l : List ((Ty.int .i64)).den) (b : Int) (hf : (Ty.sl (Ty.int .i64)).fine l) (hb : 0 ≤ b) (hb2 : b ≤ 1048576) : q_laws_szIntS (l, b) = some (szr b ((Ty.sl (Ty.int .i64)).wt l)) := by
  have hl : l.length ≤ 9223372036854775807 := by have := hf.1; simp only [maxLen] at this; exact this
  rw [e_laws_szIntS]; unfold X_laws_szIntS; simp only
  rw [wrap64 (n := b - (l.length : Int)) (by omega) (by omega)]
  have hw : (Ty.sl (Ty.int .i64)).wt l = l.length + (l.map ((Ty.int .i64)).wt).sum := rfl
  rw [hw]; refine szr_str (fun c => ?_)
  have h0 : (l.map (Ty.int .i64).wt).sum = 0 := by clear hf hl hw c; induction l with
    | nil => rfl
    | cons x l ih => rw [List.map_cons, List.sum_cons, ih]; rfl
  rw [h0, szr_ok (by omega)]; simp
theorem to_IntS (l : List ((Ty.int .i64)).den) (hx : (Ty.sl (Ty.int .i64)).wt l ≤ 1099511627776) : q_laws_toIntS l = some l := by
  have hw : (Ty.sl (Ty.int .i64)).wt l = l.length + (l.map ((Ty.int .i64)).wt).sum := rfl
  rw [hw] at hx; rw [e_laws_toIntS]; unfold X_laws_toIntS
  have h1 : (decide (0 ≤ (l.length : Int)) && decide ((l.length : Int) ≤ 1099511627776)) = true := by simp; omega
  have h2 : W_laws_toIntS_3 (l, (List.replicate ((l.length : Int)).toNat ((Ty.int .i64)).zero), (0 : Int)) = some (.inl l) := Q.copy0 (T := (Ty.int .i64)) (W := W_laws_toIntS_3) (fun x => w_laws_toIntS_3 x) l (by omega) _
  simp only [h1, cond_true, h2, Option.bind_some]
theorem eq_IntS (l : List ((Ty.int .i64)).den) (hx : (Ty.sl (Ty.int .i64)).wt l ≤ 1099511627776) : q_laws_eqIntS (l, l) = some true := by
  have hw : (Ty.sl (Ty.int .i64)).wt l = l.length + (l.map ((Ty.int .i64)).wt).sum := rfl
  rw [hw] at hx; rw [e_laws_eqIntS]; unfold X_laws_eqIntS; simp only
  have h2 : W_laws_eqIntS_4 (l, l, (0 : Int)) = some (.inl ()) := Q.same (T := (Ty.int .i64)) (S := Unit) (q := fun x => some (decide (x.1 = x.2))) (W := W_laws_eqIntS_4) (fun x => w_laws_eqIntS_4 x) l (by omega) (fun x _ => by simp [strEq_refl])
  simp only [decide_true, Bool.not_true, cond_false, h2, Option.bind_some]
theorem sz_StringS (l : List (Ty.str).den) (b : Int) (hf : (Ty.sl Ty.str).fine l) (hb : 0 ≤ b) (hb2 : b ≤ 1048576) : q_laws_szStringS (l, b) = some (szr b ((Ty.sl Ty.str).wt l)) := by
  have hl : l.length ≤ 9223372036854775807 := by have := hf.1; simp only [maxLen] at this; exact this
  rw [e_laws_szStringS]; unfold X_laws_szStringS; simp only
  rw [wrap64 (n := b - (l.length : Int)) (by omega) (by omega)]
  have hw : (Ty.sl Ty.str).wt l = l.length + (l.map (Ty.str).wt).sum := rfl
  rw [hw]; refine szr_str (fun c => ?_)
  exact Q.size (T := Ty.str) (q := (fun x => some (IntKind.i64.wrap (x.2 - (x.1.size : Int))))) (W := W_laws_szStringS_5) (fun x => w_laws_szStringS_5 x) l (by omega) (fun x hx c h1 h2 => ⟨_, rfl, by have := fine_mem hf hx; simp only [Ty.fine, maxLen] at this; simp only [Ty.wt]; rw [wrap64 (by omega) (by omega)]; by_cases hc : ((ByteArray.size x : Nat) : Int) ≤ c <;> simp only [hc, if_true, if_false] <;> omega⟩) (b - (l.length : Int)) (by omega) (by omega)
theorem to_StringS (l : List (Ty.str).den) (hx : (Ty.sl Ty.str).wt l ≤ 1099511627776) : q_laws_toStringS l = some l := by
  have hw : (Ty.sl Ty.str).wt l = l.length + (l.map (Ty.str).wt).sum := rfl
  rw [hw] at hx; rw [e_laws_toStringS]; unfold X_laws_toStringS
  have h1 : (decide (0 ≤ (l.length : Int)) && decide ((l.length : Int) ≤ 1099511627776)) = true := by simp; omega
  have h2 : W_laws_toStringS_3 (l, (List.replicate ((l.length : Int)).toNat (Ty.str).zero), (0 : Int)) = some (.inl l) := Q.copy0 (T := Ty.str) (W := W_laws_toStringS_3) (fun x => w_laws_toStringS_3 x) l (by omega) _
  simp only [h1, cond_true, h2, Option.bind_some]
theorem eq_StringS (l : List (Ty.str).den) (hx : (Ty.sl Ty.str).wt l ≤ 1099511627776) : q_laws_eqStringS (l, l) = some true := by
  have hw : (Ty.sl Ty.str).wt l = l.length + (l.map (Ty.str).wt).sum := rfl
  rw [hw] at hx; rw [e_laws_eqStringS]; unfold X_laws_eqStringS; simp only
  have h2 : W_laws_eqStringS_4 (l, l, (0 : Int)) = some (.inl ()) := Q.same (T := Ty.str) (S := Unit) (q := fun x => some (strEq x.1 x.2)) (W := W_laws_eqStringS_4) (fun x => w_laws_eqStringS_4 x) l (by omega) (fun x _ => by simp [strEq_refl])
  simp only [decide_true, Bool.not_true, cond_false, h2, Option.bind_some]
theorem sz_Range (x : (YRange).den) (b : Int) (hf : (YRange).fine x) (hb : 0 ≤ b) (hb2 : b ≤ 1048576) : q_laws_szRange (x, b) = some (szr b ((YRange).wt x)) := by
  obtain ⟨hf0, hf1⟩ := hf
  have hs0 : x.1.size ≤ 9223372036854775807 := by have := hf0; simp only [Ty.fine, maxLen] at this; exact this
  have hs1 : x.2.size ≤ 9223372036854775807 := by have := hf1; simp only [Ty.fine, maxLen] at this; exact this
  have hw : (YRange).wt x = (x.1.size + (x.2.size + 0)) := by simp only [Ty.wt] <;> omega
  rw [hw, e_laws_szRange]; unfold X_laws_szRange; simp only
  rw [wrap64 (n := b - (x.1.size : Int)) (by omega) (by omega)]
  refine szr_str (fun c0 => ?_)
  rw [wrap64 (n := b - ((x.1.size : Nat) : Int) - (x.2.size : Int)) (by omega) (by omega)]
  refine szr_str (fun c1 => ?_)
  rw [szr_ok (by omega)]; simp
theorem sz_RangeS (l : List (YRange).den) (b : Int) (hf : (Ty.sl YRange).fine l) (hb : 0 ≤ b) (hb2 : b ≤ 1048576) : q_laws_szRangeS (l, b) = some (szr b ((Ty.sl YRange).wt l)) := by
  have hl : l.length ≤ 9223372036854775807 := by have := hf.1; simp only [maxLen] at this; exact this
  rw [e_laws_szRangeS]; unfold X_laws_szRangeS; simp only
  rw [wrap64 (n := b - (l.length : Int)) (by omega) (by omega)]
  have hw : (Ty.sl YRange).wt l = l.length + (l.map (YRange).wt).sum := rfl
  rw [hw]; refine szr_str (fun c => ?_)
  exact Q.size (T := YRange) (q := q_laws_szRange) (W := W_laws_szRangeS_5) (fun x => w_laws_szRangeS_5 x) l (by omega) (fun x hx c h1 h2 => ⟨_, sz_Range x c (fine_mem hf hx) h1 h2, szr_spec⟩) (b - (l.length : Int)) (by omega) (by omega)
theorem to_Range (x : (YRange).den) (hx : (YRange).wt x ≤ 1099511627776) : q_laws_toRange x = some x := by
  rw [e_laws_toRange]; rfl
theorem to_RangeS (l : List (YRange).den) (hx : (Ty.sl YRange).wt l ≤ 1099511627776) : q_laws_toRangeS l = some l := by
  have hw : (Ty.sl YRange).wt l = l.length + (l.map (YRange).wt).sum := rfl
  rw [hw] at hx; rw [e_laws_toRangeS]; unfold X_laws_toRangeS
  have h1 : (decide (0 ≤ (l.length : Int)) && decide ((l.length : Int) ≤ 1099511627776)) = true := by simp; omega
  have h2 : W_laws_toRangeS_3 (l, (List.replicate ((l.length : Int)).toNat (YRange).zero), (0 : Int)) = some (.inl (l.map fun x => x)) := Q.copy (T := YRange) (T' := YRange) (q := q_laws_toRange) (W := W_laws_toRangeS_3) (fun x => w_laws_toRangeS_3 x) l (by omega) (fun x hm => to_Range x (by have := wt_mem (f := (YRange).wt) hm; omega)) _
  rw [List.map_id'] at h2
  simp only [h1, cond_true, h2, Option.bind_some]
theorem eq_Range (x : (YRange).den) (hx : (YRange).wt x ≤ 1099511627776) : q_laws_eqRange (x, x) = some true := by
  simp only [Ty.wt] at hx
  rw [e_laws_eqRange]; unfold X_laws_eqRange; simp only
  simp only [Option.bind_some, strEq_refl, decide_true, beq_self_eq_true, Bool.not_true, cond_false]
theorem eq_RangeS (l : List (YRange).den) (hx : (Ty.sl YRange).wt l ≤ 1099511627776) : q_laws_eqRangeS (l, l) = some true := by
  have hw : (Ty.sl YRange).wt l = l.length + (l.map (YRange).wt).sum := rfl
  rw [hw] at hx; rw [e_laws_eqRangeS]; unfold X_laws_eqRangeS; simp only
  have h2 : W_laws_eqRangeS_4 (l, l, (0 : Int)) = some (.inl ()) := Q.same (T := YRange) (S := Unit) (q := q_laws_eqRange) (W := W_laws_eqRangeS_4) (fun x => w_laws_eqRangeS_4 x) l (by omega) (fun x hm => eq_Range x (by have := wt_mem (f := (YRange).wt) hm; omega))
  simp only [decide_true, Bool.not_true, cond_false, h2, Option.bind_some]
theorem sz_Write (x : (YWrite).den) (b : Int) (hf : (YWrite).fine x) (hb : 0 ≤ b) (hb2 : b ≤ 1048576) : q_laws_szWrite (x, b) = some (szr b ((YWrite).wt x)) := by
  obtain ⟨hf0, hf1, hf2⟩ := hf
  have hs0 : x.1.size ≤ 9223372036854775807 := by have := hf0; simp only [Ty.fine, maxLen] at this; exact this
  have hs1 : x.2.1.size ≤ 9223372036854775807 := by have := hf1; simp only [Ty.fine, maxLen] at this; exact this
  have hw : (YWrite).wt x = (x.1.size + (x.2.1.size + 0)) := by simp only [Ty.wt] <;> omega
  rw [hw, e_laws_szWrite]; unfold X_laws_szWrite; simp only
  rw [wrap64 (n := b - (x.1.size : Int)) (by omega) (by omega)]
  refine szr_str (fun c0 => ?_)
  rw [wrap64 (n := b - ((x.1.size : Nat) : Int) - (x.2.1.size : Int)) (by omega) (by omega)]
  refine szr_str (fun c1 => ?_)
  rw [szr_ok (by omega)]; simp
theorem sz_WriteS (l : List (YWrite).den) (b : Int) (hf : (Ty.sl YWrite).fine l) (hb : 0 ≤ b) (hb2 : b ≤ 1048576) : q_laws_szWriteS (l, b) = some (szr b ((Ty.sl YWrite).wt l)) := by
  have hl : l.length ≤ 9223372036854775807 := by have := hf.1; simp only [maxLen] at this; exact this
  rw [e_laws_szWriteS]; unfold X_laws_szWriteS; simp only
  rw [wrap64 (n := b - (l.length : Int)) (by omega) (by omega)]
  have hw : (Ty.sl YWrite).wt l = l.length + (l.map (YWrite).wt).sum := rfl
  rw [hw]; refine szr_str (fun c => ?_)
  exact Q.size (T := YWrite) (q := q_laws_szWrite) (W := W_laws_szWriteS_5) (fun x => w_laws_szWriteS_5 x) l (by omega) (fun x hx c h1 h2 => ⟨_, sz_Write x c (fine_mem hf hx) h1 h2, szr_spec⟩) (b - (l.length : Int)) (by omega) (by omega)
theorem to_Write (x : (YWrite).den) (hx : (YWrite).wt x ≤ 1099511627776) : q_laws_toWrite x = some x := by
  rw [e_laws_toWrite]; rfl
theorem to_WriteS (l : List (YWrite).den) (hx : (Ty.sl YWrite).wt l ≤ 1099511627776) : q_laws_toWriteS l = some l := by
  have hw : (Ty.sl YWrite).wt l = l.length + (l.map (YWrite).wt).sum := rfl
  rw [hw] at hx; rw [e_laws_toWriteS]; unfold X_laws_toWriteS
  have h1 : (decide (0 ≤ (l.length : Int)) && decide ((l.length : Int) ≤ 1099511627776)) = true := by simp; omega
  have h2 : W_laws_toWriteS_3 (l, (List.replicate ((l.length : Int)).toNat (YWrite).zero), (0 : Int)) = some (.inl (l.map fun x => x)) := Q.copy (T := YWrite) (T' := YWrite) (q := q_laws_toWrite) (W := W_laws_toWriteS_3) (fun x => w_laws_toWriteS_3 x) l (by omega) (fun x hm => to_Write x (by have := wt_mem (f := (YWrite).wt) hm; omega)) _
  rw [List.map_id'] at h2
  simp only [h1, cond_true, h2, Option.bind_some]
theorem eq_Write (x : (YWrite).den) (hx : (YWrite).wt x ≤ 1099511627776) : q_laws_eqWrite (x, x) = some true := by
  simp only [Ty.wt] at hx
  rw [e_laws_eqWrite]; unfold X_laws_eqWrite; simp only
  simp only [Option.bind_some, strEq_refl, decide_true, beq_self_eq_true, Bool.not_true, cond_false]
theorem eq_WriteS (l : List (YWrite).den) (hx : (Ty.sl YWrite).wt l ≤ 1099511627776) : q_laws_eqWriteS (l, l) = some true := by
  have hw : (Ty.sl YWrite).wt l = l.length + (l.map (YWrite).wt).sum := rfl
  rw [hw] at hx; rw [e_laws_eqWriteS]; unfold X_laws_eqWriteS; simp only
  have h2 : W_laws_eqWriteS_4 (l, l, (0 : Int)) = some (.inl ()) := Q.same (T := YWrite) (S := Unit) (q := q_laws_eqWrite) (W := W_laws_eqWriteS_4) (fun x => w_laws_eqWriteS_4 x) l (by omega) (fun x hm => eq_Write x (by have := wt_mem (f := (YWrite).wt) hm; omega))
  simp only [decide_true, Bool.not_true, cond_false, h2, Option.bind_some]
theorem sz_Version (x : (YVersion).den) (b : Int) (hf : (YVersion).fine x) (hb : 0 ≤ b) (hb2 : b ≤ 1048576) : q_laws_szVersion (x, b) = some (szr b ((YVersion).wt x)) := by
  obtain ⟨hf0, hf1, hf2, hf3⟩ := hf
  have hs0 : x.1.size ≤ 9223372036854775807 := by have := hf0; simp only [Ty.fine, maxLen] at this; exact this
  have hs1 : x.2.1.size ≤ 9223372036854775807 := by have := hf1; simp only [Ty.fine, maxLen] at this; exact this
  have hw : (YVersion).wt x = (x.1.size + (x.2.1.size + 0)) := by simp only [Ty.wt] <;> omega
  rw [hw, e_laws_szVersion]; unfold X_laws_szVersion; simp only
  rw [wrap64 (n := b - (x.1.size : Int)) (by omega) (by omega)]
  refine szr_str (fun c0 => ?_)
  rw [wrap64 (n := b - ((x.1.size : Nat) : Int) - (x.2.1.size : Int)) (by omega) (by omega)]
  refine szr_str (fun c1 => ?_)
  rw [szr_ok (by omega)]; simp
theorem sz_VersionS (l : List (YVersion).den) (b : Int) (hf : (Ty.sl YVersion).fine l) (hb : 0 ≤ b) (hb2 : b ≤ 1048576) : q_laws_szVersionS (l, b) = some (szr b ((Ty.sl YVersion).wt l)) := by
  have hl : l.length ≤ 9223372036854775807 := by have := hf.1; simp only [maxLen] at this; exact this
  rw [e_laws_szVersionS]; unfold X_laws_szVersionS; simp only
  rw [wrap64 (n := b - (l.length : Int)) (by omega) (by omega)]
  have hw : (Ty.sl YVersion).wt l = l.length + (l.map (YVersion).wt).sum := rfl
  rw [hw]; refine szr_str (fun c => ?_)
  exact Q.size (T := YVersion) (q := q_laws_szVersion) (W := W_laws_szVersionS_5) (fun x => w_laws_szVersionS_5 x) l (by omega) (fun x hx c h1 h2 => ⟨_, sz_Version x c (fine_mem hf hx) h1 h2, szr_spec⟩) (b - (l.length : Int)) (by omega) (by omega)
theorem to_Version (x : (YVersion).den) (hx : (YVersion).wt x ≤ 1099511627776) : q_laws_toVersion x = some x := by
  rw [e_laws_toVersion]; rfl
theorem to_VersionS (l : List (YVersion).den) (hx : (Ty.sl YVersion).wt l ≤ 1099511627776) : q_laws_toVersionS l = some l := by
  have hw : (Ty.sl YVersion).wt l = l.length + (l.map (YVersion).wt).sum := rfl
  rw [hw] at hx; rw [e_laws_toVersionS]; unfold X_laws_toVersionS
  have h1 : (decide (0 ≤ (l.length : Int)) && decide ((l.length : Int) ≤ 1099511627776)) = true := by simp; omega
  have h2 : W_laws_toVersionS_3 (l, (List.replicate ((l.length : Int)).toNat (YVersion).zero), (0 : Int)) = some (.inl (l.map fun x => x)) := Q.copy (T := YVersion) (T' := YVersion) (q := q_laws_toVersion) (W := W_laws_toVersionS_3) (fun x => w_laws_toVersionS_3 x) l (by omega) (fun x hm => to_Version x (by have := wt_mem (f := (YVersion).wt) hm; omega)) _
  rw [List.map_id'] at h2
  simp only [h1, cond_true, h2, Option.bind_some]
theorem eq_Version (x : (YVersion).den) (hx : (YVersion).wt x ≤ 1099511627776) : q_laws_eqVersion (x, x) = some true := by
  simp only [Ty.wt] at hx
  rw [e_laws_eqVersion]; unfold X_laws_eqVersion; simp only
  simp only [Option.bind_some, strEq_refl, decide_true, beq_self_eq_true, Bool.not_true, cond_false]
theorem eq_VersionS (l : List (YVersion).den) (hx : (Ty.sl YVersion).wt l ≤ 1099511627776) : q_laws_eqVersionS (l, l) = some true := by
  have hw : (Ty.sl YVersion).wt l = l.length + (l.map (YVersion).wt).sum := rfl
  rw [hw] at hx; rw [e_laws_eqVersionS]; unfold X_laws_eqVersionS; simp only
  have h2 : W_laws_eqVersionS_4 (l, l, (0 : Int)) = some (.inl ()) := Q.same (T := YVersion) (S := Unit) (q := q_laws_eqVersion) (W := W_laws_eqVersionS_4) (fun x => w_laws_eqVersionS_4 x) l (by omega) (fun x hm => eq_Version x (by have := wt_mem (f := (YVersion).wt) hm; omega))
  simp only [decide_true, Bool.not_true, cond_false, h2, Option.bind_some]
theorem sz_Put (x : (YPut).den) (b : Int) (hf : (YPut).fine x) (hb : 0 ≤ b) (hb2 : b ≤ 1048576) : q_laws_szPut (x, b) = some (szr b ((YPut).wt x)) := by
  obtain ⟨hf0, hf1⟩ := hf
  have hs1 : x.2.size ≤ 9223372036854775807 := by have := hf1; simp only [Ty.fine, maxLen] at this; exact this
  have hw : (YPut).wt x = (x.2.size + 0) := by simp only [Ty.wt] <;> omega
  rw [hw, e_laws_szPut]; unfold X_laws_szPut; simp only
  rw [wrap64 (n := b - (x.2.size : Int)) (by omega) (by omega)]
  refine szr_str (fun c1 => ?_)
  rw [szr_ok (by omega)]; simp
theorem sz_PutS (l : List (YPut).den) (b : Int) (hf : (Ty.sl YPut).fine l) (hb : 0 ≤ b) (hb2 : b ≤ 1048576) : q_laws_szPutS (l, b) = some (szr b ((Ty.sl YPut).wt l)) := by
  have hl : l.length ≤ 9223372036854775807 := by have := hf.1; simp only [maxLen] at this; exact this
  rw [e_laws_szPutS]; unfold X_laws_szPutS; simp only
  rw [wrap64 (n := b - (l.length : Int)) (by omega) (by omega)]
  have hw : (Ty.sl YPut).wt l = l.length + (l.map (YPut).wt).sum := rfl
  rw [hw]; refine szr_str (fun c => ?_)
  exact Q.size (T := YPut) (q := q_laws_szPut) (W := W_laws_szPutS_5) (fun x => w_laws_szPutS_5 x) l (by omega) (fun x hx c h1 h2 => ⟨_, sz_Put x c (fine_mem hf hx) h1 h2, szr_spec⟩) (b - (l.length : Int)) (by omega) (by omega)
theorem to_Put (x : (YPut).den) (hx : (YPut).wt x ≤ 1099511627776) : q_laws_toPut x = some x := by
  rw [e_laws_toPut]; rfl
theorem to_PutS (l : List (YPut).den) (hx : (Ty.sl YPut).wt l ≤ 1099511627776) : q_laws_toPutS l = some l := by
  have hw : (Ty.sl YPut).wt l = l.length + (l.map (YPut).wt).sum := rfl
  rw [hw] at hx; rw [e_laws_toPutS]; unfold X_laws_toPutS
  have h1 : (decide (0 ≤ (l.length : Int)) && decide ((l.length : Int) ≤ 1099511627776)) = true := by simp; omega
  have h2 : W_laws_toPutS_3 (l, (List.replicate ((l.length : Int)).toNat (YPut).zero), (0 : Int)) = some (.inl (l.map fun x => x)) := Q.copy (T := YPut) (T' := YPut) (q := q_laws_toPut) (W := W_laws_toPutS_3) (fun x => w_laws_toPutS_3 x) l (by omega) (fun x hm => to_Put x (by have := wt_mem (f := (YPut).wt) hm; omega)) _
  rw [List.map_id'] at h2
  simp only [h1, cond_true, h2, Option.bind_some]
theorem eq_Put (x : (YPut).den) (hx : (YPut).wt x ≤ 1099511627776) : q_laws_eqPut (x, x) = some true := by
  simp only [Ty.wt] at hx
  rw [e_laws_eqPut]; unfold X_laws_eqPut; simp only
  simp only [Option.bind_some, strEq_refl, decide_true, beq_self_eq_true, Bool.not_true, cond_false]
theorem eq_PutS (l : List (YPut).den) (hx : (Ty.sl YPut).wt l ≤ 1099511627776) : q_laws_eqPutS (l, l) = some true := by
  have hw : (Ty.sl YPut).wt l = l.length + (l.map (YPut).wt).sum := rfl
  rw [hw] at hx; rw [e_laws_eqPutS]; unfold X_laws_eqPutS; simp only
  have h2 : W_laws_eqPutS_4 (l, l, (0 : Int)) = some (.inl ()) := Q.same (T := YPut) (S := Unit) (q := q_laws_eqPut) (W := W_laws_eqPutS_4) (fun x => w_laws_eqPutS_4 x) l (by omega) (fun x hm => eq_Put x (by have := wt_mem (f := (YPut).wt) hm; omega))
  simp only [decide_true, Bool.not_true, cond_false, h2, Option.bind_some]
theorem sz_Disk (x : (YDisk).den) (b : Int) (hf : (YDisk).fine x) (hb : 0 ≤ b) (hb2 : b ≤ 1048576) : q_laws_szDisk (x, b) = some (szr b ((YDisk).wt x)) := by
  obtain ⟨hf0, hf1⟩ := hf
  have hw : (YDisk).wt x = ((Ty.sl Ty.str).wt x.1 + ((Ty.sl YPut).wt x.2 + 0)) := by simp only [Ty.wt] <;> omega
  rw [hw, e_laws_szDisk]; unfold X_laws_szDisk; simp only
  refine szr_bind (sz_StringS _ _ hf0 (by omega) (by omega)) (fun c0 => ?_)
  refine szr_bind (sz_PutS _ _ hf1 (by omega) (by omega)) (fun c1 => ?_)
  rw [szr_ok (by omega)]; simp
theorem to_Disk (x : (YDisk).den) (hx : (YDisk).wt x ≤ 1099511627776) : q_laws_toDisk x = some x := by
  simp only [Ty.wt] at hx
  rw [e_laws_toDisk]; unfold X_laws_toDisk
  simp only [to_StringS x.1 (by simp only [Ty.wt]; omega), to_PutS x.2 (by simp only [Ty.wt]; omega), Option.bind_some]
theorem eq_Disk (x : (YDisk).den) (hx : (YDisk).wt x ≤ 1099511627776) : q_laws_eqDisk (x, x) = some true := by
  simp only [Ty.wt] at hx
  rw [e_laws_eqDisk]; unfold X_laws_eqDisk; simp only
  simp only [eq_StringS x.1 (by simp only [Ty.wt]; omega), eq_PutS x.2 (by simp only [Ty.wt]; omega), Option.bind_some, strEq_refl, decide_true, beq_self_eq_true, Bool.not_true, cond_false]
theorem sz_Txn (x : (YTxn).den) (b : Int) (hf : (YTxn).fine x) (hb : 0 ≤ b) (hb2 : b ≤ 1048576) : q_laws_szTxn (x, b) = some (szr b ((YTxn).wt x)) := by
  obtain ⟨hf0, hf1, hf2, hf3, hf4, hf5, hf6, hf7⟩ := hf
  have hs7 : x.2.2.2.2.2.2.2.size ≤ 9223372036854775807 := by have := hf7; simp only [Ty.fine, maxLen] at this; exact this
  have hw : (YTxn).wt x = ((Ty.sl YRange).wt x.2.2.2.2.1 + ((Ty.sl YWrite).wt x.2.2.2.2.2.1 + (x.2.2.2.2.2.2.2.size + 0))) := by simp only [Ty.wt] <;> omega
  rw [hw, e_laws_szTxn]; unfold X_laws_szTxn; simp only
  refine szr_bind (sz_RangeS _ _ hf4 (by omega) (by omega)) (fun c4 => ?_)
  refine szr_bind (sz_WriteS _ _ hf5 (by omega) (by omega)) (fun c5 => ?_)
  rw [wrap64 (n := b - (((Ty.sl YRange).wt x.2.2.2.2.1 : Nat) : Int) - (((Ty.sl YWrite).wt x.2.2.2.2.2.1 : Nat) : Int) - (x.2.2.2.2.2.2.2.size : Int)) (by omega) (by omega)]
  refine szr_str (fun c7 => ?_)
  rw [szr_ok (by omega)]; simp
theorem sz_TxnS (l : List (YTxn).den) (b : Int) (hf : (Ty.sl YTxn).fine l) (hb : 0 ≤ b) (hb2 : b ≤ 1048576) : q_laws_szTxnS (l, b) = some (szr b ((Ty.sl YTxn).wt l)) := by
  have hl : l.length ≤ 9223372036854775807 := by have := hf.1; simp only [maxLen] at this; exact this
  rw [e_laws_szTxnS]; unfold X_laws_szTxnS; simp only
  rw [wrap64 (n := b - (l.length : Int)) (by omega) (by omega)]
  have hw : (Ty.sl YTxn).wt l = l.length + (l.map (YTxn).wt).sum := rfl
  rw [hw]; refine szr_str (fun c => ?_)
  exact Q.size (T := YTxn) (q := q_laws_szTxn) (W := W_laws_szTxnS_5) (fun x => w_laws_szTxnS_5 x) l (by omega) (fun x hx c h1 h2 => ⟨_, sz_Txn x c (fine_mem hf hx) h1 h2, szr_spec⟩) (b - (l.length : Int)) (by omega) (by omega)
theorem to_Txn (x : (YTxn).den) (hx : (YTxn).wt x ≤ 1099511627776) : q_laws_toTxn x = some x := by
  simp only [Ty.wt] at hx
  rw [e_laws_toTxn]; unfold X_laws_toTxn
  simp only [to_RangeS x.2.2.2.2.1 (by simp only [Ty.wt]; omega), to_WriteS x.2.2.2.2.2.1 (by simp only [Ty.wt]; omega), Option.bind_some]
theorem to_TxnS (l : List (YTxn).den) (hx : (Ty.sl YTxn).wt l ≤ 1099511627776) : q_laws_toTxnS l = some l := by
  have hw : (Ty.sl YTxn).wt l = l.length + (l.map (YTxn).wt).sum := rfl
  rw [hw] at hx; rw [e_laws_toTxnS]; unfold X_laws_toTxnS
  have h1 : (decide (0 ≤ (l.length : Int)) && decide ((l.length : Int) ≤ 1099511627776)) = true := by simp; omega
  have h2 : W_laws_toTxnS_3 (l, (List.replicate ((l.length : Int)).toNat (YTxn).zero), (0 : Int)) = some (.inl (l.map fun x => x)) := Q.copy (T := YTxn) (T' := YTxn) (q := q_laws_toTxn) (W := W_laws_toTxnS_3) (fun x => w_laws_toTxnS_3 x) l (by omega) (fun x hm => to_Txn x (by have := wt_mem (f := (YTxn).wt) hm; omega)) _
  rw [List.map_id'] at h2
  simp only [h1, cond_true, h2, Option.bind_some]
theorem eq_Txn (x : (YTxn).den) (hx : (YTxn).wt x ≤ 1099511627776) : q_laws_eqTxn (x, x) = some true := by
  simp only [Ty.wt] at hx
  rw [e_laws_eqTxn]; unfold X_laws_eqTxn; simp only
  simp only [eq_RangeS x.2.2.2.2.1 (by simp only [Ty.wt]; omega), eq_WriteS x.2.2.2.2.2.1 (by simp only [Ty.wt]; omega), Option.bind_some, strEq_refl, decide_true, beq_self_eq_true, Bool.not_true, cond_false]
theorem eq_TxnS (l : List (YTxn).den) (hx : (Ty.sl YTxn).wt l ≤ 1099511627776) : q_laws_eqTxnS (l, l) = some true := by
  have hw : (Ty.sl YTxn).wt l = l.length + (l.map (YTxn).wt).sum := rfl
  rw [hw] at hx; rw [e_laws_eqTxnS]; unfold X_laws_eqTxnS; simp only
  have h2 : W_laws_eqTxnS_4 (l, l, (0 : Int)) = some (.inl ()) := Q.same (T := YTxn) (S := Unit) (q := q_laws_eqTxn) (W := W_laws_eqTxnS_4) (fun x => w_laws_eqTxnS_4 x) l (by omega) (fun x hm => eq_Txn x (by have := wt_mem (f := (YTxn).wt) hm; omega))
  simp only [decide_true, Bool.not_true, cond_false, h2, Option.bind_some]
theorem sz_Base (x : (YBase).den) (b : Int) (hf : (YBase).fine x) (hb : 0 ≤ b) (hb2 : b ≤ 1048576) : q_laws_szBase (x, b) = some (szr b ((YBase).wt x)) := by
  obtain ⟨hf0, hf1, hf2, hf3, hf4⟩ := hf
  have hw : (YBase).wt x = ((Ty.sl YVersion).wt x.1 + ((Ty.sl YTxn).wt x.2.1 + ((Ty.sl YTxn).wt x.2.2.1 + 0))) := by simp only [Ty.wt] <;> omega
  rw [hw, e_laws_szBase]; unfold X_laws_szBase; simp only
  refine szr_bind (sz_VersionS _ _ hf0 (by omega) (by omega)) (fun c0 => ?_)
  refine szr_bind (sz_TxnS _ _ hf1 (by omega) (by omega)) (fun c1 => ?_)
  refine szr_bind (sz_TxnS _ _ hf2 (by omega) (by omega)) (fun c2 => ?_)
  rw [szr_ok (by omega)]; simp
theorem to_Base (x : (YBase).den) (hx : (YBase).wt x ≤ 1099511627776) : q_laws_toBase x = some x := by
  simp only [Ty.wt] at hx
  rw [e_laws_toBase]; unfold X_laws_toBase
  simp only [to_VersionS x.1 (by simp only [Ty.wt]; omega), to_TxnS x.2.1 (by simp only [Ty.wt]; omega), to_TxnS x.2.2.1 (by simp only [Ty.wt]; omega), Option.bind_some]
theorem eq_Base (x : (YBase).den) (hx : (YBase).wt x ≤ 1099511627776) : q_laws_eqBase (x, x) = some true := by
  simp only [Ty.wt] at hx
  rw [e_laws_eqBase]; unfold X_laws_eqBase; simp only
  simp only [eq_VersionS x.1 (by simp only [Ty.wt]; omega), eq_TxnS x.2.1 (by simp only [Ty.wt]; omega), eq_TxnS x.2.2.1 (by simp only [Ty.wt]; omega), Option.bind_some, strEq_refl, decide_true, beq_self_eq_true, Bool.not_true, cond_false]
theorem sz_Engine (x : (YEngine).den) (b : Int) (hf : (YEngine).fine x) (hb : 0 ≤ b) (hb2 : b ≤ 1048576) : q_laws_szEngine (x, b) = some (szr b ((YEngine).wt x)) := by
  obtain ⟨hf0, hf1⟩ := hf
  have hw : (YEngine).wt x = (YBase.wt x.1 + ((Ty.sl YTxn).wt x.2 + 0)) := by simp only [Ty.wt] <;> omega
  rw [hw, e_laws_szEngine]; unfold X_laws_szEngine; simp only
  refine szr_bind (sz_Base _ _ hf0 (by omega) (by omega)) (fun c0 => ?_)
  refine szr_bind (sz_TxnS _ _ hf1 (by omega) (by omega)) (fun c1 => ?_)
  rw [szr_ok (by omega)]; simp
theorem to_Engine (x : (YEngine).den) (hx : (YEngine).wt x ≤ 1099511627776) : q_laws_toEngine x = some x := by
  simp only [Ty.wt] at hx
  rw [e_laws_toEngine]; unfold X_laws_toEngine
  simp only [to_Base x.1 (by simp only [Ty.wt]; omega), to_TxnS x.2 (by simp only [Ty.wt]; omega), Option.bind_some]
theorem eq_Engine (x : (YEngine).den) (hx : (YEngine).wt x ≤ 1099511627776) : q_laws_eqEngine (x, x) = some true := by
  simp only [Ty.wt] at hx
  rw [e_laws_eqEngine]; unfold X_laws_eqEngine; simp only
  simp only [eq_Base x.1 (by simp only [Ty.wt]; omega), eq_TxnS x.2 (by simp only [Ty.wt]; omega), Option.bind_some, strEq_refl, decide_true, beq_self_eq_true, Bool.not_true, cond_false]
theorem sz_Store (x : (YStore).den) (b : Int) (hf : (YStore).fine x) (hb : 0 ≤ b) (hb2 : b ≤ 1048576) : q_laws_szStore (x, b) = some (szr b ((YStore).wt x)) := by
  obtain ⟨hf0, hf1⟩ := hf
  have hw : (YStore).wt x = (YEngine.wt x.1 + (YDisk.wt x.2 + 0)) := by simp only [Ty.wt] <;> omega
  rw [hw, e_laws_szStore]; unfold X_laws_szStore; simp only
  refine szr_bind (sz_Engine _ _ hf0 (by omega) (by omega)) (fun c0 => ?_)
  refine szr_bind (sz_Disk _ _ hf1 (by omega) (by omega)) (fun c1 => ?_)
  rw [szr_ok (by omega)]; simp
theorem to_Store (x : (YStore).den) (hx : (YStore).wt x ≤ 1099511627776) : q_laws_toStore x = some x := by
  simp only [Ty.wt] at hx
  rw [e_laws_toStore]; unfold X_laws_toStore
  simp only [to_Engine x.1 (by simp only [Ty.wt]; omega), to_Disk x.2 (by simp only [Ty.wt]; omega), Option.bind_some]
theorem eq_Store (x : (YStore).den) (hx : (YStore).wt x ≤ 1099511627776) : q_laws_eqStore (x, x) = some true := by
  simp only [Ty.wt] at hx
  rw [e_laws_eqStore]; unfold X_laws_eqStore; simp only
  simp only [eq_Engine x.1 (by simp only [Ty.wt]; omega), eq_Disk x.2 (by simp only [Ty.wt]; omega), Option.bind_some, strEq_refl, decide_true, beq_self_eq_true, Bool.not_true, cond_false]
theorem sz_World (x : (YWorld).den) (b : Int) (hf : (YWorld).fine x) (hb : 0 ≤ b) (hb2 : b ≤ 1048576) : q_laws_szWorld (x, b) = some (szr b ((YWorld).wt x)) := by
  obtain ⟨hf0, hf1, hf2, hf3⟩ := hf
  have hw : (YWorld).wt x = (YStore.wt x.1 + ((Ty.sl YTxn).wt x.2.1 + ((Ty.sl (Ty.int .i64)).wt x.2.2.1 + ((Ty.sl Ty.str).wt x.2.2.2 + 0)))) := by simp only [Ty.wt] <;> omega
  rw [hw, e_laws_szWorld]; unfold X_laws_szWorld; simp only
  refine szr_bind (sz_Store _ _ hf0 (by omega) (by omega)) (fun c0 => ?_)
  refine szr_bind (sz_TxnS _ _ hf1 (by omega) (by omega)) (fun c1 => ?_)
  refine szr_bind (sz_IntS _ _ hf2 (by omega) (by omega)) (fun c2 => ?_)
  refine szr_bind (sz_StringS _ _ hf3 (by omega) (by omega)) (fun c3 => ?_)
  rw [szr_ok (by omega)]; simp
theorem to_World (x : (YWorld).den) (hx : (YWorld).wt x ≤ 1099511627776) : q_laws_toWorld x = some x := by
  simp only [Ty.wt] at hx
  rw [e_laws_toWorld]; unfold X_laws_toWorld
  simp only [to_Store x.1 (by simp only [Ty.wt]; omega), to_TxnS x.2.1 (by simp only [Ty.wt]; omega), to_IntS x.2.2.1 (by simp only [Ty.wt]; omega), to_StringS x.2.2.2 (by simp only [Ty.wt]; omega), Option.bind_some]
theorem eq_World (x : (YWorld).den) (hx : (YWorld).wt x ≤ 1099511627776) : q_laws_eqWorld (x, x) = some true := by
  simp only [Ty.wt] at hx
  rw [e_laws_eqWorld]; unfold X_laws_eqWorld; simp only
  simp only [eq_Store x.1 (by simp only [Ty.wt]; omega), eq_TxnS x.2.1 (by simp only [Ty.wt]; omega), eq_IntS x.2.2.1 (by simp only [Ty.wt]; omega), eq_StringS x.2.2.2 (by simp only [Ty.wt]; omega), Option.bind_some, strEq_refl, decide_true, beq_self_eq_true, Bool.not_true, cond_false]
end Go.Proofs.YthhpkgegmfjdmaaGreat.Ab
