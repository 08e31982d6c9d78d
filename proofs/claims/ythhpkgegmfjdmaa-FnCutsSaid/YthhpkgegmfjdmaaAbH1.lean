import Derived.Test.YthhpkgegmfjdmaaAbG1
import Derived.Test.YthhpkgegmfjdmaaAbQ1
namespace Go.Proofs.Ythhpkgegmfjdmaa.Ab
open Go
set_option linter.unusedVariables false
set_option linter.unusedSimpArgs false
set_option linter.unnecessarySimpa false
set_option linter.unusedSimpArgs false
set_option linter.unusedVariables false

theorem to_IntS (l : List ((Ty.int .i64)).den) (hx : (Ty.sl (Ty.int .i64)).wt l ≤ 1099511627776) : q_laws_toIntS l = some l := by
  have hw : (Ty.sl (Ty.int .i64)).wt l = l.length + (l.map ((Ty.int .i64)).wt).sum := rfl
  rw [hw] at hx; rw [e_laws_toIntS]; unfold X_laws_toIntS
  have h1 : (decide (0 ≤ (l.length : Int)) && decide ((l.length : Int) ≤ 1099511627776)) = true := by simp; omega
  have h2 : W_laws_toIntS_3 (l, (List.replicate ((l.length : Int)).toNat ((Ty.int .i64)).zero), (0 : Int)) = some (.inl l) := Q.copy0 (T := (Ty.int .i64)) (W := W_laws_toIntS_3) (fun x => w_laws_toIntS_3 x) l (by omega) _
  simp only [h1, cond_true, h2, Option.bind_some]
theorem eq_IntS (l : List ((Ty.int .i64)).den) (hx : (Ty.sl (Ty.int .i64)).wt l ≤ 1099511627776) : q_laws_eqIntS (l, l) = some true := by
  have hw : (Ty.sl (Ty.int .i64)).wt l = l.length + (l.map ((Ty.int .i64)).wt).sum := rfl
  rw [hw] at hx; rw [e_laws_eqIntS]; unfold X_laws_eqIntS; simp only
  have h2 : W_laws_eqIntS_4 (l, l, (0 : Int)) = some (.inl ()) := Q.same (T := (Ty.int .i64)) (S := Unit) (q := fun x => some (decide (x.1 = x.2))) (W := W_laws_eqIntS_4) (fun x => w_laws_eqIntS_4 x) l (by omega) (fun x _ => by simp [strEq_refl])
  simp only [decide_true, Bool.not_true, cond_false, h2, Option.bind_some]
theorem sz_StringS (l : List (Ty.str).den) (b : Int) (hf : (Ty.sl Ty.str).fine l) (hb : 0 ≤ b) (hb2 : b ≤ 1048576) : q_laws_szStringS (l, b) = some (szr b ((Ty.sl Ty.str).wt l)) := by
  have hl : l.length ≤ 9223372036854775807 := by have := hf.1; simp only [maxLen] at this; exact this
  rw [e_laws_szStringS]; unfold X_laws_szStringS; simp only
  rw [wrap64 (n := b - (l.length : Int)) (by omega) (by omega)]
  have hw : (Ty.sl Ty.str).wt l = l.length + (l.map (Ty.str).wt).sum := rfl
  rw [hw]; refine szr_str (fun c => ?_)
  exact Q.size (T := Ty.str) (q := (fun x => some (IntKind.i64.wrap (x.2 - (x.1.size : Int))))) (W := W_laws_szStringS_5) (fun x => w_laws_szStringS_5 x) l (by omega) (fun x hx c h1 h2 => ⟨_, rfl, by have := fine_mem hf hx; simp only [Ty.fine, maxLen] at this; simp only [Ty.wt]; rw [wrap64 (by omega) (by omega)]; by_cases hc : ((ByteArray.size x : Nat) : Int) ≤ c <;> simp only [hc, if_true, if_false] <;> omega⟩) (b - (l.length : Int)) (by omega) (by omega)
theorem to_StringS (l : List (Ty.str).den) (hx : (Ty.sl Ty.str).wt l ≤ 1099511627776) : q_laws_toStringS l = some l := by
  have hw : (Ty.sl Ty.str).wt l = l.length + (l.map (Ty.str).wt).sum := rfl
  rw [hw] at hx; rw [e_laws_toStringS]; unfold X_laws_toStringS
  have h1 : (decide (0 ≤ (l.length : Int)) && decide ((l.length : Int) ≤ 1099511627776)) = true := by simp; omega
  have h2 : W_laws_toStringS_3 (l, (List.replicate ((l.length : Int)).toNat (Ty.str).zero), (0 : Int)) = some (.inl l) := Q.copy0 (T := Ty.str) (W := W_laws_toStringS_3) (fun x => w_laws_toStringS_3 x) l (by omega) _
  simp only [h1, cond_true, h2, Option.bind_some]
theorem eq_StringS (l : List (Ty.str).den) (hx : (Ty.sl Ty.str).wt l ≤ 1099511627776) : q_laws_eqStringS (l, l) = some true := by
  have hw : (Ty.sl Ty.str).wt l = l.length + (l.map (Ty.str).wt).sum := rfl
  rw [hw] at hx; rw [e_laws_eqStringS]; unfold X_laws_eqStringS; simp only
  have h2 : W_laws_eqStringS_4 (l, l, (0 : Int)) = some (.inl ()) := Q.same (T := Ty.str) (S := Unit) (q := fun x => some (strEq x.1 x.2)) (W := W_laws_eqStringS_4) (fun x => w_laws_eqStringS_4 x) l (by omega) (fun x _ => by simp [strEq_refl])
  simp only [decide_true, Bool.not_true, cond_false, h2, Option.bind_some]
theorem sz_Put (x : (YPut).den) (b : Int) (hf : (YPut).fine x) (hb : 0 ≤ b) (hb2 : b ≤ 1048576) : q_laws_szPut (x, b) = some (szr b ((YPut).wt x)) := by
  obtain ⟨hf0, hf1⟩ := hf
  have hs1 : x.2.size ≤ 9223372036854775807 := by have := hf1; simp only [Ty.fine, maxLen] at this; exact this
  have hw : (YPut).wt x = (x.2.size + 0) := by simp only [Ty.wt] <;> omega
  rw [hw, e_laws_szPut]; unfold X_laws_szPut; simp only
  rw [wrap64 (n := b - (x.2.size : Int)) (by omega) (by omega)]
  refine szr_str (fun c1 => ?_)
  rw [szr_ok (by omega)]; simp
theorem sz_PutS (l : List (YPut).den) (b : Int) (hf : (Ty.sl YPut).fine l) (hb : 0 ≤ b) (hb2 : b ≤ 1048576) : q_laws_szPutS (l, b) = some (szr b ((Ty.sl YPut).wt l)) := by
  have hl : l.length ≤ 9223372036854775807 := by have := hf.1; simp only [maxLen] at this; exact this
  rw [e_laws_szPutS]; unfold X_laws_szPutS; simp only
  rw [wrap64 (n := b - (l.length : Int)) (by omega) (by omega)]
  have hw : (Ty.sl YPut).wt l = l.length + (l.map (YPut).wt).sum := rfl
  rw [hw]; refine szr_str (fun c => ?_)
  exact Q.size (T := YPut) (q := q_laws_szPut) (W := W_laws_szPutS_5) (fun x => w_laws_szPutS_5 x) l (by omega) (fun x hx c h1 h2 => ⟨_, sz_Put x c (fine_mem hf hx) h1 h2, szr_spec⟩) (b - (l.length : Int)) (by omega) (by omega)
theorem to_Put (x : (YPut).den) (hx : (YPut).wt x ≤ 1099511627776) : q_laws_toPut x = some x := by
  rw [e_laws_toPut]; rfl
theorem to_PutS (l : List (YPut).den) (hx : (Ty.sl YPut).wt l ≤ 1099511627776) : q_laws_toPutS l = some l := by
  have hw : (Ty.sl YPut).wt l = l.length + (l.map (YPut).wt).sum := rfl
  rw [hw] at hx; rw [e_laws_toPutS]; unfold X_laws_toPutS
  have h1 : (decide (0 ≤ (l.length : Int)) && decide ((l.length : Int) ≤ 1099511627776)) = true := by simp; omega
  have h2 : W_laws_toPutS_3 (l, (List.replicate ((l.length : Int)).toNat (YPut).zero), (0 : Int)) = some (.inl (l.map fun x => x)) := Q.copy (T := YPut) (T' := YPut) (q := q_laws_toPut) (W := W_laws_toPutS_3) (fun x => w_laws_toPutS_3 x) l (by omega) (fun x hm => to_Put x (by have := wt_mem (f := (YPut).wt) hm; omega)) _
  rw [List.map_id'] at h2
  simp only [h1, cond_true, h2, Option.bind_some]
theorem eq_Put (x : (YPut).den) (hx : (YPut).wt x ≤ 1099511627776) : q_laws_eqPut (x, x) = some true := by
  simp only [Ty.wt] at hx
  rw [e_laws_eqPut]; unfold X_laws_eqPut; simp only
  simp only [Option.bind_some, strEq_refl, decide_true, beq_self_eq_true, Bool.not_true, cond_false]
theorem eq_PutS (l : List (YPut).den) (hx : (Ty.sl YPut).wt l ≤ 1099511627776) : q_laws_eqPutS (l, l) = some true := by
  have hw : (Ty.sl YPut).wt l = l.length + (l.map (YPut).wt).sum := rfl
  rw [hw] at hx; rw [e_laws_eqPutS]; unfold X_laws_eqPutS; simp only
  have h2 : W_laws_eqPutS_4 (l, l, (0 : Int)) = some (.inl ()) := Q.same (T := YPut) (S := Unit) (q := q_laws_eqPut) (W := W_laws_eqPutS_4) (fun x => w_laws_eqPutS_4 x) l (by omega) (fun x hm => eq_Put x (by have := wt_mem (f := (YPut).wt) hm; omega))
  simp only [decide_true, Bool.not_true, cond_false, h2, Option.bind_some]
theorem sz_Disk (x : (YDisk).den) (b : Int) (hf : (YDisk).fine x) (hb : 0 ≤ b) (hb2 : b ≤ 1048576) : q_laws_szDisk (x, b) = some (szr b ((YDisk).wt x)) := by
  obtain ⟨hf0, hf1⟩ := hf
  have hw : (YDisk).wt x = ((Ty.sl Ty.str).wt x.1 + ((Ty.sl YPut).wt x.2 + 0)) := by simp only [Ty.wt] <;> omega
  rw [hw, e_laws_szDisk]; unfold X_laws_szDisk; simp only
  refine szr_bind (sz_StringS _ _ hf0 (by omega) (by omega)) (fun c0 => ?_)
  refine szr_bind (sz_PutS _ _ hf1 (by omega) (by omega)) (fun c1 => ?_)
  rw [szr_ok (by omega)]; simp
theorem to_Disk (x : (YDisk).den) (hx : (YDisk).wt x ≤ 1099511627776) : q_laws_toDisk x = some x := by
  simp only [Ty.wt] at hx
  rw [e_laws_toDisk]; unfold X_laws_toDisk
  simp only [to_StringS x.1 (by simp only [Ty.wt]; omega), to_PutS x.2 (by simp only [Ty.wt]; omega), Option.bind_some]
theorem eq_Disk (x : (YDisk).den) (hx : (YDisk).wt x ≤ 1099511627776) : q_laws_eqDisk (x, x) = some true := by
  simp only [Ty.wt] at hx
  rw [e_laws_eqDisk]; unfold X_laws_eqDisk; simp only
  simp only [eq_StringS x.1 (by simp only [Ty.wt]; omega), eq_PutS x.2 (by simp only [Ty.wt]; omega), Option.bind_some, strEq_refl, decide_true, beq_self_eq_true, Bool.not_true, cond_false]
end Go.Proofs.Ythhpkgegmfjdmaa.Ab
