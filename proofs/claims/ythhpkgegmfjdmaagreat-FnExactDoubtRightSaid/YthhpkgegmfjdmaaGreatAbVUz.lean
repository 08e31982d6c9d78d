import Derived.Test.YthhpkgegmfjdmaaGreatAbVC
namespace Go.Proofs.YthhpkgegmfjdmaaGreat.Ab
open Go
set_option linter.unusedVariables false
set_option linter.unusedSimpArgs false
set_option linter.unnecessarySimpa false
set_option linter.unusedSimpArgs false
set_option linter.unusedVariables false

/-! ### Putting versions -/
theorem tw_facts {E : Type} (p : E → Bool) : ∀ (l : List E), (l.takeWhile p).length ≤ l.length ∧ (∀ (i : Nat) (h : i < l.length), i < (l.takeWhile p).length → p l[i] = true) ∧
    (∀ (h : (l.takeWhile p).length < l.length), p l[(l.takeWhile p).length] = false) ∧ l.takeWhile p = l.take (l.takeWhile p).length ∧ l.dropWhile p = l.drop (l.takeWhile p).length
  | [] => ⟨Nat.le_refl _, fun i h => absurd h (Nat.not_lt_zero i), fun h => absurd h (Nat.not_lt_zero _), rfl, rfl⟩
  | x :: l => by
    obtain ⟨h1, h2, h3, h4, h5⟩ := tw_facts p l
    cases hp : p x with
    | false =>
      simp only [List.takeWhile_cons, hp, List.dropWhile_cons, Bool.false_eq_true, if_false, List.length_nil]
      exact ⟨Nat.zero_le _, fun i _ h => absurd h (Nat.not_lt_zero i), fun _ => hp, rfl, rfl⟩
    | true =>
      simp only [List.takeWhile_cons, hp, List.dropWhile_cons, if_true, List.length_cons]
      refine ⟨by omega, fun i h k => ?_, fun h => ?_, ?_, ?_⟩
      · cases i with
        | zero => exact hp
        | succ i => simpa using h2 i (by simpa using h) (by omega)
      · simpa using h3 (by omega)
      · rw [List.take_succ_cons, ← h4]
      · rw [List.drop_succ_cons, ← h5]

/-- A loop that takes as long as it may. -/
theorem W_take {X R E : Type} (W : X → Option R) (l : List E) (mk : List E → Int → X) (p : E → Bool) (fin : List E → Int → R)
    (hend : W (mk l (l.length : Int)) = some (fin l (l.length : Int)))
    (hstep : ∀ (i : Nat) (h : i < l.length), W (mk (l.take i) (i : Int)) = bif p l[i] then W (mk (l.take (i + 1)) ((i + 1 : Nat) : Int)) else some (fin (l.take i) (i : Int))) :
    W (mk [] 0) = some (fin (l.takeWhile p) ((l.takeWhile p).length : Int)) := by
  obtain ⟨h1, h2, h3, h4, _⟩ := tw_facts p l
  have := W_nat W (l.takeWhile p).length (fun (a : List E) i => mk a i) (fun _ _ => fin (l.takeWhile p) ((l.takeWhile p).length : Int)) (fun i a => a = l.take i)
    (fun a ha => by
      rw [ha]
      by_cases hk : (l.takeWhile p).length < l.length
      · rw [hstep _ hk, h3 hk, cond_false, ← h4]
      · have e : (l.takeWhile p).length = l.length := by omega
        have e2 : l.takeWhile p = l := by rw [h4, e]; exact List.take_length
        rw [e2, List.take_length]
        exact hend)
    (fun i a hi ha => .inr ⟨_, rfl, rfl, by rw [ha, hstep i (by omega), h2 i (by omega) hi, cond_true]⟩) 0 [] (Nat.zero_le _) (by simp)
  exact this

/-- A loop that looks for the first that does not pass. -/
theorem W_first {X R E : Type} (W : X → Option R) (l : List E) (mk : Int → X) (p : E → Bool) (yes : Int → R) (no : R)
    (hend : W (mk (l.length : Int)) = some no)
    (hstep : ∀ (i : Nat) (h : i < l.length), W (mk (i : Int)) = bif p l[i] then W (mk ((i + 1 : Nat) : Int)) else some (yes (i : Int))) :
    W (mk 0) = some (if (l.takeWhile p).length < l.length then yes ((l.takeWhile p).length : Int) else no) := by
  obtain ⟨h1, h2, h3, _, _⟩ := tw_facts p l
  have := W_nat W (l.takeWhile p).length (fun (_ : Unit) i => mk i) (fun _ _ => if (l.takeWhile p).length < l.length then yes ((l.takeWhile p).length : Int) else no) (fun _ _ => True)
    (fun a _ => by
      by_cases hk : (l.takeWhile p).length < l.length
      · rw [hstep _ hk, h3 hk, cond_false, if_pos hk]
      · have e : (l.takeWhile p).length = l.length := by omega
        rw [if_neg hk, e]
        exact hend)
    (fun i a hi _ => .inr ⟨(), trivial, rfl, by rw [hstep i (by omega), h2 i (by omega) hi, cond_true]⟩) 0 () (Nat.zero_le _) trivial
  exact this

def verLe (v y : VerT) : Bool := strLt y.1 v.1 || (strEq y.1 v.1 && decide (y.2.2.2 ≤ v.2.2.2))
def putV (l : List VerT) (v : VerT) : List VerT := l.takeWhile (verLe v) ++ [v] ++ l.dropWhile (verLe v)
def putVs (l : List VerT) (ws : List YWrite.den) (cs : Int) : List VerT := ws.foldl (fun l w => putV l (w.1, w.2.1, w.2.2, cs)) l

theorem putV_len (l : List VerT) (v : VerT) : (putV l v).length = l.length + 1 := by
  have : l.length = (l.takeWhile (verLe v)).length + (l.dropWhile (verLe v)).length := by rw [← List.length_append, List.takeWhile_append_dropWhile]
  simp [putV]
  omega
theorem putVs_len : ∀ (ws : List YWrite.den) (l : List VerT) (cs : Int), (putVs l ws cs).length = l.length + ws.length
  | [], l, cs => rfl
  | w :: ws, l, cs => by
    have := putVs_len ws (putV l (w.1, w.2.1, w.2.2, cs)) cs
    unfold putVs at this ⊢
    rw [List.foldl_cons, this, putV_len]
    simp
    omega

theorem putV_eq (l : List VerT) (v : VerT) : putV l v = l.take (l.takeWhile (verLe v)).length ++ [v] ++ l.drop (l.takeWhile (verLe v)).length := by
  obtain ⟨_, _, _, h4, h5⟩ := tw_facts (verLe v) l
  unfold putV
  rw [← h4, ← h5]

theorem Cmp_string (a b : ByteArray) : q_cmp_Compare_string (a, b) = some (if strLt a b then -1 else if strEq a b then 0 else 1) := by
  have ns : ∀ x, q_cmp_isNaN_string x = some false := fun x => by
    rw [e_cmp_isNaN_string]; unfold X_cmp_isNaN_string
    have : strEq x x = true := by simp [strEq]
    rw [this]; rfl
  rw [e_cmp_Compare_string]; unfold X_cmp_Compare_string
  simp only [ns, Option.bind_some, cond_false]
  cases strLt a b <;> cases strEq a b <;> rfl

theorem Cmp_int (a b : Int) : q_cmp_Compare_int (a, b) = some (if a < b then -1 else if a > b then 1 else 0) := by
  have ns : ∀ x, q_cmp_isNaN_int x = some false := fun x => by
    rw [e_cmp_isNaN_int]; unfold X_cmp_isNaN_int
    simp
  rw [e_cmp_Compare_int]; unfold X_cmp_Compare_int
  simp only [ns, Option.bind_some, cond_false]
  by_cases h : a < b
  · simp [h]
  · by_cases h2 : a > b <;> simp [h, h2]

theorem Cmp_ver (y v : VerT) : q_impl_PutVersions_1 (y, v) = some (!verLe v y) := by
  rw [e_impl_PutVersions_1]; unfold X_impl_PutVersions_1
  rw [e_impl_compareVersion]; unfold X_impl_compareVersion
  simp only [Cmp_string, Option.bind_some]
  unfold verLe
  cases h1 : strLt y.1 v.1 with
  | true => simp
  | false =>
    cases h2 : strEq y.1 v.1 with
    | false => simp
    | true =>
      simp only [Bool.false_eq_true, if_false, if_true, decide_true, Bool.not_true, cond_false, Cmp_int, Option.bind_some, Bool.false_or, Bool.true_and]
      by_cases h3 : y.2.2.2 < v.2.2.2
      · have : y.2.2.2 ≤ v.2.2.2 := by omega
        simp [h3, this]
      · by_cases h4 : y.2.2.2 > v.2.2.2
        · have : ¬ y.2.2.2 ≤ v.2.2.2 := by omega
          simp [h3, h4, this]
        · have : y.2.2.2 ≤ v.2.2.2 := by omega
          simp [h3, h4, this]

theorem Index_ver (l : List VerT) (v : VerT) (hl : l.length ≤ 1099511627775) : q_slices_IndexFunc_impl_Version_impl_PutVersions_1 (l, v) = some (if (l.takeWhile (verLe v)).length < l.length then ((l.takeWhile (verLe v)).length : Int) else -1) := by
  have L := W_first W_slices_IndexFunc_impl_Version_impl_PutVersions_1_2 l (fun i => (l, v, (l.length : Int), i)) (verLe v) (fun i => .inr i) (.inl ())
    (by rw [w_slices_IndexFunc_impl_Version_impl_PutVersions_1_2]; simp only [S_slices_IndexFunc_impl_Version_impl_PutVersions_1_2, lt_cast, Nat.lt_irrefl, decide_false, cond_false])
    (fun i hi => by
      rw [w_slices_IndexFunc_impl_Version_impl_PutVersions_1_2]
      simp only [S_slices_IndexFunc_impl_Version_impl_PutVersions_1_2, lt_cast, hi, decide_true, cond_true, gIdx_nat hi, Int.toNat_natCast, rdL_get (t := YVersion) hi, Cmp_ver, Option.bind_some]
      rw [wrap_succ (by omega)]
      cases verLe v l[i] <;> rfl)
  rw [e_slices_IndexFunc_impl_Version_impl_PutVersions_1]; unfold X_slices_IndexFunc_impl_Version_impl_PutVersions_1
  simp only [L, Option.bind_some]
  by_cases h : (l.takeWhile (verLe v)).length < l.length
  · simp only [if_pos h]
  · simp only [if_neg h]

theorem Insert_ver (l : List VerT) (v : VerT) (k : Nat) (hk : k ≤ l.length) (hl : l.length ≤ 1099511627775) : q_slices_Insert_impl_Version (l, (k : Int), [v]) = some (l.take k ++ [v] ++ l.drop k) := by
  rw [e_slices_Insert_impl_Version]
  unfold pInsert
  have h1 : decide ((0 : Int) ≤ (k : Int)) = true := by simp
  have h2 : decide ((k : Int) ≤ (l.length : Int)) = true := by simpa using hk
  simp only [h1, h2, ble_cap (show l.length + 1 ≤ 1099511627776 by omega), Bool.true_and, List.length_singleton, Int.toNat_natCast]
  rfl

theorem PutVersions_impl (l : List VerT) (ws : List YWrite.den) (cs : Int) (hl : l.length + ws.length ≤ 1000000000000) : q_impl_PutVersions (l, ws, cs) = some (putVs l ws cs) := by
  have L := W_fold W_impl_PutVersions_3 ws (fun a i => (cs, a, ws, (ws.length : Int), i)) (fun l w => putV l (w.1, w.2.1, w.2.2, cs)) (fun a => .inl a) (fun i a => a.length = l.length + i)
    (fun a _ => by rw [w_impl_PutVersions_3]; simp only [S_impl_PutVersions_3, lt_cast, Nat.lt_irrefl, decide_false, cond_false])
    (fun i hi a ha => by
      have hal : a.length ≤ 1099511627775 := by omega
      rw [w_impl_PutVersions_3]
      simp only [S_impl_PutVersions_3, lt_cast, hi, decide_true, cond_true, gIdx_nat hi, Int.toNat_natCast, rdL_get (t := YWrite) hi, Index_ver a _ hal, Option.bind_some]
      refine ⟨by rw [putV_len]; omega, ?_⟩
      obtain ⟨t1, _⟩ := tw_facts (verLe (ws[i].1, ws[i].2.1, ws[i].2.2, cs)) a
      rw [putV_eq, wrap_succ (by omega)]
      by_cases hk : (a.takeWhile (verLe (ws[i].1, ws[i].2.1, ws[i].2.2, cs))).length < a.length
      · rw [if_pos hk]
        have : decide (((a.takeWhile (verLe (ws[i].1, ws[i].2.1, ws[i].2.2, cs))).length : Int) < 0) = false := by simp
        simp only [this, cond_false, Insert_ver a _ _ t1 hal, Option.bind_some]
      · rw [if_neg hk]
        have e : (a.takeWhile (verLe (ws[i].1, ws[i].2.1, ws[i].2.2, cs))).length = a.length := by omega
        have : decide ((-1 : Int) < 0) = true := by decide
        simp only [this, cond_true, Insert_ver a _ _ (Nat.le_refl _) hal, Option.bind_some]
        rw [e]) l (by simp)
  rw [e_impl_PutVersions]; unfold X_impl_PutVersions
  simp only [ble_cap (show l.length ≤ 1099511627776 by omega), cond_true, L, Option.bind_some]
  rfl

theorem Put_spec (ws : List YWrite.den) (cs : Int) (l : List VerT) (j : Int) (v : VerT) (hl : l.length ≤ 1000000000000) :
    W_spec_PutVersions_8 (ws, cs, l, j, v, [], 0) = some (.inl (ws, cs, l, j, v, l.takeWhile (verLe v), ((l.takeWhile (verLe v)).length : Int))) :=
  W_take W_spec_PutVersions_8 l (fun a i => (ws, cs, l, j, v, a, i)) (verLe v) (fun a i => .inl (ws, cs, l, j, v, a, i))
    (by rw [w_spec_PutVersions_8]; simp only [S_spec_PutVersions_8, lt_cast, Nat.lt_irrefl, decide_false, cond_false, Option.bind_some])
    (fun i hi => by
      rw [w_spec_PutVersions_8]
      have hb : ((l.take i).length + [l[i]].length) ≤ 1099511627776 := by simp; omega
      simp only [S_spec_PutVersions_8, lt_cast, hi, decide_true, cond_true, gIdx_nat hi, Int.toNat_natCast, rdL_get (t := YVersion) hi, ble_cap hb]
      rw [wrap_succ (by omega), List.take_succ_eq_append_getElem hi]
      unfold verLe
      cases h1 : strLt l[i].1 v.1 with
      | true => simp
      | false =>
        cases h2 : strEq l[i].1 v.1 with
        | false => simp
        | true =>
          by_cases h3 : l[i].2.2.2 ≤ v.2.2.2 <;> simp [h3])

theorem PutVersions_spec (l : List VerT) (ws : List YWrite.den) (cs : Int) (hl : l.length + ws.length ≤ 1000000000000) : q_spec_PutVersions (l, ws, cs) = some (putVs l ws cs) := by
  have L := W_fold W_spec_PutVersions_3 ws (fun a i => (ws, cs, a, i)) (fun l w => putV l (w.1, w.2.1, w.2.2, cs)) (fun a => .inl a) (fun i a => a.length = l.length + i)
    (fun a _ => by rw [w_spec_PutVersions_3]; simp only [S_spec_PutVersions_3, lt_cast, Nat.lt_irrefl, decide_false, cond_false])
    (fun i hi a ha => by
      have hal : a.length ≤ 1000000000000 := by omega
      rw [w_spec_PutVersions_3]
      simp only [S_spec_PutVersions_3, lt_cast, hi, decide_true, cond_true, gIdx_nat hi, Int.toNat_natCast, rdL_get (t := YWrite) hi, Put_spec ws cs a _ _ hal, Option.bind_some]
      obtain ⟨v, hv⟩ : ∃ v : VerT, v = (ws[i].1, ws[i].2.1, ws[i].2.2, cs) := ⟨_, rfl⟩
      rw [← hv]
      obtain ⟨t1, _, _, t4, t5⟩ := tw_facts (verLe v) a
      refine ⟨by rw [putV_len]; omega, ?_⟩
      have g1 : decide ((0 : Int) ≤ ((a.takeWhile (verLe v)).length : Int)) = true := by simp
      have g2 : decide (((a.takeWhile (verLe v)).length : Int) ≤ (a.length : Int)) = true := by simpa using t1
      have g3 : decide ((a.length : Int) ≤ (a.length : Int)) = true := by simp
      have b1 : (a.takeWhile (verLe v)).length + [v].length ≤ 1099511627776 := by simp; omega
      have b2 : (a.takeWhile (verLe v) ++ [v]).length + (a.drop (a.takeWhile (verLe v)).length).length ≤ 1099511627776 := by simp; omega
      simp only [g1, g2, g3, Bool.true_and, ble_cap b1, cond_true, List.take_length, ble_cap b2]
      rw [wrap_succ (by omega), ← t5]
      rfl) l (by simp)
  rw [e_spec_PutVersions]; unfold X_spec_PutVersions
  simp only [List.length_nil, Nat.zero_add, List.nil_append, ble_cap (show l.length ≤ 1099511627776 by omega), cond_true, L, Option.bind_some]
  rfl

end Go.Proofs.YthhpkgegmfjdmaaGreat.Ab
