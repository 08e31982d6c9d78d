import Derived.Test.YthhpkgegmfjdmaaGreatAbVG
namespace Go.Proofs.YthhpkgegmfjdmaaGreat.Ab
open Go
set_option linter.unusedVariables false
set_option linter.unusedSimpArgs false
set_option linter.unnecessarySimpa false
set_option linter.unusedSimpArgs false
set_option linter.unusedVariables false

theorem cntK_fold (k : ByteArray) : ∀ (l : List VerT) (a : Nat), l.foldl (fun (a : Nat) v => if strEq v.1 k = true then a + 1 else a) a = a + cntK l k
  | [], a => by simp [cntK]
  | x :: l, a => by
    rw [List.foldl_cons, cntK_fold k l]
    unfold cntK
    cases hc : strEq x.1 k with
    | true => simp [List.filter_cons, hc]; omega
    | false => simp [List.filter_cons, hc]

theorem trimN_spec (s out : List VerT) (snap : Int) (i : Nat) (hi : i < s.length) (hl : s.length ≤ 8388608) :
    W_spec_Trimmed_14 (snap, s, out, (i : Int), 0, 0) = some (.inl (snap, s, out, (i : Int), (cntK s s[i].1 : Int))) := by
  have L := W_fold W_spec_Trimmed_14 s (fun (a : Nat) j => (snap, s, out, (i : Int), (a : Int), j)) (fun (a : Nat) v => if strEq v.1 s[i].1 = true then a + 1 else a) (fun a => .inl (snap, s, out, (i : Int), (a : Int))) (fun j a => a ≤ j)
    (fun a _ => by rw [w_spec_Trimmed_14]; simp only [S_spec_Trimmed_14, lt_cast, Nat.lt_irrefl, decide_false, cond_false])
    (fun j hj a ha => by
      rw [w_spec_Trimmed_14]
      simp only [S_spec_Trimmed_14, lt_cast, hj, decide_true, cond_true, gIdx_nat hj, gIdx_nat hi, Int.toNat_natCast, rdL_get (t := YVersion) hj, rdL_get (t := YVersion) hi]
      rw [wrap_succ (i := j) (by omega), wrap_succ (i := a) (by omega)]
      cases strEq s[j].1 s[i].1 with
      | true => simp only [cond_true, if_true]; exact ⟨by omega, trivial⟩
      | false => simp only [cond_false, Bool.false_eq_true, if_false]; exact ⟨by omega, trivial⟩) 0 (Nat.zero_le _)
  rw [cntK_fold, Nat.zero_add] at L
  exact L

theorem trimN_impl (s : List VerT) (k : ByteArray) (hl : s.length ≤ 8388608) : q_impl_Trimmed_1 (k, s) = some (cntK s k : Int) := by
  have L := W_fold W_impl_Trimmed_1_3 s (fun (a : Nat) j => (k, (a : Int), s, (s.length : Int), j)) (fun (a : Nat) v => if strEq v.1 k = true then a + 1 else a) (fun a => .inl (a : Int)) (fun j a => a ≤ j)
    (fun a _ => by rw [w_impl_Trimmed_1_3]; simp only [S_impl_Trimmed_1_3, lt_cast, Nat.lt_irrefl, decide_false, cond_false])
    (fun j hj a ha => by
      rw [w_impl_Trimmed_1_3]
      simp only [S_impl_Trimmed_1_3, lt_cast, hj, decide_true, cond_true, gIdx_nat hj, Int.toNat_natCast, rdL_get (t := YVersion) hj]
      rw [wrap_succ (i := j) (by omega), wrap_succ (i := a) (by omega)]
      cases strEq s[j].1 k with
      | true => simp only [cond_true, if_true]; exact ⟨by omega, trivial⟩
      | false => simp only [cond_false, Bool.false_eq_true, if_false]; exact ⟨by omega, trivial⟩) 0 (Nat.zero_le _)
  rw [cntK_fold, Nat.zero_add] at L
  have L : W_impl_Trimmed_1_3 (k, 0, s, (s.length : Int), 0) = _ := L
  rw [e_impl_Trimmed_1]; unfold X_impl_Trimmed_1
  simp only [L, Option.bind_some]

theorem Trimmed_spec (l : List VerT) (snap : Int) (hl : l.length ≤ 8388608) : q_spec_Trimmed (l, snap) = some (trimmed l snap) := by
  have hs : (trA l snap l.length).length ≤ 8388608 := Nat.le_trans (trA_len _ _ _) hl
  obtain ⟨s, hse⟩ : ∃ s, s = trA l snap l.length := ⟨_, rfl⟩
  rw [← hse] at hs
  have L := W_pick W_spec_Trimmed_10 s (fun a i => (snap, s, a, i)) (keepB s snap) (fun v => v) (fun a => .inl a) (by omega)
    (fun a _ => by rw [w_spec_Trimmed_10]; simp only [S_spec_Trimmed_10, lt_cast, Nat.lt_irrefl, decide_false, cond_false])
    (fun i hi a ha => by
      rw [w_spec_Trimmed_10]
      simp only [S_spec_Trimmed_10, lt_cast, hi, decide_true, cond_true, trimN_spec s a snap i hi hs, Option.bind_some, gIdx_nat hi, Int.toNat_natCast, rdL_get (t := YVersion) hi, List.length_singleton, ble_cap (show a.length + 1 ≤ 1099511627776 by omega)]
      rw [wrap_succ (by omega)]
      unfold keepB
      cases h1 : s[i].2.2.1 with
      | false => simp
      | true =>
        by_cases h2 : s[i].2.2.2 > snap
        · simp [h2]
        · by_cases h3 : (cntK s s[i].1 : Int) > 1 <;> simp [h2, h3])
  rw [List.map_id'] at L
  have hA := trimA_spec l snap hl
  rw [← hse] at hA
  rw [e_spec_Trimmed]; unfold X_spec_Trimmed trimmed
  rw [← hse]
  simp only [hA, L, Option.bind_some]

theorem Trimmed_impl (l : List VerT) (snap : Int) (hl : l.length ≤ 8388608) : q_impl_Trimmed (l, snap) = some (trimmed l snap) := by
  have hs : (trA l snap l.length).length ≤ 8388608 := Nat.le_trans (trA_len _ _ _) hl
  obtain ⟨s, hse⟩ : ∃ s, s = trA l snap l.length := ⟨_, rfl⟩
  rw [← hse] at hs
  have L := W_pick W_impl_Trimmed_11 s (fun a i => (snap, s, a, s, (s.length : Int), i)) (keepB s snap) (fun v => v) (fun a => .inl a) (by omega)
    (fun a _ => by rw [w_impl_Trimmed_11]; simp only [S_impl_Trimmed_11, lt_cast, Nat.lt_irrefl, decide_false, cond_false])
    (fun i hi a ha => by
      rw [w_impl_Trimmed_11]
      simp only [S_impl_Trimmed_11, lt_cast, hi, decide_true, cond_true, trimN_impl s _ hs, Option.bind_some, gIdx_nat hi, Int.toNat_natCast, rdL_get (t := YVersion) hi, List.length_singleton, ble_cap (show a.length + 1 ≤ 1099511627776 by omega)]
      rw [wrap_succ (by omega)]
      unfold keepB
      cases h1 : s[i].2.2.1 with
      | false => simp
      | true =>
        by_cases h2 : s[i].2.2.2 > snap
        · simp [h2]
        · by_cases h3 : (cntK s s[i].1 : Int) > 1 <;> simp [h2, h3])
  rw [List.map_id'] at L
  have hA := trimA_impl l snap hl
  rw [← hse] at hA
  rw [e_impl_Trimmed]; unfold X_impl_Trimmed trimmed
  rw [← hse]
  simp only [hA, L, Option.bind_some]

theorem trimmed_len (l : List VerT) (snap : Int) : (trimmed l snap).length ≤ l.length := Nat.le_trans (List.length_filter_le _ _) (trA_len _ _ _)

end Go.Proofs.YthhpkgegmfjdmaaGreat.Ab
