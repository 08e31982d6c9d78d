import Derived.Test.YtoafakkbmnnimaaAbH1
namespace Go.Proofs.Ytoafakkbmnnimaa.Ab
open Go
set_option linter.unusedVariables false
set_option linter.unusedSimpArgs false
set_option linter.unnecessarySimpa false
set_option linter.unusedSimpArgs false
set_option linter.unusedVariables false

theorem ble_cap {n : Nat} (h : n ≤ 1099511627776) : Nat.ble n cap40 = true := Nat.ble_eq_true_of_le h

/-! ### Marks -/
theorem strI_size (l : List Int) : (strI l).size = l.length := by
  simp [strI, ByteArray.size]

theorem markText_loop : ∀ (n : Nat) (s : ByteArray), s.size + n ≤ 100000000000000 → ∃ t, W_laws_markText_4 ((n : Int), s) = some (.inl t) ∧ t.size ≤ s.size + n := by
  intro n
  induction n using Nat.strongRecOn with
  | _ n ih =>
    intro s hs
    rw [w_laws_markText_4]; simp only [S_laws_markText_4]
    by_cases h0 : n = 0
    · subst h0
      exact ⟨s, by simp, by omega⟩
    · have h1 : decide ((n : Int) > (0 : Int)) = true := by simp; omega
      have h2 : Int.tdiv (n : Int) (10 : Int) = ((n / 10 : Nat) : Int) := (Int.ofNat_tdiv n 10).symm
      have h3 : decide ((strI [IntKind.u8.wrap (IntKind.i64.wrap (48 + Int.tmod (n : Int) 10))]).size + s.size ≤ 140737488355328) = true := by rw [strI_size]; simp; omega
      simp only [h1, h2, h3, cond_true]
      rw [wrap_nat (by omega)]
      have hz : (strI [IntKind.u8.wrap (IntKind.i64.wrap (48 + Int.tmod (n : Int) 10))] ++ s).size = 1 + s.size := by rw [ByteArray.size_append, strI_size]; rfl
      obtain ⟨t, ht, hl⟩ := ih (n / 10) (by omega) (strI [IntKind.u8.wrap (IntKind.i64.wrap (48 + Int.tmod (n : Int) 10))] ++ s) (by omega)
      exact ⟨t, ht, by omega⟩

noncomputable def mt (k : Int) : ByteArray := (q_laws_markText k).getD ⟨#[]⟩

theorem markText_ok (k : Int) (h1 : 0 ≤ k) (h2 : k ≤ 90000000000000) : q_laws_markText k = some (mt k) := by
  have : ∃ t, q_laws_markText k = some t := by
    rw [e_laws_markText]; unfold X_laws_markText
    by_cases h0 : k ≤ 0
    · exact ⟨⟨#[109, 48]⟩, by simp only [h0, decide_true, cond_true]⟩
    · obtain ⟨n, rfl⟩ : ∃ n : Nat, k = n := ⟨k.toNat, by omega⟩
      obtain ⟨t, ht, hl⟩ := markText_loop n ⟨#[]⟩ (by show 0 + n ≤ _; omega)
      have : t.size ≤ n := by have h : t.size ≤ 0 + n := hl; omega
      have h3 : decide ((⟨#[109]⟩ : ByteArray).size + t.size ≤ 140737488355328) = true := by
        have : (⟨#[109]⟩ : ByteArray).size = 1 := rfl
        rw [this]; simp; omega
      simp only [h0, decide_false, cond_false, ht, Option.bind_some, h3, cond_true]
      exact ⟨_, rfl⟩
  obtain ⟨t, ht⟩ := this
  rw [mt, ht]; rfl

noncomputable def marked2 (k : Int) (n : Nat) : List (ByteArray × ByteArray) := (List.range n).map fun (i : Nat) => (mt (k + 2 * (i : Int)), mt (k + 2 * (i : Int) + 1))

theorem marked2_len {k : Int} {n : Nat} : (marked2 k n).length = n := by simp [marked2]
theorem marked2_succ {k : Int} {n : Nat} : marked2 k (n + 1) = marked2 k n ++ [(mt (k + 2 * (n : Int)), mt (k + 2 * (n : Int) + 1))] := by
  simp [marked2, List.range_succ]

theorem mark_set {α : Type} {p : List α} {x y : α} {q : List α} {i : Nat} (h : p.length = i) : (p ++ x :: q).set i y = p ++ y :: q := by
  subst h
  rw [List.set_append_right _ _ (Nat.le_refl _), Nat.sub_self, List.set_cons_zero]

theorem rdL_at {T : Ty} {p : List T.den} {x : T.den} {q : List T.den} {i : Nat} (h : p.length = i) : rdL T (p ++ x :: q) i = x := by
  subst h
  simp [rdL]

theorem Q.mark2 {T : Type} {W : List (ByteArray × ByteArray) × Int × Int → Option ((List (ByteArray × ByteArray) × Int) ⊕ T)}
    (hW : ∀ x, W x = (bif (decide (x.2.2 < (x.1.length : Int))) then ((q_laws_markText x.2.1).bind fun (y1 : ByteArray) => (bif (gIdx x.2.2 x.1.length) then ((q_laws_markText (IntKind.i64.wrap (x.2.1 + (1 : Int)))).bind fun (y2 : ByteArray) =>
      (bif (gIdx x.2.2 (x.1.set (x.2.2).toNat (y1, (rdL YPair x.1 (x.2.2).toNat).2)).length) then (W (((x.1.set (x.2.2).toNat (y1, (rdL YPair x.1 (x.2.2).toNat).2)).set (x.2.2).toNat ((rdL YPair (x.1.set (x.2.2).toNat (y1, (rdL YPair x.1 (x.2.2).toNat).2)) (x.2.2).toNat).1, y2)),
        ((IntKind.i64.wrap ((IntKind.i64.wrap (x.2.1 + (1 : Int))) + (1 : Int))), (IntKind.i64.wrap (x.2.2 + (1 : Int)))))) else none)) else none)) else (some (.inl (x.1, x.2.1)))))
    (l : List (ByteArray × ByteArray)) (k : Int) (hk : 0 ≤ k) (hl : k + 2 * (l.length : Int) ≤ 9000000000000) : W (l, k, 0) = some (.inl (marked2 k l.length, k + 2 * (l.length : Int))) := by
  have key := W_nat W l.length (fun (_ : Unit) i => (marked2 k i.toNat ++ l.drop i.toNat, k + 2 * i, i)) (fun _ _ => .inl (marked2 k l.length, k + 2 * (l.length : Int))) (fun _ _ => True)
    (fun a _ => by
      rw [hW]
      simp only [Int.toNat_natCast, List.drop_length, List.append_nil, marked2_len, lt_cast, Nat.lt_irrefl, decide_false, cond_false])
    (fun i a hi _ => .inr ⟨(), trivial, rfl, by
      have hd : l.drop i = l[i] :: l.drop (i + 1) := List.drop_eq_getElem_cons hi
      have hlen : (marked2 k i ++ l[i] :: l.drop (i + 1)).length = l.length := by simp [marked2_len]; omega
      have w1 : IntKind.i64.wrap (k + 2 * (i : Int) + 1) = k + 2 * (i : Int) + 1 := wrap64 (by omega) (by omega)
      have w2 : IntKind.i64.wrap (k + 2 * (i : Int) + 1 + 1) = k + 2 * ((i + 1 : Nat) : Int) := by rw [wrap64 (by omega) (by omega)]; simp; omega
      rw [hW]
      simp only [Int.toNat_natCast, hd, hlen, lt_cast, hi, decide_true, cond_true, gIdx_nat hi, w1, w2, markText_ok (k + 2 * (i : Int)) (by omega) (by omega), markText_ok (k + 2 * (i : Int) + 1) (by omega) (by omega), Option.bind_some, List.length_set,
        mark_set (marked2_len (k := k) (n := i)), rdL_at (T := YPair) (marked2_len (k := k) (n := i)), wrap_succ (show i < 4611686018427387904 by omega), marked2_succ, List.append_assoc, List.singleton_append]
      rw [gIdx_nat (by simp only [List.length_append, marked2_len, List.length_cons, List.length_drop]; omega), cond_true]⟩) 0 () (by omega) trivial
  simpa [marked2] using key

theorem Q.held2 {W : List (ByteArray × ByteArray) × Int × Int → Option (Int ⊕ Int)}
    (hW : ∀ x, W x = (bif (decide (x.2.2 < (x.1.length : Int))) then (bif (gIdx x.2.2 x.1.length) then ((q_laws_markText x.2.1).bind fun (y1 : ByteArray) => (bif (!strEq (rdL YPair x.1 (x.2.2).toNat).1 y1) then (some (.inr (-1 : Int))) else (bif (gIdx x.2.2 x.1.length) then
      ((q_laws_markText (IntKind.i64.wrap (x.2.1 + (1 : Int)))).bind fun (y2 : ByteArray) => (bif (!strEq (rdL YPair x.1 (x.2.2).toNat).2 y2) then (some (.inr (-1 : Int))) else (W (x.1, ((IntKind.i64.wrap ((IntKind.i64.wrap (x.2.1 + (1 : Int))) + (1 : Int))), (IntKind.i64.wrap (x.2.2 + (1 : Int)))))))) else none))) else none) else (some (.inl x.2.1))))
    (n : Nat) (k : Int) (hk : 0 ≤ k) (hl : k + 2 * (n : Int) ≤ 9000000000000) : W (marked2 k n, k, 0) = some (.inl (k + 2 * (n : Int))) := by
  have key := W_nat W n (fun (_ : Unit) i => (marked2 k n, k + 2 * i, i)) (fun _ _ => .inl (k + 2 * (n : Int))) (fun _ _ => True)
    (fun a _ => by
      rw [hW]
      simp only [marked2_len, lt_cast, Nat.lt_irrefl, decide_false, cond_false])
    (fun i a hi _ => .inr ⟨(), trivial, rfl, by
      have hi' : i < (marked2 k n).length := by rw [marked2_len]; exact hi
      have hg : (marked2 k n)[i] = (mt (k + 2 * (i : Int)), mt (k + 2 * (i : Int) + 1)) := by simp [marked2]
      have w1 : IntKind.i64.wrap (k + 2 * (i : Int) + 1) = k + 2 * (i : Int) + 1 := wrap64 (by omega) (by omega)
      have w2 : IntKind.i64.wrap (k + 2 * (i : Int) + 1 + 1) = k + 2 * ((i + 1 : Nat) : Int) := by rw [wrap64 (by omega) (by omega)]; simp; omega
      rw [hW]
      simp only [Int.toNat_natCast, lt_cast, hi', decide_true, cond_true, gIdx_nat hi', rdL_get (t := YPair) hi', hg, w1, w2, markText_ok (k + 2 * (i : Int)) (by omega) (by omega), markText_ok (k + 2 * (i : Int) + 1) (by omega) (by omega), Option.bind_some, strEq_refl, Bool.not_true, cond_false,
        wrap_succ (show i < 4611686018427387904 by omega)]⟩) 0 () (by omega) trivial
  simpa using key

theorem markCellS_ok (l : List YCell.den) (hl : l.length ≤ 1099511627776) : q_laws_markCellS (l, 1) = some (1 + 2 * (l.length : Int), marked2 1 l.length) := by
  rw [e_laws_markCellS]; unfold X_laws_markCellS
  simp only [Q.mark2 (W := W_laws_markCellS_2) (fun x => w_laws_markCellS_2 x) l 1 (by omega) (by omega), Option.bind_some]
theorem heldCellS_ok (n : Nat) (hl : n ≤ 1099511627776) : q_laws_heldCellS (marked2 1 n, 1) = some (1 + 2 * (n : Int)) := by
  rw [e_laws_heldCellS]; unfold X_laws_heldCellS
  simp only [Q.held2 (W := W_laws_heldCellS_2) (fun x => w_laws_heldCellS_2 x) n 1 (by omega) (by omega), Option.bind_some]
theorem markRangeS_ok (l : List YRange.den) (k : Int) (hk : 0 ≤ k) (hl : k + 2 * (l.length : Int) ≤ 9000000000000) : q_laws_markRangeS (l, k) = some (k + 2 * (l.length : Int), marked2 k l.length) := by
  rw [e_laws_markRangeS]; unfold X_laws_markRangeS
  simp only [Q.mark2 (W := W_laws_markRangeS_2) (fun x => w_laws_markRangeS_2 x) l k (by omega) (by omega), Option.bind_some]
/-- Writes marked: what they are then is not told. -/
theorem markWriteS_ok (l : List YWrite.den) (k : Int) (hk : 0 ≤ k) (hl : k + 3 * (l.length : Int) ≤ 9000000000000) : ∃ l', q_laws_markWriteS (l, k) = some (k + 3 * (l.length : Int), l') := by
  have key : ∀ (d i : Nat) (m : List YWrite.den) (c : Int), m.length = l.length → i + d = l.length → 0 ≤ c → c + 3 * (d : Int) ≤ 9000000000000 → ∃ l', W_laws_markWriteS_2 (m, c, (i : Int)) = some (.inl (l', c + 3 * (d : Int))) := by
    intro d
    induction d with
    | zero =>
      intro i m c hm hi hc hc2
      have : i = m.length := by omega
      subst this
      rw [w_laws_markWriteS_2]
      simp only [S_laws_markWriteS_2, lt_cast, Nat.lt_irrefl, decide_false, cond_false]
      exact ⟨m, by simp⟩
    | succ d ih =>
      intro i m c hm hi hc hc2
      have h : i < m.length := by omega
      have w1 : IntKind.i64.wrap (c + 1) = c + 1 := wrap64 (by omega) (by omega)
      have w2 : IntKind.i64.wrap (c + 1 + 1) = c + 2 := by rw [wrap64 (by omega) (by omega)]; omega
      have w3 : IntKind.i64.wrap (c + 2 + 1) = c + 3 := by rw [wrap64 (by omega) (by omega)]; omega
      rw [w_laws_markWriteS_2]
      simp only [S_laws_markWriteS_2, lt_cast, h, decide_true, cond_true, markText_ok c (by omega) (by omega), markText_ok (c + 1) (by omega) (by omega), w1, w2, w3, Option.bind_some, List.length_set, gIdx_nat h, wrap_succ (show i < 4611686018427387904 by omega)]
      obtain ⟨l', hl'⟩ := ih (i + 1) (((m.set (i : Int).toNat (mt c, (rdL YWrite m (i : Int).toNat).2)).set (i : Int).toNat ((rdL YWrite (m.set (i : Int).toNat (mt c, (rdL YWrite m (i : Int).toNat).2)) (i : Int).toNat).1, (mt (c + 1), (rdL YWrite (m.set (i : Int).toNat (mt c, (rdL YWrite m (i : Int).toNat).2)) (i : Int).toNat).2.2))).set (i : Int).toNat ((rdL YWrite ((m.set (i : Int).toNat (mt c, (rdL YWrite m (i : Int).toNat).2)).set (i : Int).toNat ((rdL YWrite (m.set (i : Int).toNat (mt c, (rdL YWrite m (i : Int).toNat).2)) (i : Int).toNat).1, (mt (c + 1), (rdL YWrite (m.set (i : Int).toNat (mt c, (rdL YWrite m (i : Int).toNat).2)) (i : Int).toNat).2.2))) (i : Int).toNat).1, ((rdL YWrite ((m.set (i : Int).toNat (mt c, (rdL YWrite m (i : Int).toNat).2)).set (i : Int).toNat ((rdL YWrite (m.set (i : Int).toNat (mt c, (rdL YWrite m (i : Int).toNat).2)) (i : Int).toNat).1, (mt (c + 1), (rdL YWrite (m.set (i : Int).toNat (mt c, (rdL YWrite m (i : Int).toNat).2)) (i : Int).toNat).2.2))) (i : Int).toNat).2.1, decide (Int.tmod (c + 2) 3 = 0)))) (c + 3) (by simp [hm]) (by omega) (by omega) (by omega)
      exact ⟨l', by rw [hl']; congr 3; omega⟩
  obtain ⟨l', h⟩ := key l.length 0 l k rfl (by omega) hk hl
  have h : W_laws_markWriteS_2 (l, k, 0) = _ := h
  rw [e_laws_markWriteS]; unfold X_laws_markWriteS
  simp only [h, Option.bind_some]
  exact ⟨_, rfl⟩
theorem markTxn_ok (t : YTxn.den) (k : Int) (hk : 0 ≤ k) (hl : k + 2 * (t.2.2.2.2.1.length : Int) + 3 * (t.2.2.2.2.2.1.length : Int) ≤ 9000000000000) : ∃ t', q_laws_markTxn (t, k) = some (k + 2 * (t.2.2.2.2.1.length : Int) + 3 * (t.2.2.2.2.2.1.length : Int), t') := by
  obtain ⟨l', h⟩ := markWriteS_ok t.2.2.2.2.2.1 (k + 2 * (t.2.2.2.2.1.length : Int)) (by omega) (by omega)
  rw [e_laws_markTxn]; unfold X_laws_markTxn
  simp only [markRangeS_ok t.2.2.2.2.1 k hk (by omega), h, Option.bind_some]
  exact ⟨_, rfl⟩

end Go.Proofs.Ytoafakkbmnnimaa.Ab
