import Derived.Test.YtoafakkbmnnimaaAbG3
namespace Go.Proofs.Ytoafakkbmnnimaa.Ab
open Go
set_option linter.unusedVariables false
set_option linter.unusedSimpArgs false
set_option linter.unnecessarySimpa false
set_option linter.unusedSimpArgs false
set_option linter.unusedVariables false

theorem small_len {α : Type} {l : List α} {n : Nat} (h : n ≤ 4611686018427387904) (hl : l.length = n) : IntKind.i64.wrap (l.length : Int) = l.length := by
  rw [hl]; exact wrap_nat h

theorem copyInt {k : Nat} (l : List Int) (hl : l.length < 4611686018427387904) (n : Nat) (hn : l.length < n) :
    L62_3 k n (l, ((List.replicate ((l.length : Int)).toNat ((Ty.int .i64)).zero), (0 : Int))) = some (.inl l) := by
  refine loop_ind (fun m x => ∃ i, i + m = l.length ∧ x = (l, (l.map id).take i ++ List.replicate (l.length - i) (0 : Int), (i : Int))) ?_ n l.length _ hn ⟨0, by omega, by simp [Ty.zero]⟩
  rintro m x ⟨i, him, rfl⟩ again hag
  by_cases h : i < l.length
  · have h1 : decide ((i : Int) < (l.length : Int)) = true := by simp [h]
    have h2 : gIdx (i : Int) ((l.map id).take i ++ List.replicate (l.length - i) (0 : Int)).length = true := gIdx_nat (by simp; omega)
    simp only [h1, gIdx_nat h, h2, cond_true]
    refine hag _ (m - 1) (by omega) ⟨i + 1, by omega, ?_⟩
    rw [wrap_succ (by omega), rdL_nat h]
    have := fill_step (l := l) (z := (0 : Int)) (f := id) h
    simp only [id] at this
    simp only [Int.toNat_natCast]
    rw [← this]
  · have h1 : decide ((i : Int) < (l.length : Int)) = false := by simp; omega
    simp only [h1, cond_false]
    have : i = l.length := by omega
    subst this
    simp

theorem eqIntLoop {k : Nat} (l : List Int) (hl : l.length < 4611686018427387904) (n : Nat) (hn : l.length < n) : L55_4 k n (l, (l, (0 : Int))) = some (.inl ()) := by
  refine loop_ind (fun m x => ∃ i, i + m = l.length ∧ x = (l, l, (i : Int))) ?_ n l.length _ hn ⟨0, by omega, by simp⟩
  rintro m x ⟨i, him, rfl⟩ again hag
  by_cases h : i < l.length
  · have h1 : decide ((i : Int) < (l.length : Int)) = true := by simp [h]
    simp only [h1, gIdx_nat h, cond_true, decide_true, Bool.not_true, cond_false]
    exact hag _ (m - 1) (by omega) ⟨i + 1, by omega, by rw [wrap_succ (by omega)]⟩
  · have h1 : decide ((i : Int) < (l.length : Int)) = false := by simp; omega
    simp only [h1, cond_false]

/-- Whatever the event: the law's answer is true. -/
theorem law3 (kind at_ : Int) (key text : ByteArray) (keep : List Int) (h3 : key.size ≤ 9223372036854775807) (h4 : text.size ≤ 9223372036854775807) (h5 : keep.length ≤ 9223372036854775807) :
    ∃ k, q3 k (kind, at_, key, text, keep) = some true := by
  have cI : ∀ k, keep.length < k → keep.length ≤ 1099511627776 → q62 (k + 1) keep = some keep := fun k hk hl => by
    have hlI : (keep.length : Int) ≤ 1099511627776 := by omega
    rw [e62, X62, copyInt keep (by omega) k hk]
    simp [hlI]
  have cE : ∀ k, keep.length < k → keep.length ≤ 1099511627776 → q14 (k + 1 + 1) (kind, at_, key, text, keep) = some (kind, at_, key, text, keep) := fun k hk hl => by
    rw [e14, X14]
    simp only
    rw [cI k hk hl]
    rfl
  have cQ : ∀ k, keep.length < k → keep.length ≤ 1099511627776 → q16 (k + 1 + 1) ((kind, at_, key, text, keep), (kind, at_, key, text, keep)) = some true := fun k hk hl => by
    rw [e16, X16]
    simp only [decide_true, Bool.not_true, cond_false, strEq_refl]
    rw [e55, X55]
    simp only [decide_true, Bool.not_true, cond_false]
    rw [eqIntLoop keep (by omega) k hk]
    rfl
  obtain ⟨n, hn⟩ : ∃ n, keep.length < n := ⟨_, Nat.lt_succ_self _⟩
  refine ⟨n + 1 + 1 + 1, ?_⟩
  rw [e3, X3]
  have s12 : ∃ y, q12 (n + 1 + 1) ((kind, at_, key, text, keep), (1048576 : Int)) = some y ∧ (¬ y < 0 → keep.length ≤ 1099511627776) := by
    rw [e12, X12]
    simp only
    have w1 : IntKind.i64.wrap (1048576 - (key.size : Int)) = 1048576 - (key.size : Int) := wrap64 (by omega) (by omega)
    rw [w1]
    by_cases a1 : (1048576 - (key.size : Int)) < 0
    · exact ⟨-1, by simp [a1], fun h => absurd (by decide) h⟩
    · have w2 : IntKind.i64.wrap (1048576 - (key.size : Int) - (text.size : Int)) = 1048576 - (key.size : Int) - (text.size : Int) := wrap64 (by omega) (by omega)
      rw [w2]
      by_cases a2 : (1048576 - (key.size : Int) - (text.size : Int)) < 0
      · exact ⟨-1, by simp [a1, a2], fun h => absurd (by decide) h⟩
      · rw [e60, X60]
        simp only
        have w3 : IntKind.i64.wrap (1048576 - (key.size : Int) - (text.size : Int) - (keep.length : Int)) = 1048576 - (key.size : Int) - (text.size : Int) - (keep.length : Int) := wrap64 (by omega) (by omega)
        rw [w3]
        by_cases a3 : (1048576 - (key.size : Int) - (text.size : Int) - (keep.length : Int)) < 0
        · exact ⟨-1, by simp [a1, a2, a3], fun h => absurd (by decide) h⟩
        · exact ⟨1048576 - (key.size : Int) - (text.size : Int) - (keep.length : Int), by simp [a1, a2, a3], fun _ => by omega⟩
  obtain ⟨y, hy, hyl⟩ := s12
  rw [hy]
  simp only [Option.bind_some]
  by_cases hneg : y < 0
  · simp [hneg]
  · have hl := hyl hneg
    simp only [hneg, decide_false, cond_false]
    have h13 : ∃ b, q13 (n + 1 + 1) (kind, at_, key, text, keep) = some b ∧ q15 (n + 1 + 1) (kind, at_, key, text, keep) = some b := by
      rw [e13, X13, e15, X15]
      simp only
      rw [e61, X61, e63, X63]
      simp only
      have g1 : (kind ≥ 1) = ¬ kind < 1 := by simp
      have g2 : (at_ < 0) = ¬ at_ ≥ 0 := by simp
      have g3 : ((key.size : Int) > 6) = ¬ (key.size : Int) ≤ 6 := by simp
      have g4 : ((text.size : Int) > 20) = ¬ (text.size : Int) ≤ 20 := by simp
      have g5 : ((keep.length : Int) > 10) = ¬ (keep.length : Int) ≤ 10 := by simp
      simp only [g2, g3, g4, g5, decide_not]
      generalize decide (kind ≥ 1) = v1
      generalize decide (kind ≤ 12) = v2
      generalize decide (at_ ≥ 0) = v3
      generalize decide ((key.size : Int) ≤ 6) = v4
      generalize decide ((text.size : Int) ≤ 20) = v5
      generalize decide ((keep.length : Int) ≤ 10) = v6
      generalize decide (kind = 12) = v7
      generalize decide ((keep.length : Int) = 0) = v8
      cases v1 <;> cases v2 <;> cases v3 <;> cases v4 <;> cases v5 <;> cases v6 <;> cases v7 <;> simp
    obtain ⟨b, q1, q2⟩ := h13
    rw [cE n hn hl]
    simp only [Option.bind_some]
    rw [q1]
    simp only [Option.bind_some]
    rw [q2]
    simp only [Option.bind_some, beq_self_eq_true, Bool.not_true, cond_false]
    rw [cQ n hn hl]
    rfl

end Go.Proofs.Ytoafakkbmnnimaa.Ab
