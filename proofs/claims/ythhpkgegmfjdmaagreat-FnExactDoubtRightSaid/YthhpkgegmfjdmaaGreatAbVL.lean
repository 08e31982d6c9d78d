import Derived.Test.YthhpkgegmfjdmaaGreatAbVUz
namespace Go.Proofs.YthhpkgegmfjdmaaGreat.Ab
open Go
set_option linter.unusedVariables false
set_option linter.unusedSimpArgs false
set_option linter.unnecessarySimpa false
set_option linter.unusedSimpArgs false
set_option linter.unusedVariables false

theorem W_count {X R A : Type} (W : X → Option R) (n : Nat) (mk : A → Int → X) (v : Nat → A) (r : R) (hend : W (mk (v n) (n : Int)) = some r)
    (hstep : ∀ i, i < n → W (mk (v i) (i : Int)) = W (mk (v (i + 1)) ((i + 1 : Nat) : Int))) : W (mk (v 0) 0) = some r := by
  have := W_nat W n (fun (_ : Unit) i => mk (v i.toNat) i) (fun _ _ => r) (fun _ _ => True) (fun _ _ => by simpa using hend) (fun i a hi _ => .inr ⟨(), trivial, rfl, by
    have h := hstep i hi
    have e : ((i : Int) + 1).toNat = i + 1 := by omega
    simp only [Int.toNat_natCast]
    exact h⟩) 0 () (Nat.zero_le _) trivial
  simpa using this

/-! ### What is seen -/
def atStep (l : List VerT) (k : ByteArray) (snap out : Int) (i : Nat) : Int :=
  if strEq (rdL YVersion l i).1 k = true ∧ (rdL YVersion l i).2.2.2 ≤ snap ∧ (out < 0 ∨ (rdL YVersion l i).2.2.2 > (rdL YVersion l out.toNat).2.2.2) then (i : Int) else out
def atGo (l : List VerT) (k : ByteArray) (snap : Int) : Nat → Int
  | 0 => -1
  | n + 1 => atStep l k snap (atGo l k snap n) n
def lastAt (l : List VerT) (k : ByteArray) (snap : Int) : Int := atGo l k snap l.length

theorem atGo_rng (l : List VerT) (k : ByteArray) (snap : Int) : ∀ n, -1 ≤ atGo l k snap n ∧ atGo l k snap n < (n : Int)
  | 0 => by simp [atGo]
  | n + 1 => by
    have := atGo_rng l k snap n
    simp only [atGo, atStep]
    split <;> omega

theorem lastAt_rng (l : List VerT) (k : ByteArray) (snap : Int) : -1 ≤ lastAt l k snap ∧ lastAt l k snap < (l.length : Int) := atGo_rng l k snap l.length

theorem lastAt_spec (l : List VerT) (k : ByteArray) (snap : Int) (hl : l.length ≤ 1099511627776) : q_spec_l06At (l, k, snap) = some (lastAt l k snap) := by
  have L := W_count W_spec_l06At_3 l.length (fun a i => (l, k, snap, a, i)) (fun i => atGo l k snap i) (.inl (lastAt l k snap))
    (by rw [w_spec_l06At_3]; simp only [S_spec_l06At_3, lt_cast, Nat.lt_irrefl, decide_false, cond_false]; rfl)
    (fun i hi => by
      have hr := atGo_rng l k snap i
      rw [w_spec_l06At_3]
      simp only [S_spec_l06At_3, lt_cast, hi, decide_true, cond_true, gIdx_nat hi, Int.toNat_natCast, atGo, atStep]
      rw [wrap_succ (by omega)]
      cases h1 : strEq (rdL YVersion l i).1 k with
      | false => simp [h1]
      | true =>
        by_cases h2 : (rdL YVersion l i).2.2.2 ≤ snap
        · by_cases h3 : atGo l k snap i < 0
          · simp [h1, h2, h3]
          · have hg : gIdx (atGo l k snap i) l.length = true := gIdx_iff.mpr ⟨by omega, by omega⟩
            by_cases h4 : (rdL YVersion l i).2.2.2 > (rdL YVersion l (atGo l k snap i).toNat).2.2.2
            · simp [h1, h2, h3, h4, hg]
            · simp [h1, h2, h3, h4, hg]
        · simp [h1, h2])
  have L : W_spec_l06At_3 (l, k, snap, -1, 0) = _ := L
  rw [e_spec_l06At]; unfold X_spec_l06At
  simp only [L, Option.bind_some]

theorem lastAt_impl (l : List VerT) (k : ByteArray) (snap : Int) (hl : l.length ≤ 1099511627776) : q_impl_lastAt (l, k, snap) = some (lastAt l k snap) := by
  have L := W_count W_impl_lastAt_3 l.length (fun a i => (l, k, snap, a, l, (l.length : Int), i)) (fun i => atGo l k snap i) (.inl (lastAt l k snap))
    (by rw [w_impl_lastAt_3]; simp only [S_impl_lastAt_3, lt_cast, Nat.lt_irrefl, decide_false, cond_false]; rfl)
    (fun i hi => by
      have hr := atGo_rng l k snap i
      rw [w_impl_lastAt_3]
      simp only [S_impl_lastAt_3, lt_cast, hi, decide_true, cond_true, gIdx_nat hi, Int.toNat_natCast, atGo, atStep]
      rw [wrap_succ (by omega)]
      cases h1 : strEq (rdL YVersion l i).1 k with
      | false => simp [h1]
      | true =>
        by_cases h2 : (rdL YVersion l i).2.2.2 ≤ snap
        · by_cases h3 : atGo l k snap i < 0
          · simp [h1, h2, h3]
          · have hg : gIdx (atGo l k snap i) l.length = true := gIdx_iff.mpr ⟨by omega, by omega⟩
            by_cases h4 : (rdL YVersion l i).2.2.2 > (rdL YVersion l (atGo l k snap i).toNat).2.2.2
            · simp [h1, h2, h3, h4, hg]
            · simp [h1, h2, h3, h4, hg]
        · simp [h1, h2])
  have L : W_impl_lastAt_3 (l, k, snap, -1, l, (l.length : Int), 0) = _ := L
  rw [e_impl_lastAt]; unfold X_impl_lastAt
  simp only [L, Option.bind_some]


end Go.Proofs.YthhpkgegmfjdmaaGreat.Ab
