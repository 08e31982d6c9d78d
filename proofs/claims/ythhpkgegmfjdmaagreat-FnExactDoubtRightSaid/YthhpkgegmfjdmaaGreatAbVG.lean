import Derived.Test.YthhpkgegmfjdmaaGreatAbVL
namespace Go.Proofs.YthhpkgegmfjdmaaGreat.Ab
open Go
set_option linter.unusedVariables false
set_option linter.unusedSimpArgs false
set_option linter.unnecessarySimpa false
set_option linter.unusedSimpArgs false
set_option linter.unusedVariables false

/-! ### Trimmed -/
def keepA (l : List VerT) (snap : Int) (i : Nat) : Bool := decide ((rdL YVersion l i).2.2.2 > snap) || decide (lastAt l (rdL YVersion l i).1 snap = (i : Int))
def trA (l : List VerT) (snap : Int) : Nat → List VerT
  | 0 => []
  | n + 1 => if keepA l snap n = true then trA l snap n ++ [rdL YVersion l n] else trA l snap n
theorem trA_len (l : List VerT) (snap : Int) : ∀ n, (trA l snap n).length ≤ n
  | 0 => Nat.le_refl _
  | n + 1 => by
    have := trA_len l snap n
    simp only [trA]
    split
    · simp; omega
    · omega
def cntK (l : List VerT) (k : ByteArray) : Nat := (l.filter fun v => strEq v.1 k).length
def keepB (l : List VerT) (snap : Int) (v : VerT) : Bool := !v.2.2.1 || (decide (v.2.2.2 > snap) || decide ((cntK l v.1 : Int) > 1))
def trimmed (l : List VerT) (snap : Int) : List VerT := (trA l snap l.length).filter (keepB (trA l snap l.length) snap)

theorem trimA_spec (l : List VerT) (snap : Int) (hl : l.length ≤ 8388608) : W_spec_Trimmed_3 (l, snap, [], 0) = some (.inl (snap, trA l snap l.length)) :=
  W_count W_spec_Trimmed_3 l.length (fun a i => (l, snap, a, i)) (fun i => trA l snap i) (.inl (snap, trA l snap l.length))
    (by rw [w_spec_Trimmed_3]; simp only [S_spec_Trimmed_3, lt_cast, Nat.lt_irrefl, decide_false, cond_false])
    (fun i hi => by
      have hL := lastAt_spec l (rdL YVersion l i).1 snap (by omega)
      have hn := trA_len l snap i
      rw [w_spec_Trimmed_3]
      simp only [S_spec_Trimmed_3, lt_cast, hi, decide_true, cond_true, gIdx_nat hi, Int.toNat_natCast, hL, Option.bind_some, List.length_singleton, ble_cap (show (trA l snap i).length + 1 ≤ 1099511627776 by omega)]
      rw [wrap_succ (by omega)]
      simp only [trA, keepA]
      by_cases h1 : (rdL YVersion l i).2.2.2 > snap
      · simp [h1]
      · by_cases h2 : lastAt l (rdL YVersion l i).1 snap = (i : Int) <;> simp [h1, h2])

theorem trimA_impl (l : List VerT) (snap : Int) (hl : l.length ≤ 8388608) : W_impl_Trimmed_3 (l, snap, [], l, (l.length : Int), 0) = some (.inl (snap, trA l snap l.length)) :=
  W_count W_impl_Trimmed_3 l.length (fun a i => (l, snap, a, l, (l.length : Int), i)) (fun i => trA l snap i) (.inl (snap, trA l snap l.length))
    (by rw [w_impl_Trimmed_3]; simp only [S_impl_Trimmed_3, lt_cast, Nat.lt_irrefl, decide_false, cond_false])
    (fun i hi => by
      have hL := lastAt_impl l (rdL YVersion l i).1 snap (by omega)
      have hn := trA_len l snap i
      rw [w_impl_Trimmed_3]
      simp only [S_impl_Trimmed_3, lt_cast, hi, decide_true, cond_true, gIdx_nat hi, Int.toNat_natCast, hL, Option.bind_some, List.length_singleton, ble_cap (show (trA l snap i).length + 1 ≤ 1099511627776 by omega)]
      rw [wrap_succ (by omega)]
      simp only [trA, keepA]
      by_cases h1 : (rdL YVersion l i).2.2.2 > snap
      · simp [h1]
      · by_cases h2 : lastAt l (rdL YVersion l i).1 snap = (i : Int) <;> simp [h1, h2])

end Go.Proofs.YthhpkgegmfjdmaaGreat.Ab
