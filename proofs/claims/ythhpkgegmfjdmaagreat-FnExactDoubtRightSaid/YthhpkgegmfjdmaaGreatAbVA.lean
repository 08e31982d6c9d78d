import Derived.Test.YthhpkgegmfjdmaaGreatAbH1
import Derived.Test.YthhpkgegmfjdmaaGreatAbQ2
namespace Go.Proofs.YthhpkgegmfjdmaaGreat.Ab
open Go
set_option linter.unusedVariables false
set_option linter.unusedSimpArgs false
set_option linter.unnecessarySimpa false
set_option linter.unusedSimpArgs false
set_option linter.unusedVariables false

theorem ble_cap {n : Nat} (h : n ≤ 1099511627776) : Nat.ble n cap40 = true := Nat.ble_eq_true_of_le h

def inR (r : ByteArray × ByteArray) (k : ByteArray) : Bool := !strLt k r.1 && (strLt k r.2 || strEq k r.2)

theorem InRange_spec (r : ByteArray × ByteArray) (k : ByteArray) : q_spec_InRange (r, k) = some (inR r k) := by
  rw [e_spec_InRange]; unfold X_spec_InRange inR; cases strLt k r.1 <;> rfl
theorem InRange_impl (r : ByteArray × ByteArray) (k : ByteArray) : q_impl_InRange (r, k) = some (inR r k) := by
  rw [e_impl_InRange]; unfold X_impl_InRange inR; cases strLt k r.1 <;> rfl

def touches (r : List YRange.den) (w : List YWrite.den) : Bool := r.any fun x => w.any fun y => inR x y.1

theorem Touches_spec (r : List YRange.den) (w : List YWrite.den) (hr : r.length ≤ big40) (hw : w.length ≤ big40) : q_spec_Touches (r, w) = some (touches r w) := by
  unfold big40 at hr hw
  have inner : ∀ (i : Nat) (hi : i < r.length), W_spec_Touches_5 (r, w, (i : Int), 0) = some (bif w.any (fun y => inR r[i] y.1) then .inr true else .inl (r, w, (i : Int))) := fun i hi =>
    W_any W_spec_Touches_5 w (fun j => (r, w, (i : Int), j)) (fun y => inR r[i] y.1) _ _ (by
      rw [w_spec_Touches_5]; simp only [S_spec_Touches_5, lt_cast, Nat.lt_irrefl, decide_false, cond_false]) (fun j hj => by
      rw [w_spec_Touches_5]; simp only [S_spec_Touches_5, lt_cast, hj, decide_true, cond_true, gIdx_nat hi, gIdx_nat hj, Int.toNat_natCast, rdL_get hi, rdL_get hj, InRange_spec, Option.bind_some]
      rw [wrap_succ (by omega)])
  have outer := W_any W_spec_Touches_2 r (fun i => (r, w, i)) (fun x => w.any fun y => inR x y.1) (.inr true) (.inl ()) (by
      rw [w_spec_Touches_2]; simp only [S_spec_Touches_2, lt_cast, Nat.lt_irrefl, decide_false, cond_false]) (fun i hi => by
      rw [w_spec_Touches_2]; simp only [S_spec_Touches_2, lt_cast, hi, decide_true, cond_true, inner i hi, Option.bind_some]
      have ws := wrap_succ (i := i) (by omega)
      cases w.any fun y => inR r[i] y.1 <;> simp only [cond_true, cond_false, ws])
  rw [e_spec_Touches]; unfold X_spec_Touches
  simp only [outer, Option.bind_some]
  unfold touches
  cases r.any fun x => w.any fun y => inR x y.1 <;> rfl

theorem Touches_impl (r : List YRange.den) (w : List YWrite.den) (hr : r.length ≤ big40) (hw : w.length ≤ big40) : q_impl_Touches (r, w) = some (touches r w) := by
  unfold big40 at hr hw
  have inner : ∀ (i : Nat) (hi : i < r.length), W_impl_Touches_5 (w, r[i], r, (r.length : Int), (i : Int), w, (w.length : Int), 0) = some (bif w.any (fun y => inR r[i] y.1) then .inr true else .inl (w, r, (r.length : Int), (i : Int))) := fun i hi =>
    W_any W_impl_Touches_5 w (fun j => (w, r[i], r, (r.length : Int), (i : Int), w, (w.length : Int), j)) (fun y => inR r[i] y.1) _ _ (by
      rw [w_impl_Touches_5]; simp only [S_impl_Touches_5, lt_cast, Nat.lt_irrefl, decide_false, cond_false]) (fun j hj => by
      rw [w_impl_Touches_5]; simp only [S_impl_Touches_5, lt_cast, hj, decide_true, cond_true, gIdx_nat hi, gIdx_nat hj, Int.toNat_natCast, rdL_get hi, rdL_get hj, InRange_impl, Option.bind_some]
      rw [wrap_succ (by omega)])
  have outer := W_any W_impl_Touches_2 r (fun i => (w, r, (r.length : Int), i)) (fun x => w.any fun y => inR x y.1) (.inr true) (.inl ()) (by
      rw [w_impl_Touches_2]; simp only [S_impl_Touches_2, lt_cast, Nat.lt_irrefl, decide_false, cond_false]) (fun i hi => by
      rw [w_impl_Touches_2]; simp only [S_impl_Touches_2, lt_cast, hi, decide_true, cond_true, gIdx_nat hi, Int.toNat_natCast, rdL_get hi, inner i hi, Option.bind_some]
      have ws := wrap_succ (i := i) (by omega)
      cases w.any fun y => inR r[i] y.1 <;> simp only [cond_true, cond_false, ws])
  rw [e_impl_Touches]; unfold X_impl_Touches
  simp only [outer, Option.bind_some]
  unfold touches
  cases r.any fun x => w.any fun y => inR x y.1 <;> rfl

/-! ### Who looks and who changes -/
def pastOf (x y : YTxn.den) : Bool := decide (x.2.1 = 3) && decide (x.2.2.2.1 ≤ y.2.2.1)
def beside (a b : YTxn.den) : Bool := !decide (a.1 = b.1) && (!pastOf a b && !pastOf b a)
def ahead (a b : YTxn.den) : Bool := beside a b && touches a.2.2.2.2.1 b.2.2.2.2.2.1
def outOf (t : YTxn.den) (l : List YTxn.den) : Bool := l.any fun x => decide (x.2.1 = 3) && ahead t x

theorem Beside_spec (a b : YTxn.den) : q_spec_Beside (a, b) = some (beside a b) := by
  rw [e_spec_Beside]; unfold X_spec_Beside beside pastOf
  by_cases h1 : a.1 = b.1
  · simp [h1]
  · by_cases h2 : a.2.1 = 3 <;> by_cases h3 : a.2.2.2.1 ≤ b.2.2.1 <;> by_cases h4 : b.2.1 = 3 <;> by_cases h5 : b.2.2.2.1 ≤ a.2.2.1 <;> simp [h1, h2, h3, h4, h5]

theorem Beside_impl (a b : YTxn.den) : q_impl_Beside (a, b) = some (beside a b) := by
  rw [e_impl_Beside]; unfold X_impl_Beside
  simp only [e_impl_Beside_1, X_impl_Beside_1]
  unfold beside pastOf
  by_cases h1 : a.1 = b.1
  · simp [h1]
  · by_cases h2 : a.2.1 = 3 <;> by_cases h3 : a.2.2.2.1 ≤ b.2.2.1 <;> by_cases h4 : b.2.1 = 3 <;> by_cases h5 : b.2.2.2.1 ≤ a.2.2.1 <;> simp [h1, h2, h3, h4, h5]

theorem Ahead_spec (a b : YTxn.den) (ha : a.2.2.2.2.1.length ≤ big40) (hb : b.2.2.2.2.2.1.length ≤ big40) : q_spec_Ahead (a, b) = some (ahead a b) := by
  rw [e_spec_Ahead]; unfold X_spec_Ahead ahead
  have h1 := Beside_spec a b
  have h2 := Touches_spec _ _ ha hb
  simp only [h2, Option.bind_some]
  rw [h1]
  cases beside a b <;> rfl

theorem Ahead_impl (a b : YTxn.den) (ha : a.2.2.2.2.1.length ≤ big40) (hb : b.2.2.2.2.2.1.length ≤ big40) : q_impl_Ahead (a, b) = some (ahead a b) := by
  rw [e_impl_Ahead]; unfold X_impl_Ahead ahead
  have h1 := Beside_impl a b
  have h2 := Touches_impl _ _ ha hb
  simp only [h2, Option.bind_some]
  rw [h1]
  cases beside a b <;> rfl

end Go.Proofs.YthhpkgegmfjdmaaGreat.Ab
