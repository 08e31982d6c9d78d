import Derived.Test.YthhpkgegmfjdmaaAbVQ
namespace Go.Proofs.Ythhpkgegmfjdmaa.Ab
open Go
set_option linter.unusedVariables false
set_option linter.unusedSimpArgs false
set_option linter.unnecessarySimpa false
set_option linter.unusedSimpArgs false
set_option linter.unusedVariables false

theorem Touches_spec (r : List YRange.den) (w : List YWrite.den) (hr : r.length ≤ big40) (hw : w.length ≤ big40) : q_spec_Touches (r, w) = some (touches r w) := by
  unfold big40 at hr hw
  have inner : ∀ (i : Nat) (hi : i < r.length), W_spec_Touches_5 (r, w, (i : Int), 0) = some (bif w.any (fun y => inR r[i] y.1) then .inr true else .inl (r, w, (i : Int))) := fun i hi =>
    W_any W_spec_Touches_5 w (fun j => (r, w, (i : Int), j)) (fun y => inR r[i] y.1) _ _ (by
      rw [w_spec_Touches_5]; simp only [S_spec_Touches_5, lt_cast, Nat.lt_irrefl, decide_false, cond_false]) (fun j hj => by
      rw [w_spec_Touches_5]; simp only [S_spec_Touches_5, lt_cast, hj, decide_true, cond_true, gIdx_nat hi, gIdx_nat hj, Int.toNat_natCast, rdL_get hi, rdL_get hj, InRange_spec, Option.bind_some]
      rw [wrap_succ (by omega)])
  have outer := W_any W_spec_Touches_2 r (fun i => (r, w, i)) (fun x => w.any fun y => inR x y.1) (.inr true) (.inl ()) (by
      rw [w_spec_Touches_2]; simp only [S_spec_Touches_2, lt_cast, Nat.lt_irrefl, decide_false, cond_false]) (fun i hi => by
      rw [w_spec_Touches_2]; simp only [S_spec_Touches_2, lt_cast, hi, decide_true, cond_true, inner i hi, Option.bind_some]
      have ws := wrap_succ (i := i) (by omega)
      cases w.any fun y => inR r[i] y.1 <;> simp only [cond_true, cond_false, ws])
  rw [e_spec_Touches]; unfold X_spec_Touches
  simp only [outer, Option.bind_some]
  unfold touches
  cases r.any fun x => w.any fun y => inR x y.1 <;> rfl

theorem Meets_spec (r w : List YWrite.den) (hr : r.length ≤ big40) (hw : w.length ≤ big40) : q_spec_Meets (r, w) = some (meets r w) := by
  unfold big40 at hr hw
  have inner : ∀ (i : Nat) (hi : i < r.length), W_spec_Meets_5 (r, w, (i : Int), 0) = some (bif w.any (fun y => strEq r[i].1 y.1) then .inr true else .inl (r, w, (i : Int))) := fun i hi =>
    W_any W_spec_Meets_5 w (fun j => (r, w, (i : Int), j)) (fun y => strEq r[i].1 y.1) _ _ (by
      rw [w_spec_Meets_5]; simp only [S_spec_Meets_5, lt_cast, Nat.lt_irrefl, decide_false, cond_false]) (fun j hj => by
      rw [w_spec_Meets_5]; simp only [S_spec_Meets_5, lt_cast, hj, decide_true, cond_true, gIdx_nat hi, gIdx_nat hj, Int.toNat_natCast, rdL_get hi, rdL_get hj, Option.bind_some]
      rw [wrap_succ (by omega)])
  have outer := W_any W_spec_Meets_2 r (fun i => (r, w, i)) (fun x => w.any fun y => strEq x.1 y.1) (.inr true) (.inl ()) (by
      rw [w_spec_Meets_2]; simp only [S_spec_Meets_2, lt_cast, Nat.lt_irrefl, decide_false, cond_false]) (fun i hi => by
      rw [w_spec_Meets_2]; simp only [S_spec_Meets_2, lt_cast, hi, decide_true, cond_true, inner i hi, Option.bind_some]
      have ws := wrap_succ (i := i) (by omega)
      cases w.any fun y => strEq r[i].1 y.1 <;> simp only [cond_true, cond_false, ws])
  rw [e_spec_Meets]; unfold X_spec_Meets
  simp only [outer, Option.bind_some]
  unfold meets
  cases r.any fun x => w.any fun y => strEq x.1 y.1 <;> rfl

theorem Touches_impl (r : List YRange.den) (w : List YWrite.den) (hr : r.length ≤ big40) (hw : w.length ≤ big40) : q_impl_Touches (r, w) = some (touches r w) := by
  unfold big40 at hr hw
  have inner : ∀ (i : Nat) (hi : i < r.length), W_impl_Touches_5 (w, r[i], r, (r.length : Int), (i : Int), w, (w.length : Int), 0) = some (bif w.any (fun y => inR r[i] y.1) then .inr true else .inl (w, r, (r.length : Int), (i : Int))) := fun i hi =>
    W_any W_impl_Touches_5 w (fun j => (w, r[i], r, (r.length : Int), (i : Int), w, (w.length : Int), j)) (fun y => inR r[i] y.1) _ _ (by
      rw [w_impl_Touches_5]; simp only [S_impl_Touches_5, lt_cast, Nat.lt_irrefl, decide_false, cond_false]) (fun j hj => by
      rw [w_impl_Touches_5]; simp only [S_impl_Touches_5, lt_cast, hj, decide_true, cond_true, gIdx_nat hi, gIdx_nat hj, Int.toNat_natCast, rdL_get hi, rdL_get hj, InRange_impl, Option.bind_some]
      rw [wrap_succ (by omega)])
  have outer := W_any W_impl_Touches_2 r (fun i => (w, r, (r.length : Int), i)) (fun x => w.any fun y => inR x y.1) (.inr true) (.inl ()) (by
      rw [w_impl_Touches_2]; simp only [S_impl_Touches_2, lt_cast, Nat.lt_irrefl, decide_false, cond_false]) (fun i hi => by
      rw [w_impl_Touches_2]; simp only [S_impl_Touches_2, lt_cast, hi, decide_true, cond_true, gIdx_nat hi, Int.toNat_natCast, rdL_get hi, inner i hi, Option.bind_some]
      have ws := wrap_succ (i := i) (by omega)
      cases w.any fun y => inR r[i] y.1 <;> simp only [cond_true, cond_false, ws])
  rw [e_impl_Touches]; unfold X_impl_Touches
  simp only [outer, Option.bind_some]
  unfold touches
  cases r.any fun x => w.any fun y => inR x y.1 <;> rfl

theorem Meets_impl (r w : List YWrite.den) (hr : r.length ≤ big40) (hw : w.length ≤ big40) : q_impl_Meets (r, w) = some (meets r w) := by
  unfold big40 at hr hw
  have inner : ∀ (i : Nat) (hi : i < r.length), W_impl_Meets_5 (w, r[i], r, (r.length : Int), (i : Int), w, (w.length : Int), 0) = some (bif w.any (fun y => strEq r[i].1 y.1) then .inr true else .inl (w, r, (r.length : Int), (i : Int))) := fun i hi =>
    W_any W_impl_Meets_5 w (fun j => (w, r[i], r, (r.length : Int), (i : Int), w, (w.length : Int), j)) (fun y => strEq r[i].1 y.1) _ _ (by
      rw [w_impl_Meets_5]; simp only [S_impl_Meets_5, lt_cast, Nat.lt_irrefl, decide_false, cond_false]) (fun j hj => by
      rw [w_impl_Meets_5]; simp only [S_impl_Meets_5, lt_cast, hj, decide_true, cond_true, gIdx_nat hi, gIdx_nat hj, Int.toNat_natCast, rdL_get hi, rdL_get hj, Option.bind_some]
      rw [wrap_succ (by omega)])
  have outer := W_any W_impl_Meets_2 r (fun i => (w, r, (r.length : Int), i)) (fun x => w.any fun y => strEq x.1 y.1) (.inr true) (.inl ()) (by
      rw [w_impl_Meets_2]; simp only [S_impl_Meets_2, lt_cast, Nat.lt_irrefl, decide_false, cond_false]) (fun i hi => by
      rw [w_impl_Meets_2]; simp only [S_impl_Meets_2, lt_cast, hi, decide_true, cond_true, gIdx_nat hi, Int.toNat_natCast, rdL_get hi, inner i hi, Option.bind_some]
      have ws := wrap_succ (i := i) (by omega)
      cases w.any fun y => strEq r[i].1 y.1 <;> simp only [cond_true, cond_false, ws])
  rw [e_impl_Meets]; unfold X_impl_Meets
  simp only [outer, Option.bind_some]
  unfold meets
  cases r.any fun x => w.any fun y => strEq x.1 y.1 <;> rfl

/-! ### Who must come before whom -/
def before (a b : YTxn.den) : Bool :=
  decide (a.2.1 = 3) && decide (b.2.1 = 3) && !decide (a.1 = b.1) &&
  (decide (a.2.2.2.1 ≤ b.2.2.1) && touches b.2.2.2.2.1 a.2.2.2.2.2.1 || decide (a.2.2.2.1 < b.2.2.2.1) && meets a.2.2.2.2.2.1 b.2.2.2.2.2.1 || decide (b.2.2.2.1 > a.2.2.1) && touches a.2.2.2.2.1 b.2.2.2.2.2.1)

theorem wt_reads {a : YTxn.den} : a.2.2.2.2.1.length ≤ YTxn.wt a := by simp only [Ty.wt]; omega
theorem wt_writes {a : YTxn.den} : a.2.2.2.2.2.1.length ≤ YTxn.wt a := by simp only [Ty.wt]; omega

theorem isDone_impl (a : YTxn.den) : q_impl_isDone a = some (decide (a.2.1 = 3)) := by
  rw [e_impl_isDone]; rfl

theorem Before_spec (a b : YTxn.den) (ha : YTxn.wt a ≤ big40) (hb : YTxn.wt b ≤ big40) : q_spec_Before (a, b) = some (before a b) := by
  have t1 := Touches_spec b.2.2.2.2.1 a.2.2.2.2.2.1 (Nat.le_trans wt_reads hb) (Nat.le_trans wt_writes ha)
  have t2 := Touches_spec a.2.2.2.2.1 b.2.2.2.2.2.1 (Nat.le_trans wt_reads ha) (Nat.le_trans wt_writes hb)
  have t3 := Meets_spec a.2.2.2.2.2.1 b.2.2.2.2.2.1 (Nat.le_trans wt_writes ha) (Nat.le_trans wt_writes hb)
  rw [e_spec_Before]; unfold X_spec_Before
  simp only [t1, t2, t3, Option.bind_some]
  unfold before
  generalize touches b.2.2.2.2.1 a.2.2.2.2.2.1 = u1
  generalize touches a.2.2.2.2.1 b.2.2.2.2.2.1 = u2
  generalize meets a.2.2.2.2.2.1 b.2.2.2.2.2.1 = u3
  cases decide (a.1 = b.1) <;> cases decide (a.2.1 = 3) <;> cases decide (b.2.1 = 3) <;> cases decide (a.2.2.2.1 ≤ b.2.2.1) <;> cases decide (a.2.2.2.1 < b.2.2.2.1) <;> cases decide (b.2.2.2.1 > a.2.2.1) <;> cases u1 <;> cases u2 <;> cases u3 <;> rfl

theorem Before_impl (a b : YTxn.den) (ha : YTxn.wt a ≤ big40) (hb : YTxn.wt b ≤ big40) : q_impl_Before (a, b) = some (before a b) := by
  have t1 := Touches_impl b.2.2.2.2.1 a.2.2.2.2.2.1 (Nat.le_trans wt_reads hb) (Nat.le_trans wt_writes ha)
  have t2 := Touches_impl a.2.2.2.2.1 b.2.2.2.2.2.1 (Nat.le_trans wt_reads ha) (Nat.le_trans wt_writes hb)
  have t3 := Meets_impl a.2.2.2.2.2.1 b.2.2.2.2.2.1 (Nat.le_trans wt_writes ha) (Nat.le_trans wt_writes hb)
  rw [e_impl_Before]; unfold X_impl_Before
  simp only [t1, t2, t3, isDone_impl, Option.bind_some]
  unfold before
  generalize touches b.2.2.2.2.1 a.2.2.2.2.2.1 = u1
  generalize touches a.2.2.2.2.1 b.2.2.2.2.2.1 = u2
  generalize meets a.2.2.2.2.2.1 b.2.2.2.2.2.1 = u3
  cases decide (a.1 = b.1) <;> cases decide (a.2.1 = 3) <;> cases decide (b.2.1 = 3) <;> cases decide (a.2.2.2.1 ≤ b.2.2.1) <;> cases decide (a.2.2.2.1 < b.2.2.2.1) <;> cases decide (b.2.2.2.1 > a.2.2.1) <;> cases u1 <;> cases u2 <;> cases u3 <;> rfl

end Go.Proofs.Ythhpkgegmfjdmaa.Ab
