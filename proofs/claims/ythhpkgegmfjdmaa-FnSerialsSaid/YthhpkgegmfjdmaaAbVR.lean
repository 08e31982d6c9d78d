import Derived.Test.YthhpkgegmfjdmaaAbH1
namespace Go.Proofs.Ythhpkgegmfjdmaa.Ab
open Go
set_option linter.unusedVariables false
set_option linter.unusedSimpArgs false
set_option linter.unnecessarySimpa false
set_option linter.unusedSimpArgs false
set_option linter.unusedVariables false

theorem ble_cap {n : Nat} (h : n ≤ 1099511627776) : Nat.ble n cap40 = true := Nat.ble_eq_true_of_le h

def inR (r : ByteArray × ByteArray) (k : ByteArray) : Bool := !strLt k r.1 && (strLt k r.2 || strEq k r.2)

theorem InRange_spec (r : ByteArray × ByteArray) (k : ByteArray) : q_spec_InRange (r, k) = some (inR r k) := by
  rw [e_spec_InRange]; unfold X_spec_InRange inR; cases strLt k r.1 <;> rfl
theorem InRange_impl (r : ByteArray × ByteArray) (k : ByteArray) : q_impl_InRange (r, k) = some (inR r k) := by
  rw [e_impl_InRange]; unfold X_impl_InRange inR; cases strLt k r.1 <;> rfl

def touches (r : List YRange.den) (w : List YWrite.den) : Bool := r.any fun x => w.any fun y => inR x y.1
def meets (a b : List YWrite.den) : Bool := a.any fun x => b.any fun y => strEq x.1 y.1


/-! ### What is in a range -/
def viewOf (m : List YCell.den) (r : YRange.den) : List YPair.den := m.filter fun c => inR r c.1

theorem ViewOf_spec (m : List YCell.den) (r : YRange.den) (hm : m.length ≤ 1099511627775) : q_spec_ViewOf (m, r) = some (viewOf m r) := by
  have L := W_pick W_spec_ViewOf_3 m (fun a i => (m, r, a, i)) (fun c => inR r c.1) (fun c => c) (fun a => .inl a) (by omega)
    (fun a _ => by rw [w_spec_ViewOf_3]; simp only [S_spec_ViewOf_3, lt_cast, Nat.lt_irrefl, decide_false, cond_false])
    (fun i hi a ha => by
      rw [w_spec_ViewOf_3]; simp only [S_spec_ViewOf_3, lt_cast, hi, decide_true, cond_true, gIdx_nat hi, Int.toNat_natCast, rdL_get hi, InRange_spec, Option.bind_some, List.length_singleton, ble_cap (show a.length + 1 ≤ 1099511627776 by omega)]
      rw [wrap_succ (by omega)])
  rw [List.map_id'] at L
  rw [e_spec_ViewOf]; unfold X_spec_ViewOf
  simp only [L, Option.bind_some]
  rfl

theorem ViewOf_impl (m : List YCell.den) (r : YRange.den) (hm : m.length ≤ 1099511627775) : q_impl_ViewOf (m, r) = some (viewOf m r) := by
  have L := W_pick W_impl_ViewOf_3 m (fun a i => (r, a, m, (m.length : Int), i)) (fun c => inR r c.1) (fun c => c) (fun a => .inl a) (by omega)
    (fun a _ => by rw [w_impl_ViewOf_3]; simp only [S_impl_ViewOf_3, lt_cast, Nat.lt_irrefl, decide_false, cond_false])
    (fun i hi a ha => by
      rw [w_impl_ViewOf_3]; simp only [S_impl_ViewOf_3, lt_cast, hi, decide_true, cond_true, gIdx_nat hi, Int.toNat_natCast, rdL_get hi, InRange_impl, Option.bind_some, List.length_singleton, ble_cap (show a.length + 1 ≤ 1099511627776 by omega)]
      rw [wrap_succ (by omega)])
  rw [List.map_id'] at L
  rw [e_impl_ViewOf]; unfold X_impl_ViewOf
  simp only [L, Option.bind_some]
  rfl


end Go.Proofs.Ythhpkgegmfjdmaa.Ab
