import Derived.Test.YthhpkgegmfjdmaaGreatAbVN1
namespace Go.Proofs.YthhpkgegmfjdmaaGreat.Ab
open Go
set_option linter.unusedVariables false
set_option linter.unusedSimpArgs false
set_option linter.unnecessarySimpa false
set_option linter.unusedSimpArgs false
set_option linter.unusedVariables false

def fullB (b : BaseT) : Bool := decide ((b.2.1.length : Int) ≥ 12) || (decide ((b.1.length : Int) > 100) || decide (b.2.2.2.1 ≥ 9999))
theorem full_spec (b : BaseT) : q_spec_l11Full b = some (fullB b) := by
  rw [e_spec_l11Full]; unfold X_spec_l11Full fullB
  cases decide ((b.2.1.length : Int) ≥ 12) <;> cases decide ((b.1.length : Int) > 100) <;> rfl
theorem full_impl (b : BaseT) : q_impl_full b = some (fullB b) := by
  rw [e_impl_full]; unfold X_impl_full fullB
  cases decide ((b.2.1.length : Int) ≥ 12) <;> cases decide ((b.1.length : Int) > 100) <;> rfl

theorem readyAt_ok (b : BaseT) {n : ByteArray} {i : Nat} (hi : i < b.2.2.1.length) (hn : b.2.2.1[i].2.2.2.2.2.2.2 = n) : ∃ k : Nat, k < b.2.2.1.length ∧ readyAt b n = (k : Int) := by
  have h : firstAt (fun x : YTxn.den => strEq x.2.2.2.2.2.2.2 n) b.2.2.1 < b.2.2.1.length := by
    rcases Nat.lt_or_ge (firstAt (fun x : YTxn.den => strEq x.2.2.2.2.2.2.2 n) b.2.2.1) b.2.2.1.length with q | q
    · exact q
    · have := firstAt_no (p := fun x : YTxn.den => strEq x.2.2.2.2.2.2.2 n) hi (by omega)
      rw [strEq_iff.mpr hn] at this
      cases this
  exact ⟨_, h, if_pos h⟩

end Go.Proofs.YthhpkgegmfjdmaaGreat.Ab
