import Derived.Test.YthhpkgegmfjdmaaGreatAbVN2
namespace Go.Proofs.YthhpkgegmfjdmaaGreat.Ab
open Go
set_option linter.unusedVariables false
set_option linter.unusedSimpArgs false
set_option linter.unnecessarySimpa false
set_option linter.unusedSimpArgs false
set_option linter.unusedVariables false

theorem CopyE_spec (b : BaseT) (o : List YTxn.den) (hb : fewB b) (ho : fewL o) : q_spec_l11Copy (b, o) = some (b, o) := by
  have h1 := CopyB_spec b hb
  have h2 := Copies_spec o ho
  rw [e_spec_l11Copy]; unfold X_spec_l11Copy
  simp only [h1, h2, Option.bind_some]
theorem CopyE_impl (b : BaseT) (o : List YTxn.den) (hb : fewB b) (ho : fewL o) : q_impl_copyEngine (b, o) = some (b, o) := by
  have h1 := CopyB_impl b hb
  have h2 := Copies_impl o ho
  rw [e_impl_copyEngine]; unfold X_impl_copyEngine
  simp only [h1, h2, Option.bind_some]

theorem Finish_spec (b : BaseT) (o : List YTxn.den) (n : ByteArray) (hb : smallB b) (ho : fewL o) {k : Nat} (hk : k < b.2.2.1.length) (hr : readyAt b n = (k : Int)) :
    ∃ e r code, q_spec_Finish ((b, o), n, true) = some (e, r, code) ∧ (code = (0 : Int) ∨ code = 3) := by
  have h1 := CopyE_spec b o hb.few ho
  have h2 := ReadyAt_spec b n (by have := hb.2.2.1; omega)
  have h3 := full_spec b
  have ht := hb.2.2.2 _ (List.getElem_mem hk)
  have h4 := Through_spec b b.2.2.1[k] hb.few ht
  have h5 := Tidied_spec (throughS b b.2.2.1[k]) o (throughS_few hb ht) ho.1
  have c1 : decide ((k : Int) < 0) = false := by simp
  rw [hr] at h2
  rw [e_spec_Finish]; unfold X_spec_Finish
  simp only [h1, h2, h3, Option.bind_some, c1, cond_false, cond_true]
  cases fullB b with
  | true => exact ⟨_, _, _, rfl, .inr rfl⟩
  | false =>
    simp only [cond_false, gIdx_nat hk, cond_true, Int.toNat_natCast, rdL_get (t := YTxn) hk, h4, h5, Option.bind_some]
    exact ⟨_, _, _, rfl, .inl rfl⟩

theorem Finish_impl (b : BaseT) (o : List YTxn.den) (n : ByteArray) (hb : smallB b) (ho : fewL o) {k : Nat} (hk : k < b.2.2.1.length) (hr : readyAt b n = (k : Int)) :
    ∃ e r code, q_impl_Finish ((b, o), n, true) = some (e, r, code) ∧ (code = (0 : Int) ∨ code = 3) := by
  have h1 := CopyE_impl b o hb.few ho
  have h2 := ReadyAt_impl b n (by have := hb.2.2.1; omega)
  have h3 := full_impl b
  have ht := hb.2.2.2 _ (List.getElem_mem hk)
  have h4 := Through_impl b b.2.2.1[k] hb.few ht
  have h5 := Tidied_impl (throughI b b.2.2.1[k]) o (throughI_few hb ht) ho.1
  have c1 : decide ((k : Int) < 0) = false := by simp
  rw [hr] at h2
  rw [e_impl_Finish]; unfold X_impl_Finish
  simp only [h1, h2, h3, Option.bind_some, c1, cond_false, cond_true]
  cases fullB b with
  | true => exact ⟨_, _, _, rfl, .inr rfl⟩
  | false =>
    simp only [cond_false, gIdx_nat hk, cond_true, Int.toNat_natCast, rdL_get (t := YTxn) hk, h4, h5, Option.bind_some]
    exact ⟨_, _, _, rfl, .inl rfl⟩

end Go.Proofs.YthhpkgegmfjdmaaGreat.Ab
