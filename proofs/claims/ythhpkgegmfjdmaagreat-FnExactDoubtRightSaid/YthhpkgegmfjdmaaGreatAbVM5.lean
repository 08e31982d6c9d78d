import Derived.Test.YthhpkgegmfjdmaaGreatAbVM4
namespace Go.Proofs.YthhpkgegmfjdmaaGreat.Ab
open Go
set_option linter.unusedVariables false
set_option linter.unusedSimpArgs false
set_option linter.unnecessarySimpa false
set_option linter.unusedSimpArgs false
set_option linter.unusedVariables false

theorem Through_spec (b : BaseT) (t : YTxn.den) (hb : fewB b) (ht : fewT t) : q_spec_Through (b, t) = some (throughS b t) := by
  have h1 := CopyB_spec b hb
  have h2 := Copy_spec t ht
  have h3 := PutVersions_spec b.1 t.2.2.2.2.2.1 (IntKind.i64.wrap (b.2.2.2.1 + 1)) (by have := hb.1; have := ht.2; omega)
  have h5 := OutOf_spec t b.2.1 ht hb.2.1
  have hp := hb.2.1.1
  have hc : ∀ d : YTxn.den, Nat.ble (b.2.1.length + ([d] : List YTxn.den).length) cap40 = true := fun d => ble_cap (by simp; omega)
  rw [e_spec_Through]; unfold X_spec_Through throughS throughI doneOf
  simp only [h1, h2, h3, h5, Option.bind_some]
  cases ho : t.2.2.2.2.2.2.1 with
  | true =>
    have hd : fewT ((t.1, (3 : Int), t.2.2.1, IntKind.i64.wrap (b.2.2.2.1 + 1), t.2.2.2.2.1, t.2.2.2.2.2.1, true, (⟨#[]⟩ : ByteArray)) : YTxn.den) := ht
    have L := fun p => ThrS_loop b t ([], [], [], 0, 0) (putVs b.1 t.2.2.2.2.2.1 (IntKind.i64.wrap (b.2.2.2.1 + 1))) p (IntKind.i64.wrap (b.2.2.2.1 + 1)) b.2.2.2.2 _ hb hd
    simp only [cond_true, L, Option.bind_some, hc, Bool.true_or]
    by_cases h : t.1 ≥ b.2.2.2.2 <;> simp [h]
  | false =>
    have hd : fewT ((t.1, (3 : Int), t.2.2.1, IntKind.i64.wrap (b.2.2.2.1 + 1), t.2.2.2.2.1, t.2.2.2.2.2.1, outOf t b.2.1, (⟨#[]⟩ : ByteArray)) : YTxn.den) := ht
    have L := fun p => ThrS_loop b t ([], [], [], 0, 0) (putVs b.1 t.2.2.2.2.2.1 (IntKind.i64.wrap (b.2.2.2.1 + 1))) p (IntKind.i64.wrap (b.2.2.2.1 + 1)) b.2.2.2.2 _ hb hd
    simp only [cond_false, cond_true, h5, Option.bind_some, L, hc, Bool.false_or]
    by_cases h : t.1 ≥ b.2.2.2.2 <;> simp [h]

end Go.Proofs.YthhpkgegmfjdmaaGreat.Ab
