import Derived.Test.YthhpkgegmfjdmaaGreatAbVM2
namespace Go.Proofs.YthhpkgegmfjdmaaGreat.Ab
open Go
set_option linter.unusedVariables false
set_option linter.unusedSimpArgs false
set_option linter.unnecessarySimpa false
set_option linter.unusedSimpArgs false
set_option linter.unusedVariables false

def doneOf (b : BaseT) (t : YTxn.den) : YTxn.den := (t.1, (3 : Int), t.2.2.1, IntKind.i64.wrap (b.2.2.2.1 + 1), t.2.2.2.2.1, t.2.2.2.2.2.1, (t.2.2.2.2.2.2.1 || outOf t b.2.1), (⟨#[]⟩ : ByteArray))
def throughI (b : BaseT) (t : YTxn.den) : BaseT :=
  (putVs b.1 t.2.2.2.2.2.1 (IntKind.i64.wrap (b.2.2.2.1 + 1)), b.2.1 ++ [doneOf b t], (b.2.2.1.filter fun x => !decide (x.1 = t.1)).map (flag (doneOf b t)), IntKind.i64.wrap (b.2.2.2.1 + 1), imax b.2.2.2.2 (IntKind.i64.wrap (t.1 + 1)))

theorem Through_impl (b : BaseT) (t : YTxn.den) (hb : fewB b) (ht : fewT t) : q_impl_Through (b, t) = some (throughI b t) := by
  have h1 := CopyB_impl b hb
  have h2 := Copy_impl t ht
  have h3 := PutVersions_impl b.1 t.2.2.2.2.2.1 (IntKind.i64.wrap (b.2.2.2.1 + 1)) (by have := hb.1; have := ht.2; omega)
  have h4 := Delete_thr b.2.2.1 t (by have := hb.2.2.1; omega)
  have h5 := OutOf_impl t b.2.1 ht hb.2.1
  have hf : fewL (b.2.2.1.filter fun x => !decide (x.1 = t.1)) := ⟨Nat.le_trans (filter_le _ _) hb.2.2.1, fun x hx => hb.2.2.2 x (List.mem_filter.mp hx).1⟩
  have hp := hb.2.1.1
  have hc : ∀ d : YTxn.den, Nat.ble (b.2.1.length + ([d] : List YTxn.den).length) cap40 = true := fun d => ble_cap (by simp; omega)
  rw [e_impl_Through]; unfold X_impl_Through throughI doneOf
  simp only [h1, h2, h3, h4, h5, Option.bind_some]
  cases ho : t.2.2.2.2.2.2.1 with
  | true =>
    have hd : fewT ((t.1, (3 : Int), t.2.2.1, IntKind.i64.wrap (b.2.2.2.1 + 1), t.2.2.2.2.1, t.2.2.2.2.2.1, true, (⟨#[]⟩ : ByteArray)) : YTxn.den) := ht
    have L := Thr_loop t ([], [], [], 0, 0) (putVs b.1 t.2.2.2.2.2.1 (IntKind.i64.wrap (b.2.2.2.1 + 1))) b.2.1 (b.2.2.1.filter fun x => !decide (x.1 = t.1)) (IntKind.i64.wrap (b.2.2.2.1 + 1)) b.2.2.2.2 _ hf hd
    simp only [cond_true, L, Option.bind_some, hc, Bool.true_or]
  | false =>
    have hd : fewT ((t.1, (3 : Int), t.2.2.1, IntKind.i64.wrap (b.2.2.2.1 + 1), t.2.2.2.2.1, t.2.2.2.2.2.1, outOf t b.2.1, (⟨#[]⟩ : ByteArray)) : YTxn.den) := ht
    have L := Thr_loop t ([], [], [], 0, 0) (putVs b.1 t.2.2.2.2.2.1 (IntKind.i64.wrap (b.2.2.2.1 + 1))) b.2.1 (b.2.2.1.filter fun x => !decide (x.1 = t.1)) (IntKind.i64.wrap (b.2.2.2.1 + 1)) b.2.2.2.2 _ hf hd
    simp only [cond_false, cond_true, h5, Option.bind_some, L, hc, Bool.false_or]

end Go.Proofs.YthhpkgegmfjdmaaGreat.Ab
