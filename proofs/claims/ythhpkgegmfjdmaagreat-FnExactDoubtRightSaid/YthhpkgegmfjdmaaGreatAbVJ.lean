import Derived.Test.YthhpkgegmfjdmaaGreatAbVI
namespace Go.Proofs.YthhpkgegmfjdmaaGreat.Ab
open Go
set_option linter.unusedVariables false
set_option linter.unusedSimpArgs false
set_option linter.unnecessarySimpa false
set_option linter.unusedSimpArgs false
set_option linter.unusedVariables false

/-! ### Tidied -/
def tidied (b : BaseT) (o : List YTxn.den) : BaseT := (trimmed b.1 (oldest b o), b.2.1.filter (fun x => !decide (x.2.2.2.1 ≤ oldest b o)), b.2.2)

theorem Tidied_impl (b : BaseT) (o : List YTxn.den) (hb : fewB b) (ho : o.length ≤ 4194304) : q_impl_Tidied (b, o) = some (tidied b o) := by
  have h1 := CopyB_impl b hb
  have h2 := Oldest_impl b o ho
  have h3 := Delete_tidy b.2.1 (oldest b o) (by have := hb.2.1.1; omega)
  have h4 := Trimmed_impl b.1 (oldest b o) (by have := hb.1; omega)
  rw [e_impl_Tidied]; unfold X_impl_Tidied tidied
  simp only [h1, h2, h3, h4, Option.bind_some]

theorem Tidied_spec (b : BaseT) (o : List YTxn.den) (hb : fewB b) (ho : o.length ≤ 4194304) : q_spec_Tidied (b, o) = some (tidied b o) := by
  have h1 := CopyB_spec b hb
  have h2 := Oldest_spec b o ho
  have h4 := Trimmed_spec b.1 (oldest b o) (by have := hb.1; omega)
  have hl := hb.2.1.1
  have L := W_pick W_spec_Tidied_5 b.2.1 (fun a i => (b, (([], [], [], 0, 0) : BaseT), (b.1, a, b.2.2), oldest b o, i)) (fun x => !decide (x.2.2.2.1 ≤ oldest b o)) (fun x => x) (fun a => .inl (b, (([], [], [], 0, 0) : BaseT), (b.1, a, b.2.2), oldest b o)) (by omega)
    (fun a _ => by rw [w_spec_Tidied_5]; simp only [S_spec_Tidied_5, lt_cast, Nat.lt_irrefl, decide_false, cond_false])
    (fun i hi a ha => by
      have hc := Copy_spec b.2.1[i] (hb.2.1.2 _ (List.getElem_mem hi))
      rw [w_spec_Tidied_5]
      simp only [S_spec_Tidied_5, lt_cast, hi, decide_true, cond_true, gIdx_nat hi, Int.toNat_natCast, rdL_get (t := YTxn) hi, hc, Option.bind_some, List.length_singleton, ble_cap (show a.length + 1 ≤ 1099511627776 by omega)]
      rw [wrap_succ (by omega)]
      by_cases h : b.2.1[i].2.2.2.1 ≤ oldest b o
      · have h' : ¬ b.2.1[i].2.2.2.1 > oldest b o := Int.not_lt.mpr h
        simp [h, h']
      · have h' : b.2.1[i].2.2.2.1 > oldest b o := Int.not_le.mp h
        simp [h, h'])
  rw [List.map_id'] at L
  rw [e_spec_Tidied]; unfold X_spec_Tidied tidied
  simp only [h1, h2, Option.bind_some, L, h4]

end Go.Proofs.YthhpkgegmfjdmaaGreat.Ab
