import Derived.Test.YthhpkgegmfjdmaaGreatAbVM3
namespace Go.Proofs.YthhpkgegmfjdmaaGreat.Ab
open Go
set_option linter.unusedVariables false
set_option linter.unusedSimpArgs false
set_option linter.unnecessarySimpa false
set_option linter.unusedSimpArgs false
set_option linter.unusedVariables false

def throughS (b : BaseT) (t : YTxn.den) : BaseT :=
  ((throughI b t).1, (throughI b t).2.1, (throughI b t).2.2.1, (throughI b t).2.2.2.1, if t.1 ≥ b.2.2.2.2 then IntKind.i64.wrap (t.1 + 1) else b.2.2.2.2)

theorem ThrS_loop (b : BaseT) (t : YTxn.den) (b0 : BaseT) (v : List VerT) (p : List YTxn.den) (c n : Int) (d : YTxn.den) (hb : fewB b) (hd : fewT d) :
    W_spec_Through_12 (b, t, b0, (v, p, [], c, n), d, 0) = some (.inl (t, b0, (v, p, (b.2.2.1.filter fun x => !decide (x.1 = t.1)).map (flag d), c, n))) := by
  have hl := hb.2.2.1
  exact W_pick W_spec_Through_12 b.2.2.1 (fun a i => (b, t, b0, ((v, p, a, c, n) : BaseT), d, i)) (fun x => !decide (x.1 = t.1)) (flag d) (fun a => .inl (t, b0, ((v, p, a, c, n) : BaseT))) (by omega)
    (fun a _ => by rw [w_spec_Through_12]; simp only [S_spec_Through_12, lt_cast, Nat.lt_irrefl, decide_false, cond_false])
    (fun i hi a ha => by
      have h1 := Copy_spec b.2.2.1[i] (hb.2.2.2 _ (List.getElem_mem hi))
      have h2 := Ahead_spec b.2.2.1[i] d (few40 (hb.2.2.2 _ (List.getElem_mem hi)).1) (few40 hd.2)
      rw [w_spec_Through_12]
      simp only [S_spec_Through_12, lt_cast, hi, decide_true, cond_true, gIdx_nat hi, Int.toNat_natCast, rdL_get (t := YTxn) hi, h1, h2, Option.bind_some, List.length_singleton, ble_cap (show a.length + 1 ≤ 1099511627776 by omega)]
      rw [wrap_succ (by omega)]
      cases decide (b.2.2.1[i].1 = t.1) with
      | true => rfl
      | false =>
        simp only [cond_false, Bool.not_false, cond_true]
        unfold flag
        cases ahead b.2.2.1[i] d with
        | true => simp
        | false => simp)

end Go.Proofs.YthhpkgegmfjdmaaGreat.Ab
