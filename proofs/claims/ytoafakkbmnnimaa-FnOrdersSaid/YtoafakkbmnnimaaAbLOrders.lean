import Derived.Test.YtoafakkbmnnimaaAbR2
namespace Go.Proofs.Ytoafakkbmnnimaa.Ab
open Go
set_option linter.unusedVariables false
set_option linter.unusedSimpArgs false
set_option linter.unnecessarySimpa false
set_option linter.unusedSimpArgs false
set_option linter.unusedVariables false

theorem sameInts_self (u : List Int) (hu : u.length ≤ 1099511627776) : q_laws_sameInts (u, u) = some true := by
  have := W_nat W_laws_sameInts_4 u.length (fun (_ : Unit) i => (u, u, i)) (fun _ _ => .inl ()) (fun _ _ => True)
    (fun a _ => by
      rw [w_laws_sameInts_4]
      simp only [S_laws_sameInts_4, lt_cast, Nat.lt_irrefl, decide_false, cond_false])
    (fun i a h _ => .inr ⟨(), trivial, rfl, by
      rw [w_laws_sameInts_4]
      simp only [S_laws_sameInts_4, lt_cast, h, decide_true, cond_true, gIdx_nat h, Bool.not_true, cond_false]
      rw [wrap_succ (by omega)]⟩) 0 () (Nat.zero_le _) trivial
  have this : W_laws_sameInts_4 (u, u, 0) = _ := this
  rw [e_laws_sameInts]; unfold X_laws_sameInts
  simp only [decide_true, Bool.not_true, cond_false, this, Option.bind_some]

theorem law_FnOrders (x : List Int) (hx : (Ty.sl (.int .u8)).fine x) : q_laws_FnOrders x = some true := by
  rw [e_laws_FnOrders]; unfold X_laws_FnOrders
  rw [e_laws_big]; unfold X_laws_big
  simp only [Option.bind_some]
  by_cases hb : (x.length : Int) > 1048576
  · simp only [hb, decide_true, cond_true]
  · simp only [hb, decide_false, cond_false]
    obtain ⟨l, e1, h1, h2⟩ := DrawDones_ok (l := x) (by omega)
    have hw : ∀ t ∈ l, YTxn.wt t ≤ big40 := fun t ht => (h2 t ht).wt
    simp only [e1, Option.bind_some, SerialOrder_impl hw (by omega : l.length ≤ 1048576), SerialOrder_spec hw (by omega : l.length ≤ 1048576)]
    cases ho : ordOf l with
    | none =>
      have := ordOf_none ho
      have hg : decide ((l.length : Int) > 1) = true := by simp; omega
      simp only [ordRes, sameInts_self [] (by simp), Option.bind_some, hg]
      rfl
    | some u =>
      obtain ⟨k1, k2, k3, k4⟩ := ordOf_good ho
      have hi : ∀ i (h : i < u.length), rdL (Ty.int .i64) (asInts u) i = ((u[i] : Nat) : Int) := fun i h => by
        have h' : i < (asInts u).length := by simpa [asInts] using h
        rw [rdL_get (t := Ty.int .i64) h']; simp [asInts]
      have inner : ∀ i, i < u.length → W_laws_FnOrders_14 (l, asInts u, (i : Int), 0) = some (.inl (l, asInts u, (i : Int))) := fun i h =>
        W_nat W_laws_FnOrders_14 i (fun (_ : Unit) j => (l, asInts u, (i : Int), j)) (fun _ _ => .inl (l, asInts u, (i : Int))) (fun _ _ => True)
          (fun a _ => by
            rw [w_laws_FnOrders_14]
            simp only [S_laws_FnOrders_14, lt_cast, Nat.lt_irrefl, decide_false, cond_false])
          (fun j a hj _ => .inr ⟨(), trivial, rfl, by
            have hju : j < u.length := by omega
            have m1 := k2 u[i] (List.getElem_mem h)
            have m2 := k2 u[j] (List.getElem_mem hju)
            have hne : ¬ u[j] = u[i] := (List.pairwise_iff_getElem.mp k3) j i hju h hj
            have hne' : decide (((u[j] : Nat) : Int) = ((u[i] : Nat) : Int)) = false := by simp; omega
            have hb : q_impl_Before (l[u[i]], l[u[j]]) = some false := by
              rw [Before_impl _ _ (hw _ (List.getElem_mem m1)) (hw _ (List.getElem_mem m2))]
              have := k4 j i hj h
              unfold bfAt at this
              rw [rdL_get m1, rdL_get m2] at this
              rw [this]
            have g1 : gIdx (i : Int) (asInts u).length = true := gIdx_nat (by rw [asInts_len]; exact h)
            have g2 : gIdx (j : Int) (asInts u).length = true := gIdx_nat (by rw [asInts_len]; exact hju)
            rw [w_laws_FnOrders_14]
            simp only [S_laws_FnOrders_14, lt_cast, hj, decide_true, cond_true, g1, g2, Int.toNat_natCast, hi i h, hi j hju, hne', cond_false, gIdx_nat m1, gIdx_nat m2, rdL_get m1, rdL_get m2, hb, Option.bind_some]
            rw [wrap_succ (by omega)]⟩) 0 () (Nat.zero_le _) trivial
      have outer := W_nat W_laws_FnOrders_11 u.length (fun (_ : Unit) i => (l, asInts u, i)) (fun _ _ => .inl (l, asInts u)) (fun _ _ => True)
          (fun a _ => by
            rw [w_laws_FnOrders_11]
            simp only [S_laws_FnOrders_11, asInts_len, lt_cast, Nat.lt_irrefl, decide_false, cond_false])
          (fun i a h _ => .inr ⟨(), trivial, rfl, by
            rw [w_laws_FnOrders_11]
            simp only [S_laws_FnOrders_11, asInts_len, lt_cast, h, decide_true, cond_true, inner i h, Option.bind_some]
            rw [wrap_succ (by omega)]⟩) 0 () (Nat.zero_le _) trivial
      have outer : W_laws_FnOrders_11 (l, asInts u, 0) = _ := outer
      have hu : (asInts u).length ≤ 1099511627776 := by rw [asInts_len]; omega
      have hlen : decide (((asInts u).length : Int) = (l.length : Int)) = true := by rw [asInts_len]; simp; omega
      simp only [ordRes, sameInts_self _ hu, Option.bind_some, outer, hlen]
      rfl

end Go.Proofs.Ytoafakkbmnnimaa.Ab
