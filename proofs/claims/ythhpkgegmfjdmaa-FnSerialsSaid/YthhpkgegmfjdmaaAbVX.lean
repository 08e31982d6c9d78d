import Derived.Test.YthhpkgegmfjdmaaAbVN
namespace Go.Proofs.Ythhpkgegmfjdmaa.Ab
open Go
set_option linter.unusedVariables false
set_option linter.unusedSimpArgs false
set_option linter.unnecessarySimpa false
set_option linter.unusedSimpArgs false
set_option linter.unusedVariables false

/-! ### More draws -/
theorem strI_len (l : List Int) : (strI l).size = l.length := by
  simp [strI, ByteArray.size]

theorem Long_ok (n : Nat) (b : Int) (hn : n ≤ 1000000) : ∃ t, q_spec_l01Long ((n : Int), b) = some t ∧ t.size = n := by
  have key : ∀ (r i : Nat) (a : List Int), a.length = n → i + r = n → ∃ a' : List Int, W_spec_l01Long_3 ((n : Int), b, a, (i : Int)) = some (.inl a') ∧ a'.length = n := by
    intro r
    induction r with
    | zero =>
      intro i a ha hi
      have : i = n := by omega
      subst this
      rw [w_spec_l01Long_3]
      simp only [S_spec_l01Long_3, lt_cast, Nat.lt_irrefl, decide_false, cond_false]
      exact ⟨a, rfl, ha⟩
    | succ r ih =>
      intro i a ha hi
      have hlt : i < n := by omega
      rw [w_spec_l01Long_3]
      simp only [S_spec_l01Long_3, lt_cast, hlt, decide_true, cond_true, gIdx_nat (show i < a.length by omega)]
      rw [wrap_succ (by omega)]
      exact ih (i + 1) _ (by simp [ha]) (by omega)
  obtain ⟨a', e1, h1⟩ := key n 0 (List.replicate n (Ty.int .u8).zero) (by simp) (by omega)
  have e1 : W_spec_l01Long_3 ((n : Int), b, List.replicate n (Ty.int .u8).zero, 0) = _ := e1
  have hc : (decide (0 ≤ (n : Int)) && decide ((n : Int) ≤ 1099511627776)) = true := by simp; omega
  rw [e_spec_l01Long]; unfold X_spec_l01Long
  rw [hc, cond_true]
  simp only [Int.toNat_natCast, e1, Option.bind_some]
  exact ⟨_, rfl, by rw [strI_len]; exact h1⟩

def midW (w : YWrite.den) : Prop := w.1.size ≤ 4 ∧ w.2.1.size ≤ 13

theorem Any_dr {s : Src} (h : s.ok) : Dr (q_spec_l05Any s) midW := by
  rw [e_spec_l05Any]; unfold X_spec_l05Any
  obtain ⟨w, s1, e1, k1, r1⟩ := Write_dr h
  obtain ⟨y2, s2, e2, k2, r2⟩ := Below_dr k1 (n := 8) (by omega)
  simp only [e1, e2, Option.bind_some]
  by_cases c0 : y2 = 0
  · obtain ⟨y3, s3, e3, k3, r3⟩ := Pick_dr k2 (l := [(⟨#[]⟩ : ByteArray), (⟨#[65]⟩ : ByteArray), (⟨#[97, 98, 99, 100]⟩ : ByteArray), (⟨#[97, 98, 99]⟩ : ByteArray)]) (by decide)
    simp only [c0, decide_true, cond_true, e3, Option.bind_some]
    have hz : y3.size ≤ 4 := by
      simp only [List.mem_cons, List.not_mem_nil, or_false] at r3
      rcases r3 with rfl | rfl | rfl | rfl <;> decide
    exact ⟨_, _, rfl, k3, hz, by show w.2.1.size ≤ 13; omega⟩
  · simp only [c0, decide_false, cond_false]
    by_cases c1 : y2 = 1
    · obtain ⟨y4, s4, e4, k4, r4⟩ := Below_dr k2 (n := 2) (by omega)
      have hw : IntKind.i64.wrap (12 + y4) = (((12 + y4).toNat : Nat) : Int) := by rw [wrap64 (by omega) (by omega)]; omega
      obtain ⟨t, e5, h5⟩ := Long_ok (12 + y4).toNat 97 (by omega)
      simp only [c1, decide_true, cond_true, e4, Option.bind_some, hw, e5]
      exact ⟨_, _, rfl, k4, by show w.1.size ≤ 4; omega, by show t.size ≤ 13; omega⟩
    · simp only [c1, decide_false, cond_false]
      by_cases c2 : y2 = 2
      · simp only [c2, decide_true, cond_true]
        exact ⟨_, _, rfl, k2, by show w.1.size ≤ 4; omega, by show w.2.1.size ≤ 13; omega⟩
      · simp only [c2, decide_false, cond_false]
        exact ⟨_, _, rfl, k2, by show w.1.size ≤ 4; omega, by show w.2.1.size ≤ 13; omega⟩

def midTx (n : Nat) (t : YTxn.den) : Prop := t.2.2.2.2.1.length ≤ n ∧ (∀ r ∈ t.2.2.2.2.1, r.1.size ≤ 2 ∧ r.2.size ≤ 2) ∧ t.2.2.2.2.2.1.length ≤ n ∧ (∀ r ∈ t.2.2.2.2.2.1, midW r) ∧ t.2.2.2.2.2.2.2.size ≤ 16

theorem midTx.wt {n : Nat} (hn : n ≤ 1000000) {t : YTxn.den} (h : midTx n t) : YTxn.wt t ≤ big40 := by
  obtain ⟨h1, h2, h3, h4, h5⟩ := h
  have a1 := sum_le (l := t.2.2.2.2.1) (f := (Ty.pair .str .str).wt) (k := 4) (fun x hx => by have := h2 x hx; simp only [Ty.wt]; omega)
  have a2 := sum_le (l := t.2.2.2.2.2.1) (f := (Ty.pair .str (.pair .str .bool)).wt) (k := 17) (fun x hx => by have := h4 x hx; unfold midW at this; simp only [Ty.wt]; omega)
  have hw : YTxn.wt t = 0 + (0 + (0 + (0 + ((t.2.2.2.2.1.length + (t.2.2.2.2.1.map (Ty.pair .str .str).wt).sum) + ((t.2.2.2.2.2.1.length + (t.2.2.2.2.2.1.map (Ty.pair .str (.pair .str .bool)).wt).sum) + (0 + t.2.2.2.2.2.2.2.size)))))) := rfl
  rw [hw]
  unfold big40
  omega

theorem Txn_dr {s : Src} (h : s.ok) : Dr (q_spec_l07Txn s) (midTx 3) := by
  rw [e_spec_l07Txn]; unfold X_spec_l07Txn
  obtain ⟨y1, s1, e1, k1, r1⟩ := Below_dr h (n := 6) (by omega)
  obtain ⟨y2, s2, e2, k2, r2⟩ := Below_dr k1 (n := 3) (by omega)
  obtain ⟨y3, s3, e3, k3, r3⟩ := Below_dr k2 (n := 6) (by omega)
  obtain ⟨y4, s4, e4, k4, r4⟩ := Ranges_dr k3
  obtain ⟨y5, s5, e5, k5, r5⟩ := Writes_dr k4
  have hw : ∀ r ∈ y5, midW r := fun r hr => by have := r5.2.1 r hr; exact ⟨by omega, by omega⟩
  simp only [e1, e2, e3, e4, e5, Option.bind_some]
  cases decide (IntKind.i64.wrap (1 + y2) = 2) with
  | true =>
    obtain ⟨y6, s6, e6, k6, r6⟩ := Key_dr k5
    obtain ⟨y7, s7, e7, k7, r7⟩ := Once_dr k6 (n := 2) (by omega)
    simp only [cond_true, e6, e7, Option.bind_some]
    exact ⟨_, _, rfl, k7, r4.1, r4.2, r5.1, hw, by show y6.size ≤ 16; omega⟩
  | false =>
    simp only [cond_false]
    cases decide (IntKind.i64.wrap (1 + y2) = 3) with
    | true =>
      obtain ⟨y8, s8, e8, k8, r8⟩ := Below_dr k5 (n := 4) (by omega)
      obtain ⟨y9, s9, e9, k9, r9⟩ := Once_dr k8 (n := 2) (by omega)
      simp only [cond_true, e8, e9, Option.bind_some]
      exact ⟨_, _, rfl, k9, r4.1, r4.2, r5.1, hw, by show ByteArray.size ⟨#[]⟩ ≤ 16; decide⟩
    | false =>
      exact ⟨_, _, rfl, k5, r4.1, r4.2, r5.1, hw, by show ByteArray.size ⟨#[]⟩ ≤ 16; decide⟩

theorem Copy_tx (t : YTxn.den) (h1 : t.2.2.2.2.1.length ≤ 1000000) (h2 : t.2.2.2.2.2.1.length ≤ 1000000) : q_spec_l07Copy t = some t := by
  rw [e_spec_l07Copy]; unfold X_spec_l07Copy
  simp only [List.length_nil, Nat.zero_add, List.nil_append, ble_cap (show t.2.2.2.2.1.length ≤ 1099511627776 by omega), ble_cap (show t.2.2.2.2.2.1.length ≤ 1099511627776 by omega), cond_true]

theorem gIdx_tmod {y : Int} (h : 0 ≤ y) : gIdx (Int.tmod y 3) 3 = true := by
  have := tmod_rng h (n := 3) (by omega)
  exact gIdx_iff.mpr ⟨this.1, by simpa using this.2⟩

theorem TxAny_dr {s : Src} (h : s.ok) : Dr (q_spec_l07Any s) (midTx 4) := by
  rw [e_spec_l07Any]; unfold X_spec_l07Any
  obtain ⟨y1, s1, e1, k1, r1⟩ := Below_dr h (n := 12) (by omega)
  obtain ⟨y2, s2, e2, k2, r2⟩ := Below_dr k1 (n := 60) (by omega)
  obtain ⟨t, s3, e3, k3, m1, m2, m3, m4, m5⟩ := Txn_dr k2
  have hc := Copy_tx t (by omega) (by omega)
  have hi := gIdx_tmod r2.1
  simp only [e1, e2, e3, hc, Option.bind_some, List.length_cons, List.length_nil, Nat.zero_add, Nat.reduceAdd, hi, cond_true]
  have base : midTx 4 t := ⟨by omega, m2, by omega, m4, m5⟩
  obtain ⟨b1, b2, b3, b4, b5⟩ := base
  cases decide (y1 = 0) with
  | true => exact ⟨_, _, rfl, k3, b1, b2, b3, b4, b5⟩
  | false =>
    simp only [cond_false]
    cases decide (y1 = 1) with
    | true => exact ⟨_, _, rfl, k3, b1, b2, b3, b4, b5⟩
    | false =>
      simp only [cond_false]
      cases decide (y1 = 2) with
      | true => exact ⟨_, _, rfl, k3, b1, b2, b3, b4, b5⟩
      | false =>
        simp only [cond_false]
        cases decide (y1 = 3) with
        | true =>
          refine ⟨_, _, rfl, k3, b1, b2, b3, b4, ?_⟩
          show (rdL Ty.str _ _).size ≤ 16
          have hr := tmod_rng r2.1 (n := 3) (by omega)
          have : (Int.tmod y2 3).toNat = 0 ∨ (Int.tmod y2 3).toNat = 1 ∨ (Int.tmod y2 3).toNat = 2 := by omega
          rcases this with q | q | q <;> rw [q] <;> decide
        | false =>
          simp only [cond_false]
          cases decide (y1 = 4) with
          | true =>
            simp only [cond_true, ble_cap (show t.2.2.2.2.1.length + 1 ≤ 1099511627776 by omega)]
            refine ⟨_, _, rfl, k3, by show (t.2.2.2.2.1 ++ [_]).length ≤ 4; simp; omega, ?_, b3, b4, b5⟩
            intro r hr
            rcases List.mem_append.mp hr with q | q
            · exact b2 r q
            · simp only [List.mem_singleton] at q
              subst q
              exact ⟨by decide, by decide⟩
          | false =>
            simp only [cond_false]
            cases decide (y1 = 5) with
            | true =>
              obtain ⟨w, s4, e4, k4, r4⟩ := Any_dr k3
              simp only [cond_true, e4, Option.bind_some, ble_cap (show t.2.2.2.2.2.1.length + 1 ≤ 1099511627776 by omega)]
              refine ⟨_, _, rfl, k4, b1, b2, by show (t.2.2.2.2.2.1 ++ [_]).length ≤ 4; simp; omega, ?_, b5⟩
              intro r hr
              rcases List.mem_append.mp hr with q | q
              · exact b4 r q
              · simp only [List.mem_singleton] at q
                subst q
                exact r4
            | false =>
              simp only [cond_false]
              cases decide (y1 = 6) with
              | true => exact ⟨_, _, rfl, k3, b1, b2, b3, b4, b5⟩
              | false => exact ⟨_, _, rfl, k3, b1, b2, b3, b4, b5⟩

theorem DrawBefore_ok {l : List Int} (hl : l.length ≤ 1048576) : ∃ a b, q_spec_DrawBefore l = some (a, b) ∧ YTxn.wt a ≤ big40 ∧ YTxn.wt b ≤ big40 := by
  rw [e_spec_DrawBefore]; unfold X_spec_DrawBefore
  obtain ⟨s, e1, k1⟩ := New_dr hl
  obtain ⟨y, s1, e2, k2, r⟩ := List14_dr k1
  simp only [e1, e2, Option.bind_some]
  by_cases hlt : (y.length : Int) < 2
  · simp only [hlt, decide_true, cond_true]
    rw [e_spec_l08Pair]; unfold X_spec_l08Pair
    obtain ⟨a, s3, e3, k3, r3⟩ := TxAny_dr k1
    obtain ⟨b, s4, e4, k4, r4⟩ := TxAny_dr k3
    simp only [e1, e3, e4, Option.bind_some]
    exact ⟨_, _, rfl, r3.wt (by omega), r4.wt (by omega)⟩
  · have h0 : 0 < y.length := by omega
    have hw : IntKind.i64.wrap ((y.length : Int) - 1) = ((y.length - 1 : Nat) : Int) := by rw [wrap64 (by omega) (by omega)]; omega
    have g0 : gIdx 0 y.length = true := gIdx_nat (i := 0) h0
    have h1 : y.length - 1 < y.length := by omega
    simp only [hlt, decide_false, cond_false, g0, cond_true, hw, gIdx_nat h1, Int.toNat_natCast, rdL_get (t := YTxn) h1, Int.toNat_zero, rdL_get (t := YTxn) h0]
    exact ⟨_, _, rfl, (r.2.1 _ (List.getElem_mem h0)).wt, (r.2.1 _ (List.getElem_mem h1)).wt⟩

theorem Cells_dr {s : Src} (h : s.ok) : Dr (q_spec_l14Cells s) (fun y => y.length ≤ 1000) := by
  have key : ∀ (d i : Nat) (s : Src) (a : List PrT), s.ok → a.length ≤ 3 * i → 4 ≤ i + d → i ≤ 3 →
      ∃ (s' : Src) (a' : List PrT), W_spec_l14Cells_3 (s, a, (i : Int)) = some (.inl (s', a')) ∧ s'.ok ∧ a'.length ≤ 1000 := by
    intro d
    induction d with
    | zero => intro i s a _ _ h1 h2; omega
    | succ d ih =>
      intro i s a hs ha hd hi
      obtain ⟨y, s1, e1, k1, r1⟩ := Below_dr hs (n := 4) (by omega)
      rw [w_spec_l14Cells_3]
      simp only [S_spec_l14Cells_3, e1, Option.bind_some]
      by_cases hy : (i : Int) < y
      · obtain ⟨y2, s2, e2, k2, r2⟩ := Writes_dr k1
        simp only [hy, decide_true, cond_true, e2, Option.bind_some, PlayOne_spec a (0, 0, 0, 0, [], y2, false, ⟨#[]⟩) (show a.length + y2.length ≤ 400000000000 by omega)]
        rw [wrap_succ (by omega)]
        have := playOne_len a y2
        exact ih (i + 1) s2 _ k2 (by show (playOne a y2).length ≤ _; omega) (by omega) (by omega)
      · simp only [hy, decide_false, cond_false]
        exact ⟨_, _, rfl, k1, by omega⟩
  obtain ⟨s', a', e1, k1, r1⟩ := key 4 0 s [] h (by simp) (by omega) (by omega)
  rw [e_spec_l14Cells]; unfold X_spec_l14Cells
  have e1 : W_spec_l14Cells_3 (s, [], 0) = _ := e1
  simp only [e1, Option.bind_some]
  exact ⟨_, _, rfl, k1, r1⟩

theorem DrawPlayOne_ok {l : List Int} (hl : l.length ≤ 1048576) : ∃ (m : List PrT) (t : YTxn.den), q_spec_DrawPlayOne l = some (m, t) ∧ m.length ≤ 1000 ∧ t.2.2.2.2.2.1.length ≤ 3 := by
  rw [e_spec_DrawPlayOne]; unfold X_spec_DrawPlayOne
  obtain ⟨s, e1, k1⟩ := New_dr hl
  obtain ⟨t, s2, e2, k2, r2⟩ := Txn_dr k1
  obtain ⟨m, s3, e3, k3, r3⟩ := Cells_dr k2
  simp only [e1, e2, e3, Option.bind_some]
  exact ⟨_, _, rfl, r3, r2.2.2.1⟩

theorem DrawViewOf_ok {l : List Int} (hl : l.length ≤ 1048576) : ∃ (m : List PrT) (r : YRange.den), q_spec_DrawViewOf l = some (m, r) ∧ m.length ≤ 1000 := by
  rw [e_spec_DrawViewOf]; unfold X_spec_DrawViewOf
  obtain ⟨s, e1, k1⟩ := New_dr hl
  obtain ⟨t, s2, e2, k2, r2⟩ := Range_dr k1
  obtain ⟨m, s3, e3, k3, r3⟩ := Cells_dr k2
  simp only [e1, e2, e3, Option.bind_some]
  exact ⟨_, _, rfl, r3⟩

end Go.Proofs.Ythhpkgegmfjdmaa.Ab
