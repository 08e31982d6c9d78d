import Derived.Test.YthhpkgegmfjdmaaAbVQ
import Derived.Test.YthhpkgegmfjdmaaAbVP
namespace Go.Proofs.Ythhpkgegmfjdmaa.Ab
open Go
set_option linter.unusedVariables false
set_option linter.unusedSimpArgs false
set_option linter.unnecessarySimpa false
set_option linter.unusedSimpArgs false
set_option linter.unusedVariables false

abbrev PastR := ((List YVersion.den × List YTxn.den × List YTxn.den × Int × Int × List YTxn.den × List ByteArray × List YPut.den × List YTxn.den × List Int × List ByteArray) × List PrT) ⊕ Bool
def pastBad (l : List YTxn.den) (i : Nat) (t : YTxn.den) : Bool := !decide (t.2.1 = 3) || (decide (0 < i) && decide ((rdL YTxn l (i - 1)).2.2.2.1 ≥ t.2.2.2.1))
def pastF (l : List YTxn.den) (i : Nat) (t : YTxn.den) (m : List PrT) : List PrT ⊕ PastR := if pastBad l i t = true then .inr (.inr false) else .inl (playOne m t.2.2.2.2.2.1)
def pastFin (w : YWorld.den) (m : List PrT) : PastR := .inl ((w.1.1.1.1, w.1.1.1.2.1, w.1.1.1.2.2.1, w.1.1.1.2.2.2.1, w.1.1.1.2.2.2.2, w.1.1.2, w.1.2.1, w.1.2.2, w.2.1, w.2.2.1, w.2.2.2), m)
def pastIt (w : YWorld.den) : PastR := iter (pastF w.2.1) (pastFin w) 0 w.2.1 []

theorem take_sum {α : Type} (f : α → Nat) (l : List α) (i : Nat) (h : i < l.length) : ((l.take (i + 1)).map f).sum = ((l.take i).map f).sum + f l[i] := by
  rw [List.take_succ_eq_append_getElem h, List.map_append, List.sum_append]
  simp
theorem take_sum_le {α : Type} (f : α → Nat) (l : List α) (i : Nat) : ((l.take i).map f).sum ≤ (l.map f).sum := by
  conv => rhs; rw [← List.take_append_drop i l]
  rw [List.map_append, List.sum_append]
  omega

theorem txn_writes_wt (t : YTxn.den) : (Ty.sl YWrite).wt t.2.2.2.2.2.1 ≤ YTxn.wt t := by
  simp only [Ty.wt]
  omega

theorem past_P (l : List YTxn.den) (h : (l.map YTxn.wt).sum ≤ 100000000000) {i : Nat} (hi : i < l.length) {m : List PrT} (hm : (Ty.sl YCell).wt m ≤ ((l.take i).map YTxn.wt).sum) :
    (Ty.sl YCell).wt (playOne m l[i].2.2.2.2.2.1) ≤ ((l.take (i + 1)).map YTxn.wt).sum ∧ m.length + l[i].2.2.2.2.2.1.length ≤ 400000000000 := by
  have h1 := playOne_wt l[i].2.2.2.2.2.1 m
  have h2 := txn_writes_wt l[i]
  have h3 := take_sum YTxn.wt l i hi
  have h4 := take_sum_le YTxn.wt l (i + 1)
  have h5 := wt_len (t := YCell) (l := m)
  have h6 := wt_len (t := YWrite) (l := l[i].2.2.2.2.2.1)
  exact ⟨by omega, by omega⟩

theorem past_spec (w : YWorld.den) (h : (w.2.1.map YTxn.wt).sum ≤ 100000000000) (hl : w.2.1.length ≤ 100000000000) : W_spec_PastRight_3 (w, [], 0) = some (pastIt w) := by
  refine W_iter W_spec_PastRight_3 w.2.1 (fun a i => (w, a, i)) (pastF w.2.1) (pastFin w) (fun i m => (Ty.sl YCell).wt m ≤ ((w.2.1.take i).map YTxn.wt).sum)
    (fun a _ => by rw [w_spec_PastRight_3]; simp only [S_spec_PastRight_3, lt_cast, Nat.lt_irrefl, decide_false, cond_false]; rfl)
    (fun i hi m hm => ?_) [] (by simp [Ty.wt])
  obtain ⟨p1, p2⟩ := past_P w.2.1 h hi hm
  have hw : W_spec_PastRight_3 (w, m, (i : Int)) = if pastBad w.2.1 i w.2.1[i] = true then some (.inr false) else W_spec_PastRight_3 (w, playOne m w.2.1[i].2.2.2.2.2.1, ((i + 1 : Nat) : Int)) := by
    rw [w_spec_PastRight_3]
    simp only [S_spec_PastRight_3, lt_cast, hi, decide_true, cond_true, gIdx_nat hi, Int.toNat_natCast, rdL_get (t := YTxn) hi, PlayOne_spec m w.2.1[i] p2, Option.bind_some]
    rw [wrap_succ (by omega)]
    unfold pastBad
    by_cases h1 : w.2.1[i].2.1 = 3
    · by_cases h2 : 0 < i
      · have e1 : IntKind.i64.wrap ((i : Int) - 1) = ((i - 1 : Nat) : Int) := by rw [wrap64 (by omega) (by omega)]; omega
        have h3 : decide ((i : Int) > 0) = true := by simp; omega
        simp only [h1, h2, h3, e1, decide_true, Bool.not_true, cond_true, cond_false, gIdx_nat (show i - 1 < w.2.1.length by omega), Int.toNat_natCast, Option.bind_some, Bool.false_or, Bool.true_and]
        cases decide ((rdL YTxn w.2.1 (i - 1)).2.2.2.1 ≥ w.2.1[i].2.2.2.1) <;> simp
      · have h3 : decide ((i : Int) > 0) = false := by simp; omega
        simp [h1, h2, h3]
    · simp [h1]
  unfold pastF
  by_cases hb : pastBad w.2.1 i w.2.1[i] = true
  · rw [if_pos hb] at hw ⊢; exact hw
  · rw [if_neg hb] at hw ⊢; exact ⟨p1, hw⟩

theorem past_impl (w : YWorld.den) (h : (w.2.1.map YTxn.wt).sum ≤ 100000000000) (hl : w.2.1.length ≤ 100000000000) : W_impl_PastRight_3 (w, [], w.2.1, (w.2.1.length : Int), 0) = some (pastIt w) := by
  refine W_iter W_impl_PastRight_3 w.2.1 (fun a i => (w, a, w.2.1, (w.2.1.length : Int), i)) (pastF w.2.1) (pastFin w) (fun i m => (Ty.sl YCell).wt m ≤ ((w.2.1.take i).map YTxn.wt).sum)
    (fun a _ => by rw [w_impl_PastRight_3]; simp only [S_impl_PastRight_3, lt_cast, Nat.lt_irrefl, decide_false, cond_false]; rfl)
    (fun i hi m hm => ?_) [] (by simp [Ty.wt])
  obtain ⟨p1, p2⟩ := past_P w.2.1 h hi hm
  have hw : W_impl_PastRight_3 (w, m, w.2.1, (w.2.1.length : Int), (i : Int)) = if pastBad w.2.1 i w.2.1[i] = true then some (.inr false) else W_impl_PastRight_3 (w, playOne m w.2.1[i].2.2.2.2.2.1, w.2.1, (w.2.1.length : Int), ((i + 1 : Nat) : Int)) := by
    rw [w_impl_PastRight_3]
    simp only [S_impl_PastRight_3, lt_cast, hi, decide_true, cond_true, gIdx_nat hi, Int.toNat_natCast, rdL_get (t := YTxn) hi, PlayOne_impl m w.2.1[i] p2, e_impl_isDone, X_impl_isDone, Option.bind_some]
    rw [wrap_succ (by omega)]
    unfold pastBad
    by_cases h1 : w.2.1[i].2.1 = 3
    · by_cases h2 : 0 < i
      · have e1 : IntKind.i64.wrap ((i : Int) - 1) = ((i - 1 : Nat) : Int) := by rw [wrap64 (by omega) (by omega)]; omega
        have h3 : decide ((i : Int) > 0) = true := by simp; omega
        simp only [h1, h2, h3, e1, decide_true, Bool.not_true, cond_true, cond_false, gIdx_nat (show i - 1 < w.2.1.length by omega), Int.toNat_natCast, Option.bind_some, Bool.false_or, Bool.true_and]
        cases decide ((rdL YTxn w.2.1 (i - 1)).2.2.2.1 ≥ w.2.1[i].2.2.2.1) <;> simp
      · have h3 : decide ((i : Int) > 0) = false := by simp; omega
        simp [h1, h2, h3]
    · simp [h1]
  unfold pastF
  by_cases hb : pastBad w.2.1 i w.2.1[i] = true
  · rw [if_pos hb] at hw ⊢; exact hw
  · rw [if_neg hb] at hw ⊢; exact ⟨p1, hw⟩

/-- What a run over all leaves: nothing, or the cells, which are few. -/
theorem past_cases (w : YWorld.den) (h : (w.2.1.map YTxn.wt).sum ≤ 100000000000) : pastIt w = .inr false ∨ ∃ m : List PrT, pastIt w = pastFin w m ∧ m.length ≤ 100000000000 := by
  have key : ∀ (d i : Nat) (m : List PrT), i + d = w.2.1.length → (Ty.sl YCell).wt m ≤ ((w.2.1.take i).map YTxn.wt).sum →
      iter (pastF w.2.1) (pastFin w) i (w.2.1.drop i) m = .inr false ∨ ∃ m' : List PrT, iter (pastF w.2.1) (pastFin w) i (w.2.1.drop i) m = pastFin w m' ∧ m'.length ≤ 100000000000 := by
    intro d
    induction d with
    | zero =>
      intro i m hi hm
      rw [List.drop_eq_nil_of_le (by omega)]
      refine .inr ⟨m, rfl, ?_⟩
      have := wt_len (t := YCell) (l := m)
      have := take_sum_le YTxn.wt w.2.1 i
      omega
    | succ d ih =>
      intro i m hi hm
      have hlt : i < w.2.1.length := by omega
      rw [List.drop_eq_getElem_cons hlt]
      simp only [iter]
      unfold pastF
      by_cases hb : pastBad w.2.1 i w.2.1[i] = true
      · rw [if_pos hb]; exact .inl rfl
      · rw [if_neg hb]
        exact ih (i + 1) _ (by omega) (past_P w.2.1 h hlt hm).1
  have := key w.2.1.length 0 [] (by omega) (by simp [Ty.wt])
  simpa [pastIt] using this

def allR : ByteArray × ByteArray := (⟨#[97]⟩, ⟨#[122, 122, 122]⟩)
def pastRight (w : YWorld.den) : Bool := match pastIt w with
  | .inl o => decide (viewOf o.2 allR = scanAt w.1.1.1.1 allR w.1.1.1.2.2.2.1)
  | .inr b => b

theorem PastRight_both (w : YWorld.den) (h : YWorld.wt w ≤ 10000000) : q_spec_PastRight w = some (pastRight w) ∧ q_impl_PastRight w = some (pastRight w) := by
  have hw : YWorld.wt w = YStore.wt w.1 + ((Ty.sl YTxn).wt w.2.1 + ((Ty.sl (Ty.int .i64)).wt w.2.2.1 + (Ty.sl Ty.str).wt w.2.2.2)) := rfl
  have hp : (Ty.sl YTxn).wt w.2.1 = w.2.1.length + (w.2.1.map YTxn.wt).sum := rfl
  have h1 : (w.2.1.map YTxn.wt).sum ≤ 100000000000 := by omega
  have h2 : w.2.1.length ≤ 100000000000 := by omega
  have hv : w.1.1.1.1.length ≤ 10000000 := by
    have k1 : YStore.wt w.1 = (((Ty.sl YVersion).wt w.1.1.1.1 + ((Ty.sl YTxn).wt w.1.1.1.2.1 + ((Ty.sl YTxn).wt w.1.1.1.2.2.1 + (0 + 0)))) + (Ty.sl YTxn).wt w.1.1.2) + YDisk.wt w.1.2 := rfl
    have k2 := wt_len (t := YVersion) (l := w.1.1.1.1)
    omega
  rw [e_spec_PastRight, e_impl_PastRight]
  unfold X_spec_PastRight X_impl_PastRight pastRight
  simp only [past_spec w h1 h2, past_impl w h1 h2, Option.bind_some, e_spec_l06All, X_spec_l06All, e_impl_allKeys, X_impl_allKeys]
  rcases past_cases w h1 with q | ⟨m, q, hm⟩
  · rw [q]; exact ⟨rfl, rfl⟩
  · rw [q]
    have hml : (viewOf m allR).length ≤ 1099511627776 := Nat.le_trans (List.length_filter_le _ _) (by omega)
    have hall : ((⟨#[97]⟩ : ByteArray), (⟨#[122, 122, 122]⟩ : ByteArray)) = allR := rfl
    simp only [pastFin, hall, ViewOf_spec m allR (by omega), ViewOf_impl m allR (by omega), ScanAt_spec w.1.1.1.1 allR _ (show w.1.1.1.1.length ≤ 500000000000 by omega), ScanAt_impl w.1.1.1.1 allR _ (show w.1.1.1.1.length ≤ 500000000000 by omega), Option.bind_some,
      Pairs_spec (viewOf m allR) _ hml, Pairs_impl (viewOf m allR) _ hml, and_self]

theorem law_FnExactPastRight (x : YWorld.den) (hx : YWorld.fine x) : q_laws_FnExactPastRight x = some true := by
  rw [e_laws_FnExactPastRight]; unfold X_laws_FnExactPastRight
  refine szr_law (sz_World x _ hx (by omega) (by omega)) (fun c1 => ?_)
  have wx : YWorld.wt x ≤ 1099511627776 := by omega
  obtain ⟨p1, p2⟩ := PastRight_both x (by omega)
  simp only [to_World x wx, p1, p2, eq_World x wx, Option.bind_some, beq_self_eq_true, Bool.not_true, cond_false]

end Go.Proofs.Ythhpkgegmfjdmaa.Ab
