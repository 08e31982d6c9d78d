import Derived.Test.YthhpkgegmfjdmaaAbVU
import Derived.Test.YthhpkgegmfjdmaaAbVO
import Derived.Test.YthhpkgegmfjdmaaAbVP
namespace Go.Proofs.Ythhpkgegmfjdmaa.Ab
open Go
set_option linter.unusedVariables false
set_option linter.unusedSimpArgs false
set_option linter.unnecessarySimpa false
set_option linter.unusedSimpArgs false
set_option linter.unusedVariables false

/-! ### A list played in its order -/
def vsStep (a : List VerT) (t : YTxn.den) : List VerT := putVs a t.2.2.2.2.2.1 t.2.2.2.1
def vsOf (l : List YTxn.den) : List VerT := l.foldl vsStep []
def readBad (vs : List VerT) (m : List PrT) (t : YTxn.den) : Bool := t.2.2.2.2.1.any fun r => !decide (viewOf m r = scanAt vs r t.2.2.1)
def playF (l : List YTxn.den) (vs : List VerT) (i : Nat) (x : Int) (m : List PrT) : List PrT ⊕ (Unit ⊕ Bool) :=
  if readBad vs m (rdL YTxn l x.toNat) = true then .inr (.inr false) else .inl (playOne m (rdL YTxn l x.toNat).2.2.2.2.2.1)
def playIt (l : List YTxn.den) (u : List Nat) : Unit ⊕ Bool := iter (playF l (vsOf l)) (fun _ => .inl ()) 0 (asInts u) []
def srOf (l : List YTxn.den) : Bool := match ordOf l with
  | none => false
  | some u => match playIt l u with
    | .inl _ => true
    | .inr b => b

def wsSum (l : List YTxn.den) : Nat := (l.map fun t => t.2.2.2.2.2.1.length).sum

theorem vs_len : ∀ (l : List YTxn.den) (a : List VerT), (l.foldl vsStep a).length = a.length + wsSum l
  | [], a => rfl
  | t :: l, a => by
    rw [List.foldl_cons, vs_len l]
    unfold vsStep
    rw [putVs_len]
    simp only [wsSum, List.map_cons, List.sum_cons]
    omega

theorem amgm (a b : Nat) (h : a + b ≤ 1048576) : a * b ≤ 274877906944 := by
  have key : 4 * (a * b) ≤ (a + b) * (a + b) := by
    rcases Nat.le_total a b with q | q
    · obtain ⟨d, rfl⟩ := Nat.exists_eq_add_of_le q
      simp only [Nat.mul_add, Nat.add_mul]
      have e : d * a = a * d := Nat.mul_comm d a
      have : 0 ≤ d * d := Nat.zero_le _
      omega
    · obtain ⟨d, rfl⟩ := Nat.exists_eq_add_of_le q
      simp only [Nat.mul_add, Nat.add_mul]
      have e : d * b = b * d := Nat.mul_comm d b
      have : 0 ≤ d * d := Nat.zero_le _
      omega
  have := Nat.mul_le_mul h h
  omega

theorem playOne_len (m : List PrT) (ws : List YWrite.den) : (playOne m ws).length ≤ m.length + ws.length := by
  induction ws generalizing m with
  | nil => exact Nat.le_refl _
  | cons w ws ih =>
    have h := ih (putC m w)
    have h2 := putC_len m w
    unfold playOne at h ⊢
    rw [List.foldl_cons]
    simp only [List.length_cons]
    omega

theorem ws_le {l : List YTxn.den} {i : Nat} (h : i < l.length) : l[i].2.2.2.2.2.1.length ≤ wsSum l := by
  unfold wsSum
  induction l generalizing i with
  | nil => exact absurd h (Nat.not_lt_zero i)
  | cons t l ih =>
    simp only [List.map_cons, List.sum_cons]
    cases i with
    | zero => simp
    | succ i =>
      have := ih (i := i) (by simpa using h)
      simp only [List.getElem_cons_succ]
      omega

section
variable {l : List YTxn.den} (hw : ∀ x ∈ l, YTxn.wt x ≤ big40) (hl : l.length + wsSum l ≤ 1048576) (hr : ∀ x ∈ l, x.2.2.2.2.1.length ≤ 1048576)
include hl

theorem Versions_spec : q_spec_l14Versions l = some (vsOf l) := by
  have L := W_fold W_spec_l14Versions_3 l (fun a i => (l, a, i)) vsStep (fun a => .inl a) (fun i a => a.length = wsSum (l.take i) )
    (fun a _ => by rw [w_spec_l14Versions_3]; simp only [S_spec_l14Versions_3, lt_cast, Nat.lt_irrefl, decide_false, cond_false])
    (fun i hi a ha => by
      have h1 := ws_le hi
      have h2 : wsSum (l.take (i + 1)) = wsSum (l.take i) + l[i].2.2.2.2.2.1.length := by
        unfold wsSum
        rw [List.take_succ_eq_append_getElem hi, List.map_append, List.sum_append]
        simp
      have h3 : wsSum (l.take i) ≤ wsSum l := by
        unfold wsSum
        conv => rhs; rw [← List.take_append_drop i l]
        rw [List.map_append, List.sum_append]
        omega
      rw [w_spec_l14Versions_3]
      simp only [S_spec_l14Versions_3, lt_cast, hi, decide_true, cond_true, gIdx_nat hi, Int.toNat_natCast, rdL_get (t := YTxn) hi, PutVersions_spec a l[i].2.2.2.2.2.1 l[i].2.2.2.1 (by omega), Option.bind_some]
      rw [wrap_succ (by omega)]
      refine ⟨?_, rfl⟩
      unfold vsStep
      rw [putVs_len]
      omega) [] (by simp [wsSum])
  rw [e_spec_l14Versions]; unfold X_spec_l14Versions
  simp only [L, Option.bind_some]
  rfl

theorem Versions_impl (t : List Int) : W_impl_SerialRight_6 (l, t, [], l, (l.length : Int), 0) = some (.inl (l, t, vsOf l)) :=
  W_fold W_impl_SerialRight_6 l (fun a i => (l, t, a, l, (l.length : Int), i)) vsStep (fun a => .inl (l, t, a)) (fun i a => a.length = wsSum (l.take i))
    (fun a _ => by rw [w_impl_SerialRight_6]; simp only [S_impl_SerialRight_6, lt_cast, Nat.lt_irrefl, decide_false, cond_false])
    (fun i hi a ha => by
      have h1 := ws_le hi
      have h2 : wsSum (l.take (i + 1)) = wsSum (l.take i) + l[i].2.2.2.2.2.1.length := by
        unfold wsSum
        rw [List.take_succ_eq_append_getElem hi, List.map_append, List.sum_append]
        simp
      have h3 : wsSum (l.take i) ≤ wsSum l := by
        unfold wsSum
        conv => rhs; rw [← List.take_append_drop i l]
        rw [List.map_append, List.sum_append]
        omega
      rw [w_impl_SerialRight_6]
      simp only [S_impl_SerialRight_6, lt_cast, hi, decide_true, cond_true, gIdx_nat hi, Int.toNat_natCast, rdL_get (t := YTxn) hi, PutVersions_impl a l[i].2.2.2.2.2.1 l[i].2.2.2.1 (by omega), Option.bind_some]
      rw [wrap_succ (by omega)]
      refine ⟨?_, rfl⟩
      unfold vsStep
      rw [putVs_len]
      omega) [] (by simp [wsSum])

theorem vsOf_len : (vsOf l).length ≤ 1048576 := by
  unfold vsOf
  rw [vs_len]
  simp
  omega

theorem play_bound {u : List Nat} (hu : u.length = l.length) {i : Nat} (hi : i < u.length) {m : List PrT} (hm : m.length ≤ i * wsSum l) {k : Nat} (hk : k < l.length) :
    m.length ≤ 300000000000 ∧ m.length + l[k].2.2.2.2.2.1.length ≤ 400000000000 ∧ (playOne m l[k].2.2.2.2.2.1).length ≤ (i + 1) * wsSum l := by
  have h1 := ws_le hk
  have h2 := amgm i (wsSum l) (by omega)
  have h3 := playOne_len m l[k].2.2.2.2.2.1
  rw [Nat.succ_mul]
  exact ⟨by omega, by omega, by omega⟩

include hr
theorem play_spec {u : List Nat} (hu : u.length = l.length) (hin : ∀ i ∈ u, i < l.length) : W_spec_SerialRight_7 (l, asInts u, vsOf l, [], 0) = some (playIt l u) := by
  have hv := vsOf_len hl
  refine W_iter W_spec_SerialRight_7 (asInts u) (fun a i => (l, asInts u, vsOf l, a, i)) (playF l (vsOf l)) (fun _ => .inl ()) (fun i m => m.length ≤ i * wsSum l)
    (fun a _ => by rw [w_spec_SerialRight_7]; simp only [S_spec_SerialRight_7, lt_cast, Nat.lt_irrefl, decide_false, cond_false])
    (fun i hi m hm => ?_) [] (by simp)
  rw [asInts_len] at hi
  have hx : (asInts u)[i]'(by rw [asInts_len]; exact hi) = (u[i] : Int) := by simp [asInts]
  have hk : u[i] < l.length := hin _ (List.getElem_mem hi)
  obtain ⟨p1, p2, p3⟩ := play_bound hl hu hi hm hk
  have hrr := hr _ (List.getElem_mem hk)
  have inner : W_spec_SerialRight_11 (l, asInts u, vsOf l, m, (i : Int), l[u[i]], 0) = some (bif readBad (vsOf l) m l[u[i]] then .inr false else .inl (l, asInts u, vsOf l, m, (i : Int), l[u[i]])) :=
    W_any W_spec_SerialRight_11 l[u[i]].2.2.2.2.1 (fun j => (l, asInts u, vsOf l, m, (i : Int), l[u[i]], j)) (fun r => !decide (viewOf m r = scanAt (vsOf l) r l[u[i]].2.2.1)) (.inr false) (.inl (l, asInts u, vsOf l, m, (i : Int), l[u[i]]))
      (by rw [w_spec_SerialRight_11]; simp only [S_spec_SerialRight_11, lt_cast, Nat.lt_irrefl, decide_false, cond_false])
      (fun j hj => by
        have hvl : (viewOf m l[u[i]].2.2.2.2.1[j]).length ≤ 1099511627776 := Nat.le_trans (List.length_filter_le _ _) (by omega)
        rw [w_spec_SerialRight_11]
        simp only [S_spec_SerialRight_11, lt_cast, hj, decide_true, cond_true, gIdx_nat hj, Int.toNat_natCast, rdL_get (t := YRange) hj, ViewOf_spec m _ (show m.length ≤ 1099511627775 by omega), ScanAt_spec (vsOf l) _ _ (show (vsOf l).length ≤ 500000000000 by omega), Option.bind_some, Pairs_spec _ _ hvl]
        rw [wrap_succ (by omega)])
  have hg : gIdx (i : Int) (asInts u).length = true := by rw [asInts_len]; exact gIdx_nat hi
  have hlt : decide ((i : Int) < ((asInts u).length : Int)) = true := by rw [asInts_len]; simpa using hi
  have hrd : rdL (Ty.int .i64) (asInts u) i = (u[i] : Int) := by
    rw [rdL_get (t := Ty.int .i64) (by rw [asInts_len]; exact hi)]
    exact hx
  have hstep : W_spec_SerialRight_7 (l, asInts u, vsOf l, m, (i : Int)) = bif readBad (vsOf l) m l[u[i]] then some (.inr false) else W_spec_SerialRight_7 (l, asInts u, vsOf l, playOne m l[u[i]].2.2.2.2.2.1, ((i + 1 : Nat) : Int)) := by
    rw [w_spec_SerialRight_7]
    simp only [S_spec_SerialRight_7, hlt, cond_true, hg, Int.toNat_natCast, hrd, gIdx_nat hk, rdL_get (t := YTxn) hk, inner, Option.bind_some]
    cases readBad (vsOf l) m l[u[i]] with
    | true => rfl
    | false =>
      simp only [cond_false, PlayOne_spec m l[u[i]] p2, Option.bind_some]
      rw [wrap_succ (by omega)]
  unfold playF
  simp only [hx, Int.toNat_natCast, rdL_get (t := YTxn) hk]
  rw [hstep]
  cases readBad (vsOf l) m l[u[i]] with
  | true => rfl
  | false => exact ⟨p3, rfl⟩

theorem play_impl {u : List Nat} (hu : u.length = l.length) (hin : ∀ i ∈ u, i < l.length) : W_impl_SerialRight_12 (l, vsOf l, [], asInts u, ((asInts u).length : Int), 0) = some (playIt l u) := by
  have hv := vsOf_len hl
  refine W_iter W_impl_SerialRight_12 (asInts u) (fun a i => (l, vsOf l, a, asInts u, ((asInts u).length : Int), i)) (playF l (vsOf l)) (fun _ => .inl ()) (fun i m => m.length ≤ i * wsSum l)
    (fun a _ => by rw [w_impl_SerialRight_12]; simp only [S_impl_SerialRight_12, lt_cast, Nat.lt_irrefl, decide_false, cond_false])
    (fun i hi m hm => ?_) [] (by simp)
  rw [asInts_len] at hi
  have hx : (asInts u)[i]'(by rw [asInts_len]; exact hi) = (u[i] : Int) := by simp [asInts]
  have hk : u[i] < l.length := hin _ (List.getElem_mem hi)
  obtain ⟨p1, p2, p3⟩ := play_bound hl hu hi hm hk
  have hrr := hr _ (List.getElem_mem hk)
  have inner : W_impl_SerialRight_16 (l, vsOf l, m, l[u[i]], asInts u, ((asInts u).length : Int), (i : Int), l[u[i]].2.2.2.2.1, (l[u[i]].2.2.2.2.1.length : Int), 0) = some (bif readBad (vsOf l) m l[u[i]] then .inr false else .inl (l, vsOf l, m, l[u[i]], asInts u, ((asInts u).length : Int), (i : Int))) :=
    W_any W_impl_SerialRight_16 l[u[i]].2.2.2.2.1 (fun j => (l, vsOf l, m, l[u[i]], asInts u, ((asInts u).length : Int), (i : Int), l[u[i]].2.2.2.2.1, (l[u[i]].2.2.2.2.1.length : Int), j)) (fun r => !decide (viewOf m r = scanAt (vsOf l) r l[u[i]].2.2.1)) (.inr false) (.inl (l, vsOf l, m, l[u[i]], asInts u, ((asInts u).length : Int), (i : Int)))
      (by rw [w_impl_SerialRight_16]; simp only [S_impl_SerialRight_16, lt_cast, Nat.lt_irrefl, decide_false, cond_false])
      (fun j hj => by
        have hvl : (viewOf m l[u[i]].2.2.2.2.1[j]).length ≤ 1099511627776 := Nat.le_trans (List.length_filter_le _ _) (by omega)
        rw [w_impl_SerialRight_16]
        simp only [S_impl_SerialRight_16, lt_cast, hj, decide_true, cond_true, gIdx_nat hj, Int.toNat_natCast, rdL_get (t := YRange) hj, ViewOf_impl m _ (show m.length ≤ 1099511627775 by omega), ScanAt_impl (vsOf l) _ _ (show (vsOf l).length ≤ 500000000000 by omega), Option.bind_some, Pairs_impl _ _ hvl]
        rw [wrap_succ (by omega)])
  have hg : gIdx (i : Int) (asInts u).length = true := by rw [asInts_len]; exact gIdx_nat hi
  have hlt : decide ((i : Int) < ((asInts u).length : Int)) = true := by rw [asInts_len]; simpa using hi
  have hrd : rdL (Ty.int .i64) (asInts u) i = (u[i] : Int) := by
    rw [rdL_get (t := Ty.int .i64) (by rw [asInts_len]; exact hi)]
    exact hx
  have hstep : W_impl_SerialRight_12 (l, vsOf l, m, asInts u, ((asInts u).length : Int), (i : Int)) = bif readBad (vsOf l) m l[u[i]] then some (.inr false) else W_impl_SerialRight_12 (l, vsOf l, playOne m l[u[i]].2.2.2.2.2.1, asInts u, ((asInts u).length : Int), ((i + 1 : Nat) : Int)) := by
    rw [w_impl_SerialRight_12]
    simp only [S_impl_SerialRight_12, hlt, cond_true, hg, Int.toNat_natCast, hrd, gIdx_nat hk, rdL_get (t := YTxn) hk, inner, Option.bind_some]
    cases readBad (vsOf l) m l[u[i]] with
    | true => rfl
    | false =>
      simp only [cond_false, PlayOne_impl m l[u[i]] p2, Option.bind_some]
      rw [wrap_succ (by omega)]
  unfold playF
  simp only [hx, Int.toNat_natCast, rdL_get (t := YTxn) hk]
  rw [hstep]
  cases readBad (vsOf l) m l[u[i]] with
  | true => rfl
  | false => exact ⟨p3, rfl⟩

include hw
theorem SerialRight_spec : q_spec_SerialRight l = some (srOf l) := by
  rw [e_spec_SerialRight]; unfold X_spec_SerialRight
  simp only [SerialOrder_spec hw (show l.length ≤ 1048576 by omega), Option.bind_some, Versions_spec hl]
  unfold srOf
  cases ho : ordOf l with
  | none => rfl
  | some u =>
    obtain ⟨g1, g2, _, _⟩ := ordOf_good ho
    simp only [ordRes, Bool.not_true, cond_false, play_spec hl hr g1 g2, Option.bind_some]
    cases playIt l u <;> rfl

theorem SerialRight_impl : q_impl_SerialRight l = some (srOf l) := by
  rw [e_impl_SerialRight]; unfold X_impl_SerialRight
  simp only [SerialOrder_impl hw (show l.length ≤ 1048576 by omega), Option.bind_some]
  unfold srOf
  cases ho : ordOf l with
  | none => rfl
  | some u =>
    obtain ⟨g1, g2, _, _⟩ := ordOf_good ho
    simp only [ordRes, Bool.not_true, cond_false, Versions_impl hl, Option.bind_some, play_impl hl hr g1 g2]
    cases playIt l u <;> rfl
end

end Go.Proofs.Ythhpkgegmfjdmaa.Ab
