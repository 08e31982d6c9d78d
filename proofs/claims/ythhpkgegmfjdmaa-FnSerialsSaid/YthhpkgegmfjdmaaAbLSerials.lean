import Derived.Test.YthhpkgegmfjdmaaAbVX
namespace Go.Proofs.Ythhpkgegmfjdmaa.Ab
open Go
set_option linter.unusedVariables false
set_option linter.unusedSimpArgs false
set_option linter.unnecessarySimpa false
set_option linter.unusedSimpArgs false
set_option linter.unusedVariables false
set_option linter.unusedSectionVars false

theorem Pairs_law (a b : List PrT) (ha : a.length ≤ 1099511627776) : q_laws_samePairs (a, b) = some (decide (a = b)) := by
  rw [e_laws_samePairs]; unfold X_laws_samePairs
  by_cases h : a.length = b.length
  · have hz : (a.zip b).length = a.length := by simp [h]
    have L := W_any W_laws_samePairs_4 (a.zip b) (fun i => (a, b, i)) (fun p => !(strEq p.1.1 p.2.1 && (strEq p.1.2 p.2.2 && true))) (.inr false) (.inl ())
      (by rw [w_laws_samePairs_4, hz]; simp only [S_laws_samePairs_4, lt_cast, Nat.lt_irrefl, decide_false, cond_false])
      (fun i hi => by
        have hi1 : i < a.length := by omega
        have hi2 : i < b.length := by omega
        rw [w_laws_samePairs_4]; simp only [S_laws_samePairs_4, lt_cast, hi1, decide_true, cond_true, gIdx_nat hi1, gIdx_nat hi2, Int.toNat_natCast, rdL_get (t := YPair) hi1, rdL_get (t := YPair) hi2, List.getElem_zip]
        rw [wrap_succ (by omega)])
    have e1 : decide ((a.length : Int) = (b.length : Int)) = true := by simp [h]
    simp only [e1, Bool.not_true, cond_false, L, Option.bind_some]
    rw [← pairs_zip h]
    cases (a.zip b).any fun p => !(strEq p.1.1 p.2.1 && (strEq p.1.2 p.2.2 && true)) <;> rfl
  · have e1 : decide ((a.length : Int) = (b.length : Int)) = false := by simp; omega
    have e2 : decide (a = b) = false := by
      rw [decide_eq_false_iff_not]; intro e; exact h (by rw [e])
    rw [e1, e2]; rfl

theorem Cells_law (a b : List PrT) (ha : a.length ≤ 1099511627776) : q_laws_sameCells (a, b) = some (decide (a = b)) := by
  rw [e_laws_sameCells]; unfold X_laws_sameCells
  by_cases h : a.length = b.length
  · have hz : (a.zip b).length = a.length := by simp [h]
    have L := W_any W_laws_sameCells_4 (a.zip b) (fun i => (a, b, i)) (fun p => !(strEq p.1.1 p.2.1 && (strEq p.1.2 p.2.2 && true))) (.inr false) (.inl ())
      (by rw [w_laws_sameCells_4, hz]; simp only [S_laws_sameCells_4, lt_cast, Nat.lt_irrefl, decide_false, cond_false])
      (fun i hi => by
        have hi1 : i < a.length := by omega
        have hi2 : i < b.length := by omega
        rw [w_laws_sameCells_4]; simp only [S_laws_sameCells_4, lt_cast, hi1, decide_true, cond_true, gIdx_nat hi1, gIdx_nat hi2, Int.toNat_natCast, rdL_get (t := YCell) hi1, rdL_get (t := YCell) hi2, List.getElem_zip]
        rw [wrap_succ (by omega)])
    have e1 : decide ((a.length : Int) = (b.length : Int)) = true := by simp [h]
    simp only [e1, Bool.not_true, cond_false, L, Option.bind_some]
    rw [← pairs_zip h]
    cases (a.zip b).any fun p => !(strEq p.1.1 p.2.1 && (strEq p.1.2 p.2.2 && true)) <;> rfl
  · have e1 : decide ((a.length : Int) = (b.length : Int)) = false := by simp; omega
    have e2 : decide (a = b) = false := by
      rw [decide_eq_false_iff_not]; intro e; exact h (by rw [e])
    rw [e1, e2]; rfl

/-! ### One behind the other -/
def sqAt (l : List YTxn.den) (i : Nat) : YTxn.den := ((rdL YTxn l i).1, (rdL YTxn l i).2.1, (i : Int), ((i + 1 : Nat) : Int), (rdL YTxn l i).2.2.2.2)
def sqTo (l : List YTxn.den) (n : Nat) : List YTxn.den := (List.range n).map (sqAt l)
def sq (l : List YTxn.den) : List YTxn.den := sqTo l l.length

theorem sqTo_succ (l : List YTxn.den) (n : Nat) : sqTo l (n + 1) = sqTo l n ++ [sqAt l n] := by simp [sqTo, List.range_succ]
theorem sqTo_len (l : List YTxn.den) (n : Nat) : (sqTo l n).length = n := by simp [sqTo]
theorem sqTo_get {l : List YTxn.den} {n i : Nat} (h : i < (sqTo l n).length) : (sqTo l n)[i] = sqAt l i := by simp [sqTo]

theorem playL_len (P : List YTxn.den) : (playL P).length ≤ wsSum P := by
  have : ∀ (P : List YTxn.den) (m : List PrT), (P.foldl (fun m t => playOne m t.2.2.2.2.2.1) m).length ≤ m.length + wsSum P := by
    intro P
    induction P with
    | nil => intro m; simp [wsSum]
    | cons t P ih =>
      intro m
      have h1 := ih (playOne m t.2.2.2.2.2.1)
      have h2 := playOne_len m t.2.2.2.2.2.1
      simp only [List.foldl_cons, wsSum, List.map_cons, List.sum_cons] at h1 ⊢
      omega
  have := this P []
  simpa [playL] using this

section
variable {l : List YTxn.den} (h5 : l.length ≤ 5) (hs : ∀ t ∈ l, smallTx t) (hk : listOk l)
include h5 hs

theorem sq_small : ∀ t ∈ sq l, smallTx t := by
  intro t ht
  unfold sq sqTo at ht
  obtain ⟨i, hi, rfl⟩ := List.mem_map.mp ht
  have hi : i < l.length := by simpa using hi
  unfold sqAt
  rw [rdL_get (t := YTxn) hi]
  have := hs _ (List.getElem_mem hi)
  exact this

theorem sqTo_sum {n : Nat} (hn : n ≤ l.length) : wsSum (sqTo l n) ≤ 3 * n := by
  induction n with
  | zero => simp [sqTo, wsSum]
  | succ n ih =>
    have hi : n < l.length := by omega
    rw [sqTo_succ]
    have h1 := ih (by omega)
    have h2 := (hs _ (List.getElem_mem hi)).2.2.1
    have e : (sqAt l n).2.2.2.2.2.1 = l[n].2.2.2.2.2.1 := by unfold sqAt; rw [rdL_get (t := YTxn) hi]
    unfold wsSum at h1 ⊢
    rw [List.map_append, List.sum_append]
    simp only [List.map_cons, List.map_nil, List.sum_cons, List.sum_nil, e]
    omega

theorem loop_seq (x : List Int) : W_laws_FnSerials_7 (x, l, [], [], 0) = some (.inl (x, l, sq l, playL (sq l))) := by
  refine W_count W_laws_FnSerials_7 l.length (fun (a : List YTxn.den × List PrT) i => (x, l, a.1, a.2, i)) (fun i => (sqTo l i, playL (sqTo l i))) (.inl (x, l, sq l, playL (sq l)))
    (by rw [w_laws_FnSerials_7]; simp only [S_laws_FnSerials_7, lt_cast, Nat.lt_irrefl, decide_false, cond_false]; rfl)
    (fun i hi => ?_)
  have hp : (playL (sqTo l i)).length ≤ 3 * i := Nat.le_trans (playL_len _) (sqTo_sum h5 hs (by omega))
  have hw := (hs _ (List.getElem_mem hi)).2.2.1
  rw [w_laws_FnSerials_7]
  have hb : (sqTo l i).length + 1 ≤ 1099511627776 := by rw [sqTo_len]; omega
  have hP : ∀ (a b c d : Int), q_impl_PlayOne (playL (sqTo l i), a, b, c, d, (l[i].2.2.2.2 : List YRange.den × List YWrite.den × Bool × ByteArray)) = some (playOne (playL (sqTo l i)) l[i].2.2.2.2.2.1) := fun a b c d =>
    PlayOne_impl (playL (sqTo l i)) (a, b, c, d, l[i].2.2.2.2) (by show (playL (sqTo l i)).length + l[i].2.2.2.2.2.1.length ≤ 400000000000; omega)
  simp only [S_laws_FnSerials_7, lt_cast, hi, decide_true, cond_true, gIdx_nat hi, Int.toNat_natCast, rdL_get (t := YTxn) hi, List.length_singleton, ble_cap hb, hP, Option.bind_some]
  rw [wrap_succ (by omega), sqTo_succ, playL_snoc]
  have e : sqAt l i = (l[i].1, l[i].2.1, (i : Int), ((i + 1 : Nat) : Int), l[i].2.2.2.2) := by unfold sqAt; rw [rdL_get (t := YTxn) hi]
  rw [e]

theorem loop_vs {l0 : List YTxn.den} (a1 : List PrT) (a2 : List PrT) (a3 : YTxn.den) (a4 : List PrT) (a5 : YRange.den) (a6 a7 : YTxn.den) (h : l0.length + wsSum l0 ≤ 1048576) :
    W_laws_FnSerials_19 (l, l0, a1, a2, a3, a4, a5, a6, a7, [], 0) = some (.inl (l, l0, a1, a2, a3, a4, a5, a6, a7, vsOf l0)) :=
  W_fold W_laws_FnSerials_19 l0 (fun a i => (l, l0, a1, a2, a3, a4, a5, a6, a7, a, i)) vsStep (fun a => .inl (l, l0, a1, a2, a3, a4, a5, a6, a7, a)) (fun i a => a.length = wsSum (l0.take i))
    (fun a _ => by rw [w_laws_FnSerials_19]; simp only [S_laws_FnSerials_19, lt_cast, Nat.lt_irrefl, decide_false, cond_false])
    (fun i hi a ha => by
      have h1 := ws_le hi
      have h2 : wsSum (l0.take (i + 1)) = wsSum (l0.take i) + l0[i].2.2.2.2.2.1.length := by
        unfold wsSum
        rw [List.take_succ_eq_append_getElem hi, List.map_append, List.sum_append]
        simp
      have h3 : wsSum (l0.take i) ≤ wsSum l0 := by
        unfold wsSum
        conv => rhs; rw [← List.take_append_drop i l0]
        rw [List.map_append, List.sum_append]
        omega
      rw [w_laws_FnSerials_19]
      simp only [S_laws_FnSerials_19, lt_cast, hi, decide_true, cond_true, gIdx_nat hi, Int.toNat_natCast, rdL_get (t := YTxn) hi, PutVersions_spec a l0[i].2.2.2.2.2.1 l0[i].2.2.2.1 (by omega), Option.bind_some]
      rw [wrap_succ (by omega)]
      refine ⟨?_, rfl⟩
      unfold vsStep
      rw [putVs_len]
      omega) [] (by simp [wsSum])

include hk
theorem sq_ok : listOk (sq l) := by
  constructor
  · intro t ht
    unfold sq sqTo at ht
    obtain ⟨i, hi, rfl⟩ := List.mem_map.mp ht
    have hi : i < l.length := by simpa using hi
    have := hk.1 _ (List.getElem_mem hi)
    unfold sqAt
    rw [rdL_get (t := YTxn) hi]
    refine ⟨this.1, ?_, this.2.2⟩
    show (i : Int) < ((i + 1 : Nat) : Int)
    omega
  · rw [List.pairwise_iff_getElem]
    intro i j hi hj hij
    have hi' : i < l.length := by have := hi; unfold sq at this; rwa [sqTo_len] at this
    have hj' : j < l.length := by have := hj; unfold sq at this; rwa [sqTo_len] at this
    have e1 : (sq l)[i] = sqAt l i := sqTo_get hi
    have e2 : (sq l)[j] = sqAt l j := sqTo_get hj
    rw [e1, e2]
    have := (List.pairwise_iff_getElem.mp hk.2) i j hi' hj' hij
    unfold sqAt
    rw [rdL_get (t := YTxn) hi', rdL_get (t := YTxn) hj']
    refine ⟨this.1, ?_⟩
    show ((i + 1 : Nat) : Int) < ((j + 1 : Nat) : Int)
    omega

theorem sq_bef {i j : Nat} (hij : i < j) (hj : j < l.length) : bfAt (sq l) j i = false := by
  have hi : i < l.length := by omega
  have hls : (sq l).length = l.length := sqTo_len _ _
  have e1 : rdL YTxn (sq l) i = sqAt l i := by rw [rdL_get (t := YTxn) (by rw [hls]; exact hi)]; exact sqTo_get _
  have e2 : rdL YTxn (sq l) j = sqAt l j := by rw [rdL_get (t := YTxn) (by rw [hls]; exact hj)]; exact sqTo_get _
  unfold bfAt
  rw [e1, e2]
  unfold before
  have c1 : decide (((j + 1 : Nat) : Int) ≤ (i : Int)) = false := by simp; omega
  have c2 : decide (((j + 1 : Nat) : Int) < ((i + 1 : Nat) : Int)) = false := by simp; omega
  have c3 : decide (((i + 1 : Nat) : Int) > (j : Int)) = false := by simp; omega
  have d1 : decide ((sqAt l j).2.2.2.1 ≤ (sqAt l i).2.2.1) = false := c1
  have d2 : decide ((sqAt l j).2.2.2.1 < (sqAt l i).2.2.2.1) = false := c2
  have d3 : decide ((sqAt l i).2.2.2.1 > (sqAt l j).2.2.1) = false := c3
  rw [d1, d2, d3]
  simp

theorem sq_pick {k : Nat} (hkl : k < l.length) : pickNext (sq l) (List.range k) = some k := by
  have hls : (sq l).length = l.length := sqTo_len _ _
  unfold pickNext
  rw [hls, List.find?_range_eq_some]
  refine ⟨?_, by simpa using hkl, fun j hj => ?_⟩
  · unfold nextOk
    have h1 : (List.range k).contains k = false := by simp
    rw [h1, hls]
    simp only [Bool.not_false, Bool.true_and, Bool.not_eq_true', List.any_eq_false]
    intro j hj
    have hj : j < l.length := by simpa using hj
    rcases Nat.lt_trichotomy j k with z | z | z
    · have : (List.range k).contains j = true := by simp [z]
      simp [this]
      omega
    · simp [z]
    · have := sq_bef h5 hs hk z hj
      simp [this]
  · unfold nextOk
    have : (List.range k).contains j = true := by simp [hj]
    simp [this]
    omega

theorem sq_ord : ordOf (sq l) = some (List.range l.length) := by
  have hls : (sq l).length = l.length := sqTo_len _ _
  have key : ∀ (d k : Nat), k + d = l.length → ordGo (sq l) d (List.range k) = some (List.range l.length) := by
    intro d
    induction d with
    | zero =>
      intro k h
      have : k = l.length := by omega
      subst this
      rfl
    | succ d ih =>
      intro k h
      simp only [ordGo, sq_pick h5 hs hk (show k < l.length by omega)]
      rw [← List.range_succ]
      exact ih (k + 1) (by omega)
  unfold ordOf
  rw [hls]
  exact key l.length 0 (by omega)

theorem sq_right : srOf (sq l) = true := by
  unfold srOf
  rw [sq_ord h5 hs hk]
  simp only [play_all (sq_ok h5 hs hk) (sq_ord h5 hs hk)]

theorem sq_view (r : PrT) : viewOf (playL (sq l)) r = scanAt (vsOf (sq l)) r (l.length : Int) := by
  have ok := sq_ok h5 hs hk
  refine PAsc.ext (view_asc (playL_asc _) r) (scan_asc _ _ _) fun ⟨k, v⟩ => ?_
  have hp : (sq l).Pairwise (fun x y => ∀ k, wrs x k → wrs y k → tCs x < tCs y) := ok.2.imp fun h _ _ _ => h.2
  have e1 : (k, v) ∈ viewOf (playL (sq l)) r ↔ inR r k = true ∧ lastWr (sq l) k v (fun _ => True) := by
    unfold viewOf
    rw [List.mem_filter, mem_playL _ _ rfl (fun t ht => (ok.1 t ht).2.2) hp]
    exact And.comm
  rw [e1, mem_scan_vs (fun t ht => (ok.1 t ht).2.2) (ok_uni ok)]
  refine and_congr_right fun _ => ?_
  have hle : ∀ t ∈ sq l, tCs t ≤ (l.length : Int) := fun t ht => by
    unfold sq sqTo at ht
    obtain ⟨i, hi, rfl⟩ := List.mem_map.mp ht
    have hi : i < l.length := by simpa using hi
    show ((i + 1 : Nat) : Int) ≤ _
    omega
  unfold lastWr
  constructor
  · rintro ⟨t, ht, _, q, h3⟩
    exact ⟨t, ht, hle t ht, q, fun x hx _ hk => h3 x hx trivial hk⟩
  · rintro ⟨t, ht, _, q, h3⟩
    exact ⟨t, ht, trivial, q, fun x hx _ hk => h3 x hx (hle x hx) hk⟩
end

def allR' : ByteArray × ByteArray := (⟨#[97]⟩, ⟨#[122, 122, 122]⟩)

theorem law_FnSerials (x : List Int) (hx : (Ty.sl (.int .u8)).fine x) : q_laws_FnSerials x = some true := by
  rw [e_laws_FnSerials]; unfold X_laws_FnSerials
  rw [e_laws_big]; unfold X_laws_big
  simp only [Option.bind_some]
  by_cases hb : (x.length : Int) > 1048576
  · simp only [hb, decide_true, cond_true]
  · simp only [hb, decide_false, cond_false]
    obtain ⟨l, e1, h5, hs, hk⟩ := DrawDones_ok (l := x) (by omega)
    obtain ⟨m, t, e2, q2, q3⟩ := DrawPlayOne_ok (l := x) (by omega)
    obtain ⟨y, r, e3, q4⟩ := DrawViewOf_ok (l := x) (by omega)
    obtain ⟨a, b, e4, q5, q6⟩ := DrawBefore_ok (l := x) (by omega)
    have hls : (sq l).length = l.length := sqTo_len _ _
    obtain ⟨p1, p2, p3⟩ := dones_small h5 hs
    obtain ⟨s1, s2, s3⟩ := dones_small (l := sq l) (by rw [hls]; exact h5) (sq_small h5 hs)
    have hpl : (playL (sq l)).length ≤ 15 := by
      have := playL_len (sq l)
      have h2 := sqTo_sum h5 hs (Nat.le_refl l.length)
      unfold sq at this ⊢
      omega
    have hvl : (vsOf (sq l)).length ≤ 1048576 := vsOf_len s2
    have hv1 : (viewOf (playL (sq l)) allR').length ≤ 1099511627776 := Nat.le_trans (List.length_filter_le _ _) (by omega)
    have hpo : (playOne m t.2.2.2.2.2.1).length ≤ 1099511627776 := by have := playOne_len m t.2.2.2.2.2.1; omega
    have hv2 : (viewOf y r).length ≤ 1099511627776 := Nat.le_trans (List.length_filter_le _ _) (by omega)
    have hall : ((⟨#[97]⟩ : ByteArray), (⟨#[122, 122, 122]⟩ : ByteArray)) = allR' := rfl
    simp only [e1, Option.bind_some, loop_seq h5 hs, e2, e3, e4, loop_vs h5 hs _ _ _ _ _ _ _ s2, SerialRight_impl s1 s2 s3, sq_right h5 hs hk, cond_true, SerialRight_impl p1 p2 p3, SerialRight_spec p1 p2 p3, beq_self_eq_true,
      e_laws_all, X_laws_all, hall, ViewOf_impl (playL (sq l)) allR' (by omega), ScanAt_spec (vsOf (sq l)) allR' _ (show (vsOf (sq l)).length ≤ 500000000000 by omega), hls, sq_view h5 hs hk allR', Pairs_law _ _ (sq_view h5 hs hk allR' ▸ hv1), decide_true,
      PlayOne_impl m t (by omega), PlayOne_spec m t (by omega), Cells_law _ _ hpo, ViewOf_impl y r (by omega), ViewOf_spec y r (by omega), Pairs_law _ _ hv2, Before_impl a b q5 q6, Before_spec a b q5 q6]

end Go.Proofs.Ythhpkgegmfjdmaa.Ab
