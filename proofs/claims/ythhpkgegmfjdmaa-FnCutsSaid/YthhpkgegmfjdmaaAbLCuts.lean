import Derived.Test.YthhpkgegmfjdmaaAbP26
namespace Go.Proofs.Ythhpkgegmfjdmaa.Ab
open Go
set_option linter.unusedVariables false
set_option linter.unusedSimpArgs false
set_option linter.unnecessarySimpa false
set_option linter.unusedSimpArgs false
set_option linter.unusedVariables false

theorem same_tx2 {a b : DiskT} (ha : logOk a = true) (hb : logOk b = true) (h : logTexts a = logTexts b) : q_impl_SameTexts (a, b) = some true := by
  rw [SameTexts_impl a b (Nat.le_trans (logOk_wt ha) (by omega)) (Nat.le_trans (logOk_wt hb) (by omega))]
  unfold sameTx sameL
  rw [h]
  simp

theorem right_ok {d y c : DiskT} (hd : logOk d = true) (hy : logOk y = true) (hc : logOk c = true) (h : logTexts c = logTexts d ∨ logTexts c = logTexts y) : q_impl_CutRight (d, y, c) = some true := by
  rw [CutRight_impl d y c (Nat.le_trans (logOk_wt hd) (by omega)) (Nat.le_trans (logOk_wt hy) (by omega)) (Nat.le_trans (logOk_wt hc) (by omega))]
  unfold cutRight sameTx sameL
  rw [hc]
  rcases h with h | h <;> rw [h] <;> simp

/-- What an append is told to leave, at every step. -/
theorem step_append {d : DiskT} (hl : logOk d = true) {t : ByteArray} (ht : t.size ≤ 1048576) (step : Int) (keep : List Int) (tear : Int) :
    logOk (cutAppend d t step keep tear) = true ∧ (logTexts (cutAppend d t step keep tear) = logTexts d ∨ logTexts (cutAppend d t step keep tear) = logTexts (orD d (append_ d t)).1) ∧ (step = 0 → logTexts (cutAppend d t step keep tear) = logTexts d) ∧ (step = 9 → cutAppend d t step keep tear = (orD d (append_ d t)).1) := by
  cases ha : append_ d t with
  | none =>
    have := cutAppend_none ha step keep tear
    rw [this]
    exact ⟨hl, .inl rfl, fun _ => rfl, fun _ => rfl⟩
  | some y =>
    obtain ⟨_, y2, y3⟩ := append_log ha
    obtain ⟨c0, c9, c1⟩ := cutAppend_told ha step keep tear
    simp only [orD]
    by_cases h0 : step = 0
    · have := c0 h0
      exact ⟨this.1, .inl this.tx, fun _ => this.tx, fun h => by omega⟩
    · by_cases h1 : step = 1
      · rcases (c1 h1).2.2 with q | q
        · exact ⟨q.1, .inl q.tx, fun h => absurd h h0, fun h => by omega⟩
        · rw [q]; exact ⟨y2, .inr rfl, fun h => absurd h h0, fun h => by omega⟩
      · rw [c9 h0 h1]; exact ⟨y2, .inr rfl, fun h => absurd h h0, fun _ => rfl⟩

theorem step_switch {d : DiskT} (hl : logOk d = true) {l : List ByteArray} (hn : l.length ≤ 255) (hr : sizes l ≤ 3008) (ht : ∀ t ∈ l, t.size ≠ 0 ∧ t.size ≤ 3008) : ∃ y, switch_ d l = some y ∧ logOk y = true ∧ ∀ (step : Int) (keep : List Int) (tear : Int),
    logOk (cutSwitch d l step keep tear) = true ∧ (logTexts (cutSwitch d l step keep tear) = logTexts d ∨ logTexts (cutSwitch d l step keep tear) = logTexts y) ∧ (step = 0 ∨ step = 1 → logTexts (cutSwitch d l step keep tear) = logTexts d) ∧ (step = 9 → cutSwitch d l step keep tear = y) := by
  obtain ⟨x, x1, x2, x3, x4, x5⟩ := fill_log hl hn hr ht
  obtain ⟨y, y1, y2, y3, y4⟩ := fill_right x1 x2 x3 x4 x5 hl
  refine ⟨y, y1, y2, fun step keep tear => ?_⟩
  obtain ⟨a0, a1, a9, a2⟩ := y4 step keep tear
  by_cases h0 : step = 0
  · have := a0 h0
    exact ⟨this.1, .inl this.2, fun _ => this.2, fun h => by omega⟩
  · by_cases h1 : step = 1
    · rw [a1 h1]; exact ⟨x2, .inl x4, fun _ => x4, fun h => by omega⟩
    · by_cases h2 : step = 2
      · rcases (a2 h2).2.2 with q | q
        · rw [q]; exact ⟨x2, .inl x4, fun _ => x4, fun h => by omega⟩
        · rw [q]; exact ⟨y2, .inr rfl, fun h => by omega, fun _ => rfl⟩
      · rw [a9 h0 h1 h2]; exact ⟨y2, .inr rfl, fun h => by omega, fun _ => rfl⟩

theorem law_FnCuts (x : List Int) (hx : (Ty.sl (.int .u8)).fine x) : q_laws_FnCuts x = some true := by
  rw [e_laws_FnCuts]; unfold X_laws_FnCuts
  rw [e_laws_big]; unfold X_laws_big
  simp only [Option.bind_some]
  by_cases hb : (x.length : Int) > 1048576
  · simp only [hb, decide_true, cond_true]
  · simp only [hb, decide_false, cond_false]
    obtain ⟨d, t, e1, hl, h0, h1⟩ := DrawLog_ok (l := x) (by omega)
    obtain ⟨keep, e2⟩ := DrawKeep_ok (l := x) (by omega)
    obtain ⟨p, e3, hp⟩ := DrawPlaces_ok (l := x) (by omega)
    have hw := logOk_wt hl
    have hg : gIdx (0 : Int) p.length = true := by rw [hp]; rfl
    obtain ⟨fs, hfs⟩ : ∃ fs : ByteArray, fs = (⟨#[102, 105, 114, 115, 116]⟩ : ByteArray) ++ t := ⟨_, rfl⟩
    have hfz : fs.size = 5 + t.size := by rw [hfs, ByteArray.size_append]; rfl
    have hc5 : decide ((⟨#[102, 105, 114, 115, 116]⟩ : ByteArray).size + t.size ≤ 140737488355328) = true := by
      have : (⟨#[102, 105, 114, 115, 116]⟩ : ByteArray).size = 5 := rfl
      rw [this]; simp; omega
    obtain ⟨sc, hsc⟩ : ∃ sc : ByteArray, sc = (⟨#[115, 101, 99, 111, 110, 100]⟩ : ByteArray) := ⟨_, rfl⟩
    have hsz : sc.size = 6 := by rw [hsc]; rfl
    have mem : ∀ u ∈ [fs, sc], u.size ≠ 0 ∧ u.size ≤ 3008 := fun u hu => by
      simp only [List.mem_cons, List.not_mem_nil, or_false] at hu
      rcases hu with rfl | rfl <;> omega
    have hts : ∀ u ∈ [fs, sc], u.size ≤ 1048576 := fun u hu => by have := mem u hu; omega
    have hsm1 := shortOf_small (t := fs) (by omega)
    have hsm2 := shortOf_small (t := sc) (by omega)
    obtain ⟨y, y1, y2, y3⟩ := step_switch hl (l := [fs, sc]) (by simp) (by simp [sizes]; omega) mem
    have A := step_append hl (t := t) (show t.size ≤ 1048576 by omega)
    have hka := append_keeps hl t
    generalize hn : Int.tmod (rdL (Ty.int .i64) p ((0 : Int)).toNat) 66 = tear
    have step : ∀ i : Nat, i < 4 → W_laws_FnCuts_11 (d, t, keep, tear, (orD d (append_ d t)).1, (orD d (append_ d t)).2, [fs, sc], y, true, (i : Int)) = W_laws_FnCuts_11 (d, t, keep, tear, (orD d (append_ d t)).1, (orD d (append_ d t)).2, [fs, sc], y, true, ((i + 1 : Nat) : Int)) := fun i hi => by
      obtain ⟨a1, a2, a3, _⟩ := A (i : Int) keep tear
      obtain ⟨b1, b2, b3, _⟩ := y3 (i : Int) keep tear
      have r1 := right_ok hl hka a1 a2
      have r2 := right_ok hl y2 b1 b2
      have hlt : decide ((i : Int) < 4) = true := by simp; omega
      rw [w_laws_FnCuts_11]
      simp only [S_laws_FnCuts_11, hlt, cond_true, CutAppend_impl hw (show t.size ≤ 1048576 by omega), CutSwitch_impl (l := [fs, sc]) hw (by simp) hts, r1, r2, Option.bind_some, Bool.not_true, cond_false]
      rw [wrap_succ (by omega)]
      by_cases i0 : (i : Int) = 0
      · have s1 := same_tx2 a1 hl (a3 i0)
        have s2 := same_tx2 b1 hl (b3 (.inl i0))
        have i2 : decide ((i : Int) < 2) = true := by simp; omega
        simp only [i0, decide_true, cond_true] at s1 s2 ⊢
        have i2 : decide ((0 : Int) < 2) = true := rfl
        simp only [s1, s2, i2, Option.bind_some, Bool.not_true, cond_false, cond_true]
        cases (orD d (append_ d t)).2 <;> rfl
      · by_cases i1 : (i : Int) < 2
        · have s2 := same_tx2 b1 hl (b3 (.inr (by omega)))
          simp only [i0, i1, decide_true, decide_false, s2, Option.bind_some, Bool.not_true, cond_false, cond_true]
          cases (orD d (append_ d t)).2 <;> rfl
        · simp only [i0, i1, decide_false, cond_false, Option.bind_some]
          cases (orD d (append_ d t)).2 <;> rfl
    have loop : W_laws_FnCuts_11 (d, t, keep, tear, (orD d (append_ d t)).1, (orD d (append_ d t)).2, [fs, sc], y, true, 0) = some (.inl (d, t, keep, tear, (orD d (append_ d t)).1, (orD d (append_ d t)).2, [fs, sc], y, true)) := by
      have h := (step 0 (by omega)).trans ((step 1 (by omega)).trans ((step 2 (by omega)).trans (step 3 (by omega))))
      refine Eq.trans h ?_
      rw [w_laws_FnCuts_11]
      rfl
    obtain ⟨n1, _, _, n9⟩ := A 9 keep tear
    obtain ⟨m1, _, _, m9⟩ := y3 9 keep tear
    have sA : q_impl_SameTexts (cutAppend d t 9 keep tear, (orD d (append_ d t)).1) = some true := by rw [n9 rfl]; exact same_tx2 hka hka rfl
    have sB : q_impl_SameTexts (cutSwitch d [fs, sc] 9 keep tear, y) = some true := by rw [m9 rfl]; exact same_tx2 y2 y2 rfl
    simp only [e1, e2, e3, hg, cond_true, Option.bind_some, AppendLog_spec d t hw (by omega), hc5]
    rw [← hfs, ← hsc]
    simp only [SwitchLog_spec (l := [fs, sc]) hw (by simp) hts, y1, hn, Option.bind_some]
    refine Eq.trans (congrArg (fun z => Option.bind z _) loop) ?_
    simp only [Option.bind_some, cond_true, CutSwitch_impl (l := [fs, sc]) hw (by simp) hts, CutAppend_impl hw (show t.size ≤ 1048576 by omega), sA, sB]
    cases (orD d (append_ d t)).2 <;> rfl

end Go.Proofs.Ythhpkgegmfjdmaa.Ab
