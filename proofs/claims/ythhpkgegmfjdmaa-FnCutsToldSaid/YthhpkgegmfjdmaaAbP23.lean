import Derived.Test.YthhpkgegmfjdmaaAbP22
namespace Go.Proofs.Ythhpkgegmfjdmaa.Ab
open Go
set_option linter.unusedVariables false
set_option linter.unusedSimpArgs false
set_option linter.unnecessarySimpa false
set_option linter.unusedSimpArgs false
set_option linter.unusedVariables false

/-! ### Cuts, told in full -/
theorem append_log {d y : DiskT} {t : ByteArray} (h : append_ d t = some y) : logOk d = true ∧ logOk y = true ∧ logTexts y = logTexts d ++ [t] := by
  unfold append_ at h
  split at h
  · rename_i hl
    obtain ⟨p1, p2, p3, p4, p5⟩ := put_log hl (activeOf_01 d) h
    refine ⟨hl, p1, ?_⟩
    unfold logTexts
    rw [p2, p5]
  · cases h

theorem cutAppend_told {d y : DiskT} {t : ByteArray} (h : append_ d t = some y) (step : Int) (keep : List Int) (tear : Int) :
    (step = 0 → SameLog d (cutAppend d t step keep tear)) ∧ (step ≠ 0 → step ≠ 1 → cutAppend d t step keep tear = y) ∧
    (step = 1 → (kept keep 0 = false → SameLog d (cutAppend d t step keep tear)) ∧ (kept keep 0 = true → 1 ≤ tearOf tear → cutAppend d t step keep tear = y) ∧ (SameLog d (cutAppend d t step keep tear) ∨ cutAppend d t step keep tear = y)) := by
  have ha := activeOf_01 d
  obtain ⟨hl, x, z, hb, k1, k2, hz, k3, k4⟩ := append_steps h
  have hput : put_ d (activeOf d) t = some y := by unfold append_ at h; rw [hl, if_pos rfl] at h; exact h
  have hy : y = flush z := by
    unfold put_ at hput
    rw [hb] at hput
    simp only [Option.map_some, Option.some.injEq] at hput
    rw [hz] at hput
    simp only [orD] at hput
    exact hput.symm
  have hs := (flush_begin hl ha hb).1
  obtain ⟨z', hz', c1, c2, c3⟩ := crash_count hs.1 (n := count1 d (activeOf d)) ha keep tear
  rw [hz] at hz'
  cases hz'
  have e0 : ∀ st, cutAppend d t st keep tear = (if st = 0 then crash x keep tear else if st = 1 then crash z keep tear else y) := fun st => by
    unfold cutAppend
    rw [h]
    simp only [hb, orD, hz]
  refine ⟨fun s0 => ?_, fun n0 n1 => ?_, fun s1 => ?_⟩
  · rw [e0, if_pos s0]; exact crash_begin hl ha hb keep tear
  · rw [e0, if_neg n0, if_neg n1]
  · have e : cutAppend d t step keep tear = crash z keep tear := by rw [e0, if_neg (by omega), if_pos s1]
    rw [e, hy]
    exact ⟨fun q => by rw [c1 q]; exact hs, fun q r => c2 q r, c3.imp (fun q => by rw [q]; exact hs) id⟩

theorem cutAppend_none {d : DiskT} {t : ByteArray} (h : append_ d t = none) (step : Int) (keep : List Int) (tear : Int) : cutAppend d t step keep tear = d := by
  unfold cutAppend; rw [h]

/-- The filled disk. -/
theorem fill_log {d : DiskT} {l : List ByteArray} (hl : logOk d = true) (hn : l.length ≤ 255) (hr : sizes l ≤ 3008) (ht : ∀ t ∈ l, t.size ≠ 0 ∧ t.size ≤ 3008) :
    ∃ x, fill_ d l = some x ∧ logOk x = true ∧ activeOf x = activeOf d ∧ logTexts x = logTexts d ∧ (readArea x (otherOf d)).1 = l := by
  obtain ⟨a1, a2⟩ := otherOf_01 d
  obtain ⟨f1, f2, f3, f4, f5⟩ := fill0_log hl
  obtain ⟨y, y1, y2, y3, y4, y5⟩ := fillGo_ok a1 (l := l) f1 (by rw [f5]; omega) (by rw [f4]; simp only; omega) ht
  rw [← a2] at y4
  refine ⟨y, by unfold fill_; rw [hl, if_pos rfl]; exact y1, y2, y3.trans f2, ?_, by rw [y5, f4]; simp⟩
  unfold logTexts
  rw [y3.trans f2, y4, f3]

theorem fill_right {d x : DiskT} {l : List ByteArray} (hx : fill_ d l = some x) (h1 : logOk x = true) (h2 : activeOf x = activeOf d) (h3 : logTexts x = logTexts d) (h4 : (readArea x (otherOf d)).1 = l) (hl : logOk d = true) :
    ∃ y, switch_ d l = some y ∧ logOk y = true ∧ logTexts y = l ∧ ∀ (step : Int) (keep : List Int) (tear : Int),
      (step = 0 → logOk (cutSwitch d l step keep tear) = true ∧ logTexts (cutSwitch d l step keep tear) = logTexts d) ∧ (step = 1 → cutSwitch d l step keep tear = x) ∧
      (step ≠ 0 → step ≠ 1 → step ≠ 2 → cutSwitch d l step keep tear = y) ∧
      (step = 2 → (kept keep 0 = false → cutSwitch d l step keep tear = x) ∧ (kept keep 0 = true → 1 ≤ tearOf tear → cutSwitch d l step keep tear = y) ∧ (cutSwitch d l step keep tear = x ∨ cutSwitch d l step keep tear = y)) := by
  obtain ⟨a1, a2⟩ := otherOf_01 d
  obtain ⟨z, hz, hz1, hrd, hlen, _⟩ := crash_turn h1 [] 0
  obtain ⟨t1, t2, t3, t4⟩ := turn_log h1 hz1 hlen hrd
  have hsw : switch_ d l = some (flush z) := by unfold switch_; rw [hx]; simp only [Option.map_some, hz, orD]
  have htx : logTexts (flush z) = l := by
    have ho : activeOf (flush z) = otherOf d := by rw [t2, h2]; rfl
    unfold logTexts
    rw [ho, ← h4]
    rcases a1 with q | q <;> rw [q]
    · rw [t3]
    · rw [t4]
  refine ⟨flush z, hsw, t1, htx, fun step keep tear => ?_⟩
  obtain ⟨c, hc, c1, c2, c3⟩ := crash_count hl (n := 0) a1 keep tear
  obtain ⟨z', hz', _, _, _, g1, g2, g3⟩ := crash_turn h1 keep tear
  rw [hz] at hz'
  cases hz'
  have e0 : ∀ st, cutSwitch d l st keep tear = (if st = 0 then crash c keep tear else if st = 1 then x else if st = 2 then crash z keep tear else flush z) := fun st => by
    unfold cutSwitch
    rw [hx]
    simp only [hc, orD, hz]
  have hf0 : flush c = fill0 d := by unfold fill0; rw [hc]; rfl
  obtain ⟨f1, f2, f3, f4, f5⟩ := fill0_log hl
  have htx0 : logTexts (fill0 d) = logTexts d := by unfold logTexts; rw [f2, f3]
  refine ⟨fun s0 => ?_, fun s1 => ?_, fun n0 n1 n2 => ?_, fun s2 => ?_⟩
  · rw [e0, if_pos s0]
    rcases c3 with q | q
    · rw [q]; exact ⟨hl, rfl⟩
    · rw [q, hf0]; exact ⟨f1, htx0⟩
  · rw [e0, if_neg (by omega), if_pos s1]
  · rw [e0, if_neg n0, if_neg n1, if_neg n2]
  · have e : cutSwitch d l step keep tear = crash z keep tear := by rw [e0, if_neg (by omega), if_neg (by omega), if_pos s2]
    rw [e]
    exact ⟨g1, g2, g3⟩

end Go.Proofs.Ythhpkgegmfjdmaa.Ab
