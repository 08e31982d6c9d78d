import Derived.Test.YthhpkgegmfjdmaaAbP27
namespace Go.Proofs.Ythhpkgegmfjdmaa.Ab
open Go
set_option linter.unusedVariables false
set_option linter.unusedSimpArgs false
set_option linter.unnecessarySimpa false
set_option linter.unusedSimpArgs false
set_option linter.unusedVariables false

theorem AppendLog_dr {l : List Int} (hl : l.length ≤ 1048576) : ∃ d t, q_spec_DrawAppendLog l = some (d, t) ∧ YDisk.wt d ≤ 1000000 ∧ t.size ≤ 5000 := by
  obtain ⟨s, e0, k0⟩ := New_dr hl
  obtain ⟨t, s1, e1, k1, r1⟩ := Said_dr k0
  obtain ⟨a, s2, e2, k2, r2⟩ := PickInt_dr k0 [0, 1, 0, 1, 2, -1] (by simp) (by simp)
  obtain ⟨d, s3, e3, k3, r3⟩ := Any_dr k2
  refine ⟨d, t, ?_, r3, r1⟩
  rw [e_spec_DrawAppendLog]; unfold X_spec_DrawAppendLog
  rw [e_spec_DrawPutRecord]; unfold X_spec_DrawPutRecord
  rw [e_spec_l04Pair]; unfold X_spec_l04Pair
  simp only [e0, e1, e2, e3, Option.bind_some]

theorem SwitchLog_dr {l : List Int} (hl : l.length ≤ 1048576) : ∃ d t, q_spec_DrawSwitchLog l = some (d, t) ∧ YDisk.wt d ≤ 1000000 ∧ t.length ≤ 1000 ∧ ∀ u ∈ t, u.size ≤ 5000 := by
  obtain ⟨s, e0, k0⟩ := New_dr hl
  have key : ∀ (r i : Nat) (s : Src) (a : List ByteArray), s.ok → a.length = i → (∀ u ∈ a, u.size ≤ 5000) → 4 ≤ i + r → i ≤ 3 → ∃ (s' : Src) (a' : List ByteArray), W_spec_DrawSwitchLog_4 (([], []), s, a, (i : Int)) = some (.inl (([], []), s', a')) ∧ s'.ok ∧ a'.length ≤ 3 ∧ ∀ u ∈ a', u.size ≤ 5000 := by
    intro r
    induction r with
    | zero => intro i s a _ _ _ h1 h2; omega
    | succ r ih =>
      intro i s a hs ha hz hr hi
      obtain ⟨y, s1, e1, k1, r1⟩ := Below_dr hs (n := 4) (by omega)
      rw [w_spec_DrawSwitchLog_4]
      simp only [S_spec_DrawSwitchLog_4, e1, Option.bind_some]
      by_cases hy : (i : Int) < y
      · obtain ⟨t, s2, e2, k2, r2⟩ := Said_dr k1
        have hc : Nat.ble (a.length + ([t] : List ByteArray).length) cap40 = true := ble_cap (by simp; omega)
        simp only [hy, decide_true, cond_true, e2, Option.bind_some]
        rw [hc, wrap_succ (by omega)]
        exact ih (i + 1) s2 (a ++ [t]) k2 (by simp [ha]) (fun u hu => by
          rcases List.mem_append.mp hu with q | q
          · exact hz u q
          · simp at q; subst q; exact r2) (by omega) (by omega)
      · simp only [hy, decide_false, cond_false]
        exact ⟨s1, a, rfl, k1, by omega, hz⟩
  obtain ⟨s1, a, e1, k1, h1, h2⟩ := key 4 0 s [] k0 rfl (by simp) (by omega) (by omega)
  have e1 : W_spec_DrawSwitchLog_4 (([], []), s, [], 0) = _ := e1
  obtain ⟨d, s3, e3, k3, r3⟩ := Any_dr k1
  refine ⟨d, a, ?_, r3, by omega, h2⟩
  rw [e_spec_DrawSwitchLog]; unfold X_spec_DrawSwitchLog
  simp only [e0, e1, e3, Option.bind_some]

theorem law_FnCutsTold (x : List Int) (hx : (Ty.sl (.int .u8)).fine x) : q_laws_FnCutsTold x = some true := by
  rw [e_laws_FnCutsTold]; unfold X_laws_FnCutsTold
  rw [e_laws_big]; unfold X_laws_big
  simp only [Option.bind_some]
  by_cases hb : (x.length : Int) > 1048576
  · simp only [hb, decide_true, cond_true]
  · simp only [hb, decide_false, cond_false]
    have hl : x.length ≤ 1048576 := by omega
    obtain ⟨d, t, a1, a2, a3⟩ := AppendLog_dr hl
    obtain ⟨e, l, b1, b2, b3, b4⟩ := SwitchLog_dr hl
    obtain ⟨s, e0, k0⟩ := New_dr hl
    obtain ⟨st, s1, e1, k1, _⟩ := Below_dr k0 (n := 4) (by omega)
    obtain ⟨kp, s2, e2, k2, _⟩ := Keep_dr k1
    obtain ⟨te, s3, e3, k3, _⟩ := Below_dr k2 (n := 70) (by omega)
    have A : q_spec_DrawCutAppend x = some (d, t, st, kp, te) := by
      rw [e_spec_DrawCutAppend]; unfold X_spec_DrawCutAppend
      simp only [e0, e1, e2, e3, a1, Option.bind_some]
    obtain ⟨st', s1', e1', k1', _⟩ := Below_dr k0 (n := 5) (by omega)
    obtain ⟨kp', s2', e2', k2', _⟩ := Keep_dr k1'
    obtain ⟨te', s3', e3', k3', _⟩ := Below_dr k2' (n := 70) (by omega)
    have B : q_spec_DrawCutSwitch x = some (e, l, st', kp', te') := by
      rw [e_spec_DrawCutSwitch]; unfold X_spec_DrawCutSwitch
      simp only [e0, e1', e2', e3', b1, Option.bind_some]
    have C : ∃ a b, q_spec_DrawSameTexts x = some (a, b) ∧ YDisk.wt a ≤ 1000000 ∧ YDisk.wt b ≤ 1000000 := by
      obtain ⟨a, s4, e4, k4, r4⟩ := Any_dr k0
      obtain ⟨y, s5, e5, k5, _⟩ := Once_dr k4 (n := 2) (by omega)
      rw [e_spec_DrawSameTexts]; unfold X_spec_DrawSameTexts
      simp only [e0, e4, e5, Option.bind_some]
      cases y with
      | true =>
        simp only [cond_true, Copy_spec a (by unfold big40; omega), Option.bind_some]
        exact ⟨_, _, rfl, r4, r4⟩
      | false =>
        obtain ⟨b, s6, e6, k6, r6⟩ := Any_dr k5
        simp only [cond_false, e6, Option.bind_some]
        exact ⟨_, _, rfl, r4, r6⟩
    have D : ∃ a b c, q_spec_DrawCutRight x = some (a, b, c) ∧ YDisk.wt a ≤ 1000000 ∧ YDisk.wt b ≤ 1000000 ∧ YDisk.wt c ≤ 1000000 := by
      obtain ⟨k, s4, e4, k4, _⟩ := Below_dr k0 (n := 3) (by omega)
      obtain ⟨a, s5, e5, k5, hl5⟩ := Log_dr k4
      have hw : YDisk.wt a ≤ 1000000 := Nat.le_trans (diskOk_wt (logOk_len hl5).1) (by omega)
      have hy := append_keeps hl5 ⟨#[109, 111, 114, 101]⟩
      have hwy : YDisk.wt (orD a (append_ a ⟨#[109, 111, 114, 101]⟩)).1 ≤ 1000000 := Nat.le_trans (diskOk_wt (logOk_len hy).1) (by omega)
      rw [e_spec_DrawCutRight]; unfold X_spec_DrawCutRight
      simp only [e0, e4, e5, AppendLog_spec a ⟨#[109, 111, 114, 101]⟩ (by omega) (by show 4 ≤ 1048576; omega), Option.bind_some]
      by_cases q0 : k = 0
      · simp only [q0, decide_true, cond_true, Copy_spec a (by unfold big40; omega), Option.bind_some]
        exact ⟨_, _, _, rfl, hw, hwy, hw⟩
      · by_cases q1 : k = 1
        · simp only [q0, q1, decide_true, decide_false, cond_true, cond_false, Copy_spec _ (show YDisk.wt (orD a (append_ a ⟨#[109, 111, 114, 101]⟩)).1 ≤ big40 by unfold big40; omega), Option.bind_some]
          exact ⟨_, _, _, rfl, hw, hwy, hwy⟩
        · obtain ⟨c, s6, e6, k6, r6⟩ := Any_dr k5
          simp only [q0, q1, decide_false, cond_false, e6, Option.bind_some]
          exact ⟨_, _, _, rfl, hw, hwy, r6⟩
    obtain ⟨ca, cb, hc, ca1, cb1⟩ := C
    obtain ⟨da, db, dc, hd, da1, db1, dc1⟩ := D
    have w1 := cutAppend_wt (d := d) (t := t) (by omega) st kp te
    have w2 := cutSwitch_wt (d := e) (l := l) (by omega) st' kp' te'
    have hs : sameTx ca ca = true := by simp [sameTx, sameL]
    simp only [A, B, hc, hd, Option.bind_some, CutAppend_impl (d := d) (t := t) (by omega) (by omega), CutAppend_spec (d := d) (t := t) (by omega) (by omega),
      CutSwitch_impl (d := e) (l := l) (by omega) (by omega) (fun u hu => Nat.le_trans (b4 u hu) (by omega)), CutSwitch_spec (d := e) (l := l) (by omega) (by omega) (fun u hu => Nat.le_trans (b4 u hu) (by omega)),
      laws_sameDisk_self _ (show YDisk.wt (cutAppend d t st kp te) ≤ 1000000000 by omega), laws_sameDisk_self _ (show YDisk.wt (cutSwitch e l st' kp' te') ≤ 1000000000 by omega), cond_true,
      SameTexts_impl ca cb (by omega) (by omega), SameTexts_spec ca cb (by omega) (by omega), SameTexts_impl ca ca (by omega) (by omega), CutRight_impl da db dc (by omega) (by omega) (by omega), CutRight_spec da db dc (by omega) (by omega) (by omega), beq_self_eq_true, hs]

end Go.Proofs.Ythhpkgegmfjdmaa.Ab
