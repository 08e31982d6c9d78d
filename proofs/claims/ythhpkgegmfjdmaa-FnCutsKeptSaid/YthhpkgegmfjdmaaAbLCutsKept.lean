import Derived.Test.YthhpkgegmfjdmaaAbP25
namespace Go.Proofs.Ythhpkgegmfjdmaa.Ab
open Go
set_option linter.unusedVariables false
set_option linter.unusedSimpArgs false
set_option linter.unnecessarySimpa false
set_option linter.unusedSimpArgs false
set_option linter.unusedVariables false

theorem same_tx {a b : DiskT} (ha : logOk a = true) (hb : logOk b = true) (h : logTexts a = logTexts b) : q_impl_SameTexts (a, b) = some true := by
  rw [SameTexts_impl a b (Nat.le_trans (logOk_wt ha) (by omega)) (Nat.le_trans (logOk_wt hb) (by omega))]
  unfold sameTx sameL
  rw [h]
  simp

theorem ones_ok (d : DiskT) (t : ByteArray) : W_laws_FnCutsKept_6 (d, t, [], 0) = some (.inl (d, t, List.replicate 60 (1 : Int))) := by
  have key : ∀ (r i : Nat), i + r = 60 → W_laws_FnCutsKept_6 (d, t, List.replicate i (1 : Int), (i : Int)) = some (.inl (d, t, List.replicate 60 (1 : Int))) := by
    intro r
    induction r with
    | zero =>
      intro i hi
      have : i = 60 := by omega
      subst this
      rw [w_laws_FnCutsKept_6]
      rfl
    | succ r ih =>
      intro i hi
      have hlt : decide ((i : Int) < 60) = true := by simp; omega
      have hc : Nat.ble ((List.replicate i (1 : Int)).length + ([(1 : Int)] : List Int).length) cap40 = true := ble_cap (by simp; omega)
      rw [w_laws_FnCutsKept_6]
      simp only [S_laws_FnCutsKept_6, hlt, cond_true, hc]
      rw [wrap_succ (by omega)]
      have e : List.replicate i (1 : Int) ++ [1] = List.replicate (i + 1) 1 := by rw [List.replicate_succ']
      rw [e]
      exact ih (i + 1) (by omega)
  exact key 60 0 rfl

theorem law_FnCutsKept (x : List Int) (hx : (Ty.sl (.int .u8)).fine x) : q_laws_FnCutsKept x = some true := by
  rw [e_laws_FnCutsKept]; unfold X_laws_FnCutsKept
  rw [e_laws_big]; unfold X_laws_big
  simp only [Option.bind_some]
  by_cases hb : (x.length : Int) > 1048576
  · simp only [hb, decide_true, cond_true]
  · simp only [hb, decide_false, cond_false]
    obtain ⟨d, t, e1, hl, h0, h1⟩ := DrawLog_ok (l := x) (by omega)
    have hw := logOk_wt hl
    have hts : ∀ u ∈ [t], u.size ≤ 1048576 := fun u hu => by simp at hu; subst hu; omega
    obtain ⟨f, f1, f2, f3, f4, f5⟩ := fill_log (l := [t]) hl (by simp) (by have := shortOf_small (t := t) (by omega); simp [sizes]; omega) (fun u hu => by simp at hu; subst hu; exact ⟨h0, by omega⟩)
    obtain ⟨y, y1, y2, y3, y4⟩ := fill_right f1 f2 f3 f4 f5 hl
    have kt : kept (List.replicate 60 (1 : Int)) 0 = true := rfl
    have kf : kept ([] : List Int) 0 = false := rfl
    have tr : 1 ≤ tearOf 64 := by decide
    have hc := (y4 2 (List.replicate 60 1) 64).2.2.2 rfl
    have he := (y4 2 [] 5).2.2.2 rfl
    have hc := hc.2.1 kt tr
    have he := he.1 kf
    simp only [e1, Option.bind_some]
    refine Eq.trans (congrArg (fun z => Option.bind z _) (ones_ok d t)) ?_
    simp only [Option.bind_some, AppendLog_spec d t hw (by omega), SwitchLog_spec (l := [t]) hw (by simp) hts, y1, CutAppend_impl hw (show t.size ≤ 1048576 by omega), CutSwitch_impl (l := [t]) hw (by simp) hts, hc, he, orD, cond_true]
    have sc : q_impl_SameTexts (y, y) = some true := same_tx y2 y2 rfl
    have se : q_impl_SameTexts (f, d) = some true := same_tx f2 hl f4
    have le : q_spec_LogOk f = some true := by rw [LogOk_spec f (Nat.le_trans (logOk_wt f2) (by omega)), f2]
    cases ha : append_ d t with
    | none =>
      have hb0 := cutAppend_none ha 1 [] 5
      have ld : q_spec_LogOk d = some true := by rw [LogOk_spec d (by omega), hl]
      simp only [hb0, same_tx hl hl rfl, sc, se, le, ld, Option.bind_some, Bool.not_false, cond_true]
    | some z =>
      obtain ⟨z1, z2, z3⟩ := append_log ha
      have ha1 := (cutAppend_told ha 1 (List.replicate 60 1) 64).2.2 rfl
      have hb1 := ((cutAppend_told ha 1 [] 5).2.2 rfl).1 kf
      have ha1 := ha1.2.1 kt tr
      have lb : q_spec_LogOk (cutAppend d t 1 [] 5) = some true := by rw [LogOk_spec _ (Nat.le_trans (logOk_wt hb1.1) (by omega)), hb1.1]
      simp only [ha1, same_tx z2 z2 rfl, same_tx hb1.1 hl hb1.tx, sc, se, le, lb, Option.bind_some, Bool.not_true, cond_false, cond_true]

end Go.Proofs.Ythhpkgegmfjdmaa.Ab
