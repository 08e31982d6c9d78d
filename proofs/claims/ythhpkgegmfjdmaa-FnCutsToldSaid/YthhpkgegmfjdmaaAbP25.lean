import Derived.Test.YthhpkgegmfjdmaaAbP24
namespace Go.Proofs.Ythhpkgegmfjdmaa.Ab
open Go
set_option linter.unusedVariables false
set_option linter.unusedSimpArgs false
set_option linter.unnecessarySimpa false
set_option linter.unusedSimpArgs false
set_option linter.unusedVariables false

theorem logOk_wt {d : DiskT} (h : logOk d = true) : YDisk.wt d ≤ 10000000 := Nat.le_trans (diskOk_wt (logOk_len h).1) (by omega)
theorem append_keeps {d : DiskT} (h : logOk d = true) (t : ByteArray) : logOk (orD d (append_ d t)).1 = true := by
  cases ha : append_ d t with
  | none => exact h
  | some y => exact (append_log ha).2.1
theorem shortOf_small {t : ByteArray} (h : t.size ≤ 100) : (shortOf t).size ≤ 201 := by
  have := shortOf_size t
  omega
theorem switch_one {d : DiskT} (h : logOk d = true) {t : ByteArray} (h0 : t.size ≠ 0) (h1 : t.size ≤ 100) : ∃ x y, fill_ d [t] = some x ∧ switch_ d [t] = some y ∧ logOk y = true ∧ logTexts y = [t] := by
  have hs := shortOf_small h1
  obtain ⟨x, x1, x2, x3, x4, x5⟩ := fill_log (l := [t]) h (by simp) (by simp [sizes]; omega) (fun u hu => by simp at hu; subst hu; exact ⟨h0, by omega⟩)
  obtain ⟨y, y1, y2, y3, _⟩ := fill_right x1 x2 x3 x4 x5 h
  exact ⟨x, y, x1, y1, y2, y3⟩

theorem Log_dr {s : Src} (h : s.ok) : ∃ (d : DiskT) (s' : Src), q_spec_l04Log s = some (d, s') ∧ s'.ok ∧ logOk d = true := by
  have key : ∀ (r i : Nat) (s : Src) (d : DiskT), s.ok → logOk d = true → 6 ≤ i + r → i ≤ 5 → ∃ (s' : Src) (d' : DiskT), W_spec_l04Log_3 (s, ([], []), d, (i : Int)) = some (.inl (s', ([], []), d')) ∧ s'.ok ∧ logOk d' = true := by
    intro r
    induction r with
    | zero => intro i s d _ _ h1 h2; omega
    | succ r ih =>
      intro i s d hs hd hr hi
      obtain ⟨y, s1, e1, k1, r1⟩ := Below_dr hs (n := 6) (by omega)
      rw [w_spec_l04Log_3]
      simp only [S_spec_l04Log_3, e1, Option.bind_some]
      by_cases hy : (i : Int) < y
      · obtain ⟨y2, s2, e2, k2, _⟩ := Once_dr k1 (n := 5) (by omega)
        simp only [hy, decide_true, cond_true, e2, Option.bind_some]
        have hw := logOk_wt hd
        cases y2 with
        | true =>
          obtain ⟨y3, s3, e3, k3, r3⟩ := Below_dr k2 (n := 9) (by omega)
          obtain ⟨n, hn⟩ : ∃ n : Nat, (n : Int) = 1 + y3 := ⟨(1 + y3).toNat, by omega⟩
          have w1 : IntKind.i64.wrap ((1 : Int) + y3) = (n : Int) := by rw [wrap64 (by omega) (by omega)]; omega
          obtain ⟨t, s4, e4, k4, r4⟩ := Text_dr k3 (n := n) (by omega)
          obtain ⟨x, z, z1, z2, z3, _⟩ := switch_one hd (t := t) (by omega) (by omega)
          have hsw := SwitchLog_spec (l := [t]) hw (by simp) (fun u hu => by simp at hu; subst hu; omega)
          simp only [cond_true, e3, w1, e4, Option.bind_some, hsw, z2, orD]
          rw [wrap_succ (by omega)]
          exact ih (i + 1) s4 z k4 z3 (by omega) (by omega)
        | false =>
          obtain ⟨y3, s3, e3, k3, r3⟩ := Below_dr k2 (n := 90) (by omega)
          obtain ⟨n, hn⟩ : ∃ n : Nat, (n : Int) = 1 + y3 := ⟨(1 + y3).toNat, by omega⟩
          have w1 : IntKind.i64.wrap ((1 : Int) + y3) = (n : Int) := by rw [wrap64 (by omega) (by omega)]; omega
          obtain ⟨t, s4, e4, k4, r4⟩ := Text_dr k3 (n := n) (by omega)
          simp only [cond_false, e3, w1, e4, Option.bind_some, AppendLog_spec d t hw (by omega)]
          rw [wrap_succ (by omega)]
          exact ih (i + 1) s4 _ k4 (append_keeps hd t) (by omega) (by omega)
      · simp only [hy, decide_false, cond_false]
        exact ⟨s1, d, rfl, k1, hd⟩
  obtain ⟨d0, hd0, hl0⟩ := LogNew_ok
  obtain ⟨s', d', e1, k1, r1⟩ := key 6 0 s d0 h hl0 (by omega) (by omega)
  have e1 : W_spec_l04Log_3 (s, ([], []), d0, 0) = _ := e1
  have hX : q_spec_l04Log s = some (d', s') := by
    rw [e_spec_l04Log]; unfold X_spec_l04Log
    simp only [hd0, Option.bind_some, e1]
  exact ⟨d', s', hX, k1, r1⟩

end Go.Proofs.Ythhpkgegmfjdmaa.Ab
