import Derived.Test.YthhpkgegmfjdmaaAbP25
namespace Go.Proofs.Ythhpkgegmfjdmaa.Ab
open Go
set_option linter.unusedVariables false
set_option linter.unusedSimpArgs false
set_option linter.unnecessarySimpa false
set_option linter.unusedSimpArgs false
set_option linter.unusedVariables false

theorem DrawKeep_ok {l : List Int} (hl : l.length ≤ 1048576) : ∃ k, q_spec_DrawKeep l = some k := by
  have key : ∀ (r i : Nat) (s : Src) (a : List Int), s.ok → a.length = i → 14 ≤ i + r → i ≤ 13 → ∃ (s' : Src) (a' : List Int), W_spec_l03Keep_3 (s, a, (i : Int)) = some (.inl (s', a')) := by
    intro r
    induction r with
    | zero => intro i s a _ _ h1 h2; omega
    | succ r ih =>
      intro i s a hs ha hr hi
      obtain ⟨y, s1, e1, k1, r1⟩ := Below_dr hs (n := 14) (by omega)
      rw [w_spec_l03Keep_3]
      simp only [S_spec_l03Keep_3, e1, Option.bind_some]
      by_cases hy : (i : Int) < y
      · obtain ⟨y2, s2, e2, k2, r2⟩ := Below_dr k1 (n := 3) (by omega)
        have hc : Nat.ble (a.length + ([IntKind.i64.wrap (y2 - 1)] : List Int).length) cap40 = true := ble_cap (by simp; omega)
        simp only [hy, decide_true, cond_true, e2, Option.bind_some]
        rw [hc, wrap_succ (by omega)]
        exact ih (i + 1) s2 (a ++ [IntKind.i64.wrap (y2 - 1)]) k2 (by simp [ha]) (by omega) (by omega)
      · simp only [hy, decide_false, cond_false]
        exact ⟨s1, a, rfl⟩
  obtain ⟨s, e1, k1⟩ := New_dr hl
  obtain ⟨s', a', e2⟩ := key 14 0 s [] k1 rfl (by omega) (by omega)
  have e2 : W_spec_l03Keep_3 (s, [], 0) = _ := e2
  refine ⟨a', ?_⟩
  rw [e_spec_DrawKeep]; unfold X_spec_DrawKeep
  simp only [e1, Option.bind_some]
  rw [e_spec_l03Keep]; unfold X_spec_l03Keep
  simp only [e2, Option.bind_some]

theorem DrawPlaces_ok {l : List Int} (hl : l.length ≤ 1048576) : ∃ p, q_spec_DrawPlaces l = some p ∧ p.length = 12 := by
  have key : ∀ (r i : Nat) (s : Src) (a : List Int), s.ok → a.length = i → i + r = 12 → ∃ a' : List Int, W_spec_DrawPlaces_5 (s, a, (i : Int)) = some (.inl a') ∧ a'.length = 12 := by
    intro r
    induction r with
    | zero =>
      intro i s a hs ha hi
      have : i = 12 := by omega
      subst this
      rw [w_spec_DrawPlaces_5]
      exact ⟨a, rfl, ha⟩
    | succ r ih =>
      intro i s a hs ha hi
      obtain ⟨y, s1, e1, k1, r1⟩ := Below_dr hs (n := 10000) (by omega)
      have hlt : decide ((i : Int) < 12) = true := by simp; omega
      have hc : Nat.ble (a.length + ([y] : List Int).length) cap40 = true := ble_cap (by simp; omega)
      rw [w_spec_DrawPlaces_5]
      simp only [S_spec_DrawPlaces_5, hlt, cond_true, e1, Option.bind_some]
      rw [hc, wrap_succ (by omega)]
      exact ih (i + 1) s1 (a ++ [y]) k1 (by simp [ha]) (by omega)
  obtain ⟨s, e1, k1⟩ := New_dr hl
  obtain ⟨y, s1, e2, k2, _⟩ := Byte_dr k1
  obtain ⟨a', e3, h3⟩ := key 12 0 s1 [] k2 rfl rfl
  have e3 : W_spec_DrawPlaces_5 (s1, [], 0) = _ := e3
  refine ⟨a', ?_, h3⟩
  rw [e_spec_DrawPlaces]; unfold X_spec_DrawPlaces
  simp only [e1, e2, Option.bind_some, e3]

end Go.Proofs.Ythhpkgegmfjdmaa.Ab
