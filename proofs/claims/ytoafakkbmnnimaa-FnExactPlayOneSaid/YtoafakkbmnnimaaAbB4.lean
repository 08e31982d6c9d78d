import Derived.Test.YtoafakkbmnnimaaAbB3
namespace Go.Proofs.Ytoafakkbmnnimaa.Ab
open Go
set_option linter.unusedVariables false
set_option linter.unusedSimpArgs false
set_option linter.unnecessarySimpa false

section
variable {N Np Nt Ntp : Nat → Prop} {H : Heap} {B : List (Option Nat)} {w : World}

theorem Laid.lenB {u u' : Used} {es : List D} {us : List Value} {H2 H2' : Heap} {B2 Bn : List (Option Nat)} (h : Laid H B w N Np Nt Ntp u u' es us H2 H2' B2 Bn) (hl : B2.length = H2.length) :
    (B2 ++ Bn).length = H2'.length := by
  obtain ⟨Hn, rfl, e, _⟩ := h.heap
  simp; omega

theorem Used.has_mono {u u' : Used} (h : ∀ e ∈ u, e ∈ u') {id : Nat} (k : u'.has id = false) : u.has id = false := by
  cases e : u.has id with
  | false => rfl
  | true =>
    obtain ⟨b, hb⟩ := Used.has_iff.mp e
    rw [Used.has_iff.mpr ⟨b, h _ hb⟩] at k
    exact k

theorem Laid.append {u u1 u2 : Used} {es1 es2 : List D} {us1 us2 : List Value} {H2 H3 H4 : Heap} {B2 Bn1 Bn2 : List (Option Nat)} (hl : B2.length = H2.length) (hu : ∀ e ∈ u, e ∈ u1) (hu' : ∀ e ∈ u1, e ∈ u2)
    (h1 : Laid H B w N Np Nt Ntp u u1 es1 us1 H2 H3 B2 Bn1) (h2 : Laid H B w N Np Nt Ntp u1 u2 es2 us2 H3 H4 (B2 ++ Bn1) Bn2) :
    Laid H B w N Np Nt Ntp u u2 (es1 ++ es2) (us1 ++ us2) H2 H4 B2 (Bn1 ++ Bn2) := by
  have hl1 := h1.lenB hl
  obtain ⟨Hn1, e1, l1, b1⟩ := h1.heap
  obtain ⟨Hn2, e2, l2, b2⟩ := h2.heap
  have st : Step Nt Ntp Nt Ntp H3 (B2 ++ Bn1) w H4 (B2 ++ (Bn1 ++ Bn2)) w := by
    rw [← List.append_assoc, e2]; exact Step.app hl1 _ _
  refine ⟨⟨Hn1 ++ Hn2, by rw [e2, e1, List.append_assoc], by simp; omega, ?_⟩, ?_, ?_⟩
  · intro i b ob hi hb
    by_cases hlt : i < Hn1.length
    · rw [List.getElem?_append_left hlt] at hi
      rw [List.getElem?_append_left (by omega)] at hb
      exact (b1 i b ob hi hb).step st (fun _ _ => rfl)
    · rw [List.getElem?_append_right (by omega)] at hi
      rw [List.getElem?_append_right (by omega)] at hb
      have := b2 _ b ob hi (by rw [← hb]; congr 1; omega)
      rw [List.append_assoc] at this
      exact this
  · have k := h2.cells
    rw [List.append_assoc] at k
    exact (h1.cells.step st).append k
  · obtain ⟨M1, m1, f1, g1, n1⟩ := h1.from_
    obtain ⟨M2, m2, f2, g2, n2⟩ := h2.from_
    refine ⟨M1 ++ M2, by simp; omega, ?_, ?_, ?_⟩
    · intro i id e
      by_cases hlt : i < M1.length
      · rw [List.getElem?_append_left hlt] at e
        obtain ⟨q1, q2⟩ := f1 i id e
        exact ⟨hu' _ q1, q2⟩
      · rw [List.getElem?_append_right (by omega)] at e
        obtain ⟨q1, q2⟩ := f2 _ id e
        exact ⟨q1, Used.has_mono hu q2⟩
    · intro i rb e
      by_cases hlt : i < Bn1.length
      · rw [List.getElem?_append_left hlt] at e
        obtain ⟨id, q1, q2⟩ := g1 i rb e
        exact ⟨id, by rw [List.getElem?_append_left (by omega)]; exact q1, q2⟩
      · rw [List.getElem?_append_right (by omega)] at e
        obtain ⟨id, q1, q2⟩ := g2 _ rb e
        exact ⟨id, by rw [List.getElem?_append_right (by omega), ← q1]; congr 1; omega, q2⟩
    · have key : ∀ i j id : Nat, M1[i]? = some (some id) → M2[j]? = some (some id) → False := by
        intro i j id e e'
        have q1 := (f1 i id e).1
        have q2 := (f2 j id e').2
        rw [Used.has_iff.mpr ⟨_, q1⟩] at q2
        cases q2
      intro i j id e e'
      by_cases hi : i < M1.length <;> by_cases hj : j < M1.length
      · rw [List.getElem?_append_left hi] at e
        rw [List.getElem?_append_left hj] at e'
        exact n1 i j id e e'
      · rw [List.getElem?_append_left hi] at e
        rw [List.getElem?_append_right (by omega)] at e'
        exact (key _ _ _ e e').elim
      · rw [List.getElem?_append_right (by omega)] at e
        rw [List.getElem?_append_left hj] at e'
        exact (key _ _ _ e' e).elim
      · rw [List.getElem?_append_right (by omega)] at e
        rw [List.getElem?_append_right (by omega)] at e'
        have := n2 _ _ id e e'
        omega

/-- One more block. -/
theorem Laid.snoc {u u1 u' : Used} {es : List D} {us : List Value} {d : D} {v : Value} {H2 H3 : Heap} {B2 Bn : List (Option Nat)} (hl : B2.length = H2.length) (hu : ∀ e ∈ u, e ∈ u1) {b : Blk} {ob : Option Nat}
    (h : Laid H B w N Np Nt Ntp u1 u' es us H2 H3 B2 Bn)
    (hb : BR Nt Ntp (H3 ++ [b]) (B2 ++ (Bn ++ [ob])) w b ob) (hd : CR Nt Ntp (H3 ++ [b]) (B2 ++ (Bn ++ [ob])) w d v)
    (ho : ∀ rb, ob = some rb → ∃ id, B[id]? = some (some rb) ∧ (id, true) ∈ u' ∧ u.has id = false ∧ u1.has id = true) :
    Laid H B w N Np Nt Ntp u u' [d] [v] H2 (H3 ++ [b]) B2 (Bn ++ [ob]) := by
  have hl1 := h.lenB hl
  obtain ⟨Hn, e1, l1, b1⟩ := h.heap
  have st : Step Nt Ntp Nt Ntp H3 (B2 ++ Bn) w (H3 ++ [b]) (B2 ++ (Bn ++ [ob])) w := by
    rw [← List.append_assoc]; exact Step.app hl1 _ _
  refine ⟨⟨Hn ++ [b], by rw [e1, List.append_assoc], by simp; omega, ?_⟩, ?_, ?_⟩
  · intro i b' ob' hi hb'
    by_cases hlt : i < Hn.length
    · rw [List.getElem?_append_left hlt] at hi
      rw [List.getElem?_append_left (by omega)] at hb'
      exact (b1 i b' ob' hi hb').step st (fun _ _ => rfl)
    · rw [List.getElem?_append_right (by omega)] at hi
      rw [List.getElem?_append_right (by omega)] at hb'
      have e0 : i - Hn.length = 0 := by
        rcases Nat.eq_zero_or_pos (i - Hn.length) with q | q
        · exact q
        · rw [List.getElem?_eq_none (by simp; omega)] at hi; cases hi
      have e0' : i - Bn.length = 0 := by omega
      rw [e0] at hi; rw [e0'] at hb'
      simp at hi hb'
      subst hi; subst hb'
      exact hb
  · simp only [CRs]; exact ⟨v, [], rfl, hd, rfl⟩
  · obtain ⟨M, m, f, g, n⟩ := h.from_
    cases ob with
    | none =>
      refine ⟨M ++ [none], by simp; omega, ?_, ?_, ?_⟩
      · intro i id e
        by_cases hlt : i < M.length
        · rw [List.getElem?_append_left hlt] at e
          obtain ⟨q1, q2⟩ := f i id e
          exact ⟨q1, Used.has_mono hu q2⟩
        · rw [List.getElem?_append_right (by omega)] at e
          rcases Nat.eq_zero_or_pos (i - M.length) with q | q
          · rw [q] at e; simp at e
          · rw [List.getElem?_eq_none (by simp; omega)] at e; cases e
      · intro i rb e
        by_cases hlt : i < Bn.length
        · rw [List.getElem?_append_left hlt] at e
          obtain ⟨id, q1, q2⟩ := g i rb e
          exact ⟨id, by rw [List.getElem?_append_left (by omega)]; exact q1, q2⟩
        · rw [List.getElem?_append_right (by omega)] at e
          rcases Nat.eq_zero_or_pos (i - Bn.length) with q | q
          · rw [q] at e; simp at e
          · rw [List.getElem?_eq_none (by simp; omega)] at e; cases e
      · have tail : ∀ i id : Nat, (M ++ [none])[i]? = some (some id) → M[i]? = some (some id) := by
          intro i id e
          by_cases hlt : i < M.length
          · rwa [List.getElem?_append_left hlt] at e
          · rw [List.getElem?_append_right (by omega)] at e
            rcases Nat.eq_zero_or_pos (i - M.length) with q | q
            · rw [q] at e; simp at e
            · rw [List.getElem?_eq_none (by simp; omega)] at e; cases e
        exact fun i j id e e' => n i j id (tail _ _ e) (tail _ _ e')
    | some rb0 =>
      obtain ⟨id0, i1, i2, i3, i4⟩ := ho rb0 rfl
      have last : ∀ {X : Type} {l : List X} {x y : X} {i : Nat}, ¬ i < l.length → (l ++ [x])[i]? = some y → i = l.length ∧ y = x := by
        intro X l x y i hi e
        rw [List.getElem?_append_right (by omega)] at e
        rcases Nat.eq_zero_or_pos (i - l.length) with q | q
        · rw [q] at e; simp at e; exact ⟨by omega, e.symm⟩
        · rw [List.getElem?_eq_none (by simp; omega)] at e; cases e
      refine ⟨M ++ [some id0], by simp; omega, ?_, ?_, ?_⟩
      · intro i id e
        by_cases hlt : i < M.length
        · rw [List.getElem?_append_left hlt] at e
          obtain ⟨q1, q2⟩ := f i id e
          exact ⟨q1, Used.has_mono hu q2⟩
        · obtain ⟨-, q⟩ := last hlt e
          cases q
          exact ⟨i2, i3⟩
      · intro i rb e
        by_cases hlt : i < Bn.length
        · rw [List.getElem?_append_left hlt] at e
          obtain ⟨id, q1, q2⟩ := g i rb e
          exact ⟨id, by rw [List.getElem?_append_left (by omega)]; exact q1, q2⟩
        · obtain ⟨q0, q⟩ := last hlt e
          cases q
          exact ⟨id0, by rw [List.getElem?_append_right (by omega), q0, m]; simp, i1⟩
      · have old : ∀ i : Nat, M[i]? = some (some id0) → False := by
          intro i e
          have := (f i id0 e).2
          rw [i4] at this; cases this
        intro i j id e e'
        by_cases hi : i < M.length <;> by_cases hj : j < M.length
        · rw [List.getElem?_append_left hi] at e
          rw [List.getElem?_append_left hj] at e'
          exact n i j id e e'
        · rw [List.getElem?_append_left hi] at e
          obtain ⟨-, q⟩ := last hj e'
          cases q
          exact (old _ e).elim
        · obtain ⟨-, q⟩ := last hi e
          cases q
          rw [List.getElem?_append_left hj] at e'
          exact (old _ e').elim
        · obtain ⟨q1, -⟩ := last hi e
          obtain ⟨q2, -⟩ := last hj e'
          omega

/-- The same blocks, other cells over them. -/
theorem Laid.cells' {u u1 u' : Used} {es es' : List D} {us us' : List Value} {H2 H3 : Heap} {B2 Bn : List (Option Nat)} (hu : ∀ e ∈ u, e ∈ u1)
    (h : Laid H B w N Np Nt Ntp u1 u' es us H2 H3 B2 Bn) (hc : CRs Nt Ntp H3 (B2 ++ Bn) w es' us') : Laid H B w N Np Nt Ntp u u' es' us' H2 H3 B2 Bn := by
  obtain ⟨M, m, f, g, n⟩ := h.from_
  exact ⟨h.heap, hc, M, m, fun i id e => ⟨(f i id e).1, Used.has_mono hu (f i id e).2⟩, g, n⟩

end
end Go.Proofs.Ytoafakkbmnnimaa.Ab
