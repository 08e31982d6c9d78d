import Derived.Test.YthhpkgegmfjdmaaAbVW
import Derived.Test.YthhpkgegmfjdmaaAbVD
namespace Go.Proofs.Ythhpkgegmfjdmaa.Ab
open Go
set_option linter.unusedVariables false
set_option linter.unusedSimpArgs false
set_option linter.unnecessarySimpa false
set_option linter.unusedSimpArgs false
set_option linter.unusedVariables false

/-! ## What a list played leaves, and what its versions show -/
def PAsc (m : List PrT) : Prop := m.Pairwise fun a b => strLt a.1 b.1 = true

theorem PAsc.ext : ∀ {l m : List PrT}, PAsc l → PAsc m → (∀ x, x ∈ l ↔ x ∈ m) → l = m
  | [], [], _, _, _ => rfl
  | [], y :: m, _, _, h => by have := (h y).mpr (by simp); simp at this
  | x :: l, [], _, _, h => by have := (h x).mp (by simp); simp at this
  | x :: l, y :: m, hl, hm, h => by
    have hl' := List.pairwise_cons.mp hl
    have hm' := List.pairwise_cons.mp hm
    have hxy : x = y := by
      rcases List.mem_cons.mp ((h x).mp (by simp)) with e | e
      · exact e
      · rcases List.mem_cons.mp ((h y).mpr (by simp)) with e' | e'
        · exact e'.symm
        · have := sLt_tr (hm'.1 x e) (hl'.1 y e')
          rw [sLt_irr] at this; cases this
    subst hxy
    congr 1
    refine PAsc.ext hl'.2 hm'.2 fun z => ?_
    constructor
    · intro hz
      rcases List.mem_cons.mp ((h z).mp (by simp [hz])) with e | e
      · subst e; have := hl'.1 z hz; rw [sLt_irr] at this; cases this
      · exact e
    · intro hz
      rcases List.mem_cons.mp ((h z).mpr (by simp [hz])) with e | e
      · subst e; have := hm'.1 z hz; rw [sLt_irr] at this; cases this
      · exact e

theorem putC_asc {m : List PrT} (h : PAsc m) (w : YWrite.den) : PAsc (putC m w) := by
  unfold PAsc putC at *
  rw [List.append_assoc, List.pairwise_append]
  refine ⟨h.filter _, ?_, fun a ha b hb => ?_⟩
  · rw [List.pairwise_append]
    refine ⟨by split <;> simp, h.filter _, fun a ha b hb => ?_⟩
    have hb := (List.mem_filter.mp hb).2
    rw [gt_iff] at hb
    split at ha
    · cases ha
    · simp only [List.mem_singleton] at ha
      subst ha
      exact hb
  · have ha := (List.mem_filter.mp ha).2
    rcases List.mem_append.mp hb with hb | hb
    · split at hb
      · cases hb
      · simp only [List.mem_singleton] at hb
        subst hb
        exact ha
    · have hb := (List.mem_filter.mp hb).2
      rw [gt_iff] at hb
      exact sLt_tr ha hb

theorem mem_putC {m : List PrT} {w : YWrite.den} {k v : ByteArray} : (k, v) ∈ putC m w ↔ (k ≠ w.1 ∧ (k, v) ∈ m) ∨ (k = w.1 ∧ w.2.2 = false ∧ v = w.2.1) := by
  unfold putC
  simp only [List.append_assoc, List.mem_append, List.mem_filter, gt_iff]
  constructor
  · rintro (⟨h1, h2⟩ | h | ⟨h1, h2⟩)
    · exact .inl ⟨(fun e => by subst e; rw [sLt_irr] at h2; cases h2), h1⟩
    · split at h
      · cases h
      · rename_i hg
        simp only [List.mem_singleton, Prod.mk.injEq] at h
        exact .inr ⟨h.1, by simpa using hg, h.2⟩
    · exact .inl ⟨(fun e => by subst e; rw [sLt_irr] at h2; cases h2), h1⟩
  · rintro (⟨h1, h2⟩ | ⟨h1, h2, h3⟩)
    · rcases sLt_tri k w.1 with e | e | e
      · exact .inl ⟨h2, e⟩
      · exact absurd e h1
      · exact .inr (.inr ⟨h2, e⟩)
    · refine .inr (.inl ?_)
      rw [h2]
      simp [h1, h3]

theorem playOne_asc : ∀ (ws : List YWrite.den) {m : List PrT}, PAsc m → PAsc (playOne m ws)
  | [], _, h => h
  | w :: ws, _, h => playOne_asc ws (putC_asc h w)

theorem mem_playOne {k v : ByteArray} : ∀ (ws : List YWrite.den) (m : List PrT), KD ws → ((k, v) ∈ playOne m ws ↔ (∃ w ∈ ws, w.1 = k ∧ w.2.2 = false ∧ w.2.1 = v) ∨ ((∀ w ∈ ws, w.1 ≠ k) ∧ (k, v) ∈ m))
  | [], m, _ => by simp [playOne]
  | w :: ws, m, h => by
    have h' := List.pairwise_cons.mp h
    have ih := mem_playOne (k := k) (v := v) ws (putC m w) h'.2
    have e : playOne m (w :: ws) = playOne (putC m w) ws := rfl
    rw [e, ih, mem_putC]
    constructor
    · rintro (⟨x, hx, q⟩ | ⟨h1, h2 | h2⟩)
      · exact .inl ⟨x, List.mem_cons_of_mem _ hx, q⟩
      · refine .inr ⟨fun x hx => ?_, h2.2⟩
        rcases List.mem_cons.mp hx with rfl | hx
        · exact fun e => h2.1 e.symm
        · exact h1 x hx
      · exact .inl ⟨w, List.mem_cons_self .., h2.1.symm, h2.2.1, h2.2.2.symm⟩
    · rintro (⟨x, hx, q⟩ | ⟨h1, h2⟩)
      · rcases List.mem_cons.mp hx with rfl | hx
        · exact .inr ⟨fun y hy e => h'.1 y hy (q.1.trans e.symm), .inr ⟨q.1.symm, q.2.1, q.2.2.symm⟩⟩
        · exact .inl ⟨x, hx, q⟩
      · exact .inr ⟨fun y hy => h1 y (List.mem_cons_of_mem _ hy), .inl ⟨fun e => h1 w (List.mem_cons_self ..) e.symm, h2⟩⟩

/-- t writes k. -/
def wrs (t : YTxn.den) (k : ByteArray) : Prop := ∃ w ∈ t.2.2.2.2.2.1, w.1 = k

def playL (P : List YTxn.den) : List PrT := P.foldl (fun m t => playOne m t.2.2.2.2.2.1) []

theorem playL_snoc (P : List YTxn.den) (t : YTxn.den) : playL (P ++ [t]) = playOne (playL P) t.2.2.2.2.2.1 := by simp [playL]

theorem playL_asc (P : List YTxn.den) : PAsc (playL P) := by
  unfold playL
  have : ∀ (P : List YTxn.den) (m : List PrT), PAsc m → PAsc (P.foldl (fun m t => playOne m t.2.2.2.2.2.1) m) := by
    intro P
    induction P with
    | nil => intro m h; exact h
    | cons t P ih => intro m h; exact ih _ (playOne_asc _ h)
  exact this P [] List.Pairwise.nil

/-- The last that writes k, by its number. -/
def lastWr (P : List YTxn.den) (k v : ByteArray) (lim : Int → Prop) : Prop :=
  ∃ t ∈ P, lim (tCs t) ∧ (∃ w ∈ t.2.2.2.2.2.1, w.1 = k ∧ w.2.2 = false ∧ w.2.1 = v) ∧ ∀ x ∈ P, lim (tCs x) → wrs x k → tCs x ≤ tCs t

theorem mem_playL {k v : ByteArray} : ∀ (n : Nat) (P : List YTxn.den), P.length = n → (∀ t ∈ P, KD t.2.2.2.2.2.1) → P.Pairwise (fun a b => ∀ k, wrs a k → wrs b k → tCs a < tCs b) → ((k, v) ∈ playL P ↔ lastWr P k v (fun _ => True)) := by
  intro n
  induction n with
  | zero =>
    intro P hn _ _
    have : P = [] := List.eq_nil_of_length_eq_zero hn
    subst this
    simp [playL, lastWr]
  | succ n ih =>
    intro P hn hkd hp
    have hne : P ≠ [] := fun e => by rw [e] at hn; cases hn
    obtain ⟨Q, t, rfl⟩ : ∃ Q t, P = Q ++ [t] := ⟨P.dropLast, P.getLast hne, (List.dropLast_concat_getLast hne).symm⟩
    have hQ := ih Q (by simpa using hn) (fun x hx => hkd x (by simp [hx])) (List.pairwise_append.mp hp).1
    have hlt : ∀ x ∈ Q, ∀ k, wrs x k → wrs t k → tCs x < tCs t := fun x hx => (List.pairwise_append.mp hp).2.2 x hx t (by simp)
    rw [playL_snoc, mem_playOne _ _ (hkd t (by simp)), hQ]
    unfold lastWr
    constructor
    · rintro (⟨w, hw, q⟩ | ⟨h1, x, hx, _, q, h3⟩)
      · refine ⟨t, by simp, trivial, ⟨w, hw, q⟩, fun x hx _ hk => ?_⟩
        rcases List.mem_append.mp hx with hx | hx
        · have := hlt x hx k hk ⟨w, hw, q.1⟩
          omega
        · simp only [List.mem_singleton] at hx
          subst hx; exact Int.le_refl _
      · refine ⟨x, by simp [hx], trivial, q, fun y hy _ hk => ?_⟩
        rcases List.mem_append.mp hy with hy | hy
        · exact h3 y hy trivial hk
        · simp only [List.mem_singleton] at hy
          subst hy
          obtain ⟨w, hw, e⟩ := hk
          exact absurd e (h1 w hw)
    · rintro ⟨x, hx, _, q, h3⟩
      by_cases hk : wrs t k
      · rcases List.mem_append.mp hx with hx | hx
        · obtain ⟨w, hw, e, _⟩ := q
          have h4 := hlt x hx k ⟨w, hw, e⟩ hk
          have h5 := h3 t (by simp) trivial hk
          omega
        · simp only [List.mem_singleton] at hx
          subst hx
          exact .inl q
      · rcases List.mem_append.mp hx with hx | hx
        · exact .inr ⟨fun w hw e => hk ⟨w, hw, e⟩, x, hx, trivial, q, fun y hy _ hyk => h3 y (by simp [hy]) trivial hyk⟩
        · simp only [List.mem_singleton] at hx
          subst hx
          exact .inl q

/-! Versions. -/
theorem mem_putV {l : List VerT} {v x : VerT} : x ∈ putV l v ↔ x = v ∨ x ∈ l := by
  unfold putV
  conv => rhs; rw [← List.takeWhile_append_dropWhile (p := verLe v) (l := l)]
  simp only [List.mem_append, List.mem_singleton]
  constructor
  · rintro ((h | h) | h)
    · exact .inr (.inl h)
    · exact .inl h
    · exact .inr (.inr h)
  · rintro (h | h | h)
    · exact .inl (.inr h)
    · exact .inl (.inl h)
    · exact .inr h

theorem mem_putVs {x : VerT} : ∀ (ws : List YWrite.den) (l : List VerT) (cs : Int), x ∈ putVs l ws cs ↔ x ∈ l ∨ ∃ w ∈ ws, x = (w.1, w.2.1, w.2.2, cs)
  | [], l, cs => by simp [putVs]
  | w :: ws, l, cs => by
    have e : putVs l (w :: ws) cs = putVs (putV l (w.1, w.2.1, w.2.2, cs)) ws cs := rfl
    rw [e, mem_putVs ws, mem_putV]
    constructor
    · rintro ((h | h) | ⟨y, hy, h⟩)
      · exact .inr ⟨w, by simp, h⟩
      · exact .inl h
      · exact .inr ⟨y, by simp [hy], h⟩
    · rintro (h | ⟨y, hy, h⟩)
      · exact .inl (.inr h)
      · rcases List.mem_cons.mp hy with rfl | hy
        · exact .inl (.inl h)
        · exact .inr ⟨y, hy, h⟩

theorem mem_vsOf {x : VerT} (l : List YTxn.den) : x ∈ vsOf l ↔ ∃ t ∈ l, ∃ w ∈ t.2.2.2.2.2.1, x = (w.1, w.2.1, w.2.2, tCs t) := by
  have : ∀ (l : List YTxn.den) (a : List VerT), x ∈ l.foldl vsStep a ↔ x ∈ a ∨ ∃ t ∈ l, ∃ w ∈ t.2.2.2.2.2.1, x = (w.1, w.2.1, w.2.2, tCs t) := by
    intro l
    induction l with
    | nil => intro a; simp
    | cons t l ih =>
      intro a
      rw [List.foldl_cons, ih]
      unfold vsStep
      rw [mem_putVs]
      constructor
      · rintro ((h | ⟨w, hw, h⟩) | ⟨y, hy, h⟩)
        · exact .inl h
        · exact .inr ⟨t, by simp, w, hw, h⟩
        · exact .inr ⟨y, by simp [hy], h⟩
      · rintro (h | ⟨y, hy, h⟩)
        · exact .inl (.inl h)
        · rcases List.mem_cons.mp hy with rfl | hy
          · exact .inl (.inr h)
          · exact .inr ⟨y, hy, h⟩
  unfold vsOf
  rw [this]
  simp

def vCs (x : VerT) : Int := x.2.2.2

theorem atGo_facts (l : List VerT) (k : ByteArray) (snap : Int) : ∀ n, n ≤ l.length →
    (atGo l k snap n < 0 → ∀ (i : Nat) (h : i < l.length), i < n → ¬ (l[i].1 = k ∧ vCs l[i] ≤ snap)) ∧
    (∀ a : Nat, atGo l k snap n = (a : Int) → ∃ h : a < l.length, l[a].1 = k ∧ vCs l[a] ≤ snap ∧ ∀ (i : Nat) (h : i < l.length), i < n → l[i].1 = k → vCs l[i] ≤ snap → vCs l[i] ≤ vCs l[a])
  | 0, _ => ⟨fun _ i _ h => absurd h (Nat.not_lt_zero i), fun a e => by simp only [atGo] at e; omega⟩
  | n + 1, hn => by
    obtain ⟨h1, h2⟩ := atGo_facts l k snap n (by omega)
    have hlt : n < l.length := by omega
    have hr := atGo_rng l k snap n
    simp only [atGo, atStep, rdL_get (t := YVersion) hlt]
    by_cases hc : strEq l[n].1 k = true ∧ l[n].2.2.2 ≤ snap ∧ (atGo l k snap n < 0 ∨ l[n].2.2.2 > (rdL YVersion l (atGo l k snap n).toNat).2.2.2)
    · rw [if_pos hc]
      obtain ⟨c1, c2, c3⟩ := hc
      have c1 : l[n].1 = k := strEq_iff.mp c1
      refine ⟨fun h => by omega, fun a e => ?_⟩
      have e : n = a := by omega
      subst e
      refine ⟨hlt, c1, c2, fun i hi hin hk hs => ?_⟩
      by_cases q : i = n
      · subst q; exact Int.le_refl _
      · rcases Int.lt_or_le (atGo l k snap n) 0 with z | z
        · exact absurd ⟨hk, hs⟩ (h1 z i hi (by omega))
        · obtain ⟨b, hb⟩ : ∃ b : Nat, atGo l k snap n = (b : Int) := ⟨(atGo l k snap n).toNat, by omega⟩
          obtain ⟨hbl, _, _, g3⟩ := h2 b hb
          rcases c3 with c3 | c3
          · omega
          · rw [hb, Int.toNat_natCast, rdL_get (t := YVersion) hbl] at c3
            have h5 := g3 i hi (by omega) hk hs
            have c3 : vCs l[n] > vCs l[b] := c3
            omega
    · rw [if_neg hc]
      have hc' : l[n].1 = k → vCs l[n] ≤ snap → ∃ b : Nat, atGo l k snap n = (b : Int) ∧ ∃ h : b < l.length, vCs l[n] ≤ vCs l[b] := fun c1 c2 => by
        rcases Int.lt_or_le (atGo l k snap n) 0 with z | z
        · exact absurd ⟨strEq_iff.mpr c1, c2, .inl z⟩ hc
        · obtain ⟨b, hb⟩ : ∃ b : Nat, atGo l k snap n = (b : Int) := ⟨(atGo l k snap n).toNat, by omega⟩
          obtain ⟨hbl, _⟩ := h2 b hb
          refine ⟨b, hb, hbl, Int.not_lt.mp fun z2 => hc ⟨strEq_iff.mpr c1, c2, .inr ?_⟩⟩
          rw [hb, Int.toNat_natCast, rdL_get (t := YVersion) hbl]
          exact z2
      refine ⟨fun h i hi hin => ?_, fun a e => ?_⟩
      · by_cases q : i = n
        · subst q
          rintro ⟨z1, z2⟩
          obtain ⟨b, hb, _⟩ := hc' z1 z2
          omega
        · exact h1 h i hi (by omega)
      · obtain ⟨ha, g1, g2, g3⟩ := h2 a e
        refine ⟨ha, g1, g2, fun i hi hin hk hs => ?_⟩
        by_cases q : i = n
        · subst q
          obtain ⟨b, hb, hbl, g4⟩ := hc' hk hs
          have e : b = a := by omega
          subst e
          exact g4
        · exact g3 i hi (by omega) hk hs

/-- What is seen of a key: the version with the greatest number. -/
theorem seen_iff (l : List VerT) (k v : ByteArray) (snap : Int) (hu : ∀ x ∈ l, ∀ y ∈ l, x.1 = y.1 → vCs x = vCs y → x = y) :
    ((seenAt l k snap).2 = true ∧ (seenAt l k snap).1 = v) ↔ ∃ x ∈ l, x.1 = k ∧ vCs x ≤ snap ∧ x.2.2.1 = false ∧ x.2.1 = v ∧ ∀ y ∈ l, y.1 = k → vCs y ≤ snap → vCs y ≤ vCs x := by
  obtain ⟨h1, h2⟩ := atGo_facts l k snap l.length (Nat.le_refl _)
  have hr := lastAt_rng l k snap
  unfold seenAt
  rcases Int.lt_or_le (lastAt l k snap) 0 with z | z
  · rw [if_pos (.inl z)]
    constructor
    · rintro ⟨h, _⟩; cases h
    · rintro ⟨x, hx, q1, q2, _⟩
      obtain ⟨i, hi, rfl⟩ := List.getElem_of_mem hx
      exact absurd ⟨q1, q2⟩ (h1 z i hi hi)
  · obtain ⟨b, hb⟩ : ∃ b : Nat, lastAt l k snap = (b : Int) := ⟨(lastAt l k snap).toNat, by omega⟩
    obtain ⟨hbl, g1, g2, g3⟩ := h2 b hb
    rw [hb, Int.toNat_natCast, rdL_get (t := YVersion) hbl]
    have hmax : ∀ y ∈ l, y.1 = k → vCs y ≤ snap → vCs y ≤ vCs l[b] := fun y hy q1 q2 => by
      obtain ⟨i, hi, rfl⟩ := List.getElem_of_mem hy
      exact g3 i hi hi q1 q2
    have hnn : ¬ ((b : Int) < 0) := by omega
    cases hg : l[b].2.2.1 with
    | true =>
      rw [if_pos (.inr rfl)]
      constructor
      · rintro ⟨h, _⟩; cases h
      · rintro ⟨x, hx, q1, q2, q3, _, q5⟩
        have m1 := hmax x hx q1 q2
        have m2 := q5 l[b] (List.getElem_mem hbl) g1 g2
        have e := hu x hx l[b] (List.getElem_mem hbl) (q1.trans g1.symm) (by omega)
        rw [e, hg] at q3
        cases q3
    | false =>
      rw [if_neg (by simp)]
      constructor
      · rintro ⟨_, h⟩
        exact ⟨l[b], List.getElem_mem hbl, g1, g2, hg, h, hmax⟩
      · rintro ⟨x, hx, q1, q2, q3, q4, q5⟩
        have m1 := hmax x hx q1 q2
        have m2 := q5 l[b] (List.getElem_mem hbl) g1 g2
        have e := hu x hx l[b] (List.getElem_mem hbl) (q1.trans g1.symm) (by omega)
        rw [e] at q4
        exact ⟨rfl, q4⟩

theorem scan_asc (l : List VerT) (r : PrT) (snap : Int) : PAsc (scanAt l r snap) := by
  unfold PAsc scanAt
  rw [List.pairwise_map]
  exact ((keysS_spec _).1).filter _

theorem mem_scan (l : List VerT) (r : PrT) (snap : Int) (k v : ByteArray) (hu : ∀ x ∈ l, ∀ y ∈ l, x.1 = y.1 → vCs x = vCs y → x = y) :
    (k, v) ∈ scanAt l r snap ↔ inR r k = true ∧ ∃ x ∈ l, x.1 = k ∧ vCs x ≤ snap ∧ x.2.2.1 = false ∧ x.2.1 = v ∧ ∀ y ∈ l, y.1 = k → vCs y ≤ snap → vCs y ≤ vCs x := by
  unfold scanAt
  simp only [List.mem_map, List.mem_filter, Bool.and_eq_true, Prod.mk.injEq]
  constructor
  · rintro ⟨k', ⟨_, h2, h3⟩, rfl, h5⟩
    exact ⟨h3, (seen_iff l k' v snap hu).mp ⟨h2, h5⟩⟩
  · rintro ⟨h1, h2⟩
    obtain ⟨q1, q2⟩ := (seen_iff l k v snap hu).mpr h2
    obtain ⟨x, hx, e, _⟩ := h2
    exact ⟨k, ⟨((keysS_spec _).2 k).mpr (List.mem_map.mpr ⟨x, hx, e⟩), q1, h1⟩, rfl, q2⟩

theorem view_asc {m : List PrT} (h : PAsc m) (r : PrT) : PAsc (viewOf m r) := List.Pairwise.filter _ h

/-- Versions of a list whose numbers differ are told apart by key and number. -/
theorem vs_uni {l : List YTxn.den} (hk : ∀ t ∈ l, KD t.2.2.2.2.2.1) (hc : ∀ a ∈ l, ∀ b ∈ l, tCs a = tCs b → a = b) : ∀ x ∈ vsOf l, ∀ y ∈ vsOf l, x.1 = y.1 → vCs x = vCs y → x = y := by
  intro x hx y hy e1 e2
  obtain ⟨a, ha, w, hw, rfl⟩ := (mem_vsOf l).mp hx
  obtain ⟨b, hb, z, hz, rfl⟩ := (mem_vsOf l).mp hy
  have := hc a ha b hb e2
  subst this
  have : w = z := by
    apply Classical.byContradiction
    intro hne
    have hp : ∀ (ws : List YWrite.den), KD ws → ∀ w ∈ ws, ∀ z ∈ ws, w ≠ z → w.1 ≠ z.1 := by
      intro ws
      induction ws with
      | nil => intro _ w hw; cases hw
      | cons c ws ih =>
        intro h w hw z hz hne
        have h' := List.pairwise_cons.mp h
        rcases List.mem_cons.mp hw with rfl | hw <;> rcases List.mem_cons.mp hz with rfl | hz
        · exact absurd rfl hne
        · exact h'.1 z hz
        · exact fun e => h'.1 w (by assumption) e.symm
        · exact ih h'.2 w (by assumption) z (by assumption) hne
    exact hp _ (hk a ha) w hw z hz hne e1
  subst this
  rfl

theorem mem_scan_vs {l : List YTxn.den} (hk : ∀ t ∈ l, KD t.2.2.2.2.2.1) (hc : ∀ a ∈ l, ∀ b ∈ l, tCs a = tCs b → a = b) (r : PrT) (snap : Int) (k v : ByteArray) :
    (k, v) ∈ scanAt (vsOf l) r snap ↔ inR r k = true ∧ lastWr l k v (fun c => c ≤ snap) := by
  rw [mem_scan _ _ _ _ _ (vs_uni hk hc)]
  unfold lastWr
  refine and_congr_right fun _ => ?_
  constructor
  · rintro ⟨x, hx, q1, q2, q3, q4, q5⟩
    obtain ⟨a, ha, w, hw, rfl⟩ := (mem_vsOf l).mp hx
    exact ⟨a, ha, q2, ⟨w, hw, q1, q3, q4⟩, fun b hb hl ⟨z, hz, ez⟩ => q5 (z.1, z.2.1, z.2.2, tCs b) ((mem_vsOf l).mpr ⟨b, hb, z, hz, rfl⟩) ez hl⟩
  · rintro ⟨a, ha, hl, ⟨w, hw, q1, q3, q4⟩, q5⟩
    refine ⟨(w.1, w.2.1, w.2.2, tCs a), (mem_vsOf l).mpr ⟨a, ha, w, hw, rfl⟩, q1, hl, q3, q4, fun y hy e1 e2 => ?_⟩
    obtain ⟨b, hb, z, hz, rfl⟩ := (mem_vsOf l).mp hy
    exact q5 b hb e2 ⟨z, hz, e1⟩

end Go.Proofs.Ythhpkgegmfjdmaa.Ab
