import Derived.Test.YthhpkgegmfjdmaaAbVM
namespace Go.Proofs.Ythhpkgegmfjdmaa.Ab
open Go
set_option linter.unusedVariables false
set_option linter.unusedSimpArgs false
set_option linter.unnecessarySimpa false
set_option linter.unusedSimpArgs false
set_option linter.unusedVariables false
set_option linter.unusedSectionVars false

theorem touches_iff {r : List YRange.den} {w : List YWrite.den} : touches r w = true ↔ ∃ x ∈ r, ∃ y ∈ w, inR x y.1 = true := by simp [touches]
theorem meets_iff {a b : List YWrite.den} : meets a b = true ↔ ∃ x ∈ a, ∃ y ∈ b, x.1 = y.1 := by simp [meets, strEq_iff]

theorem before_wr {a b : YTxn.den} (h1 : tSt a = 3) (h2 : tSt b = 3) (h3 : tId a ≠ tId b) (h4 : tCs a ≤ tSnap b) {r : YRange.den} (hr : r ∈ b.2.2.2.2.1) {k : ByteArray} (hk : inR r k = true) (hw : wrs a k) : before a b = true := by
  obtain ⟨w, hw, rfl⟩ := hw
  have ht : touches b.2.2.2.2.1 a.2.2.2.2.2.1 = true := touches_iff.mpr ⟨r, hr, w, hw, hk⟩
  unfold tSt at h1 h2; unfold tId at h3; unfold tCs tSnap at h4
  unfold before
  simp [h1, h2, h3, h4, ht]

theorem before_rw {a b : YTxn.den} (h1 : tSt a = 3) (h2 : tSt b = 3) (h3 : tId a ≠ tId b) (h4 : tSnap a < tCs b) {r : YRange.den} (hr : r ∈ a.2.2.2.2.1) {k : ByteArray} (hk : inR r k = true) (hw : wrs b k) : before a b = true := by
  obtain ⟨w, hw, rfl⟩ := hw
  have ht : touches a.2.2.2.2.1 b.2.2.2.2.2.1 = true := touches_iff.mpr ⟨r, hr, w, hw, hk⟩
  unfold tSt at h1 h2; unfold tId at h3; unfold tCs tSnap at h4
  unfold before
  simp [h1, h2, h3, h4, ht]

theorem before_ww {a b : YTxn.den} (h1 : tSt a = 3) (h2 : tSt b = 3) (h3 : tId a ≠ tId b) (h4 : tCs a < tCs b) {k : ByteArray} (ha : wrs a k) (hb : wrs b k) : before a b = true := by
  obtain ⟨w, hw, rfl⟩ := ha
  obtain ⟨z, hz, e⟩ := hb
  have ht : meets a.2.2.2.2.2.1 b.2.2.2.2.2.1 = true := meets_iff.mpr ⟨w, hw, z, hz, e.symm⟩
  unfold tSt at h1 h2; unfold tId at h3; unfold tCs at h4
  unfold before
  simp [h1, h2, h3, h4, ht]

/-- Different numbers below n are at most n. -/
theorem nodup_len : ∀ (n : Nat) (u : List Nat), u.Nodup → (∀ i ∈ u, i < n) → u.length ≤ n
  | 0, u, _, h => by
    cases u with
    | nil => exact Nat.le_refl _
    | cons x u => exact absurd (h x (List.mem_cons_self ..)) (Nat.not_lt_zero x)
  | n + 1, u, hu, h => by
    have ih := nodup_len n (u.erase n) (hu.erase n) (fun i hi => by
      have h1 := h i (List.mem_of_mem_erase hi)
      have h2 : i ≠ n := fun e => by
        subst e
        exact (List.Nodup.not_mem_erase hu) hi
      omega)
    have := List.length_erase (a := n) (l := u)
    split at this <;> omega

section
variable {l : List YTxn.den} (hl : listOk l) {u : List Nat} (ho : ordOf l = some u)
include hl

theorem ok_lt {i j : Nat} (hi : i < l.length) (hj : j < l.length) (h : i < j) : tId l[i] ≠ tId l[j] ∧ tCs l[i] < tCs l[j] := (List.pairwise_iff_getElem.mp hl.2) i j hi hj h

theorem ok_ne {i j : Nat} (hi : i < l.length) (hj : j < l.length) (h : i ≠ j) : tId l[i] ≠ tId l[j] ∧ tCs l[i] ≠ tCs l[j] := by
  rcases Nat.lt_or_gt_of_ne h with h | h
  · have := ok_lt hl hi hj h
    exact ⟨this.1, by omega⟩
  · have := ok_lt hl hj hi h
    exact ⟨fun e => this.1 e.symm, by omega⟩

theorem ok_uni : ∀ a ∈ l, ∀ b ∈ l, tCs a = tCs b → a = b := by
  intro a ha b hb e
  obtain ⟨i, hi, rfl⟩ := List.getElem_of_mem ha
  obtain ⟨j, hj, rfl⟩ := List.getElem_of_mem hb
  by_cases h : i = j
  · subst h; rfl
  · exact absurd e (ok_ne hl hi hj h).2

include ho
/-- In the order nothing stands that had to come later. -/
theorem ord_bef {p q : Nat} (h : p < q) (hq : q < u.length) : ∃ (hp' : u[p] < l.length) (hq' : u[q] < l.length), u[p] ≠ u[q] ∧ before l[u[q]] l[u[p]] = false := by
  obtain ⟨_, g2, g3, g4⟩ := ordOf_good ho
  have m1 := g2 u[p] (List.getElem_mem (by omega))
  have m2 := g2 u[q] (List.getElem_mem hq)
  refine ⟨m1, m2, (List.pairwise_iff_getElem.mp g3) p q (by omega) hq h, ?_⟩
  have := g4 p q h hq
  unfold bfAt at this
  rwa [rdL_get (t := YTxn) m1, rdL_get (t := YTxn) m2] at this

/-- Those that were played ahead. -/
def pre (l : List YTxn.den) (u : List Nat) (a : Nat) : List YTxn.den := (u.take a).map fun i => rdL YTxn l i

theorem mem_pre {a : Nat} (ha : a ≤ u.length) {x : YTxn.den} : x ∈ pre l u a ↔ ∃ (p : Nat) (hp : p < u.length) (h : u[p] < l.length), p < a ∧ l[u[p]] = x := by
  obtain ⟨_, g2, _⟩ := ordOf_good ho
  unfold pre
  rw [List.mem_map]
  constructor
  · rintro ⟨i, hi, rfl⟩
    obtain ⟨p, hp, rfl⟩ := List.getElem_of_mem hi
    have hp1 : p < a ∧ p < u.length := by have := hp; rw [List.length_take] at this; omega
    have m := g2 u[p] (List.getElem_mem hp1.2)
    refine ⟨p, hp1.2, m, hp1.1, ?_⟩
    rw [List.getElem_take, rdL_get (t := YTxn) m]
  · rintro ⟨p, hp, m, hpa, rfl⟩
    refine ⟨u[p], ?_, rdL_get (t := YTxn) m⟩
    rw [List.mem_take_iff_getElem]
    exact ⟨p, by omega, rfl⟩

theorem pre_pair {a : Nat} (ha : a ≤ u.length) : (pre l u a).Pairwise (fun x y => ∀ k, wrs x k → wrs y k → tCs x < tCs y) := by
  obtain ⟨_, g2, _⟩ := ordOf_good ho
  unfold pre
  rw [List.pairwise_map, List.pairwise_iff_getElem]
  intro p q hp hq hpq k h1 h2
  have hp1 : p < a ∧ p < u.length := by have := hp; rw [List.length_take] at this; omega
  have hq1 : q < a ∧ q < u.length := by have := hq; rw [List.length_take] at this; omega
  obtain ⟨m1, m2, hne, hb⟩ := ord_bef hl ho hpq hq1.2
  simp only [List.getElem_take] at h1 h2 ⊢
  rw [rdL_get (t := YTxn) m1] at h1 ⊢
  rw [rdL_get (t := YTxn) m2] at h2 ⊢
  have hn := ok_ne hl m1 m2 hne
  apply Classical.byContradiction
  intro hlt
  have := before_ww (hl.1 _ (List.getElem_mem m2)).1 (hl.1 _ (List.getElem_mem m1)).1 (fun e => hn.1 e.symm) (by omega : tCs l[u[q]] < tCs l[u[p]]) h2 h1
  rw [this] at hb
  cases hb

theorem read_ok {a : Nat} (ha : a < u.length) (m : u[a] < l.length) : readBad (vsOf l) (playL (pre l u a)) l[u[a]] = false := by
  obtain ⟨g1, g2, g3, _⟩ := ordOf_good ho
  unfold readBad
  rw [List.any_eq_false]
  intro r hr
  have key : viewOf (playL (pre l u a)) r = scanAt (vsOf l) r l[u[a]].2.2.1 := by
    refine PAsc.ext (view_asc (playL_asc _) r) (scan_asc _ _ _) fun ⟨k, v⟩ => ?_
    have hkd : ∀ t ∈ pre l u a, KD t.2.2.2.2.2.1 := fun t ht => by
      obtain ⟨p, hp, mp, _, rfl⟩ := (mem_pre hl ho (by omega)).mp ht
      exact (hl.1 _ (List.getElem_mem mp)).2.2
    have e1 : (k, v) ∈ viewOf (playL (pre l u a)) r ↔ inR r k = true ∧ lastWr (pre l u a) k v (fun _ => True) := by
      unfold viewOf
      rw [List.mem_filter, mem_playL _ _ rfl hkd (pre_pair hl ho (by omega))]
      exact And.comm
    rw [e1, mem_scan_vs (fun t ht => (hl.1 t ht).2.2) (ok_uni hl)]
    refine and_congr_right fun hk => ?_
    have hst := (hl.1 _ (List.getElem_mem m)).1
    -- who writes k and is seen is who was played
    have sees : ∀ x, wrs x k → (x ∈ pre l u a ↔ x ∈ l ∧ tCs x ≤ tSnap l[u[a]]) := by
      intro x hx
      rw [mem_pre hl ho (by omega)]
      constructor
      · rintro ⟨p, hp, mp, hpa, rfl⟩
        refine ⟨List.getElem_mem mp, ?_⟩
        obtain ⟨_, _, hne, hb⟩ := ord_bef hl ho hpa ha
        apply Classical.byContradiction
        intro hlt
        have hn := ok_ne hl mp m hne
        have := before_rw hst (hl.1 _ (List.getElem_mem mp)).1 (fun e => hn.1 e.symm) (by omega : tSnap l[u[a]] < tCs l[u[p]]) hr hk hx
        rw [this] at hb
        cases hb
      · rintro ⟨hxl, hc⟩
        obtain ⟨j, hj, rfl⟩ := List.getElem_of_mem hxl
        have hju : j ∈ u := by
          apply Classical.byContradiction
          intro hju
          have := nodup_len l.length (j :: u) (List.nodup_cons.mpr ⟨hju, g3⟩) (fun i hi => by
            rcases List.mem_cons.mp hi with rfl | hi
            · exact hj
            · exact g2 i hi)
          simp only [List.length_cons] at this
          omega
        obtain ⟨p, hp, hpj⟩ := List.getElem_of_mem hju
        have hjm : u[p] < l.length := by omega
        refine ⟨p, hp, hjm, ?_, by simp [hpj]⟩
        rcases Nat.lt_trichotomy p a with z | z | z
        · exact z
        · exfalso
          subst z
          have := (hl.1 _ (List.getElem_mem m)).2.1
          have e : tCs l[j] = tCs l[u[p]] := by congr 1; simp [hpj]
          omega
        · exfalso
          obtain ⟨_, _, hne, hb⟩ := ord_bef hl ho z hp
          have hn := ok_ne hl m hjm hne
          have e : l[j] = l[u[p]] := by simp [hpj]
          rw [e] at hc hx
          have := before_wr (hl.1 _ (List.getElem_mem hjm)).1 hst (fun e => hn.1 e.symm) hc hr hk hx
          rw [this] at hb
          cases hb
    unfold lastWr
    constructor
    · rintro ⟨t, ht, _, ⟨w, hw, q⟩, h3⟩
      have s := (sees t ⟨w, hw, q.1⟩).mp ht
      exact ⟨t, s.1, s.2, ⟨w, hw, q⟩, fun x hx hc hk => h3 x ((sees x hk).mpr ⟨hx, hc⟩) trivial hk⟩
    · rintro ⟨t, ht, hc, ⟨w, hw, q⟩, h3⟩
      exact ⟨t, (sees t ⟨w, hw, q.1⟩).mpr ⟨ht, hc⟩, trivial, ⟨w, hw, q⟩, fun x hx _ hk => h3 x ((sees x hk).mp hx).1 ((sees x hk).mp hx).2 hk⟩
  simp [key]

theorem play_all : playIt l u = .inl () := by
  obtain ⟨g1, g2, _⟩ := ordOf_good ho
  have key : ∀ (d i : Nat), i + d = u.length → iter (playF l (vsOf l)) (fun _ => (.inl () : Unit ⊕ Bool)) i ((asInts u).drop i) (playL (pre l u i)) = .inl () := by
    intro d
    induction d with
    | zero =>
      intro i hi
      rw [List.drop_eq_nil_of_le (by rw [asInts_len]; omega)]
      rfl
    | succ d ih =>
      intro i hi
      have hiu : i < u.length := by omega
      have m := g2 u[i] (List.getElem_mem hiu)
      have hx : (asInts u)[i]'(by rw [asInts_len]; exact hiu) = (u[i] : Int) := by simp [asInts]
      rw [List.drop_eq_getElem_cons (by rw [asInts_len]; exact hiu)]
      simp only [iter, playF, hx, Int.toNat_natCast, rdL_get (t := YTxn) m, read_ok hl ho hiu m, Bool.false_eq_true, if_false]
      have e : playOne (playL (pre l u i)) l[u[i]].2.2.2.2.2.1 = playL (pre l u (i + 1)) := by
        unfold pre
        rw [List.take_succ_eq_append_getElem hiu, List.map_append, List.map_singleton, playL_snoc, rdL_get (t := YTxn) m]
      rw [e]
      exact ih (i + 1) (by omega)
  have := key u.length 0 (by omega)
  simpa [playIt, pre, playL] using this
end

theorem dones_small {l : List YTxn.den} (h0 : l.length ≤ 5) (h : ∀ t ∈ l, smallTx t) : (∀ x ∈ l, YTxn.wt x ≤ big40) ∧ l.length + wsSum l ≤ 1048576 ∧ ∀ x ∈ l, x.2.2.2.2.1.length ≤ 1048576 := by
  refine ⟨fun x hx => (h x hx).wt, ?_, fun x hx => by have := (h x hx).1; omega⟩
  have := sum_le (l := l) (f := fun t : YTxn.den => t.2.2.2.2.2.1.length) (k := 3) (fun t ht => (h t ht).2.2.1)
  unfold wsSum
  omega

end Go.Proofs.Ythhpkgegmfjdmaa.Ab
