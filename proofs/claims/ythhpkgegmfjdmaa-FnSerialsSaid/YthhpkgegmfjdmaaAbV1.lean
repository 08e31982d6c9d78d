import Derived.Test.YthhpkgegmfjdmaaAbS2
import Derived.Test.YthhpkgegmfjdmaaAbQ0
namespace Go.Proofs.Ythhpkgegmfjdmaa.Ab
open Go
set_option linter.unusedVariables false
set_option linter.unusedSimpArgs false
set_option linter.unnecessarySimpa false
set_option linter.unusedVariables false
set_option linter.unusedSimpArgs false

/-! ## Texts in order -/
theorem toList_toS (b : ByteArray) : b.toList = toS b := by rw [ByteArray.toList_eq]; rfl
theorem toS_inj {a b : ByteArray} (h : toS a = toS b) : a = b := by rw [← unS_toS a, h, unS_toS]

theorem bytesLess_lt : ∀ (x y : List UInt8), Op.bytesLess x y = decide (x < y)
  | x, [] => by simp [Op.bytesLess]
  | [], y :: ys => by simp [Op.bytesLess]
  | x :: xs, y :: ys => by
    rw [Op.bytesLess, bytesLess_lt xs ys, Bool.eq_iff_iff]
    simp [List.cons_lt_cons_iff]

theorem strLt_iff {a b : ByteArray} : strLt a b = true ↔ toS a < toS b := by
  unfold strLt
  rw [toList_toS, toList_toS, bytesLess_lt]
  simp
theorem strLt_no {a b : ByteArray} : strLt a b = false ↔ ¬ toS a < toS b := by
  rw [← strLt_iff]; simp

theorem lt_irr (x : List UInt8) : ¬ x < x := List.lt_irrefl x
theorem lt_tr {x y z : List UInt8} (h : x < y) (k : y < z) : x < z := List.lt_trans h k
theorem lt_tri (x y : List UInt8) : x < y ∨ x = y ∨ y < x := by
  rcases List.le_total x y with h | h
  · rcases List.le_iff_lt_or_eq.mp h with h | h
    · exact .inl h
    · exact .inr (.inl h)
  · rcases List.le_iff_lt_or_eq.mp h with h | h
    · exact .inr (.inr h)
    · exact .inr (.inl h.symm)

theorem sLt_irr (a : ByteArray) : strLt a a = false := strLt_no.mpr (lt_irr _)
theorem sLt_tr {a b c : ByteArray} (h : strLt a b = true) (k : strLt b c = true) : strLt a c = true := strLt_iff.mpr (lt_tr (strLt_iff.mp h) (strLt_iff.mp k))
theorem sLt_tri (a b : ByteArray) : strLt a b = true ∨ a = b ∨ strLt b a = true := by
  rcases lt_tri (toS a) (toS b) with h | h | h
  · exact .inl (strLt_iff.mpr h)
  · exact .inr (.inl (toS_inj h))
  · exact .inr (.inr (strLt_iff.mpr h))
theorem sLt_asym {a b : ByteArray} (h : strLt a b = true) : strLt b a = false := by
  cases k : strLt b a with
  | false => rfl
  | true => exact absurd (sLt_tr h k) (by rw [sLt_irr]; exact Bool.false_ne_true)
theorem strEq_false {a b : ByteArray} : strEq a b = false ↔ a ≠ b := by
  rw [← Bool.not_eq_true, strEq_iff]
theorem strEq_comm (a b : ByteArray) : strEq a b = strEq b a := by
  rw [Bool.eq_iff_iff, strEq_iff, strEq_iff]
  exact ⟨Eq.symm, Eq.symm⟩

/-- Greater, as the program asks it. -/
theorem gt_iff {a b : ByteArray} : (!(strLt a b || strEq a b)) = strLt b a := by
  rcases sLt_tri a b with h | h | h
  · rw [h, sLt_asym h]; rfl
  · subst h; rw [sLt_irr, strEq_refl]; rfl
  · rw [sLt_asym h, h]
    have : strEq a b = false := strEq_false.mpr (fun e => by subst e; rw [sLt_irr] at h; cases h)
    rw [this]; rfl

/-! ## Lists that ascend -/
def Asc (l : List ByteArray) : Prop := l.Pairwise fun a b => strLt a b = true

theorem Asc.ext : ∀ {l m : List ByteArray}, Asc l → Asc m → (∀ x, x ∈ l ↔ x ∈ m) → l = m
  | [], [], _, _, _ => rfl
  | [], y :: m, _, _, h => by have := (h y).mpr (by simp); simp at this
  | x :: l, [], _, _, h => by have := (h x).mp (by simp); simp at this
  | x :: l, y :: m, hl, hm, h => by
    have hl' := List.pairwise_cons.mp hl
    have hm' := List.pairwise_cons.mp hm
    have hxy : x = y := by
      rcases List.mem_cons.mp ((h x).mp (by simp)) with e | e
      · exact e
      · rcases List.mem_cons.mp ((h y).mpr (by simp)) with e' | e'
        · exact e'.symm
        · have := sLt_tr (hm'.1 x e) (hl'.1 y e')
          rw [sLt_irr] at this; cases this
    subst hxy
    congr 1
    refine Asc.ext hl'.2 hm'.2 fun z => ?_
    constructor
    · intro hz
      rcases List.mem_cons.mp ((h z).mp (by simp [hz])) with e | e
      · subst e; have := hl'.1 z hz; rw [sLt_irr] at this; cases this
      · exact e
    · intro hz
      rcases List.mem_cons.mp ((h z).mpr (by simp [hz])) with e | e
      · subst e; have := hm'.1 z hz; rw [sLt_irr] at this; cases this
      · exact e

theorem Asc.filter {l : List ByteArray} (h : Asc l) (p : ByteArray → Bool) : Asc (l.filter p) := List.Pairwise.filter p h

/-- A key is laid into its place. -/
def insK (k : ByteArray) (l : List ByteArray) : List ByteArray := l.filter (fun x => strLt x k) ++ [k] ++ l.filter (fun x => !(strLt x k || strEq x k))

theorem mem_insK {k x : ByteArray} {l : List ByteArray} : x ∈ insK k l ↔ x = k ∨ x ∈ l := by
  simp only [insK, List.mem_append, List.mem_filter, List.mem_singleton, gt_iff]
  constructor
  · rintro ((h | h) | h)
    · exact .inr h.1
    · exact .inl h
    · exact .inr h.1
  · rintro (h | h)
    · exact .inl (.inr h)
    · rcases sLt_tri x k with e | e | e
      · exact .inl (.inl ⟨h, e⟩)
      · exact .inl (.inr e)
      · exact .inr ⟨h, e⟩

theorem insK_asc {k : ByteArray} {l : List ByteArray} (h : Asc l) : Asc (insK k l) := by
  unfold Asc insK
  rw [List.pairwise_append, List.pairwise_append]
  refine ⟨⟨h.filter _, by simp, fun a ha b hb => ?_⟩, h.filter _, fun a ha b hb => ?_⟩
  · simp only [List.mem_singleton] at hb
    subst hb
    exact (List.mem_filter.mp ha).2
  · have hb := (List.mem_filter.mp hb).2
    rw [gt_iff] at hb
    rcases List.mem_append.mp ha with ha | ha
    · exact sLt_tr (List.mem_filter.mp ha).2 hb
    · simp only [List.mem_singleton] at ha
      subst ha
      exact hb

theorem fold_insK {l : List ByteArray} : ∀ {a : List ByteArray}, Asc a → Asc (l.foldl (fun a k => insK k a) a) ∧ ∀ x, x ∈ l.foldl (fun a k => insK k a) a ↔ x ∈ l ∨ x ∈ a := by
  induction l with
  | nil => intro a h; exact ⟨h, fun x => by simp⟩
  | cons k l ih =>
    intro a h
    obtain ⟨h1, h2⟩ := ih (insK_asc (k := k) h)
    refine ⟨h1, fun x => ?_⟩
    rw [List.foldl_cons, h2, mem_insK, List.mem_cons]
    constructor
    · rintro (q | q | q)
      · exact .inl (.inr q)
      · exact .inl (.inl q)
      · exact .inr q
    · rintro ((q | q) | q)
      · exact .inr (.inl q)
      · exact .inl q
      · exact .inr (.inr q)

/-! ## What the library's Sort and Compact leave -/
theorem compact_spec (d : Array (List UInt8)) (hs : ∀ i j : Nat, i ≤ j → j < d.size → d[i]! ≤ d[j]!) : ∀ m, m ≤ d.size → (Lib.compactUpTo d m).Pairwise (· < ·) ∧ (∀ x, x ∈ Lib.compactUpTo d m ↔ ∃ i, i < m ∧ d[i]! = x)
  | 0, _ => by simp [Lib.compactUpTo]
  | m + 1, hm => by
    obtain ⟨h1, h2⟩ := compact_spec d hs m (by omega)
    rw [Lib.compactUpTo_succ]
    by_cases hk : Lib.keeps d m = true
    · rw [if_pos hk]
      constructor
      · rw [List.pairwise_append]
        refine ⟨h1, by simp, fun a ha b hb => ?_⟩
        simp only [List.mem_singleton] at hb
        subst hb
        obtain ⟨i, hi, rfl⟩ := (h2 a).mp ha
        unfold Lib.keeps at hk
        have hk := of_decide_eq_true hk
        rcases hk with hk | hk
        · omega
        · have l1 := hs i (m - 1) (by omega) (by omega)
          have l2 := hs (m - 1) m (by omega) (by omega)
          rcases List.le_iff_lt_or_eq.mp l2 with l2 | l2
          · rcases List.le_iff_lt_or_eq.mp l1 with l1 | l1
            · exact lt_tr l1 l2
            · rw [l1]; exact l2
          · exact absurd l2.symm hk
      · intro x
        simp only [List.mem_append, List.mem_singleton, h2]
        constructor
        · rintro (⟨i, hi, rfl⟩ | rfl)
          · exact ⟨i, by omega, rfl⟩
          · exact ⟨m, by omega, rfl⟩
        · rintro ⟨i, hi, rfl⟩
          rcases Nat.lt_or_ge i m with q | q
          · exact .inl ⟨i, q, rfl⟩
          · exact .inr (by rw [show i = m by omega])
    · rw [if_neg hk, List.append_nil]
      refine ⟨h1, fun x => ?_⟩
      rw [h2]
      unfold Lib.keeps at hk
      simp only [decide_eq_true_eq, not_or, ne_eq, Decidable.not_not] at hk
      constructor
      · rintro ⟨i, hi, rfl⟩; exact ⟨i, by omega, rfl⟩
      · rintro ⟨i, hi, rfl⟩
        rcases Nat.lt_or_ge i m with q | q
        · exact ⟨i, q, rfl⟩
        · have : i = m := by omega
          subst this
          exact ⟨i - 1, by omega, hk.2.symm⟩

/-- The keys of texts, each once, ascending. -/
def keysS (l : List ByteArray) : List ByteArray := dedS (sortS l)

theorem keysS_spec (l : List ByteArray) : Asc (keysS l) ∧ ∀ x, x ∈ keysS l ↔ x ∈ l := by
  obtain ⟨d, hd⟩ : ∃ d, d = (l.map toS).mergeSort fun x y => decide (x ≤ y) := ⟨_, rfl⟩
  have hk : keysS l = (Lib.compact d).map unS := by
    unfold keysS dedS sortS
    rw [← hd, List.map_map]
    have : (toS ∘ unS) = id := by funext x; rfl
    rw [this, List.map_id]
  have hsort : d.Pairwise (· ≤ ·) := by
    rw [hd]
    have := List.pairwise_mergeSort (le := fun (x y : List UInt8) => decide (x ≤ y)) (fun a b c h1 h2 => by
      simp only [decide_eq_true_eq] at h1 h2 ⊢
      exact List.le_trans h1 h2) (fun a b => by
      simp only [Bool.or_eq_true, decide_eq_true_eq]
      exact List.le_total a b) (l.map toS)
    exact this.imp (fun h => by simpa using h)
  have hmem : ∀ x, x ∈ d ↔ x ∈ l.map toS := fun x => by rw [hd]; exact (List.mergeSort_perm _ _).mem_iff
  have hs : ∀ i j : Nat, i ≤ j → j < d.toArray.size → d.toArray[i]! ≤ d.toArray[j]! := fun i j hij hj => by
    have hj' : j < d.length := by simpa using hj
    have hi' : i < d.length := by omega
    rw [getElem!_pos _ i (by simpa using hi'), getElem!_pos _ j hj]
    simp only [List.getElem_toArray]
    rcases Nat.lt_or_ge i j with q | q
    · exact List.pairwise_iff_getElem.mp hsort i j hi' hj' q
    · have : i = j := by omega
      subst this
      exact List.le_refl _
  obtain ⟨h1, h2⟩ := compact_spec d.toArray hs d.length (by simp)
  rw [hk]
  constructor
  · unfold Asc
    rw [List.pairwise_map]
    exact h1.imp (fun h => strLt_iff.mpr h)
  · intro x
    rw [List.mem_map]
    constructor
    · rintro ⟨y, hy, rfl⟩
      obtain ⟨i, hi, rfl⟩ := (h2 y).mp hy
      rw [getElem!_pos _ i (by simpa using hi)]
      have : d[i] ∈ l.map toS := (hmem _).mp (List.getElem_mem hi)
      obtain ⟨z, hz, e⟩ := List.mem_map.mp this
      simp only [List.getElem_toArray]
      rw [← e, unS_toS]
      exact hz
    · intro hx
      have : toS x ∈ d := (hmem _).mpr (List.mem_map.mpr ⟨x, hx, rfl⟩)
      obtain ⟨i, hi, e⟩ := List.mem_iff_getElem.mp this
      refine ⟨toS x, (h2 _).mpr ⟨i, hi, ?_⟩, unS_toS x⟩
      rw [getElem!_pos _ i (by simpa using hi)]
      simpa using e

theorem sortS_len (l : List ByteArray) : (sortS l).length = l.length := by simp [sortS]

/-- The keys of a range, one by one or all at once. -/
theorem keys_eq (l : List ByteArray) (p : ByteArray → Bool) : (l.filter p).foldl (fun a k => insK k a) [] = (keysS l).filter p := by
  obtain ⟨h1, h2⟩ := fold_insK (l := l.filter p) (a := []) List.Pairwise.nil
  obtain ⟨k1, k2⟩ := keysS_spec l
  refine Asc.ext h1 (k1.filter p) fun x => ?_
  rw [h2, List.mem_filter, List.mem_filter, k2]
  simp

end Go.Proofs.Ythhpkgegmfjdmaa.Ab
