import Derived.Test.YtoafakkbmnnimaaAbE12
import Derived.ChangeArms
import Derived.Deep.Slices
import Derived.Carry
import Derived.SizedLaws
import Derived.ChangeShapes
import Derived.OpenShut
namespace Go.Proofs.Ytoafakkbmnnimaa.Ab
open Go
set_option linter.unusedVariables false
set_option linter.unusedSimpArgs false
set_option linter.unnecessarySimpa false
set_option linter.unusedSimpArgs false
set_option linter.unusedVariables false

/-- Whether a type of the program is read as a type of data. -/
def fitF (go : Nat → Ty → Bool) (P : Program) : Nat → List Field → Ty → Bool
  | _, [], _ => false
  | o, [f], y => Nat.beq f.offset o && Nat.beq (P.cellsOf f.type) y.size && go f.type y
  | o, f :: g :: fs, .pair a b => Nat.beq f.offset o && Nat.beq (P.cellsOf f.type) a.size && go f.type a && fitF go P (o + a.size) (g :: fs) b
  | _, _, _ => false
def fit (P : Program) : Nat → Nat → Ty → Bool
  | 0, _, _ => false
  | k + 1, t, y => match P.underlying t with
    | some .bool => (match y with
      | .bool => true
      | _ => false)
    | some (.int i) => (match y with
      | .int j => decide (i = j)
      | _ => false)
    | some .string => (match y with
      | .str => true
      | _ => false)
    | some (.slice e) => (match y with
      | .sl z => Nat.beq (P.cellsOf e) z.size && fit P k e z
      | _ => false)
    | some (.struct fs) => Nat.beq (P.cellsOf t) y.size && fitF (fit P k) P 0 fs.toList y
    | _ => false

/-- Data that an input can hold. -/
def Ty.fine : (t : Ty) → t.den → Prop
  | .int k, n => (Lit.int k n).wf = true
  | .bool, _ => True
  | .str, s => s.size ≤ maxLen
  | .sl e, l => l.length ≤ maxLen ∧ ∀ (i : Nat) (h : i < l.length), e.fine l[i]
  | .pair a b, x => a.fine x.1 ∧ b.fine x.2

theorem exists_list {X : Type} {p : Nat → X → Prop} : ∀ n : Nat, (∀ i, i < n → ∃ x, p i x) → ∃ l : List X, l.length = n ∧ ∀ (i : Nat) (h : i < l.length), p i l[i]
  | 0, _ => ⟨[], rfl, fun i h => absurd h (by simp)⟩
  | n + 1, h => by
    obtain ⟨l, h1, h2⟩ := exists_list n (fun i hi => h i (by omega))
    obtain ⟨x, hx⟩ := h n (by omega)
    refine ⟨l ++ [x], by simp [h1], fun i hi => ?_⟩
    by_cases e : i < l.length
    · rw [List.getElem_append_left e]; exact h2 i e
    · have : i = n := by simp [h1] at hi e; omega
      subst this
      rw [List.getElem_append_right (by omega)]
      simp [h1, hx]

section
variable {P : Program} {w : World} {H : Type} {enc : TypeId × Value → H}

theorem open_fitF {go : Nat → Ty → Bool} (hgo : ∀ t y, go t y = true → ∀ n cs x, DataW.trod enc P w 0 (fun _ => true) true n t cs = some x → ∃ v, Dat (fun _ => False) w y v cs ∧ y.fine v) {n : Nat} :
    ∀ {fs : List Field} {o : Nat} {y : Ty} {cs : List Value}, fitF go P o fs y = true → cs.length = o + y.size →
      (∀ (i : Nat) f, fs[i]? = some f → ∃ x, DataW.trod enc P w 0 (fun _ => true) true n f.type ((cs.drop f.offset).take (P.cellsOf f.type)) = some x) → ∃ v, Dat (fun _ => False) w y v (cs.drop o) ∧ y.fine v
  | [], o, y, cs, h, _, _ => by simp [fitF] at h
  | [f], o, y, cs, h, hl, hx => by
    simp only [fitF, Bool.and_eq_true] at h
    obtain ⟨⟨h1, h2⟩, h3⟩ := h
    have h1 := Nat.eq_of_beq_eq_true h1
    have h2 := Nat.eq_of_beq_eq_true h2
    obtain ⟨x, hx⟩ := hx 0 f rfl
    rw [h1, h2, List.take_of_length_le (by simp; omega)] at hx
    exact hgo _ _ h3 _ _ _ hx
  | f :: g :: fs, o, y, cs, h, hl, hx => by
    cases y with
    | pair a b =>
      simp only [fitF, Bool.and_eq_true] at h
      obtain ⟨⟨⟨h1, h2⟩, h3⟩, h4⟩ := h
      have h1 := Nat.eq_of_beq_eq_true h1
      have h2 := Nat.eq_of_beq_eq_true h2
      simp only [Ty.size] at hl
      obtain ⟨x, hx0⟩ := hx 0 f rfl
      rw [h1, h2] at hx0
      obtain ⟨v1, d1, f1⟩ := hgo _ _ h3 _ _ _ hx0
      obtain ⟨v2, d2, f2⟩ := open_fitF hgo (fs := g :: fs) (n := n) h4 (by omega) (fun i f' hf => hx (i + 1) f' (by simpa using hf))
      refine ⟨(v1, v2), ⟨_, _, ?_, d1, d2⟩, f1, f2⟩
      rw [← List.drop_drop, List.take_append_drop]
    | _ => simp [fitF] at h

theorem open_fit : ∀ {k t : Nat} {y : Ty}, fit P k t y = true → ∀ n cs x, DataW.trod enc P w 0 (fun _ => true) true n t cs = some x → ∃ v, Dat (fun _ => False) w y v cs ∧ y.fine v
  | 0, _, _, h, _, _, _, _ => by simp [fit] at h
  | k + 1, t, y, h, n, cs, x, hx => by
    unfold fit at h
    split at h
    · rename_i hu
      cases y <;> simp only at h <;> try (cases h; done)
      obtain ⟨b, rfl, _⟩ := DataW.trod_bool hu hx
      exact ⟨b, rfl, trivial⟩
    · rename_i i hu
      cases y <;> simp only at h <;> try (cases h; done)
      have h := of_decide_eq_true h
      subst h
      obtain ⟨n0, rfl, _, hw⟩ := DataW.trod_int hu hx
      exact ⟨n0, rfl, hw⟩
    · rename_i hu
      cases y <;> simp only at h <;> try (cases h; done)
      obtain ⟨s, rfl, _, hw⟩ := DataW.trod_string hu hx
      exact ⟨s, rfl, hw⟩
    · rename_i e hu
      cases y <;> simp only at h <;> try (cases h; done)
      rename_i z
      simp only [Bool.and_eq_true] at h
      obtain ⟨h1, h2⟩ := h
      have h1 := Nat.eq_of_beq_eq_true h1
      rcases Go.Deep.open_slice hu hx with ⟨rfl, _⟩ | ⟨a, len, cap, m, n', D0, Pl, rfl, _, hl, hm, hmm, _, hx⟩
      · exact ⟨[], ⟨none, 0, rfl, Nat.le_refl _, .inl rfl⟩, by simp [Ty.fine]⟩
      · have hmc : m = cap := by simpa using hmm
        obtain ⟨l, l1, l2⟩ := exists_list (p := fun i v => ∃ cs', w.cells? 0 (a.add (i * P.cellsOf e)) (P.cellsOf e) = some cs' ∧ Dat (fun _ => False) w z v cs' ∧ z.fine v) len (fun i hi => by
          obtain ⟨cs', k1, k2⟩ := hx i (by omega)
          obtain ⟨v, k3, k4⟩ := open_fit h2 _ _ _ k2
          exact ⟨v, cs', k1, k3, k4⟩)
        refine ⟨l, ⟨some a, cap, by rw [l1], by omega, ?_⟩, by rw [l1]; omega, fun i hi => ?_⟩
        · by_cases hl0 : l = []
          · exact .inl hl0
          · right
            have hpos : 0 < l.length := by cases l with
              | nil => exact absurd rfl hl0
              | cons _ _ => simp
            have hz := z.size_pos
            obtain ⟨cs', k1, _, _⟩ := l2 0 hpos
            obtain ⟨_, k3, k4⟩ := World.cells?_some k1
            have hc := k4 0 (by omega)
            have hlt0 : 0 < cs'.length := by omega
            rw [List.getElem?_eq_getElem hlt0] at hc
            obtain ⟨b, o, sp⟩ := a
            have hsp : sp = none ∧ b < w.heap.size := by
              simp only [Nat.zero_mul, Addr.add, if_pos] at hc
              unfold World.cell? at hc
              simp only at hc
              split at hc
              · rename_i hb
                split at hc
                · cases hc
                · rename_i hs
                  refine ⟨by cases sp with
                    | none => rfl
                    | some _ => simp at hs, ?_⟩
                  rcases Nat.lt_or_ge b w.heap.size with q | q
                  · exact q
                  · rw [Array.getElem?_eq_none q] at hb; cases hb
              · cases hc
            obtain ⟨rfl, hb⟩ := hsp
            refine ⟨b, o, rfl, fun q => q, hb, fun i hi => ?_⟩
            obtain ⟨cs', k1, k2, _⟩ := l2 i hi
            obtain ⟨_, k3, k4⟩ := World.cells?_some k1
            refine ⟨cs', k2, fun j hj => ?_⟩
            rw [← k4 j (by omega), h1, add_mk, add_mk]
        · obtain ⟨_, _, _, k4⟩ := l2 i hi
          exact k4
    · rename_i fs hu
      simp only [Bool.and_eq_true] at h
      obtain ⟨h1, h2⟩ := h
      have h1 := Nat.eq_of_beq_eq_true h1
      obtain ⟨xs, n', _, _, hlen, hxs, hx⟩ := DataW.trod_struct hu hx
      have := open_fitF (fun t y hg => open_fit hg) (n := n') (cs := cs) h2 (by omega) (fun i f hf => by
        have hf' : fs[i]? = some f := by simpa using hf
        have hi : i < xs.length := by rw [hxs]; exact (Array.getElem?_eq_some_iff.1 hf').1
        exact ⟨xs[i], by rw [hx i f hf', List.getElem?_eq_getElem hi]⟩)
      simpa using this
    · cases h

end
end Go.Proofs.Ytoafakkbmnnimaa.Ab
