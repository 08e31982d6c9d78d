import Derived.Test.YtoafakkbmnnimaaAbC5
import Derived.Laws.CopyRow
namespace Go.Proofs.Ytoafakkbmnnimaa.Ab
open Go
set_option linter.unusedVariables false
set_option linter.unusedSimpArgs false
set_option linter.unnecessarySimpa false
set_option linter.unusedSimpArgs false
set_option linter.unusedVariables false

section
variable {P : Program} {A : Ann} {C : Cx} {env : List D} {H : Heap} {B : List (Option Nat)} {a : Act} {w w' : World}

theorem Has.set {id : Nat} {ob : Option Nat} {b : Nat} (h : Has (B.set id ob) b) : Has B b ∨ ob = some b := by
  obtain ⟨i, e⟩ := h
  rw [List.getElem?_set] at e
  split at e
  · split at e
    · right; simpa using e
    · cases e
  · exact .inl ⟨i, e⟩

theorem Has.append {X : List (Option Nat)} {b : Nat} (h : Has (B ++ X) b) : Has B b ∨ some b ∈ X := by
  obtain ⟨i, e⟩ := h
  rcases Nat.lt_or_ge i B.length with q | q
  · rw [List.getElem?_append_left q] at e; exact .inl ⟨i, e⟩
  · rw [List.getElem?_append_right q] at e; exact .inr (List.mem_of_getElem? e)

theorem Fr.trans' {W0 : Nat → Prop} {w0 : World} (h : Fr W0 w0 w) (hsz : w.heap.size ≤ w'.heap.size) (hsame : ∀ b, b < w0.heap.size → ¬ W0 b → w'.heap[b]? = w.heap[b]?)
    (hc : ∀ rb cs, Cells w rb cs → ∃ cs', Cells w' rb cs' ∧ cs'.size = cs.size) (h1 : w'.os = w.os) (h2 : w'.tape = w.tape) (h3 : w'.output = w.output) : Fr W0 w0 w' where
  size := Nat.le_trans h.size hsz
  same := fun b hb hn => (hsame b hb hn).trans (h.same b hb hn)
  cells := fun rb cs k => by
    obtain ⟨cs1, k1, e1⟩ := h.cells rb cs k
    obtain ⟨cs2, k2, e2⟩ := hc rb cs1 k1
    exact ⟨cs2, k2, e2.trans e1⟩
  os := h1.trans h.os
  tape := h2.trans h.tape
  output := h3.trans h.output

/-- One block turned (or left for a new one). -/
theorem St.upd (h : St C env H B a w) {id : Nat} {old blk : Blk} {ob ob' : Option Nat} (hH : H[id]? = some old) (hB : B[id]? = some ob)
    (hsz : w.heap.size ≤ w'.heap.size) (hsame : ∀ b, b < w.heap.size → ob ≠ some b → w'.heap[b]? = w.heap[b]?)
    (hc : ∀ rb cs, Cells w rb cs → ∃ cs', Cells w' rb cs' ∧ cs'.size = cs.size) (h1 : w'.os = w.os) (h2 : w'.tape = w.tape) (h3 : w'.output = w.output)
    (hob : ob' = ob ∨ ob' = none ∨ ∃ nb, ob' = some nb ∧ w.heap.size ≤ nb ∧ nb < w'.heap.size)
    (hk : match blk with
      | .dead => True
      | .box _ => (∃ cs, old = .box cs) ∧ ob' = ob
      | .arr p st t l => ∃ p0 st0 t0 l0, old = .arr p0 st0 t0 l0 ∧ st0 ≤ st ∧ (st0 = st → t0 = t ∧ l0.length = l.length ∧ ob' = ob))
    (hbr : Step (C.N B) (C.Np B) (C.N (B.set id ob')) (C.Np (B.set id ob')) H B w (H.set id blk) (B.set id ob') w' → BR (C.N (B.set id ob')) (C.Np (B.set id ob')) (H.set id blk) (B.set id ob') w' blk ob') :
    St C env (H.set id blk) (B.set id ob') a w' := by
  have hid : id < H.length := by
    rcases Nat.lt_or_ge id H.length with q | q
    · exact q
    · rw [List.getElem?_eq_none q] at hH; cases hH
  have hidB : id < B.length := by rw [h.lenB]; exact hid
  have hHas : ∀ b, b < w.heap.size → Has (B.set id ob') b → Has B b := by
    intro b hb k
    rcases k.set with q | q
    · exact q
    · rcases hob with rfl | rfl | ⟨nb, rfl, k1, k2⟩
      · exact ⟨id, by rw [hB, q]⟩
      · cases q
      · cases q; omega
  have hnot : ∀ b, ¬ C.N B b → ob ≠ some b := fun b hb e => hb (.inl ⟨id, by rw [hB, e]⟩)
  have s : Step (C.N B) (C.Np B) (C.N (B.set id ob')) (C.Np (B.set id ob')) H B w (H.set id blk) (B.set id ob') w' := by
    refine ⟨⟨hsz, fun b hb hn => hsame b hb (hnot b hn), fun b hb hn k => hn (k.imp (hHas b hb) (fun q => q))⟩,
      ⟨hsz, fun b hb hn => hsame b hb (fun e => hn (.inl ⟨id, by rw [hB, e]⟩)), fun b hb hn k => hn (k.imp (hHas b hb) (fun q => q))⟩, by simp, ?_, ?_, hc⟩
    · intro i hi cells e
      rw [List.getElem?_set] at e
      by_cases q : id = i
      · subst q
        rw [if_pos rfl, if_pos hid] at e
        cases e
        obtain ⟨⟨cs, rfl⟩, e2⟩ := hk
        exact ⟨⟨cs, hH⟩, by rw [List.getElem?_set, if_pos rfl, if_pos hidB, hB, e2]⟩
      · rw [if_neg q] at e
        exact ⟨⟨_, e⟩, by simp [q]⟩
    · intro i hi p st t l e
      rw [List.getElem?_set] at e
      by_cases q : id = i
      · subst q
        rw [if_pos rfl, if_pos hid] at e
        cases e
        obtain ⟨p0, st0, t0, l0, rfl, k1, k2⟩ := hk
        refine ⟨p0, st0, t0, l0, hH, k1, fun e => ?_⟩
        obtain ⟨k3, k4, k5⟩ := k2 e
        exact ⟨k3, k4, by rw [List.getElem?_set, if_pos rfl, if_pos hidB, hB, k5]⟩
      · rw [if_neg q] at e
        exact ⟨_, _, _, _, e, Nat.le_refl _, fun _ => ⟨rfl, rfl, by simp [q]⟩⟩
  refine h.go s { lenB := by simp [h.lenB], nodup := ?_, alloc := ?_, blk := ?_, lb := h.lb, lp := h.lp, fr := ?_ }
  · intro i j rb e1 e2
    rw [List.getElem?_set] at e1 e2
    have hnew : ∀ nb, w.heap.size ≤ nb → ∀ i, B[i]? = some (some nb) → False := fun nb hn i e => by
      have := (h.alloc i nb e).1; omega
    by_cases q1 : id = i <;> by_cases q2 : id = j
    · omega
    · subst q1
      rw [if_pos rfl, if_pos hidB] at e1
      rw [if_neg q2] at e2
      rcases hob with rfl | rfl | ⟨nb, rfl, k1, k2⟩
      · exact h.nodup _ _ rb (by rw [hB]; exact e1) e2
      · cases e1
      · cases e1; exact (hnew _ k1 _ e2).elim
    · subst q2
      rw [if_pos rfl, if_pos hidB] at e2
      rw [if_neg q1] at e1
      rcases hob with rfl | rfl | ⟨nb, rfl, k1, k2⟩
      · exact h.nodup _ _ rb e1 (by rw [hB]; exact e2)
      · cases e2
      · cases e2; exact (hnew _ k1 _ e1).elim
    · rw [if_neg q1] at e1
      rw [if_neg q2] at e2
      exact h.nodup _ _ rb e1 e2
  · intro i rb e
    rw [List.getElem?_set] at e
    by_cases q1 : id = i
    · subst q1
      rw [if_pos rfl, if_pos hidB] at e
      rcases hob with rfl | rfl | ⟨nb, rfl, k1, k2⟩
      · obtain ⟨p1, p2, p3⟩ := h.alloc _ rb (by rw [hB]; exact e)
        exact ⟨Nat.lt_of_lt_of_le p1 hsz, p2, p3⟩
      · cases e
      · cases e
        refine ⟨k2, fun k => ?_, .inr (Nat.le_trans h.fr.size k1)⟩
        have := h.lp _ k
        have := h.fr.size
        omega
    · rw [if_neg q1] at e
      obtain ⟨p1, p2, p3⟩ := h.alloc _ rb e
      exact ⟨Nat.lt_of_lt_of_le p1 hsz, p2, p3⟩
  · intro i b ob1 e1 e2
    rw [List.getElem?_set] at e1 e2
    by_cases q1 : id = i
    · subst q1
      rw [if_pos rfl, if_pos hid] at e1
      rw [if_pos rfl, if_pos hidB] at e2
      cases e1; cases e2
      exact hbr s
    · rw [if_neg q1] at e1 e2
      refine (h.blk i b ob1 e1 e2).step s (fun rb e => ?_)
      subst e
      have hb := (h.alloc i rb e2).1
      refine hsame rb hb (fun e => q1 (h.nodup id i rb (by rw [hB, e]) e2))
  · refine h.fr.trans' hsz (fun b hb hn => ?_) hc h1 h2 h3
    refine hsame b (Nat.lt_of_lt_of_le hb h.fr.size) (fun e => ?_)
    rcases (h.alloc id b (by rw [hB, e])).2.2 with k | k
    · exact hn k
    · omega

def killB (B : List (Option Nat)) : List Nat → List (Option Nat)
  | [] => B
  | id :: r => killB (B.set id none) r

theorem St.kill1 (h : St C env H B a w) (id : Nat) : St C env (H.set id .dead) (B.set id none) a w := by
  cases hH : H[id]? with
  | none =>
    have e : H.length ≤ id := List.getElem?_eq_none_iff.mp hH
    have e1 : H.set id .dead = H := List.set_eq_of_length_le e
    have e2 : B.set id none = B := List.set_eq_of_length_le (by rw [h.lenB]; exact e)
    rw [e1, e2]; exact h
  | some old =>
    have hid : id < B.length := by
      rw [h.lenB]
      rcases Nat.lt_or_ge id H.length with q | q
      · exact q
      · rw [List.getElem?_eq_none q] at hH; cases hH
    exact h.upd hH (List.getElem?_eq_getElem hid) (Nat.le_refl _) (fun _ _ _ => rfl) (fun _ cs k => ⟨cs, k, rfl⟩) rfl rfl rfl (.inr (.inl rfl)) trivial (fun _ => trivial)

theorem St.kill : ∀ (ids : List Nat) {H : Heap} {B : List (Option Nat)}, St C env H B a w → St C env (kill H ids) (killB B ids) a w
  | [], _, _, h => h
  | id :: r, _, _, h => St.kill r (h.kill1 id)

theorem killB_len : ∀ (ids : List Nat) (B : List (Option Nat)), (killB B ids).length = B.length
  | [], _ => rfl
  | _ :: r, B => by simp [killB, killB_len r]

theorem kill_len : ∀ (ids : List Nat) (H : Heap), (Ab.kill H ids).length = H.length
  | [], _ => rfl
  | _ :: r, H => by simp [Ab.kill, kill_len r]

theorem killB_get : ∀ (ids : List Nat) (B : List (Option Nat)) (i : Nat), (killB B ids)[i]? = if i ∈ ids ∧ i < B.length then some none else B[i]?
  | [], B, i => by simp [killB]
  | id :: r, B, i => by
    simp only [killB]
    rw [killB_get r, List.getElem?_set]
    simp only [List.length_set, List.mem_cons]
    by_cases e : id = i
    · subst e
      by_cases hl : id < B.length
      · simp [hl]
      · simp [hl]
    · have : ¬ i = id := fun q => e q.symm
      simp [e, this]

theorem kill_get : ∀ (ids : List Nat) (H : Heap) (i : Nat), (Ab.kill H ids)[i]? = if i ∈ ids ∧ i < H.length then some .dead else H[i]?
  | [], B, i => by simp [Ab.kill]
  | id :: r, B, i => by
    simp only [Ab.kill]
    rw [kill_get r, List.getElem?_set]
    simp only [List.length_set, List.mem_cons]
    by_cases e : id = i
    · subst e
      by_cases hl : id < B.length
      · simp [hl]
      · simp [hl]
    · have : ¬ i = id := fun q => e q.symm
      simp [e, this]

theorem Has.killB {ids : List Nat} {b : Nat} (h : Has (killB B ids) b) : ∃ i, B[i]? = some (some b) ∧ i ∉ ids := by
  obtain ⟨i, e⟩ := h
  rw [killB_get] at e
  split at e
  · cases e
  · rename_i k
    refine ⟨i, e, fun hi => k ⟨hi, ?_⟩⟩
    rcases Nat.lt_or_ge i B.length with q | q
    · exact q
    · rw [List.getElem?_eq_none q] at e; cases e

/-- A new block. -/
theorem St.newBlk (h : St C env H B a w) {blk : Blk} {cs : Array Value} {el : TypeId}
    (hbr : Step (C.N B) (C.Np B) (C.N (B ++ [some w.heap.size])) (C.Np (B ++ [some w.heap.size])) H B w (H ++ [blk]) (B ++ [some w.heap.size]) (w.alloc (.cells cs el)) →
      Cells (w.alloc (.cells cs el)) w.heap.size cs →
      BR (C.N (B ++ [some w.heap.size])) (C.Np (B ++ [some w.heap.size])) (H ++ [blk]) (B ++ [some w.heap.size]) (w.alloc (.cells cs el)) blk (some w.heap.size)) :
    St C env (H ++ [blk]) (B ++ [some w.heap.size]) a (w.alloc (.cells cs el)) := by
  have hheap : ∀ b, b < w.heap.size → (w.alloc (.cells cs el)).heap[b]? = w.heap[b]? := fun b hb => Go.RowKit.Below.heap_alloc w _ b hb
  have hsz : w.heap.size ≤ (w.alloc (.cells cs el)).heap.size := by show w.heap.size ≤ (w.heap.push _).size; simp
  have hnew : Cells (w.alloc (.cells cs el)) w.heap.size cs := ⟨el, by show (w.heap.push _)[w.heap.size]? = _; simp⟩
  have hcells : ∀ rb cs0, Cells w rb cs0 → ∃ cs', Cells (w.alloc (.cells cs el)) rb cs' ∧ cs'.size = cs0.size := by
    intro rb cs0 k
    have := k.lt
    obtain ⟨e, k⟩ := k
    exact ⟨cs0, ⟨e, by rw [hheap rb this]; exact k⟩, rfl⟩
  have hHas : ∀ b, b < w.heap.size → Has (B ++ [some w.heap.size]) b → Has B b := by
    intro b hb k
    rcases k.append with q | q
    · exact q
    · simp at q; omega
  have s : Step (C.N B) (C.Np B) (C.N (B ++ [some w.heap.size])) (C.Np (B ++ [some w.heap.size])) H B w (H ++ [blk]) (B ++ [some w.heap.size]) (w.alloc (.cells cs el)) := by
    refine ⟨⟨hsz, fun b hb _ => hheap b hb, fun b hb hn k => hn (k.imp (hHas b hb) (fun q => q))⟩, ⟨hsz, fun b hb _ => hheap b hb, fun b hb hn k => hn (k.imp (hHas b hb) (fun q => q))⟩, by simp, ?_, ?_, hcells⟩
    · intro i hi cells e
      rw [List.getElem?_append_left hi] at e
      exact ⟨⟨_, e⟩, List.getElem?_append_left (by rw [h.lenB]; exact hi)⟩
    · intro i hi p st t l e
      rw [List.getElem?_append_left hi] at e
      exact ⟨_, _, _, _, e, Nat.le_refl _, fun _ => ⟨rfl, rfl, List.getElem?_append_left (by rw [h.lenB]; exact hi)⟩⟩
  have last : ∀ {X : Type} {l : List X} {x y : X} {i : Nat}, ¬ i < l.length → (l ++ [x])[i]? = some y → i = l.length ∧ y = x := by
    intro X l x y i hi e
    rw [List.getElem?_append_right (by omega)] at e
    rcases Nat.eq_zero_or_pos (i - l.length) with q | q
    · rw [q] at e; simp at e; exact ⟨by omega, e.symm⟩
    · rw [List.getElem?_eq_none (by simp; omega)] at e; cases e
  refine h.go s { lenB := by simp [h.lenB], nodup := ?_, alloc := ?_, blk := ?_, lb := h.lb, lp := h.lp, fr := ?_ }
  · intro i j rb e1 e2
    by_cases q1 : i < B.length <;> by_cases q2 : j < B.length
    · rw [List.getElem?_append_left q1] at e1
      rw [List.getElem?_append_left q2] at e2
      exact h.nodup i j rb e1 e2
    · rw [List.getElem?_append_left q1] at e1
      obtain ⟨_, k⟩ := last q2 e2
      cases k
      have := (h.alloc i _ e1).1; omega
    · rw [List.getElem?_append_left q2] at e2
      obtain ⟨_, k⟩ := last q1 e1
      cases k
      have := (h.alloc j _ e2).1; omega
    · obtain ⟨k1, _⟩ := last q1 e1
      obtain ⟨k2, _⟩ := last q2 e2
      omega
  · intro i rb e
    by_cases q1 : i < B.length
    · rw [List.getElem?_append_left q1] at e
      obtain ⟨p1, p2, p3⟩ := h.alloc i rb e
      exact ⟨Nat.lt_of_lt_of_le p1 hsz, p2, p3⟩
    · obtain ⟨_, k⟩ := last q1 e
      cases k
      refine ⟨hnew.lt, fun k => ?_, .inr h.fr.size⟩
      have := h.lp _ k
      have := h.fr.size
      omega
  · intro i b ob e1 e2
    by_cases q1 : i < H.length
    · rw [List.getElem?_append_left q1] at e1
      rw [List.getElem?_append_left (by rw [h.lenB]; exact q1)] at e2
      refine (h.blk i b ob e1 e2).step s (fun rb e => ?_)
      subst e
      exact hheap rb (h.alloc i rb e2).1
    · obtain ⟨_, k1⟩ := last q1 e1
      obtain ⟨_, k2⟩ := last (by rw [h.lenB]; exact q1) e2
      subst k1; subst k2
      exact hbr s hnew
  · exact h.fr.trans' hsz (fun b hb hn => hheap b (Nat.lt_of_lt_of_le hb h.fr.size)) hcells rfl rfl rfl

/-- A row that is nil: no block of the machine's. -/
theorem St.newNil (h : St C env H B a w) {blk : Blk} (hbr : BR (C.N (B ++ [none])) (C.Np (B ++ [none])) (H ++ [blk]) (B ++ [none]) w blk none) : St C env (H ++ [blk]) (B ++ [none]) a w := by
  have hHas : ∀ b, Has (B ++ [none]) b → Has B b := by
    intro b k
    rcases k.append with q | q
    · exact q
    · simp at q
  have s : Step (C.N B) (C.Np B) (C.N (B ++ [none])) (C.Np (B ++ [none])) H B w (H ++ [blk]) (B ++ [none]) w := by
    refine ⟨⟨Nat.le_refl _, fun _ _ _ => rfl, fun b hb hn k => hn (k.imp (hHas b) (fun q => q))⟩, ⟨Nat.le_refl _, fun _ _ _ => rfl, fun b hb hn k => hn (k.imp (hHas b) (fun q => q))⟩, by simp, ?_, ?_, fun _ cs k => ⟨cs, k, rfl⟩⟩
    · intro i hi cells e
      rw [List.getElem?_append_left hi] at e
      exact ⟨⟨_, e⟩, List.getElem?_append_left (by rw [h.lenB]; exact hi)⟩
    · intro i hi p st t l e
      rw [List.getElem?_append_left hi] at e
      exact ⟨_, _, _, _, e, Nat.le_refl _, fun _ => ⟨rfl, rfl, List.getElem?_append_left (by rw [h.lenB]; exact hi)⟩⟩
  have last : ∀ {X : Type} {l : List X} {x y : X} {i : Nat}, ¬ i < l.length → (l ++ [x])[i]? = some y → i = l.length ∧ y = x := by
    intro X l x y i hi e
    rw [List.getElem?_append_right (by omega)] at e
    rcases Nat.eq_zero_or_pos (i - l.length) with q | q
    · rw [q] at e; simp at e; exact ⟨by omega, e.symm⟩
    · rw [List.getElem?_eq_none (by simp; omega)] at e; cases e
  have old : ∀ i rb : Nat, (B ++ [none])[i]? = some (some rb) → B[i]? = some (some rb) := by
    intro i rb e
    by_cases q : i < B.length
    · rwa [List.getElem?_append_left q] at e
    · obtain ⟨_, k⟩ := last q e
      cases k
  refine h.go s { lenB := by simp [h.lenB], nodup := fun i j rb e1 e2 => h.nodup i j rb (old _ _ e1) (old _ _ e2), alloc := fun i rb e => h.alloc i rb (old _ _ e), blk := ?_, lb := h.lb, lp := h.lp, fr := h.fr }
  intro i b ob e1 e2
  by_cases q1 : i < H.length
  · rw [List.getElem?_append_left q1] at e1
    rw [List.getElem?_append_left (by rw [h.lenB]; exact q1)] at e2
    exact (h.blk i b ob e1 e2).step s (fun _ _ => rfl)
  · obtain ⟨_, k1⟩ := last q1 e1
    obtain ⟨_, k2⟩ := last (by rw [h.lenB]; exact q1) e2
    subst k1; subst k2
    exact hbr

end
end Go.Proofs.Ytoafakkbmnnimaa.Ab
