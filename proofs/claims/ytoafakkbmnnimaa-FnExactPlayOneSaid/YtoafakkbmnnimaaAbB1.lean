import Derived.Test.YtoafakkbmnnimaaAbA3
import Derived.Laws.Cells
import Derived.Laws.Slices
import Derived.Laws.Append
import Derived.Laws.Small
namespace Go.Proofs.Ytoafakkbmnnimaa.Ab
open Go
set_option linter.unusedVariables false
set_option linter.unusedSimpArgs false
set_option linter.unnecessarySimpa false

theorem Ty.size_pos : ∀ t : Ty, 0 < t.size
  | .int _ | .bool | .str | .sl _ => Nat.zero_lt_one
  | .pair a b => Nat.lt_of_lt_of_le (Ty.size_pos a) (Nat.le_add_right _ _)

/-- Data in memory: the cells that hold it, and what they lead to, all of it outside N. -/
def Dat (N : Nat → Prop) (w : World) : (t : Ty) → t.den → List Value → Prop
  | .int k, n, vs => vs = [.int k n]
  | .bool, b, vs => vs = [.bool b]
  | .str, s, vs => vs = [.string s]
  | .sl e, l, vs => ∃ A c, vs = [.slice A l.length c] ∧ l.length ≤ c ∧
      (l = [] ∨ ∃ b o, A = some ⟨b, o, none⟩ ∧ ¬ N b ∧ b < w.heap.size ∧
        ∀ i, (h : i < l.length) → ∃ us, Dat N w e l[i] us ∧ ∀ j, j < e.size → w.cell? ⟨b, o + i * e.size + j, none⟩ = us[j]?)
  | .pair a b, x, vs => ∃ us ws, vs = us ++ ws ∧ Dat N w a x.1 us ∧ Dat N w b x.2 ws

theorem Dat.len {N : Nat → Prop} {w : World} : ∀ {t : Ty} {x : t.den} {vs : List Value}, Dat N w t x vs → vs.length = t.size
  | .int _, _, _, h => by cases h; rfl
  | .bool, _, _, h => by cases h; rfl
  | .str, _, _, h => by cases h; rfl
  | .sl _, _, _, h => by obtain ⟨_, _, rfl, _⟩ := h; rfl
  | .pair a b, _, _, h => by
    obtain ⟨us, ws, rfl, h1, h2⟩ := h
    simp [Ty.size, h1.len, h2.len]

/-- Where data under a flag may not lie. -/
def pk (p : Bool) (N Np : Nat → Prop) : Nat → Prop := match p with
  | true => Np
  | false => N

/-- How memory may go on. -/
structure Goes (N N' : Nat → Prop) (w w' : World) : Prop where
  size : w.heap.size ≤ w'.heap.size
  same : ∀ b, b < w.heap.size → ¬ N b → w'.heap[b]? = w.heap[b]?
  out : ∀ b, b < w.heap.size → ¬ N b → ¬ N' b

theorem Goes.refl (N : Nat → Prop) (w : World) : Goes N N w w := ⟨Nat.le_refl _, fun _ _ _ => rfl, fun _ _ h => h⟩

theorem Dat.mono {N N' : Nat → Prop} {w w' : World} (g : Goes N N' w w') : ∀ {t : Ty} {x : t.den} {vs : List Value}, Dat N w t x vs → Dat N' w' t x vs
  | .int _, _, _, h => h
  | .bool, _, _, h => h
  | .str, _, _, h => h
  | .sl e, l, vs, h => by
    obtain ⟨A, c, hv, hc, h⟩ := h
    refine ⟨A, c, hv, hc, ?_⟩
    rcases h with h | ⟨b, o, hA, hn, hb, h⟩
    · exact .inl h
    · refine .inr ⟨b, o, hA, g.out b hb hn, Nat.lt_of_lt_of_le hb g.size, fun i hi => ?_⟩
      obtain ⟨us, hd, hcell⟩ := h i hi
      refine ⟨us, hd.mono g, fun j hj => ?_⟩
      rw [← hcell j hj]
      exact World.cell?_of_block (w := w) (g.same b hb hn)
  | .pair a b, x, vs, h => by
    obtain ⟨us, ws, rfl, h1, h2⟩ := h
    exact ⟨us, ws, rfl, h1.mono g, h2.mono g⟩

/-- The whole block number rb holds cells that nobody has frozen. -/
def Cells (w : World) (rb : Nat) (cs : Array Value) : Prop := ∃ el, w.heap[rb]? = some (.cells cs el (0, 0))

/-- A row of block id, from element off on: where it lies, and that its room is there. -/
def RowP (B : List (Option Nat)) (w : World) (id : Nat) (size off c : Nat) (a : Option Addr) : Prop :=
  match B[id]? with
  | some (some rb) => a = some ⟨rb, off * size, none⟩ ∧ ∃ cs, Cells w rb cs ∧ (off + c) * size ≤ cs.size
  | _ => a = none ∧ c = 0

def HdP (H : Heap) (B : List (Option Nat)) (w : World) (id st : Nat) (v : Value) : Prop :=
  (id < H.length ∧ v.oneCell' = true) ∧ ∀ p st' t l, H[id]? = some (.arr p st' t l) → st ≤ st' ∧ (st = st' →
    ∃ a c, v = .slice a l.length c ∧ l.length ≤ c ∧ RowP B w id t.size 0 c a)

def HdsP (H : Heap) (B : List (Option Nat)) (w : World) (id st off len : Nat) (v : Value) : Prop :=
  (id < H.length ∧ v.oneCell' = true) ∧ ∀ p st' t l, H[id]? = some (.arr p st' t l) → st ≤ st' ∧ (st = st' →
    off + len ≤ l.length ∧ ∃ a c, v = .slice a len c ∧ len ≤ c ∧ (off = 0 ∨ len ≠ 0 → RowP B w id t.size off c a))

def PtrP (H : Heap) (B : List (Option Nat)) (id off : Nat) (v : Value) : Prop :=
  (id < H.length ∧ v.oneCell' = true) ∧ ∀ cells, H[id]? = some (.box cells) → ∃ rb, B[id]? = some (some rb) ∧ v = .pointer (some ⟨rb, off, none⟩)

def EptrP (H : Heap) (B : List (Option Nat)) (id st i c : Nat) (v : Value) : Prop :=
  (id < H.length ∧ v.oneCell' = true) ∧ ∀ p st' t l, H[id]? = some (.arr p st' t l) → st ≤ st' ∧ (st = st' →
    i < l.length ∧ ∃ rb, B[id]? = some (some rb) ∧ v = .pointer (some ⟨rb, i * t.size + c, none⟩))

mutual
/-- A value of the plain run, and the machine's. -/
def CR (N Np : Nat → Prop) (H : Heap) (B : List (Option Nat)) (w : World) : D → Value → Prop
  | .undef, _ => True
  | .int k n, v => v = .int k n
  | .bool b, v => v = .bool b
  | .str s, v => v = .string s
  | .sl p t l, v => Dat (pk p N Np) w (.sl t) l [v]
  | .nilsl, v => v = .slice none 0 0
  | .hd id st, v => HdP H B w id st v
  | .hds id st off len, v => HdsP H B w id st off len v
  | .ptr id off, v => PtrP H B id off v
  | .eptr id st i c, v => EptrP H B id st i c v
  | .rptr cells off, v => ∃ rb ro, v = .pointer (some ⟨rb, ro + off, none⟩) ∧ ¬ N rb ∧ rb < w.heap.size ∧
      ∃ vs, CRs N Np H B w cells vs ∧ ∀ j, j < vs.length → w.cell? ⟨rb, ro + j, none⟩ = vs[j]?
  | .clo g caps, v => ∃ vs : Array Value, v = .func (.func g) #[] vs ∧ CRs N Np H B w caps vs.toList
  | .agg cs, v => ∃ vs : Array Value, v = .agg vs ∧ CRs N Np H B w cs vs.toList
  | .tup ds, v => ∃ vs : Array Value, v = .tuple vs ∧ CRs N Np H B w ds vs.toList
def CRs (N Np : Nat → Prop) (H : Heap) (B : List (Option Nat)) (w : World) : List D → List Value → Prop
  | [], vs => vs = []
  | d :: ds, vs => ∃ u us, vs = u :: us ∧ CR N Np H B w d u ∧ CRs N Np H B w ds us
end

/-- How the plain run's heap may go on beside the machine's. -/
structure Step (N Np N' Np' : Nat → Prop) (H : Heap) (B : List (Option Nat)) (w : World) (H' : Heap) (B' : List (Option Nat)) (w' : World) : Prop where
  g : Goes N N' w w'
  gp : Goes Np Np' w w'
  len : H.length ≤ H'.length
  box : ∀ id, id < H.length → ∀ cells, H'[id]? = some (.box cells) → (∃ cs, H[id]? = some (.box cs)) ∧ B'[id]? = B[id]?
  arr : ∀ id, id < H.length → ∀ p st t l, H'[id]? = some (.arr p st t l) → ∃ p' st' t' l', H[id]? = some (.arr p' st' t' l') ∧ st' ≤ st ∧
    (st' = st → t' = t ∧ l'.length = l.length ∧ B'[id]? = B[id]?)
  cells : ∀ rb cs, Cells w rb cs → ∃ cs', Cells w' rb cs' ∧ cs'.size = cs.size

section
variable {N Np N' Np' : Nat → Prop} {H H' : Heap} {B B' : List (Option Nat)} {w w' : World}

theorem RowP.step {id size off c : Nat} {a : Option Addr} (hB : B'[id]? = B[id]?) (hc : ∀ rb cs, Cells w rb cs → ∃ cs', Cells w' rb cs' ∧ cs'.size = cs.size)
    (h : RowP B w id size off c a) : RowP B' w' id size off c a := by
  unfold RowP at *
  rw [hB]
  split at h
  · obtain ⟨h1, cs, h2, h3⟩ := h
    obtain ⟨cs', h4, h5⟩ := hc _ _ h2
    exact ⟨h1, cs', h4, by omega⟩
  · exact h

theorem HdP.step (s : Step N Np N' Np' H B w H' B' w') {id st : Nat} {v : Value} (h : HdP H B w id st v) : HdP H' B' w' id st v := by
  obtain ⟨h1, h2⟩ := h
  refine ⟨⟨Nat.lt_of_lt_of_le h1.1 s.len, h1.2⟩, fun p st' t l e => ?_⟩
  obtain ⟨p0, st0, t0, l0, e0, hle, heq⟩ := s.arr id h1.1 p st' t l e
  obtain ⟨h3, h4⟩ := h2 _ _ _ _ e0
  refine ⟨Nat.le_trans h3 hle, fun e1 => ?_⟩
  have e2 : st0 = st' := by omega
  obtain ⟨rfl, hl, hB⟩ := heq e2
  obtain ⟨a, c, hv, hc, hr⟩ := h4 (by omega)
  exact ⟨a, c, by rw [← hl]; exact hv, by omega, hr.step hB s.cells⟩

theorem HdsP.step (s : Step N Np N' Np' H B w H' B' w') {id st off len : Nat} {v : Value} (h : HdsP H B w id st off len v) : HdsP H' B' w' id st off len v := by
  obtain ⟨h1, h2⟩ := h
  refine ⟨⟨Nat.lt_of_lt_of_le h1.1 s.len, h1.2⟩, fun p st' t l e => ?_⟩
  obtain ⟨p0, st0, t0, l0, e0, hle, heq⟩ := s.arr id h1.1 p st' t l e
  obtain ⟨h3, h4⟩ := h2 _ _ _ _ e0
  refine ⟨Nat.le_trans h3 hle, fun e1 => ?_⟩
  have e2 : st0 = st' := by omega
  obtain ⟨rfl, hl, hB⟩ := heq e2
  obtain ⟨ho, a, c, hv, hc, hr⟩ := h4 (by omega)
  exact ⟨by omega, a, c, hv, hc, fun q => (hr q).step hB s.cells⟩

theorem PtrP.step (s : Step N Np N' Np' H B w H' B' w') {id off : Nat} {v : Value} (h : PtrP H B id off v) : PtrP H' B' id off v := by
  obtain ⟨h1, h2⟩ := h
  refine ⟨⟨Nat.lt_of_lt_of_le h1.1 s.len, h1.2⟩, fun cells e => ?_⟩
  obtain ⟨⟨cs, e0⟩, hB⟩ := s.box id h1.1 cells e
  obtain ⟨rb, h3, h4⟩ := h2 _ e0
  exact ⟨rb, hB.trans h3, h4⟩

theorem EptrP.step (s : Step N Np N' Np' H B w H' B' w') {id st i c : Nat} {v : Value} (h : EptrP H B id st i c v) : EptrP H' B' id st i c v := by
  obtain ⟨h1, h2⟩ := h
  refine ⟨⟨Nat.lt_of_lt_of_le h1.1 s.len, h1.2⟩, fun p st' t l e => ?_⟩
  obtain ⟨p0, st0, t0, l0, e0, hle, heq⟩ := s.arr id h1.1 p st' t l e
  obtain ⟨h3, h4⟩ := h2 _ _ _ _ e0
  refine ⟨Nat.le_trans h3 hle, fun e1 => ?_⟩
  have e2 : st0 = st' := by omega
  obtain ⟨rfl, hl, hB⟩ := heq e2
  obtain ⟨hi, rb, hb, hv⟩ := h4 (by omega)
  exact ⟨by omega, rb, hB.trans hb, hv⟩

mutual
theorem CR.step (s : Step N Np N' Np' H B w H' B' w') : ∀ {d : D} {v : Value}, CR N Np H B w d v → CR N' Np' H' B' w' d v
  | .undef, _, _ => by simp [CR]
  | .int _ _, _, h => by simpa [CR] using h
  | .bool _, _, h => by simpa [CR] using h
  | .str _, _, h => by simpa [CR] using h
  | .sl p t l, v, h => by
    simp only [CR] at h ⊢
    cases p
    · exact Dat.mono s.g h
    · exact Dat.mono s.gp h
  | .nilsl, _, h => by simpa [CR] using h
  | .hd _ _, _, h => by simp only [CR] at h ⊢; exact h.step s
  | .hds _ _ _ _, _, h => by simp only [CR] at h ⊢; exact h.step s
  | .ptr _ _, _, h => by simp only [CR] at h ⊢; exact h.step s
  | .eptr _ _ _ _, _, h => by simp only [CR] at h ⊢; exact h.step s
  | .rptr cells off, v, h => by
    simp only [CR] at h ⊢
    obtain ⟨rb, ro, hv, hn, hb, vs, hvs, hc⟩ := h
    refine ⟨rb, ro, hv, s.g.out rb hb hn, Nat.lt_of_lt_of_le hb s.g.size, vs, hvs.step s, fun j hj => ?_⟩
    rw [← hc j hj]
    exact World.cell?_of_block (w := w) (s.g.same rb hb hn)
  | .clo g caps, v, h => by
    simp only [CR] at h ⊢
    obtain ⟨vs, hv, h⟩ := h
    exact ⟨vs, hv, h.step s⟩
  | .agg cs, v, h => by
    simp only [CR] at h ⊢
    obtain ⟨vs, hv, h⟩ := h
    exact ⟨vs, hv, h.step s⟩
  | .tup ds, v, h => by
    simp only [CR] at h ⊢
    obtain ⟨vs, hv, h⟩ := h
    exact ⟨vs, hv, h.step s⟩
theorem CRs.step (s : Step N Np N' Np' H B w H' B' w') : ∀ {ds : List D} {vs : List Value}, CRs N Np H B w ds vs → CRs N' Np' H' B' w' ds vs
  | [], _, h => by simpa [CRs] using h
  | d :: ds, vs, h => by
    simp only [CRs] at h ⊢
    obtain ⟨u, us, e, h1, h2⟩ := h
    exact ⟨u, us, e, h1.step s, h2.step s⟩
end

/-- A block of the plain run's heap, and the machine's. -/
def BR (N Np : Nat → Prop) (H : Heap) (B : List (Option Nat)) (w : World) : Blk → Option Nat → Prop
  | .dead, _ => True
  | .box cells, ob => ∃ rb cs, ob = some rb ∧ Cells w rb cs ∧ CRs N Np H B w cells cs.toList
  | .arr p _ t l, ob => match ob with
    | none => l = []
    | some rb => ∃ cs, Cells w rb cs ∧ l.length * t.size ≤ cs.size ∧
        ∀ i, (h : i < l.length) → ∃ us, Dat (pk p N Np) w t l[i] us ∧ ∀ j, j < t.size → cs[i * t.size + j]? = us[j]?

end
end Go.Proofs.Ytoafakkbmnnimaa.Ab
