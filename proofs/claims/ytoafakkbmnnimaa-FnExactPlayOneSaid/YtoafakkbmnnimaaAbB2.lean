import Derived.Test.YtoafakkbmnnimaaAbB1
namespace Go.Proofs.Ytoafakkbmnnimaa.Ab
open Go
set_option linter.unusedVariables false
set_option linter.unusedSimpArgs false
set_option linter.unnecessarySimpa false

/-- What stays as it is around a frame: the world when it began, the blocks that it may write, those that wait outside (a borrowed row may lie there; a lasting one not). -/
structure Cx where
  w0 : World
  W0 : Nat → Prop
  Lb : Nat → Prop
  Lp : Nat → Prop
  nt : Nat
  fx : List Bool
  fv : Nat → Value

def Has (B : List (Option Nat)) (b : Nat) : Prop := ∃ i : Nat, B[i]? = some (some b)
def Cx.N (C : Cx) (B : List (Option Nat)) (b : Nat) : Prop := Has B b ∨ C.Lb b
def Cx.Np (C : Cx) (B : List (Option Nat)) (b : Nat) : Prop := Has B b ∨ C.Lp b

structure Fr (W0 : Nat → Prop) (w0 w : World) : Prop where
  size : w0.heap.size ≤ w.heap.size
  same : ∀ b, b < w0.heap.size → ¬ W0 b → w.heap[b]? = w0.heap[b]?
  cells : ∀ rb cs, Cells w0 rb cs → ∃ cs', Cells w rb cs' ∧ cs'.size = cs.size
  os : w.os = w0.os
  tape : w.tape = w0.tape
  output : w.output = w0.output

theorem Fr.refl (W0 : Nat → Prop) (w : World) : Fr W0 w w := ⟨Nat.le_refl _, fun _ _ _ => rfl, fun _ cs h => ⟨cs, h, rfl⟩, rfl, rfl, rfl⟩

/-- The heaps stand in relation. -/
structure HS (C : Cx) (H : Heap) (B : List (Option Nat)) (w : World) : Prop where
  lenB : B.length = H.length
  nodup : ∀ i j rb : Nat, B[i]? = some (some rb) → B[j]? = some (some rb) → i = j
  alloc : ∀ i rb : Nat, B[i]? = some (some rb) → rb < w.heap.size ∧ ¬ C.Lp rb ∧ (C.W0 rb ∨ C.w0.heap.size ≤ rb)
  blk : ∀ (i : Nat) b ob, H[i]? = some b → B[i]? = some ob → BR (C.N B) (C.Np B) H B w b ob
  lb : ∀ b, C.Lb b → C.Lp b
  lp : ∀ b, C.Lp b → b < C.w0.heap.size
  fr : Fr C.W0 C.w0 w

structure St (C : Cx) (env : List D) (H : Heap) (B : List (Option Nat)) (a : Act) (w : World) : Prop extends HS C H B w where
  envs : ∀ t, CR (C.N B) (C.Np B) H B w (get env t) (a.tmps.getD t undef)
  envlen : env.length = a.tmps.size
  defers : a.defers = []
  siz : a.tmps.size = C.nt
  fix : ∀ t : Nat, C.fx.getD t false = true → a.tmps[t]? = some (C.fv t)

section
variable {C : Cx} {env : List D} {H H' : Heap} {B B' : List (Option Nat)} {a : Act} {w w' : World}

theorem Cx.N_Np (hl : ∀ b, C.Lb b → C.Lp b) {b : Nat} (h : C.N B b) : C.Np B b := h.imp id (hl b)

theorem BR.step {N Np N' Np' : Nat → Prop} (s : Step N Np N' Np' H B w H' B' w') {b : Blk} {ob : Option Nat} (hrb : ∀ rb, ob = some rb → w'.heap[rb]? = w.heap[rb]?)
    (h : BR N Np H B w b ob) : BR N' Np' H' B' w' b ob := by
  cases b with
  | dead => trivial
  | box cells =>
    obtain ⟨rb, cs, e, ⟨el, hc⟩, hr⟩ := h
    exact ⟨rb, cs, e, ⟨el, (hrb rb e).trans hc⟩, hr.step s⟩
  | arr p st t l =>
    cases ob with
    | none => exact h
    | some rb =>
      obtain ⟨cs, ⟨el, hc⟩, hs, hd⟩ := h
      refine ⟨cs, ⟨el, (hrb rb rfl).trans hc⟩, hs, fun i hi => ?_⟩
      obtain ⟨us, h1, h2⟩ := hd i hi
      refine ⟨us, ?_, h2⟩
      cases p
      · exact Dat.mono s.g h1
      · exact Dat.mono s.gp h1

theorem St.go (h : St C env H B a w) (s : Step (C.N B) (C.Np B) (C.N B') (C.Np B') H B w H' B' w') (h' : HS C H' B' w') : St C env H' B' a w' where
  toHS := h'
  envs := fun t => (h.envs t).step s
  envlen := h.envlen
  defers := h.defers
  siz := h.siz
  fix := h.fix

theorem get_set (env : List D) (t u : Nat) (d : D) : get (env.set t d) u = if t = u ∧ u < env.length then d else get env u := by
  unfold get
  simp only [List.getD_eq_getElem?_getD, List.getElem?_set]
  by_cases e : t = u
  · subst e
    by_cases hl : t < env.length
    · simp [hl]
    · simp [hl]
  · simp [e]

theorem St.put (h : St C env H B a w) {d : D} {v : Value} (hd : CR (C.N B) (C.Np B) H B w d v) (dst : Option Nat) (hf : ∀ t, dst = some t → C.fx.getD t false = false) : St C (putE env dst d) H B (a.put dst v) w := by
  cases dst with
  | none => exact h
  | some t =>
    refine { toHS := h.toHS, envs := fun u => ?_, envlen := ?_, defers := h.defers, siz := by simp [Act.put, h.siz], fix := fun u hu => ?_ }
    · simp only [putE, Act.put]
      rw [get_set]
      by_cases e : t = u ∧ u < env.length
      · obtain ⟨rfl, hl⟩ := e
        rw [if_pos ⟨rfl, hl⟩]
        have : t < a.tmps.size := h.envlen ▸ hl
        simp [this]
        exact hd
      · rw [if_neg e]
        have := h.envs u
        by_cases hu : t = u
        · subst hu
          have hl : ¬ t < a.tmps.size := fun q => e ⟨rfl, h.envlen ▸ q⟩
          have e1 : (a.tmps.setIfInBounds t v) = a.tmps := by simp [Array.setIfInBounds, hl]
          rw [e1]; exact this
        · have e1 : (a.tmps.setIfInBounds t v).getD u undef = a.tmps.getD u undef := by
            simp [Array.getD_eq_getD_getElem?, Array.getElem?_setIfInBounds_ne hu]
          rw [e1]; exact this
    · simp [putE, Act.put, h.envlen]
    · have hne : t ≠ u := fun z => by
        have := hf t rfl
        rw [z, hu] at this
        cases this
      have := h.fix u hu
      simp only [Act.put]
      rw [Array.getElem?_setIfInBounds_ne hne]
      exact this

/-- A row's cells, read as data. -/
theorem cell_of_cells {rb : Nat} {cs : Array Value} (h : Cells w rb cs) (o : Nat) : w.cell? ⟨rb, o, none⟩ = cs[o]? := by
  obtain ⟨el, h⟩ := h
  simp [World.cell?, h]

theorem frozen_of_cells {rb : Nat} {cs : Array Value} (h : Cells w rb cs) (o : Nat) : w.frozen? ⟨rb, o, none⟩ = false := by
  obtain ⟨el, h⟩ := h
  simp [World.frozen?, h]

theorem Cells.lt {rb : Nat} {cs : Array Value} (h : Cells w rb cs) : rb < w.heap.size := by
  obtain ⟨el, h⟩ := h
  rcases Nat.lt_or_ge rb w.heap.size with q | q
  · exact q
  · simp [Array.getElem?_eq_none q] at h

/-- Whether data under the flag p may be read as data outside of Nt. -/
def Lets (N Np : Nat → Prop) (w : World) (p : Bool) (Nt : Nat → Prop) : Prop :=
  ∀ b, b < w.heap.size → ¬ (pk p N Np) b → ¬ Nt b

theorem Lets.mono {N Np Nt : Nat → Prop} (hN : ∀ b, N b → Np b) {p q : Bool} (h : Lets N Np w p Nt) (hpq : imp p q = true) : Lets N Np w q Nt := by
  intro b hb hq
  refine h b hb ?_
  cases p <;> cases q
  · exact hq
  · exact fun x => hq (hN b x)
  · exact absurd hpq (by simp [imp])
  · exact hq

theorem Dat.lets {N Np Nt : Nat → Prop} {p : Bool} (h : Lets N Np w p Nt) {t : Ty} {x : t.den} {vs : List Value} (hd : Dat (pk p N Np) w t x vs) : Dat Nt w t x vs :=
  hd.mono ⟨Nat.le_refl _, fun _ _ _ => rfl, h⟩

/-- A row of a frame's own, read as data. -/
theorem row_dat {N Np Nt : Nat → Prop} {id st off len : Nat} {p : Bool} {t : Ty} {l : List t.den} {v : Value} {ob : Option Nat} (hH : H[id]? = some (.arr p st t l)) (hB : B[id]? = some ob)
    (hb : BR N Np H B w (.arr p st t l) ob) (hv : HdsP H B w id st off len v) (hL : Lets N Np w p Nt) (hn : ∀ rb, ob = some rb → ¬ Nt rb) :
    Dat Nt w (.sl t) ((l.drop off).take len) [v] := by
  obtain ⟨h1, h2⟩ := hv
  obtain ⟨-, h3⟩ := h2 _ _ _ _ hH
  obtain ⟨ho, a, c, rfl, hc, hr⟩ := h3 rfl
  have hlen : ((l.drop off).take len).length = len := by simp; omega
  refine ⟨a, c, by rw [hlen], by omega, ?_⟩
  by_cases hz : len = 0
  · left; rw [hz]; simp
  · right
    have hr := hr (.inr hz)
    unfold RowP at hr
    rw [hB] at hr
    cases ob with
    | none =>
      have : l = [] := hb
      subst this
      simp at ho; omega
    | some rb =>
      obtain ⟨ha, cs0, hcs0, _⟩ := hr
      obtain ⟨cs, hcs, hsz, hd⟩ := hb
      refine ⟨rb, off * t.size, ha, hn rb rfl, hcs.lt, fun i hi => ?_⟩
      have hi' : i < len := by omega
      obtain ⟨us, hu, hcell⟩ := hd (off + i) (by omega)
      refine ⟨us, ?_, fun j hj => ?_⟩
      · have e : ((l.drop off).take len)[i] = l[off + i]'(by omega) := by simp
        rw [e]; exact hu.lets hL
      · rw [cell_of_cells hcs, ← hcell j hj]
        congr 1
        rw [Nat.add_mul]

theorem hd_hds {id st : Nat} {v : Value} {p : Bool} {t : Ty} {l : List t.den} (hH : H[id]? = some (.arr p st t l)) (h : HdP H B w id st v) : HdsP H B w id st 0 l.length v := by
  obtain ⟨h1, h2⟩ := h
  refine ⟨h1, fun p' st' t' l' e => ?_⟩
  rw [hH] at e
  obtain ⟨rfl, rfl, rfl, hl⟩ : p = p' ∧ st = st' ∧ t = t' ∧ HEq l l' := by
    injection e with e; injection e with e1 e2 e3 e4; exact ⟨e1, e2, e3, e4⟩
  cases hl
  obtain ⟨h3, h4⟩ := h2 _ _ _ _ hH
  refine ⟨h3, fun q => ?_⟩
  obtain ⟨a, c, hv, hc, hr⟩ := h4 q
  exact ⟨by omega, a, c, hv, hc, fun _ => hr⟩

theorem hd_dat {N Np Nt : Nat → Prop} {id st : Nat} {p : Bool} {t : Ty} {l : List t.den} {v : Value} {ob : Option Nat} (hH : H[id]? = some (.arr p st t l)) (hB : B[id]? = some ob)
    (hb : BR N Np H B w (.arr p st t l) ob) (hv : HdP H B w id st v) (hL : Lets N Np w p Nt) (hn : ∀ rb, ob = some rb → ¬ Nt rb) :
    Dat Nt w (.sl t) l [v] := by
  have := row_dat hH hB hb (hd_hds hH hv) hL hn
  simpa using this

theorem CRs.append {N Np : Nat → Prop} : ∀ {ds : List D} {vs : List Value} {es : List D} {us : List Value}, CRs N Np H B w ds vs → CRs N Np H B w es us → CRs N Np H B w (ds ++ es) (vs ++ us)
  | [], vs, es, us, h, k => by simp only [CRs] at h; subst h; exact k
  | d :: ds, vs, es, us, h, k => by
    simp only [CRs] at h
    obtain ⟨u, us', rfl, h1, h2⟩ := h
    simp only [List.cons_append, CRs]
    exact ⟨u, us' ++ us, rfl, h1, h2.append k⟩

theorem CRs.length {N Np : Nat → Prop} : ∀ {ds : List D} {vs : List Value}, CRs N Np H B w ds vs → vs.length = ds.length
  | [], vs, h => by simp only [CRs] at h; subst h; rfl
  | d :: ds, vs, h => by
    simp only [CRs] at h
    obtain ⟨u, us', rfl, h1, h2⟩ := h
    simp [h2.length]

theorem CRs.drop {N Np : Nat → Prop} : ∀ (n : Nat) {ds : List D} {vs : List Value}, CRs N Np H B w ds vs → CRs N Np H B w (ds.drop n) (vs.drop n)
  | 0, _, _, h => h
  | n + 1, [], vs, h => by simp only [CRs] at h; subst h; simp [CRs]
  | n + 1, d :: ds, vs, h => by
    simp only [CRs] at h
    obtain ⟨u, us', rfl, h1, h2⟩ := h
    simpa using h2.drop n

theorem CRs.take {N Np : Nat → Prop} : ∀ (n : Nat) {ds : List D} {vs : List Value}, CRs N Np H B w ds vs → CRs N Np H B w (ds.take n) (vs.take n)
  | 0, _, _, _ => by simp [CRs]
  | n + 1, [], vs, h => by simp only [CRs] at h; subst h; simp [CRs]
  | n + 1, d :: ds, vs, h => by
    simp only [CRs] at h
    obtain ⟨u, us', rfl, h1, h2⟩ := h
    simp only [List.take_succ_cons, CRs]
    exact ⟨u, us'.take n, rfl, h1, h2.take n⟩

theorem CRs.get {N Np : Nat → Prop} : ∀ {ds : List D} {vs : List Value}, CRs N Np H B w ds vs → ∀ i, CR N Np H B w (get ds i) (vs.getD i undef)
  | [], vs, h, i => by simp [Ab.get, CR]
  | d :: ds, vs, h, i => by
    simp only [CRs] at h
    obtain ⟨u, us', rfl, h1, h2⟩ := h
    cases i with
    | zero => simpa [Ab.get] using h1
    | succ i => simpa [Ab.get] using h2.get i

theorem Dat_flat {N Np : Nat → Prop} (p : Bool) : ∀ {t : Ty} {x : t.den} {vs : List Value}, Dat (pk p N Np) w t x vs → CRs N Np H B w (flat p t x) vs
  | .int _, _, _, h => by cases h; simp [flat, CRs, CR]
  | .bool, _, _, h => by cases h; simp [flat, CRs, CR]
  | .str, _, _, h => by cases h; simp [flat, CRs, CR]
  | .sl _, l, _, h => by
    have h' := h
    obtain ⟨A, c, rfl, _⟩ := h
    simp only [flat, CRs]
    exact ⟨_, _, rfl, by simp only [CR]; exact h', rfl⟩
  | .pair a b, _, _, h => by
    obtain ⟨us, ws, rfl, h1, h2⟩ := h
    exact (Dat_flat p h1).append (Dat_flat p h2)

theorem castL_dat {N : Nat → Prop} {t u : Ty} (h : t = u) {l : List t.den} {vs : List Value} (hd : Dat N w (.sl t) l vs) : Dat N w (.sl u) (castL h l) vs := by
  subst h; exact hd

end
end Go.Proofs.Ytoafakkbmnnimaa.Ab
