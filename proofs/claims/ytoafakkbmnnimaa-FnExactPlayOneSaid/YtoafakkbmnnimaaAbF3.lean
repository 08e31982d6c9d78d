import Derived.Test.YtoafakkbmnnimaaAbF2
namespace Go.Proofs.Ytoafakkbmnnimaa.Ab
open Go
set_option linter.unusedVariables false
set_option linter.unusedSimpArgs false
set_option linter.unnecessarySimpa false
set_option linter.unusedSimpArgs false
set_option linter.unusedVariables false

def lookup {X : Type} : List (Nat × X) → Nat → Option X
  | [], _ => none
  | e :: r, t => match Nat.beq e.1 t with
    | true => some e.2
    | false => lookup r t

theorem lookup_mem {X : Type} : ∀ {l : List (Nat × X)} {t : Nat} {x : X}, lookup l t = some x → (t, x) ∈ l
  | [], _, _, h => by cases h
  | e :: r, t, x, h => by
    simp only [lookup] at h
    split at h
    · rename_i hb
      have := Nat.eq_of_beq_eq_true hb
      simp only [Option.some.injEq] at h
      subst this; subst h
      simp
    · exact List.mem_cons_of_mem _ (lookup_mem h)

def nthO {X : Type} : List X → Nat → Option X
  | [], _ => none
  | x :: _, 0 => some x
  | _ :: r, n + 1 => nthO r n

theorem nthO_eq {X : Type} : ∀ (l : List X) (n : Nat), nthO l n = l[n]?
  | [], _ => by simp [nthO]
  | x :: _, 0 => by simp [nthO]
  | _ :: r, n + 1 => by simp [nthO, nthO_eq r n]

def vE : Value → Value → Bool
  | .int k n, .int k' n' => decide (k = k') && decide (n = n')
  | .bool a, .bool b => a == b
  | .string a, .string b => (match a.data.toList, b.data.toList with
    | [], [] => true
    | _, _ => false)
  | .slice none 0 0, .slice none 0 0 => true
  | _, _ => false

theorem vE_eq {u v : Value} (h : vE u v = true) : u = v := by
  unfold vE at h
  split at h
  · simp only [Bool.and_eq_true, decide_eq_true_eq] at h
    obtain ⟨rfl, rfl⟩ := h
    rfl
  · simp at h; rw [h]
  · rename_i a b
    split at h
    · rename_i h1 h2
      obtain ⟨⟨a⟩⟩ := a
      obtain ⟨⟨b⟩⟩ := b
      simp at h1 h2
      rw [h1, h2]
    · cases h
  · rfl
  · cases h

def vsE : List Value → List Value → Bool
  | [], [] => true
  | u :: us, v :: vs => vE u v && vsE us vs
  | _, _ => false

theorem vsE_eq : ∀ {us vs : List Value}, vsE us vs = true → us = vs
  | [], [], _ => rfl
  | u :: us, v :: vs, h => by
    simp only [vsE, Bool.and_eq_true] at h
    rw [vE_eq h.1, vsE_eq h.2]
  | [], _ :: _, h => by cases h
  | _ :: _, [], h => by cases h

/-- The tables of a program's types. -/
structure Tabs where
  ty : List (Nat × Ty)
  lay : List (Nat × Nat × Bool)
  fld : List (Nat × List (Nat × Nat × Bool))

def tyE (P : Program) (T : Tabs) (t : Nat) (y : Ty) : Bool :=
  match P.info? t, P.underlying t with
  | some i, some d =>
    Nat.beq i.size y.size && (match i.zero with
      | some z => vsE z.cells.toList (zvals y)
      | none => false) && Nat.ble i.bytes 128 && Nat.ble y.size 64 &&
    (match y, d with
     | .int k, .int k' => decide (k' = k)
     | .bool, .bool => true
     | .str, .string => true
     | .sl e, .slice et => (match lookup T.ty et with
       | some e' => decide (e' = e)
       | none => false)
     | .pair _ _, _ => true
     | _, _ => false)
  | _, _ => false

def layE (P : Program) (t n : Nat) (ag : Bool) : Bool :=
  match P.info? t, P.underlying t with
  | some i, some d => Nat.beq i.size n && (aggDesc d == ag)
  | _, _ => false

def fldsE (P : Program) : List Field → List (Nat × Nat × Bool) → Bool
  | [], [] => true
  | f :: fs, (o, n, ag) :: r => Nat.beq f.offset o && !(Nat.beq n 0) && layE P f.type n ag && fldsE P fs r
  | _, _ => false

def fldE (P : Program) (t : Nat) (l : List (Nat × Nat × Bool)) : Bool :=
  match P.underlying t, P.info? t with
  | some (.struct fs), some i => fldsE P fs.toList l && (match i.zero with
    | some _ => true
    | none => false)
  | _, _ => false

def tabsE (P : Program) (T : Tabs) : Bool :=
  T.ty.all (fun e => tyE P T e.1 e.2) && T.lay.all (fun e => layE P e.1 e.2.1 e.2.2) && T.fld.all (fun e => fldE P e.1 e.2)

structure Plan where
  sig : Nat → Sig
  join : Nat → Nat → Option Join
  loop : Nat → Nat → Option LoopA

def ann (T : Tabs) (S : Plan) : Ann where
  sig := S.sig
  prim := fun _ => none
  ty := lookup T.ty
  lay := lookup T.lay
  fld := fun t f => match lookup T.fld t with
    | some l => nthO l f
    | none => none
  eqt := fun _ => false
  join := S.join
  loop := S.loop

section
variable {P : Program} {T : Tabs} {S : Plan}

theorem layE_ok {t n : Nat} {ag : Bool} (h : layE P t n ag = true) : ∃ i d, P.info? t = some i ∧ i.size = n ∧ P.underlying t = some d ∧ aggDesc d = ag := by
  unfold layE at h
  split at h
  · rename_i i d h1 h2
    simp only [Bool.and_eq_true, beq_iff_eq] at h
    exact ⟨i, d, h1, Nat.eq_of_beq_eq_true h.1, h2, h.2⟩
  · cases h

theorem fldsE_ok : ∀ {fs : List Field} {l : List (Nat × Nat × Bool)}, fldsE P fs l = true → (∀ (f o n : Nat) ag, l[f]? = some (o, n, ag) → ∃ fd, fs[f]? = some fd ∧ fd.offset = o ∧ n ≠ 0 ∧ layE P fd.type n ag = true) ∧
    ∃ places, fs.mapM (fun f => (P.info? f.type).map fun i => (f.offset, i.size)) = some places ∧ ∀ (f o n : Nat) ag, l[f]? = some (o, n, ag) → places[f]? = some (o, n)
  | [], [], _ => ⟨fun f o n ag h => by simp at h, [], rfl, fun f o n ag h => by simp at h⟩
  | f :: fs, (o, n, ag) :: r, h => by
    simp only [fldsE, Bool.and_eq_true, Bool.not_eq_true'] at h
    obtain ⟨⟨⟨h1, h2⟩, h3⟩, h4⟩ := h
    obtain ⟨k1, places, k2, k3⟩ := fldsE_ok h4
    have h1 := Nat.eq_of_beq_eq_true h1
    obtain ⟨i, d, q1, q2, _, _⟩ := layE_ok h3
    refine ⟨fun j o' n' ag' hj => ?_, (o, n) :: places, ?_, fun j o' n' ag' hj => ?_⟩
    · cases j with
      | zero =>
        simp only [List.getElem?_cons_zero, Option.some.injEq, Prod.mk.injEq] at hj
        obtain ⟨rfl, rfl, rfl⟩ := hj
        exact ⟨f, rfl, h1, fun z => by subst z; simp at h2, h3⟩
      | succ j => exact k1 j o' n' ag' (by simpa using hj)
    · simp only [List.mapM_cons, q1, Option.map_some, k2, h1, q2]
      rfl
    · cases j with
      | zero =>
        simp only [List.getElem?_cons_zero, Option.some.injEq, Prod.mk.injEq] at hj
        obtain ⟨rfl, rfl, rfl⟩ := hj
        rfl
      | succ j => simpa using k3 j o' n' ag' (by simpa using hj)
  | [], _ :: _, h => by simp [fldsE] at h
  | _ :: _, [], h => by simp [fldsE] at h

theorem tyOk_of (h : tabsE P T = true) (hm : P.follows .mixedOrders = true) : TyOk P (ann T S) := by
  unfold tabsE at h
  simp only [Bool.and_eq_true] at h
  obtain ⟨⟨h1, h2⟩, h3⟩ := h
  have ty : ∀ t y, lookup T.ty t = some y → tyE P T t y = true := fun t y e => List.all_eq_true.mp h1 _ (lookup_mem e)
  have key : ∀ t y, lookup T.ty t = some y → ∃ i z d, P.info? t = some i ∧ i.size = y.size ∧ i.zero = some z ∧ z.cells.toList = zvals y ∧ i.bytes ≤ 128 ∧ y.size ≤ 64 ∧ P.underlying t = some d ∧
      (match y, d with
       | .int k, .int k' => decide (k' = k)
       | .bool, .bool => true
       | .str, .string => true
       | .sl e, .slice et => (match lookup T.ty et with
         | some e' => decide (e' = e)
         | none => false)
       | .pair _ _, _ => true
       | _, _ => false) = true := by
    intro t y e
    have := ty t y e
    unfold tyE at this
    split at this
    · rename_i i d q1 q2
      simp only [Bool.and_eq_true] at this
      obtain ⟨⟨⟨⟨a1, a2⟩, a3⟩, a4⟩, a5⟩ := this
      split at a2
      · rename_i z hz
        exact ⟨i, z, d, q1, Nat.eq_of_beq_eq_true a1, hz, vsE_eq a2, Nat.le_of_ble_eq_true a3, Nat.le_of_ble_eq_true a4, q2, a5⟩
      · cases a2
    · cases this
  have fld : ∀ t f o n ag, (ann T S).fld t f = some (o, n, ag) → ∃ l, l[f]? = some (o, n, ag) ∧ lookup T.fld t = some l ∧ fldE P t l = true := by
    intro t f o n ag e
    simp only [ann] at e
    split at e
    · rename_i l hl
      rw [nthO_eq] at e
      exact ⟨l, e, hl, List.all_eq_true.mp h3 _ (lookup_mem hl)⟩
    · cases e
  have fldk : ∀ t l, fldE P t l = true → ∃ fs i z, P.underlying t = some (.struct fs) ∧ P.info? t = some i ∧ i.zero = some z ∧ fldsE P fs.toList l = true := by
    intro t l e
    unfold fldE at e
    split at e
    · rename_i fs i q1 q2
      simp only [Bool.and_eq_true] at e
      obtain ⟨a1, a2⟩ := e
      split at a2
      · rename_i z hz
        exact ⟨fs, i, z, q1, q2, hz, a1⟩
      · cases a2
    · cases e
  exact {
    lay := fun t n ag e => layE_ok (List.all_eq_true.mp h2 _ (lookup_mem (x := (n, ag)) e))
    fld := fun s f o n ag e => by
      obtain ⟨l, e1, _, e2⟩ := fld s f o n ag e
      obtain ⟨fs, i, z, q1, _, _, q4⟩ := fldk s l e2
      obtain ⟨fd, r1, r2, r3, r4⟩ := (fldsE_ok q4).1 f o n ag e1
      obtain ⟨i', d, s1, s2, s3, s4⟩ := layE_ok r4
      exact ⟨fs, fd, i', d, q1, by simpa using r1, r2, s1, s2, r3, s3, s4⟩
    tyi := fun t y e => by
      obtain ⟨i, z, d, q1, q2, q3, q4, q5, q6, _⟩ := key t y e
      exact ⟨i, z, q1, q2, q3, q4, q5, q6⟩
    int := fun t k e => by
      obtain ⟨i, z, d, _, _, _, _, _, _, q7, q8⟩ := key t _ e
      cases d <;> simp only at q8 <;> try (cases q8; done)
      have := of_decide_eq_true q8
      subst this
      exact q7
    bool := fun t e => by
      obtain ⟨i, z, d, _, _, _, _, _, _, q7, q8⟩ := key t _ e
      cases d <;> simp only at q8 <;> try (cases q8; done)
      exact q7
    str := fun t e => by
      obtain ⟨i, z, d, _, _, _, _, _, _, q7, q8⟩ := key t _ e
      cases d <;> simp only at q8 <;> try (cases q8; done)
      exact q7
    sl := fun t e0 e => by
      obtain ⟨i, z, d, _, _, _, _, _, _, q7, q8⟩ := key t _ e
      cases d <;> simp only at q8 <;> try (cases q8; done)
      rename_i et
      split at q8
      · rename_i e' he
        have := of_decide_eq_true q8
        subst this
        exact ⟨et, q7, he⟩
      · cases q8
    some_ := fun t y e => by
      obtain ⟨i, z, d, _, _, _, _, _, _, q7, _⟩ := key t y e
      exact ⟨d, q7⟩
    bld := fun t f o n ag e => by
      obtain ⟨l, e1, el, e2⟩ := fld t f o n ag e
      obtain ⟨fs, i, z, q1, q2, q3, q4⟩ := fldk t l e2
      obtain ⟨places, r1, r2⟩ := (fldsE_ok q4).2
      refine ⟨i, z, fs, places, q2, q1, q3, r1, fun f' o' n' ag' e' => ?_⟩
      obtain ⟨l', e1', el', _⟩ := fld t f' o' n' ag' e'
      rw [el] at el'
      cases el'
      exact r2 f' o' n' ag' e1'
    eqt := fun t e => by cases e
    mixed := hm }

end
end Go.Proofs.Ytoafakkbmnnimaa.Ab
