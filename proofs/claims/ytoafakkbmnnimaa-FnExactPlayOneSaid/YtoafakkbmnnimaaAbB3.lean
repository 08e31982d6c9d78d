import Derived.Test.YtoafakkbmnnimaaAbB2
namespace Go.Proofs.Ytoafakkbmnnimaa.Ab
open Go
set_option linter.unusedVariables false
set_option linter.unusedSimpArgs false
set_option linter.unnecessarySimpa false

section
variable {N Np Nt Ntp : Nat → Prop} {H : Heap} {B : List (Option Nat)} {w : World}

theorem Step.app (hl : B.length = H.length) (X : Heap) (Y : List (Option Nat)) : Step N Np N Np H B w (H ++ X) (B ++ Y) w where
  g := Goes.refl _ _
  gp := Goes.refl _ _
  len := by simp
  box := fun id h cells e => by
    rw [List.getElem?_append_left h] at e
    exact ⟨⟨_, e⟩, List.getElem?_append_left (by omega)⟩
  arr := fun id h p st t l e => by
    rw [List.getElem?_append_left h] at e
    exact ⟨_, _, _, _, e, Nat.le_refl _, fun _ => ⟨rfl, rfl, List.getElem?_append_left (by omega)⟩⟩
  cells := fun rb cs h => ⟨cs, h, rfl⟩

theorem Lets.to {p q : Bool} (hN : ∀ b, N b → Np b) (h0 : p = false → Lets N Np w false Nt) (h1 : Lets N Np w true Ntp) (hpq : imp p q = true) : Lets N Np w q (pk p Nt Ntp) := by
  cases p
  · exact (h0 rfl).mono hN (by cases q <;> rfl)
  · cases q
    · exact absurd hpq (by simp [imp])
    · exact h1

theorem unfl_ok (hN : ∀ b, N b → Np b) (hl : B.length = H.length) (blk : ∀ (i : Nat) b ob, H[i]? = some b → B[i]? = some ob → BR N Np H B w b ob) :
    ∀ {t : Ty} {ds : List D} {vs : List Value} {x : t.den} {r : List D} {p : Bool} {ids : List Nat}, unfl H t ds = some (x, r, p, ids) → CRs N Np H B w ds vs → Lets N Np w p Nt →
      (∀ id ∈ ids, ∀ rb, B[id]? = some (some rb) → ¬ Nt rb) → ∃ us vs', vs = us ++ vs' ∧ CRs N Np H B w r vs' ∧ Dat Nt w t x us
  | .int k, ds, vs, x, r, p, ids, h, hc, hL, hn => by
    cases ds with
    | nil => simp [unfl] at h
    | cons d ds =>
      cases d <;> simp only [unfl] at h <;> try (cases h; done)
      split at h
      · rename_i k' n e
        subst e
        simp only [Option.some.injEq, Prod.mk.injEq] at h
        obtain ⟨rfl, rfl, rfl, rfl⟩ := h
        simp only [CRs, CR] at hc
        obtain ⟨u, us, rfl, rfl, h2⟩ := hc
        exact ⟨[_], us, rfl, h2, rfl⟩
      · exact absurd h (by simp)
  | .bool, ds, vs, x, r, p, ids, h, hc, hL, hn => by
    cases ds with
    | nil => simp [unfl] at h
    | cons d ds =>
      cases d <;> simp only [unfl] at h <;> try (cases h; done)
      simp only [Option.some.injEq, Prod.mk.injEq] at h
      obtain ⟨rfl, rfl, rfl, rfl⟩ := h
      simp only [CRs, CR] at hc
      obtain ⟨u, us, rfl, rfl, h2⟩ := hc
      exact ⟨[_], us, rfl, h2, rfl⟩
  | .str, ds, vs, x, r, p, ids, h, hc, hL, hn => by
    cases ds with
    | nil => simp [unfl] at h
    | cons d ds =>
      cases d <;> simp only [unfl] at h <;> try (cases h; done)
      simp only [Option.some.injEq, Prod.mk.injEq] at h
      obtain ⟨rfl, rfl, rfl, rfl⟩ := h
      simp only [CRs, CR] at hc
      obtain ⟨u, us, rfl, rfl, h2⟩ := hc
      exact ⟨[_], us, rfl, h2, rfl⟩
  | .sl e, ds, vs, x, r, p, ids, h, hc, hL, hn => by
    cases ds with
    | nil => simp [unfl] at h
    | cons d ds =>
      cases d <;> simp only [unfl] at h <;> try (cases h; done)
      · split at h
        · rename_i q t l e1
          subst e1
          simp only [Option.some.injEq, Prod.mk.injEq] at h
          obtain ⟨rfl, rfl, rfl, rfl⟩ := h
          simp only [CRs, CR] at hc
          obtain ⟨u, us, rfl, h1, h2⟩ := hc
          exact ⟨[_], us, rfl, h2, h1.lets hL⟩
        · exact absurd h (by simp)
      · simp only [Option.some.injEq, Prod.mk.injEq] at h
        obtain ⟨rfl, rfl, rfl, rfl⟩ := h
        simp only [CRs, CR] at hc
        obtain ⟨u, us, rfl, rfl, h2⟩ := hc
        exact ⟨[_], us, rfl, h2, none, 0, rfl, Nat.le_refl _, .inl rfl⟩
      · rename_i id st
        split at h
        · rename_i q st' t l hH
          split at h
          · rename_i e0
            subst e0
            split at h
            · rename_i e1
              subst e1
              simp only [Option.some.injEq, Prod.mk.injEq] at h
              obtain ⟨rfl, rfl, rfl, rfl⟩ := h
              simp only [CRs, CR] at hc
              obtain ⟨u, us, rfl, h1, h2⟩ := hc
              have hid : id < B.length := by have := h1.1; omega
              exact ⟨[_], us, rfl, h2, hd_dat hH (List.getElem?_eq_getElem hid) (blk _ _ _ hH (List.getElem?_eq_getElem hid)) h1 hL
                (fun rb e => hn id (by simp) rb (by rw [List.getElem?_eq_getElem hid, e]))⟩
            · exact absurd h (by simp)
          · exact absurd h (by simp)
        · exact absurd h (by simp)
  | .pair a b, ds, vs, x, r, p, ids, h, hc, hL, hn => by
    simp only [unfl] at h
    split at h
    · rename_i x1 r1 p1 f1 e1
      split at h
      · rename_i y r2 p2 f2 e2
        simp only [Option.some.injEq, Prod.mk.injEq] at h
        obtain ⟨rfl, rfl, rfl, rfl⟩ := h
        obtain ⟨us, vs', rfl, h1, h2⟩ := unfl_ok hN hl blk e1 hc (hL.mono hN (by cases p1 <;> cases p2 <;> rfl)) (fun id hi => hn id (List.mem_append_left _ hi))
        obtain ⟨us2, vs2, rfl, h3, h4⟩ := unfl_ok hN hl blk e2 h1 (hL.mono hN (by cases p1 <;> cases p2 <;> rfl)) (fun id hi => hn id (List.mem_append_right _ hi))
        exact ⟨us ++ us2, vs2, by simp, h3, us, us2, rfl, h2, h4⟩
      · exact absurd h (by simp)
    · exact absurd h (by simp)

def Used.excl (u : Used) : Prop := ∀ id, (id, true) ∈ u → (id, false) ∈ u → False

theorem Used.has_iff {u : Used} {id : Nat} : u.has id = true ↔ ∃ b, (id, b) ∈ u := by
  unfold Used.has
  rw [List.any_eq_true]
  constructor
  · rintro ⟨⟨a, b⟩, h, e⟩
    have := Nat.eq_of_beq_eq_true e
    subst this
    exact ⟨b, h⟩
  · rintro ⟨b, h⟩
    exact ⟨_, h, by simp⟩

theorem Used.moved_iff {u : Used} {id : Nat} : u.moved id = true ↔ (id, true) ∈ u := by
  unfold Used.moved
  rw [List.any_eq_true]
  constructor
  · rintro ⟨⟨a, b⟩, h, e⟩
    simp only [Bool.and_eq_true] at e
    have := Nat.eq_of_beq_eq_true e.1
    subst this
    have hb : b = true := e.2
    subst hb
    exact h
  · intro h
    exact ⟨_, h, by simp⟩

/-- What reading cells by a shape gives, laid into another heap. -/
structure Laid (H : Heap) (B : List (Option Nat)) (w : World) (N Np Nt Ntp : Nat → Prop) (u u' : Used) (es : List D) (us : List Value) (H2 H2' : Heap) (B2 : List (Option Nat)) (Bn : List (Option Nat)) : Prop where
  heap : ∃ Hn, H2' = H2 ++ Hn ∧ Hn.length = Bn.length ∧ ∀ (i : Nat) b ob, Hn[i]? = some b → Bn[i]? = some ob → BR Nt Ntp H2' (B2 ++ Bn) w b ob
  cells : CRs Nt Ntp H2' (B2 ++ Bn) w es us
  from_ : ∃ M : List (Option Nat), M.length = Bn.length ∧ (∀ i id : Nat, M[i]? = some (some id) → (id, true) ∈ u' ∧ u.has id = false) ∧
    (∀ i rb : Nat, Bn[i]? = some (some rb) → ∃ id, M[i]? = some (some id) ∧ B[id]? = some (some rb)) ∧ (∀ i j id : Nat, M[i]? = some (some id) → M[j]? = some (some id) → i = j)

theorem Laid.nil {u u' : Used} {es : List D} {us : List Value} {H2 : Heap} {B2 : List (Option Nat)} (h : CRs Nt Ntp H2 B2 w es us) : Laid H B w N Np Nt Ntp u u' es us H2 H2 B2 [] where
  heap := ⟨[], by simp, rfl, fun i b ob e => by simp at e⟩
  cells := by simpa using h
  from_ := ⟨[], rfl, fun i id e => by simp at e, fun i rb e => by simp at e, fun i j id e => by simp at e⟩

end
end Go.Proofs.Ytoafakkbmnnimaa.Ab
