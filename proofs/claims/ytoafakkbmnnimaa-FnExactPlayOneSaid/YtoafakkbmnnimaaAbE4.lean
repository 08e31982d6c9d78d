import Derived.Test.YtoafakkbmnnimaaAbE3
namespace Go.Proofs.Ytoafakkbmnnimaa.Ab
open Go
set_option linter.unusedVariables false
set_option linter.unusedSimpArgs false
set_option linter.unnecessarySimpa false
set_option linter.unusedSimpArgs false
set_option linter.unusedVariables false

section
variable {P : Program} {A : Ann} {V : Lvl A} {all : List Oper} {C : Cx} {env env' : List D} {H : Heap} {B : List (Option Nat)} {a : Act} {w w' : World}

/-- One thing that comes back. -/
def WbE (H : Heap) (B : List (Option Nat)) (ids : List Nat) (H2 : Heap) (B3 : List (Option Nat)) (e : Nat × Blk × Nat) : Prop :=
  e.1 ∈ ids ∧ H.length ≤ e.2.2 ∧ B3[e.2.2]? = B[e.1]? ∧
  ((∃ c0 c, H[e.1]? = some (.box c0) ∧ H2[e.2.2]? = some (.box c) ∧ e.2.1 = .box c) ∨
   (∃ p0 st t l0 q st1 l, H[e.1]? = some (.arr p0 st t l0) ∧ H2[e.2.2]? = some (.arr q st1 t l) ∧ e.2.1 = .arr q st t l ∧ l.length = l0.length))

theorem any_mem {f : List Nat} {id : Nat} (h : f.any (Nat.beq id) = true) : id ∈ f := by
  rw [List.any_eq_true] at h
  obtain ⟨x, hx, e⟩ := h
  have := Nat.eq_of_beq_eq_true e
  subst this
  exact hx

theorem wb1_ok {N Np Nt Ntp : Nat → Prop} {ids : List Nat} {H2 : Heap} {H3 : Heap} {B3 : List (Option Nat)} (hl : B.length = H.length) (hl3 : B3.length = H3.length) (h23 : ∀ i, H.length ≤ i → H3[i]? = H2[i]?) {c d : D} {v : Value} {e : Nat × Blk × Nat}
    (h1 : CR N Np H B w c v) (h2 : CR Nt Ntp H3 B3 w' d v) (he : wb1 H ids c d H2 = some (some e)) : WbE H B ids H2 B3 e := by
  unfold wb1 at he
  split at he
  · cases he
  · rename_i id id'
    split at he
    · rename_i c0 c q1 q2 q3
      simp only [Option.some.injEq] at he
      subst he
      simp only [Bool.and_eq_true] at q3
      have hge := Nat.le_of_ble_eq_true q3.2
      simp only [CR] at h1 h2
      obtain ⟨_, h1⟩ := h1
      obtain ⟨rb, b1, v1⟩ := h1 _ q1
      obtain ⟨_, h2⟩ := h2
      obtain ⟨rb', b2, v2⟩ := h2 c (by rw [h23 _ hge]; exact q2)
      rw [v1] at v2
      simp only [Value.pointer.injEq, Option.some.injEq, Addr.mk.injEq] at v2
      refine ⟨any_mem q3.1, hge, ?_, .inl ⟨c0, c, q1, q2, rfl⟩⟩
      show B3[id']? = B[id]?
      rw [b1, b2, v2.1]
    · cases he
  · rename_i id st id' st'
    split at he
    · rename_i p0 st0 t0 l0 q st1 t l q1 q2 q3
      split at he
      · rename_i hc
        obtain ⟨rfl, rfl, rfl⟩ := hc
        simp only [Option.some.injEq] at he
        subst he
        simp only [Bool.and_eq_true] at q3
        have hge := Nat.le_of_ble_eq_true q3.2
        simp only [CR] at h1 h2
        obtain ⟨⟨hid, _⟩, h1⟩ := h1
        obtain ⟨_, h1⟩ := h1 _ _ _ _ q1
        obtain ⟨a1, c1, v1, _, r1⟩ := h1 rfl
        obtain ⟨⟨hid', _⟩, h2⟩ := h2
        obtain ⟨_, h2⟩ := h2 q st1 t0 l (by rw [h23 _ hge]; exact q2)
        obtain ⟨a2, c2, v2, _, r2⟩ := h2 rfl
        rw [v1] at v2
        simp only [Value.slice.injEq] at v2
        obtain ⟨ea, el, ec⟩ := v2
        subst ea
        refine ⟨any_mem q3.1, hge, ?_, .inr ⟨p0, st0, t0, l0, q, st1, l, q1, q2, rfl, el.symm⟩⟩
        show B3[id']? = B[id]?
        have hb1 : id < B.length := by omega
        have hb2 : id' < B3.length := by omega
        unfold RowP at r1 r2
        rw [List.getElem?_eq_getElem hb1] at r1 ⊢
        rw [List.getElem?_eq_getElem hb2] at r2 ⊢
        congr 1
        cases e1 : B[id] with
        | none =>
          rw [e1] at r1
          cases e2 : B3[id'] with
          | none => rfl
          | some rb =>
            rw [e2] at r2
            simp only at r1 r2
            rw [r1.1] at r2
            exact absurd r2.1 (by simp)
        | some rb =>
          rw [e1] at r1
          cases e2 : B3[id'] with
          | none =>
            rw [e2] at r2
            simp only at r1 r2
            rw [r2.1] at r1
            exact absurd r1.1 (by simp)
          | some rb' =>
            rw [e2] at r2
            simp only at r1 r2
            have := r1.1.symm.trans r2.1
            simp only [Option.some.injEq, Addr.mk.injEq] at this
            rw [this.1]
      · cases he
    · cases he
  · cases he

mutual
theorem wbOne_ok {N Np Nt Ntp : Nat → Prop} {ids : List Nat} {H2 : Heap} {H3 : Heap} {B3 : List (Option Nat)} (hl : B.length = H.length) (hl3 : B3.length = H3.length) (h23 : ∀ i, H.length ≤ i → H3[i]? = H2[i]?) :
    ∀ {c d : D} {v : Value} {r : List (Nat × Blk × Nat)}, CR N Np H B w c v → CR Nt Ntp H3 B3 w' d v → wbOne H ids H2 c d = some r → ∀ e ∈ r, WbE H B ids H2 B3 e
  | c, d, v, r, h1, h2, he => by
    unfold wbOne at he
    split at he
    · rename_i cs ds
      simp only [CR] at h1 h2
      obtain ⟨vs, rfl, k1⟩ := h1
      obtain ⟨vs', e1, k2⟩ := h2
      cases e1
      exact wbAll_ok hl hl3 h23 k1 k2 he
    · cases he; simp
    · cases he; simp
    · cases he; simp
    · cases he; simp
    · split at he
      · rename_i e q1
        simp only [Option.some.injEq] at he
        subst he
        intro e' hm
        simp only [List.mem_cons, List.not_mem_nil, or_false] at hm
        subst hm
        exact wb1_ok hl hl3 h23 h1 h2 q1
      · cases he; simp
      · cases he
theorem wbAll_ok {N Np Nt Ntp : Nat → Prop} {ids : List Nat} {H2 : Heap} {H3 : Heap} {B3 : List (Option Nat)} (hl : B.length = H.length) (hl3 : B3.length = H3.length) (h23 : ∀ i, H.length ≤ i → H3[i]? = H2[i]?) :
    ∀ {cs ds : List D} {vs : List Value} {r : List (Nat × Blk × Nat)}, CRs N Np H B w cs vs → CRs Nt Ntp H3 B3 w' ds vs → wbAll H ids H2 cs ds = some r → ∀ e ∈ r, WbE H B ids H2 B3 e
  | [], [], vs, r, h1, h2, he => by simp only [wbAll, Option.some.injEq] at he; subst he; simp
  | [], d :: ds, vs, r, h1, h2, he => by simp [wbAll] at he
  | c :: cs, [], vs, r, h1, h2, he => by simp [wbAll] at he
  | c :: cs, d :: ds, vs, r, h1, h2, he => by
    simp only [CRs] at h1 h2
    obtain ⟨u, us, rfl, k1, k2⟩ := h1
    obtain ⟨u', us', e1, k3, k4⟩ := h2
    obtain ⟨rfl, rfl⟩ := List.cons.inj e1
    simp only [wbAll] at he
    split at he
    · rename_i q r' q1 q2
      split at he
      · cases he
      · simp only [Option.some.injEq] at he
        subst he
        intro e' hm
        rcases List.mem_append.mp hm with hm | hm
        · exact wbOne_ok hl hl3 h23 k1 k3 q1 e' hm
        · exact wbAll_ok hl hl3 h23 k2 k4 q2 e' hm
    · cases he
end

mutual
theorem wbOne_ids {ids : List Nat} {H2 : Heap} : ∀ {c d : D} {r : List (Nat × Blk × Nat)}, wbOne H ids H2 c d = some r → (∀ e ∈ r, e.1 ∈ ids ∧ e.1 < H.length ∧ H.length ≤ e.2.2) ∧ r.Pairwise (fun x y => x.1 ≠ y.1)
  | c, d, r, he => by
    unfold wbOne at he
    split at he
    · rename_i cs ds
      exact wbAll_ids he
    · cases he; simp
    · cases he; simp
    · cases he; simp
    · cases he; simp
    · split at he
      · rename_i e q1
        simp only [Option.some.injEq] at he
        subst he
        refine ⟨fun e' hm => ?_, by simp⟩
        simp only [List.mem_cons, List.not_mem_nil, or_false] at hm
        subst hm
        have hlt : ∀ {i : Nat} {b : Blk}, H[i]? = some b → i < H.length := fun {i b} z => by
          rcases Nat.lt_or_ge i H.length with y | y
          · exact y
          · rw [List.getElem?_eq_none y] at z; cases z
        unfold wb1 at q1
        split at q1
        · cases q1
        · split at q1
          · rename_i z1 z2 z3
            simp only [Option.some.injEq] at q1
            subst q1
            simp only [Bool.and_eq_true] at z3
            exact ⟨any_mem z3.1, hlt z1, Nat.le_of_ble_eq_true z3.2⟩
          · cases q1
        · split at q1
          · rename_i z1 z2 z3
            split at q1
            · simp only [Option.some.injEq] at q1
              subst q1
              simp only [Bool.and_eq_true] at z3
              exact ⟨any_mem z3.1, hlt z1, Nat.le_of_ble_eq_true z3.2⟩
            · cases q1
          · cases q1
        · cases q1
      · cases he; simp
      · cases he
theorem wbAll_ids {ids : List Nat} {H2 : Heap} : ∀ {cs ds : List D} {r : List (Nat × Blk × Nat)}, wbAll H ids H2 cs ds = some r → (∀ e ∈ r, e.1 ∈ ids ∧ e.1 < H.length ∧ H.length ≤ e.2.2) ∧ r.Pairwise (fun x y => x.1 ≠ y.1)
  | [], [], r, he => by simp only [wbAll, Option.some.injEq] at he; subst he; simp
  | [], d :: ds, r, he => by simp [wbAll] at he
  | c :: cs, [], r, he => by simp [wbAll] at he
  | c :: cs, d :: ds, r, he => by
    simp only [wbAll] at he
    split at he
    · rename_i q r' q1 q2
      split at he
      · cases he
      · rename_i hany
        simp only [Option.some.injEq] at he
        subst he
        obtain ⟨i1, i2⟩ := wbOne_ids q1
        obtain ⟨j1, j2⟩ := wbAll_ids q2
        refine ⟨fun e' hm => (List.mem_append.mp hm).elim (i1 e') (j1 e'), List.pairwise_append.mpr ⟨i2, j2, fun x hx y hy e => ?_⟩⟩
        have k := List.any_eq_false.mp hany x hx
        have k2 : (r'.any fun z => Nat.beq x.1 z.1) = true := List.any_eq_true.mpr ⟨y, hy, by rw [e]; exact Nat.beq_refl _⟩
        exact k k2
    · cases he
end

/-- The caller's blocks, those that came back set again. -/
def wbRevB (B : List (Option Nat)) : List (Nat × Blk × Nat) → List (Option Nat) → List (Option Nat)
  | [], X => X
  | e :: r, X => wbRevB B r (X.set e.1 (B.getD e.1 none))

theorem wbRev_len : ∀ (r : List (Nat × Blk × Nat)) (X : Heap), (wbRev r X).length = X.length
  | [], _ => rfl
  | e :: r, X => by rw [wbRev, wbRev_len]; simp
theorem wbRevB_len : ∀ (r : List (Nat × Blk × Nat)) (X : List (Option Nat)), (wbRevB B r X).length = X.length
  | [], _ => rfl
  | e :: r, X => by rw [wbRevB, wbRevB_len]; simp
theorem wbRev_app : ∀ (r : List (Nat × Blk × Nat)) (X Y : Heap), (∀ e ∈ r, e.1 < X.length) → wbRev r (X ++ Y) = wbRev r X ++ Y
  | [], _, _, _ => rfl
  | e :: r, X, Y, h => by
    rw [wbRev, wbRev, List.set_append_left _ _ (h e (by simp)), wbRev_app r _ _ (fun e' he => by simpa using h e' (by simp [he]))]
theorem wbRev_out : ∀ (r : List (Nat × Blk × Nat)) (X : Heap) (i : Nat), (∀ e ∈ r, e.1 ≠ i) → (wbRev r X)[i]? = X[i]?
  | [], _, _, _ => rfl
  | e :: r, X, i, h => by
    rw [wbRev, wbRev_out r _ _ (fun e' he => h e' (by simp [he])), List.getElem?_set_ne (h e (by simp))]
theorem wbRevB_out : ∀ (r : List (Nat × Blk × Nat)) (X : List (Option Nat)) (i : Nat), (∀ e ∈ r, e.1 ≠ i) → (wbRevB B r X)[i]? = X[i]?
  | [], _, _, _ => rfl
  | e :: r, X, i, h => by
    rw [wbRevB, wbRevB_out r _ _ (fun e' he => h e' (by simp [he])), List.getElem?_set_ne (h e (by simp))]
theorem wbRev_in : ∀ (r : List (Nat × Blk × Nat)) (X : Heap), r.Pairwise (fun x y => x.1 ≠ y.1) → ∀ e ∈ r, e.1 < X.length → (wbRev r X)[e.1]? = some e.2.1
  | [], _, _, e, he, _ => by cases he
  | e0 :: r, X, hp, e, he, hl => by
    rw [List.pairwise_cons] at hp
    rw [wbRev]
    rcases List.mem_cons.mp he with rfl | he
    · rw [wbRev_out r _ _ (fun e' h' => fun q => hp.1 e' h' q.symm)]
      simp [hl]
    · exact wbRev_in r _ hp.2 e he (by simpa using hl)
theorem wbRevB_in : ∀ (r : List (Nat × Blk × Nat)) (X : List (Option Nat)), r.Pairwise (fun x y => x.1 ≠ y.1) → ∀ e ∈ r, e.1 < X.length → X.length = B.length → (wbRevB B r X)[e.1]? = B[e.1]?
  | [], _, _, e, he, _, _ => by cases he
  | e0 :: r, X, hp, e, he, hl, hB => by
    rw [List.pairwise_cons] at hp
    rw [wbRevB]
    rcases List.mem_cons.mp he with rfl | he
    · rw [wbRevB_out r _ _ (fun e' h' => fun q => hp.1 e' h' q.symm)]
      have : e.1 < B.length := by omega
      simp [hl, this]
    · exact wbRevB_in r _ hp.2 e he (by simpa using hl) (by simpa using hB)

theorem lt_of_some {X : Type} {l : List X} {i : Nat} {x : X} (h : l[i]? = some x) : i < l.length := by
  rcases Nat.lt_or_ge i l.length with y | y
  · exact y
  · rw [List.getElem?_eq_none y] at h; cases h

end
end Go.Proofs.Ytoafakkbmnnimaa.Ab
