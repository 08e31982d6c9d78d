import Derived.Test.YtoafakkbmnnimaaAbE2
namespace Go.Proofs.Ytoafakkbmnnimaa.Ab
open Go
set_option linter.unusedVariables false
set_option linter.unusedSimpArgs false
set_option linter.unnecessarySimpa false
set_option linter.unusedSimpArgs false
set_option linter.unusedVariables false

section
variable {P : Program} {A : Ann} {V : Lvl A} {all : List Oper} {C : Cx} {env env' : List D} {H : Heap} {B : List (Option Nat)} {a : Act} {w w' : World}

/-- The caller's world behind a call, its own blocks not written: none was handed over. -/
theorem back_step (h : HS C H B w) {u : Used} {H1 : Heap} {B1 : List (Option Nat)} (k : HS (C.callee B u w) H1 B1 w') (hu : ∀ id, (id, true) ∉ u) :
    Step (C.N B) (C.Np B) (C.N B) (C.Np B) H B w H B w' := by
  have hmv : ∀ b, ¬ Moved B u b := fun b q => by obtain ⟨id, k1, _⟩ := q; exact hu id k1
  exact {
    g := ⟨k.fr.size, fun b hb _ => k.fr.same b hb (hmv b), fun _ _ q => q⟩
    gp := ⟨k.fr.size, fun b hb _ => k.fr.same b hb (hmv b), fun _ _ q => q⟩
    len := Nat.le_refl _
    box := fun id _ cells e => ⟨⟨_, e⟩, rfl⟩
    arr := fun id _ p st t l e => ⟨_, _, _, _, e, Nat.le_refl _, fun _ => ⟨rfl, rfl, rfl⟩⟩
    cells := k.fr.cells }

theorem callee_fr (h : HS C H B w) {u : Used} {H1 : Heap} {B1 : List (Option Nat)} (k : HS (C.callee B u w) H1 B1 w') : Fr C.W0 C.w0 w' :=
  h.fr.trans' k.fr.size (fun b hb hn => k.fr.same b (Nat.lt_of_lt_of_le hb h.fr.size) (fun ⟨id, _, e⟩ => by
    rcases (h.alloc id b e).2.2 with q | q
    · exact hn q
    · omega)) k.fr.cells k.fr.os k.fr.tape k.fr.output

theorem callN_ok (hV : LvlOk P A V) (h : St C env H B a w) {f : Nat} {ds : List D} {args : List Value} (hc : CRs (C.N B) (C.Np B) H B w ds args) {d : D} (hd : CallNV A V H f ds d) :
    HasBody P f ∧ Calls P f args.toArray w fun e w' => ∃ v, e = .returned v ∧ St C env H B a w' ∧ CR (C.N B) (C.Np B) H B w' d v := by
  obtain ⟨x, u, y, he, hch, hy, rfl⟩ := hd
  simp only [Bool.and_eq_true, Bool.or_eq_true, Bool.not_eq_true', List.isEmpty_iff] at hch
  obtain ⟨⟨⟨hperm, hids⟩, hinout⟩, hns⟩ := hch
  obtain ⟨hb, ha⟩ := hV f x y hy
  refine ⟨hb, ?_⟩
  obtain ⟨B0, k1, k2⟩ := enter_ok h.toHS hc he
  refine Calls.mono (ha _ B0 args k1 k2) ?_
  intro e w' hR
  cases e with
  | panicked _ => exact hR.elim
  | outgrown => exact hR.elim
  | returned v =>
    obtain ⟨H1, B1, ds1, vs, u1, g1, g2, g3, g4, g5⟩ := hR
    have hkv : keepV (A.sig f).inout args = [] := by rw [hinout]; rfl
    rw [hkv, List.append_nil] at g2
    have hno : ∀ id, (id, true) ∉ u := fun id q => by
      have := ids_mem.mpr q
      rw [hids] at this
      cases this
    have hs := back_step h.toHS g1 hno
    have hmv : ∀ b, ¬ Moved B u b := fun b q => by obtain ⟨id, k1, _⟩ := q; exact hno id k1
    have hout : ∀ i rb : Nat, B1[i]? = some (some rb) → ¬ C.Np B rb := fun i rb q z => by
      have hal := g1.alloc i rb q
      rcases z with ⟨j, z⟩ | z
      · exact hal.2.1 (.inr ⟨⟨j, z⟩, hmv rb⟩)
      · exact hal.2.1 (.inl z)
    have hst : St C env H B a w' := h.go hs {
      lenB := h.lenB
      nodup := h.nodup
      alloc := fun i rb q => ⟨Nat.lt_of_lt_of_le (h.alloc i rb q).1 g1.fr.size, (h.alloc i rb q).2⟩
      blk := fun i b ob q1 q2 => (h.blk i b ob q1 q2).step hs (fun rb e => by
        subst e
        exact g1.fr.same rb (h.alloc i rb q2).1 (hmv rb))
      lb := h.lb
      lp := h.lp
      fr := callee_fr h.toHS g1 }
    obtain ⟨us, vs', hv, hnil, Bn, L⟩ := ext_ok (Nt := C.N B) (Ntp := C.Np B) (fun b => Cx.N_Np g1.lb) (fun b => Cx.N_Np h.lb) g1.lenB g1.blk
      (fun b _ hn k => hn (by
        rcases k with k | k
        · exact .inr (.inr ⟨k, hmv b⟩)
        · exact .inr (.inl k)))
      (fun hp b _ hn k => hn (by
        rcases k with k | k
        · exact .inr (.inr ⟨hperm.resolve_left (by rw [hp]; exact Bool.false_ne_true), k, hmv b⟩)
        · exact .inr (.inl k))) g3 g2
      (fun id rb hid hb => ⟨fun q => hout id rb hb (Cx.N_Np h.lb q), fun _ => hout id rb hb⟩) H B h.lenB
    simp only [CRs] at hnil
    subst hnil
    rw [List.append_nil] at hv
    subst hv
    obtain ⟨⟨Hn, e1, e2, e3⟩, hcells, M, m1, m2, m3, m4⟩ := L
    have hcr := emb_embN (H := H) (B := B) (N := C.N B) (Np := C.Np B) (n := H.length) (H3 := (emb (A.sig f).out y H).2) (B3 := B ++ Bn) (fun b => Cx.N_Np h.lb) (by rw [e1]; simp [h.lenB, e2])
      (fun i b ob q1 q2 => by
        rw [e1] at q1
        rcases Nat.lt_or_ge i H.length with z | z
        · rw [List.getElem?_append_left z] at q1
          rw [List.getElem?_append_left (by rw [h.lenB]; exact z)] at q2
          have := hst.blk i b ob q1 q2
          have s2 := Step.app (N := C.N B) (Np := C.Np B) (w := w') h.lenB Hn Bn
          rw [e1]
          exact this.step s2 (fun _ _ => rfl)
        · rw [List.getElem?_append_right z] at q1
          rw [List.getElem?_append_right (by rw [h.lenB]; exact z), h.lenB] at q2
          exact e3 _ _ _ q1 q2) (fun _ q => q) (fun _ q => q)
      (fun i rb hi q => by
        rw [List.getElem?_append_right (by rw [h.lenB]; exact hi)] at q
        obtain ⟨id, z1, z2⟩ := m3 _ _ q
        exact hout id rb z2) (X := []) hns (Nat.le_refl _) (by simp) hcells
    refine ⟨v, rfl, hst, ?_⟩
    have := hcr.take (A.sig f).nres
    rw [← g4, List.take_length] at this
    rw [g5, ← g4]
    exact res_ok this

end
end Go.Proofs.Ytoafakkbmnnimaa.Ab
