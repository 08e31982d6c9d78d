import Derived.Test.YtoafakkbmnnimaaAbB4
namespace Go.Proofs.Ytoafakkbmnnimaa.Ab
open Go
set_option linter.unusedVariables false
set_option linter.unusedSimpArgs false
set_option linter.unnecessarySimpa false

section
variable {N Np Nt Ntp : Nat → Prop} {H : Heap} {B : List (Option Nat)} {w : World}

theorem ext_sub {lend : Bool} : ∀ {s : Sh} {ds : List D} {u u' : Used} {x : s.den} {r : List D}, ext lend H s ds u = some (x, r, u') → ∀ e ∈ u, e ∈ u'
  | .int k, ds, u, u', x, r, h => by
    cases ds with
    | nil => simp [ext] at h
    | cons d ds =>
      cases d <;> simp only [ext] at h <;> try (cases h; done)
      split at h
      · simp only [Option.some.injEq, Prod.mk.injEq] at h; obtain ⟨_, _, rfl⟩ := h; exact fun e he => he
      · cases h
  | .bool, ds, u, u', x, r, h => by
    cases ds with
    | nil => simp [ext] at h
    | cons d ds =>
      cases d <;> simp only [ext] at h <;> try (cases h; done)
      simp only [Option.some.injEq, Prod.mk.injEq] at h; obtain ⟨_, _, rfl⟩ := h; exact fun e he => he
  | .str, ds, u, u', x, r, h => by
    cases ds with
    | nil => simp [ext] at h
    | cons d ds =>
      cases d <;> simp only [ext] at h <;> try (cases h; done)
      simp only [Option.some.injEq, Prod.mk.injEq] at h; obtain ⟨_, _, rfl⟩ := h; exact fun e he => he
  | .tr p t, ds, u, u', x, r, h => by
    cases ds with
    | nil => simp [ext] at h
    | cons d ds =>
      cases d <;> simp only [ext] at h <;> try (cases h; done)
      · split at h
        · split at h
          · simp only [Option.some.injEq, Prod.mk.injEq] at h; obtain ⟨_, _, rfl⟩ := h; exact fun e he => he
          · cases h
        · cases h
      · simp only [Option.some.injEq, Prod.mk.injEq] at h; obtain ⟨_, _, rfl⟩ := h; exact fun e he => he
      · split at h
        · split at h
          · split at h
            · simp only [Option.some.injEq, Prod.mk.injEq] at h; obtain ⟨_, _, rfl⟩ := h; exact fun e he => List.mem_cons_of_mem _ he
            · cases h
          · cases h
        · cases h
      · split at h
        · split at h
          · split at h
            · simp only [Option.some.injEq, Prod.mk.injEq] at h; obtain ⟨_, _, rfl⟩ := h; exact fun e he => List.mem_cons_of_mem _ he
            · cases h
          · cases h
        · cases h
  | .own p t, ds, u, u', x, r, h => by
    cases ds with
    | nil => simp [ext] at h
    | cons d ds =>
      cases d <;> simp only [ext] at h <;> try (cases h; done)
      · simp only [Option.some.injEq, Prod.mk.injEq] at h; obtain ⟨_, _, rfl⟩ := h; exact fun e he => he
      · split at h
        · split at h
          · split at h
            · simp only [Option.some.injEq, Prod.mk.injEq] at h; obtain ⟨_, _, rfl⟩ := h; exact fun e he => List.mem_cons_of_mem _ he
            · cases h
          · cases h
        · cases h
      · split at h
        · split at h
          · split at h
            · simp only [Option.some.injEq, Prod.mk.injEq] at h; obtain ⟨_, _, rfl⟩ := h; exact fun e he => List.mem_cons_of_mem _ he
            · cases h
          · cases h
        · cases h
  | .box s, ds, u, u', x, r, h => by
    cases ds with
    | nil => simp [ext] at h
    | cons d ds =>
      cases d <;> simp only [ext] at h <;> try (cases h; done)
      split at h
      · split at h
        · split at h
          · rename_i e1
            simp only [Option.some.injEq, Prod.mk.injEq] at h; obtain ⟨_, _, rfl⟩ := h
            exact fun e he => ext_sub e1 e (List.mem_cons_of_mem _ he)
          · cases h
        · cases h
      · cases h
  | .rbox s, ds, u, u', x, r, h => by
    cases ds with
    | nil => simp [ext] at h
    | cons d ds =>
      cases d <;> simp only [ext] at h <;> try (cases h; done)
      · split at h
        · split at h
          · split at h
            · rename_i e1
              simp only [Option.some.injEq, Prod.mk.injEq] at h; obtain ⟨_, _, rfl⟩ := h
              exact fun e he => ext_sub e1 e (List.mem_cons_of_mem _ he)
            · cases h
          · cases h
        · cases h
      · split at h
        · split at h
          · rename_i e1
            simp only [Option.some.injEq, Prod.mk.injEq] at h; obtain ⟨_, _, rfl⟩ := h
            exact ext_sub e1
          · cases h
        · cases h
  | .clo g s, ds, u, u', x, r, h => by
    cases ds with
    | nil => simp [ext] at h
    | cons d ds =>
      cases d <;> simp only [ext] at h <;> try (cases h; done)
      split at h
      · split at h
        · rename_i e1
          simp only [Option.some.injEq, Prod.mk.injEq] at h; obtain ⟨_, _, rfl⟩ := h
          exact ext_sub e1
        · cases h
      · cases h
  | .agg s, ds, u, u', x, r, h => by
    cases ds with
    | nil => simp [ext] at h
    | cons d ds =>
      cases d <;> simp only [ext] at h <;> try (cases h; done)
      split at h
      · rename_i e1
        simp only [Option.some.injEq, Prod.mk.injEq] at h; obtain ⟨_, _, rfl⟩ := h
        exact ext_sub e1
      · cases h
  | .pair a b, ds, u, u', x, r, h => by
    simp only [ext] at h
    split at h
    · rename_i e1
      split at h
      · rename_i e2
        simp only [Option.some.injEq, Prod.mk.injEq] at h; obtain ⟨_, _, rfl⟩ := h
        exact fun e he => ext_sub e2 e (ext_sub e1 e he)
      · cases h
    · cases h
  | .unit, ds, u, u', x, r, h => by
    simp only [ext, Option.some.injEq, Prod.mk.injEq] at h; obtain ⟨_, _, rfl⟩ := h; exact fun e he => he

theorem hds_own {p : Bool} {st len : Nat} {t : Ty} {l : List t.den} {id : Nat} {v : Value} {q : Bool} {ob : Option Nat} {H3 : Heap} {B3 : List (Option Nat)} (hH : H[id]? = some (.arr p st t l)) (hB : B[id]? = some ob)
    (hb : BR N Np H B w (.arr p st t l) ob) (hv : HdsP H B w id st 0 len v) (hq : Lets N Np w p (pk q Nt Ntp)) (hl3 : B3.length = H3.length) :
    BR Nt Ntp (H3 ++ [.arr q 0 t (l.take len)]) (B3 ++ [ob]) w (.arr q 0 t (l.take len)) ob ∧ CR Nt Ntp (H3 ++ [.arr q 0 t (l.take len)]) (B3 ++ [ob]) w (.hd H3.length 0) v := by
  obtain ⟨h1, h2⟩ := hv
  obtain ⟨-, h3⟩ := h2 _ _ _ _ hH
  obtain ⟨ho, a, c, rfl, hc, hr⟩ := h3 rfl
  have hr := hr (.inl rfl)
  have hlen : (l.take len).length = len := by simp; omega
  have hB3 : (B3 ++ [ob])[H3.length]? = some ob := by rw [List.getElem?_append_right (by omega), hl3]; simp
  constructor
  · cases ob with
    | none =>
      have : l = [] := hb
      subst this
      simp [BR]
    | some rb =>
      obtain ⟨cs, hcs, hsz, hd⟩ := hb
      refine ⟨cs, hcs, ?_, fun i hi => ?_⟩
      · rw [hlen]; exact Nat.le_trans (Nat.mul_le_mul_right _ (by omega)) hsz
      · have hi' : i < l.length := by omega
        obtain ⟨us, hu, hcell⟩ := hd i hi'
        refine ⟨us, ?_, hcell⟩
        have e : (l.take len)[i] = l[i] := by simp
        rw [e]
        exact hu.lets hq
  · simp only [CR]
    refine ⟨⟨by simp, rfl⟩, fun p' st' t' l' e => ?_⟩
    rw [List.getElem?_append_right (Nat.le_refl _)] at e
    simp only [Nat.sub_self, List.getElem?_cons_zero] at e
    injection e with e
    injection e with e1 e2 e3 e4
    subst e1; subst e2; subst e3
    cases e4
    refine ⟨Nat.le_refl _, fun _ => ⟨a, c, by rw [hlen], by omega, ?_⟩⟩
    unfold RowP at hr ⊢
    rw [hB3]
    rw [hB] at hr
    cases ob with
    | none => exact hr
    | some rb =>
      obtain ⟨k1, cs, k2, k3⟩ := hr
      exact ⟨k1, cs, k2, k3⟩

theorem ext_ok {lend : Bool} (hN : ∀ b, N b → Np b) (hNt : ∀ b, Nt b → Ntp b) (hl : B.length = H.length) (blk : ∀ (i : Nat) b ob, H[i]? = some b → B[i]? = some ob → BR N Np H B w b ob)
    (h1 : Lets N Np w true Ntp) :
    ∀ {s : Sh} {ds : List D} {vs : List Value} {u u' : Used} {x : s.den} {r : List D}, (s.perm = false → Lets N Np w false Nt) → ext lend H s ds u = some (x, r, u') → CRs N Np H B w ds vs →
      (∀ id rb, (id, false) ∈ u' → B[id]? = some (some rb) → ¬ Nt rb ∧ (lend = false → ¬ Ntp rb)) →
      ∀ (H2 : Heap) (B2 : List (Option Nat)), B2.length = H2.length → ∃ us vs', vs = us ++ vs' ∧ CRs N Np H B w r vs' ∧ ∃ Bn, Laid H B w N Np Nt Ntp u u' (emb s x H2).1 us H2 (emb s x H2).2 B2 Bn
  | .int k, ds, vs, u, u', x, r, h0, h, hc, hF, H2, B2, hl2 => by
    cases ds with
    | nil => simp [ext] at h
    | cons d ds =>
      cases d <;> simp only [ext] at h <;> try (cases h; done)
      split at h
      · rename_i k' n e
        subst e
        simp only [Option.some.injEq, Prod.mk.injEq] at h
        obtain ⟨rfl, rfl, rfl⟩ := h
        simp only [CRs, CR] at hc
        obtain ⟨v, us, rfl, rfl, h2⟩ := hc
        exact ⟨[_], us, rfl, h2, [], .nil (by simp [emb, CRs, CR])⟩
      · cases h
  | .bool, ds, vs, u, u', x, r, h0, h, hc, hF, H2, B2, hl2 => by
    cases ds with
    | nil => simp [ext] at h
    | cons d ds =>
      cases d <;> simp only [ext] at h <;> try (cases h; done)
      simp only [Option.some.injEq, Prod.mk.injEq] at h
      obtain ⟨rfl, rfl, rfl⟩ := h
      simp only [CRs, CR] at hc
      obtain ⟨v, us, rfl, rfl, h2⟩ := hc
      exact ⟨[_], us, rfl, h2, [], .nil (by simp [emb, CRs, CR])⟩
  | .str, ds, vs, u, u', x, r, h0, h, hc, hF, H2, B2, hl2 => by
    cases ds with
    | nil => simp [ext] at h
    | cons d ds =>
      cases d <;> simp only [ext] at h <;> try (cases h; done)
      simp only [Option.some.injEq, Prod.mk.injEq] at h
      obtain ⟨rfl, rfl, rfl⟩ := h
      simp only [CRs, CR] at hc
      obtain ⟨v, us, rfl, rfl, h2⟩ := hc
      exact ⟨[_], us, rfl, h2, [], .nil (by simp [emb, CRs, CR])⟩
  | .tr p t, ds, vs, u, u', x, r, h0, h, hc, hF, H2, B2, hl2 => by
    cases ds with
    | nil => simp [ext] at h
    | cons d ds =>
      cases d <;> simp only [ext] at h <;> try (cases h; done)
      · rename_i q t' l
        split at h
        · rename_i e1
          split at h
          · rename_i e2
            subst e2
            simp only [Option.some.injEq, Prod.mk.injEq] at h
            obtain ⟨rfl, rfl, rfl⟩ := h
            simp only [CRs, CR] at hc
            obtain ⟨v, us, rfl, hd, h2⟩ := hc
            refine ⟨[_], us, rfl, h2, [], .nil ?_⟩
            simp only [emb, CRs, CR]
            exact ⟨_, _, rfl, hd.lets (Lets.to hN h0 h1 e1), rfl⟩
          · cases h
        · cases h
      · simp only [Option.some.injEq, Prod.mk.injEq] at h
        obtain ⟨rfl, rfl, rfl⟩ := h
        simp only [CRs, CR] at hc
        obtain ⟨v, us, rfl, rfl, h2⟩ := hc
        refine ⟨[_], us, rfl, h2, [], .nil ?_⟩
        simp only [emb, CRs, CR]
        exact ⟨_, _, rfl, ⟨none, 0, rfl, Nat.le_refl _, .inl rfl⟩, rfl⟩
      · rename_i id st
        split at h
        · rename_i q st' t' l hH
          split at h
          · rename_i e1
            simp only [Bool.and_eq_true] at e1
            have e0 := Nat.eq_of_beq_eq_true e1.1.1
            subst e0
            split at h
            · rename_i e2
              subst e2
              simp only [Option.some.injEq, Prod.mk.injEq] at h
              obtain ⟨rfl, rfl, rfl⟩ := h
              simp only [CRs, CR] at hc
              obtain ⟨v, us, rfl, hd, h2⟩ := hc
              have hid : id < B.length := by have := hd.1; omega
              have hB := List.getElem?_eq_getElem hid
              refine ⟨[_], us, rfl, h2, [], .nil ?_⟩
              simp only [emb, CRs, CR]
              refine ⟨_, _, rfl, hd_dat hH hB (blk _ _ _ hH hB) hd (Lets.to hN h0 h1 (by cases p <;> cases q <;> simp_all [imp])) ?_, rfl⟩
              intro rb e
              obtain ⟨k1, k2⟩ := hF id rb (by simp) (by rw [hB, e])
              cases p
              · exact k1
              · exact k2 (by cases q <;> cases lend <;> simp_all [imp])
            · cases h
          · cases h
        · cases h
      · rename_i id st off len
        split at h
        · rename_i q st' t' l hH
          split at h
          · rename_i e1
            simp only [Bool.and_eq_true] at e1
            have e0 := Nat.eq_of_beq_eq_true e1.1.1
            subst e0
            split at h
            · rename_i e2
              subst e2
              simp only [Option.some.injEq, Prod.mk.injEq] at h
              obtain ⟨rfl, rfl, rfl⟩ := h
              simp only [CRs, CR] at hc
              obtain ⟨v, us, rfl, hd, h2⟩ := hc
              have hid : id < B.length := by have := hd.1; omega
              have hB := List.getElem?_eq_getElem hid
              refine ⟨[_], us, rfl, h2, [], .nil ?_⟩
              simp only [emb, CRs, CR]
              refine ⟨_, _, rfl, row_dat hH hB (blk _ _ _ hH hB) hd (Lets.to hN h0 h1 (by cases p <;> cases q <;> simp_all [imp])) ?_, rfl⟩
              intro rb e
              obtain ⟨k1, k2⟩ := hF id rb (by simp) (by rw [hB, e])
              cases p
              · exact k1
              · exact k2 (by cases q <;> cases lend <;> simp_all [imp])
            · cases h
          · cases h
        · cases h
  | .own p t, ds, vs, u, u', x, r, h0, h, hc, hF, H2, B2, hl2 => by
    cases ds with
    | nil => simp [ext] at h
    | cons d ds =>
      cases d <;> simp only [ext] at h <;> try (cases h; done)
      · simp only [Option.some.injEq, Prod.mk.injEq] at h
        obtain ⟨rfl, rfl, rfl⟩ := h
        simp only [CRs, CR] at hc
        obtain ⟨v, us, rfl, rfl, h2⟩ := hc
        refine ⟨[_], us, rfl, h2, [none], ?_⟩
        have hB3 : (B2 ++ [none])[H2.length]? = some none := by rw [List.getElem?_append_right (by omega), hl2]; simp
        refine Laid.snoc (u1 := u) (es := []) (us := []) (H3 := H2) (Bn := []) hl2 (fun _ q => q) (.nil (by simp [CRs])) (by simp [BR]) ?_ (fun rb e => by cases e)
        simp only [CR]
        refine ⟨⟨by simp, rfl⟩, fun p' st' t' l' e => ?_⟩
        rw [List.getElem?_append_right (Nat.le_refl _)] at e
        simp only [Nat.sub_self, List.getElem?_cons_zero] at e
        injection e with e
        injection e with e1 e2 e3 e4
        subst e1; subst e2; subst e3
        cases e4
        refine ⟨Nat.le_refl _, fun _ => ⟨none, 0, rfl, Nat.le_refl _, ?_⟩⟩
        unfold RowP
        simp only [List.nil_append]
        rw [hB3]
        simp
      · rename_i id st
        split at h
        · rename_i q st' t' l hH
          split at h
          · rename_i e1
            simp only [Bool.and_eq_true] at e1
            have e0 := Nat.eq_of_beq_eq_true e1.1.1
            subst e0
            split at h
            · rename_i e2
              subst e2
              simp only [Option.some.injEq, Prod.mk.injEq] at h
              obtain ⟨rfl, rfl, rfl⟩ := h
              simp only [CRs, CR] at hc
              obtain ⟨v, us, rfl, hd, h2⟩ := hc
              have hid : id < B.length := by have := hd.1; omega
              have hB := List.getElem?_eq_getElem hid
              have hun : u.has id = false := by simpa using e1.2
              refine ⟨[_], us, rfl, h2, [B[id]], ?_⟩
              obtain ⟨k1, k2⟩ := hds_own (B := B) (H3 := H2) (B3 := B2) (q := p) hH hB (blk _ _ _ hH hB) (hd_hds hH hd) (Lets.to hN h0 h1 e1.1.2) hl2
              rw [List.take_length] at k1 k2
              refine Laid.snoc (u1 := (id, true) :: u) (es := []) (us := []) (H3 := H2) (Bn := []) hl2 (fun _ q => List.mem_cons_of_mem _ q) (.nil (by simp [CRs])) k1 k2 ?_
              intro rb e
              exact ⟨id, by rw [hB, e], by simp, hun, Used.has_iff.mpr ⟨true, by simp⟩⟩
            · cases h
          · cases h
        · cases h
      · rename_i id st off len
        split at h
        · rename_i q st' t' l hH
          split at h
          · rename_i e1
            simp only [Bool.and_eq_true] at e1
            have e0 := Nat.eq_of_beq_eq_true e1.1.1.1.1
            have e00 := Nat.eq_of_beq_eq_true e1.1.1.1.2
            subst e0; subst e00
            split at h
            · rename_i e2
              subst e2
              simp only [Option.some.injEq, Prod.mk.injEq] at h
              obtain ⟨rfl, rfl, rfl⟩ := h
              simp only [CRs, CR] at hc
              obtain ⟨v, us, rfl, hd, h2⟩ := hc
              have hid : id < B.length := by have := hd.1; omega
              have hB := List.getElem?_eq_getElem hid
              have hun : u.has id = false := by simpa using e1.1.2
              refine ⟨[_], us, rfl, h2, [B[id]], ?_⟩
              obtain ⟨k1, k2⟩ := hds_own (B := B) (H3 := H2) (B3 := B2) (q := p) hH hB (blk _ _ _ hH hB) hd (Lets.to hN h0 h1 e1.1.1.2) hl2
              refine Laid.snoc (u1 := (id, true) :: u) (es := []) (us := []) (H3 := H2) (Bn := []) hl2 (fun _ q => List.mem_cons_of_mem _ q) (.nil (by simp [CRs])) k1 k2 ?_
              intro rb e
              exact ⟨id, by rw [hB, e], by simp, hun, Used.has_iff.mpr ⟨true, by simp⟩⟩
            · cases h
          · cases h
        · cases h
  | .box s, ds, vs, u, u', x, r, h0, h, hc, hF, H2, B2, hl2 => by
    cases ds with
    | nil => simp [ext] at h
    | cons d ds =>
      cases d <;> simp only [ext] at h <;> try (cases h; done)
      rename_i id off
      split at h
      · rename_i cells hH
        split at h
        · rename_i e1
          simp only [Bool.and_eq_true] at e1
          have e0 := Nat.eq_of_beq_eq_true e1.1
          subst e0
          have hun : u.has id = false := by simpa using e1.2
          split at h
          · rename_i y u1 e2
            simp only [Option.some.injEq, Prod.mk.injEq] at h
            obtain ⟨rfl, rfl, rfl⟩ := h
            simp only [CRs, CR] at hc
            obtain ⟨v, us, rfl, hd, h2⟩ := hc
            have hid : id < B.length := by have := hd.1; omega
            have hB := List.getElem?_eq_getElem hid
            obtain ⟨rb, cs, hrb, hcs, hcc⟩ := blk _ _ _ hH hB
            obtain ⟨us1, vs1, ecs, hnil, Bn, L⟩ := ext_ok hN hNt hl blk h1 (fun q => h0 (by first | exact q | rfl)) e2 hcc hF H2 B2 hl2
            simp only [CRs] at hnil
            subst hnil
            simp only [List.append_nil] at ecs
            refine ⟨[_], us, rfl, h2, Bn ++ [some rb], ?_⟩
            have hl3 := L.lenB hl2
            have stp : Step Nt Ntp Nt Ntp (emb s y H2).2 (B2 ++ Bn) w ((emb s y H2).2 ++ [.box (emb s y H2).1]) (B2 ++ (Bn ++ [some rb])) w := by
              rw [← List.append_assoc]; exact Step.app hl3 _ _
            refine Laid.snoc (u1 := (id, true) :: u) hl2 (fun _ q => List.mem_cons_of_mem _ q) L ?_ ?_ ?_
            · exact ⟨rb, cs, rfl, hcs, by rw [ecs]; exact L.cells.step stp⟩
            · simp only [CR]
              obtain ⟨_, hp⟩ := hd
              obtain ⟨rb', hb', hv⟩ := hp _ hH
              rw [hB, hrb] at hb'
              cases hb'
              refine ⟨⟨by simp, by rw [hv]; rfl⟩, fun cells' e => ⟨rb, ?_, hv⟩⟩
              rw [← List.append_assoc, List.getElem?_append_right (by omega), hl3]
              simp
            · intro rb' e
              cases e
              exact ⟨id, by rw [hB, hrb], ext_sub e2 _ (by simp), hun, Used.has_iff.mpr ⟨true, by simp⟩⟩
          · cases h
        · cases h
      · cases h
  | .rbox s, ds, vs, u, u', x, r, h0, h, hc, hF, H2, B2, hl2 => by
    cases ds with
    | nil => simp [ext] at h
    | cons d ds =>
      cases d <;> simp only [ext] at h <;> try (cases h; done)
      · rename_i id off
        split at h
        · rename_i cells hH
          split at h
          · rename_i e1
            simp only [Bool.and_eq_true] at e1
            have e0 := Nat.eq_of_beq_eq_true e1.1
            subst e0
            split at h
            · rename_i y u1 e2
              simp only [Option.some.injEq, Prod.mk.injEq] at h
              obtain ⟨rfl, rfl, rfl⟩ := h
              simp only [CRs, CR] at hc
              obtain ⟨v, us, rfl, hd, h2⟩ := hc
              have hid : id < B.length := by have := hd.1; omega
              have hB := List.getElem?_eq_getElem hid
              obtain ⟨rb, cs, hrb, hcs, hcc⟩ := blk _ _ _ hH hB
              obtain ⟨us1, vs1, ecs, hnil, Bn, L⟩ := ext_ok hN hNt hl blk h1 (fun q => h0 (by first | exact q | rfl)) e2 hcc hF H2 B2 hl2
              simp only [CRs] at hnil
              subst hnil
              simp only [List.append_nil] at ecs
              refine ⟨[_], us, rfl, h2, Bn, L.cells' (fun _ q => List.mem_cons_of_mem _ q) ?_⟩
              simp only [emb, CRs, CR]
              obtain ⟨_, hp⟩ := hd
              obtain ⟨rb', hb', hv⟩ := hp _ hH
              rw [hB, hrb] at hb'
              cases hb'
              refine ⟨_, _, rfl, ⟨rb, 0, hv, (hF id rb (ext_sub e2 _ (by simp)) (by rw [hB, hrb])).1, hcs.lt, us1, L.cells, fun j hj => ?_⟩, rfl⟩
              rw [cell_of_cells hcs, ← ecs]
              simp
            · cases h
          · cases h
        · cases h
      · rename_i cells off
        split at h
        · rename_i e1
          have e0 := Nat.eq_of_beq_eq_true e1
          subst e0
          split at h
          · rename_i y u1 e2
            simp only [Option.some.injEq, Prod.mk.injEq] at h
            obtain ⟨rfl, rfl, rfl⟩ := h
            simp only [CRs, CR] at hc
            obtain ⟨v, us, rfl, ⟨rb, ro, hv, hn, hlt, ws, hws, hcell⟩, h2⟩ := hc
            obtain ⟨us1, vs1, ecs, hnil, Bn, L⟩ := ext_ok hN hNt hl blk h1 (fun q => h0 (by first | exact q | rfl)) e2 hws hF H2 B2 hl2
            simp only [CRs] at hnil
            subst hnil
            simp only [List.append_nil] at ecs
            subst ecs
            refine ⟨[_], us, rfl, h2, Bn, L.cells' (fun _ q => q) ?_⟩
            simp only [emb, CRs, CR]
            exact ⟨_, _, rfl, ⟨rb, ro, hv, h0 rfl rb hlt hn, hlt, ws, L.cells, hcell⟩, rfl⟩
          · cases h
        · cases h
  | .clo g s, ds, vs, u, u', x, r, h0, h, hc, hF, H2, B2, hl2 => by
    cases ds with
    | nil => simp [ext] at h
    | cons d ds =>
      cases d <;> simp only [ext] at h <;> try (cases h; done)
      rename_i g' caps
      split at h
      · rename_i e1
        have e0 := Nat.eq_of_beq_eq_true e1
        subst e0
        split at h
        · rename_i y u1 e2
          simp only [Option.some.injEq, Prod.mk.injEq] at h
          obtain ⟨rfl, rfl, rfl⟩ := h
          simp only [CRs, CR] at hc
          obtain ⟨v, us, rfl, ⟨ws, hv, hws⟩, h2⟩ := hc
          obtain ⟨us1, vs1, ecs, hnil, Bn, L⟩ := ext_ok hN hNt hl blk h1 (fun q => h0 (by first | exact q | rfl)) e2 hws hF H2 B2 hl2
          simp only [CRs] at hnil
          subst hnil
          simp only [List.append_nil] at ecs
          refine ⟨[_], us, rfl, h2, Bn, L.cells' (fun _ q => q) ?_⟩
          simp only [emb, CRs, CR]
          exact ⟨_, _, rfl, ⟨ws, hv, by rw [ecs]; exact L.cells⟩, rfl⟩
        · cases h
      · cases h
  | .agg s, ds, vs, u, u', x, r, h0, h, hc, hF, H2, B2, hl2 => by
    cases ds with
    | nil => simp [ext] at h
    | cons d ds =>
      cases d <;> simp only [ext] at h <;> try (cases h; done)
      split at h
      · rename_i y u1 e2
        simp only [Option.some.injEq, Prod.mk.injEq] at h
        obtain ⟨rfl, rfl, rfl⟩ := h
        simp only [CRs, CR] at hc
        obtain ⟨v, us, rfl, ⟨ws, hv, hws⟩, h2⟩ := hc
        obtain ⟨us1, vs1, ecs, hnil, Bn, L⟩ := ext_ok hN hNt hl blk h1 (fun q => h0 (by first | exact q | rfl)) e2 hws hF H2 B2 hl2
        simp only [CRs] at hnil
        subst hnil
        simp only [List.append_nil] at ecs
        refine ⟨[_], us, rfl, h2, Bn, L.cells' (fun _ q => q) ?_⟩
        simp only [emb, CRs, CR]
        exact ⟨_, _, rfl, ⟨ws, hv, by rw [ecs]; exact L.cells⟩, rfl⟩
      · cases h
  | .pair s t, ds, vs, u, u', x, r, h0, h, hc, hF, H2, B2, hl2 => by
    simp only [ext] at h
    split at h
    · rename_i x1 ds1 u1 e1
      split at h
      · rename_i x2 ds2 u2 e2
        simp only [Option.some.injEq, Prod.mk.injEq] at h
        obtain ⟨rfl, rfl, rfl⟩ := h
        obtain ⟨us1, vs1, rfl, k1, Bn1, L1⟩ := ext_ok hN hNt hl blk h1 (fun q => h0 (by simp [Sh.perm, q])) e1 hc (fun id rb hi => hF id rb (ext_sub e2 _ hi)) H2 B2 hl2
        obtain ⟨us2, vs2, rfl, k2, Bn2, L2⟩ := ext_ok hN hNt hl blk h1 (fun q => h0 (by simp [Sh.perm, q])) e2 k1 hF _ _ (L1.lenB hl2)
        exact ⟨us1 ++ us2, vs2, by simp, k2, Bn1 ++ Bn2, L1.append hl2 (ext_sub e1) (ext_sub e2) L2⟩
      · cases h
    · cases h
  | .unit, ds, vs, u, u', x, r, h0, h, hc, hF, H2, B2, hl2 => by
    simp only [ext, Option.some.injEq, Prod.mk.injEq] at h
    obtain ⟨_, rfl, rfl⟩ := h
    exact ⟨[], vs, rfl, hc, [], .nil (by simp [emb, CRs])⟩

theorem ext_excl {lend : Bool} : ∀ {s : Sh} {ds : List D} {u u' : Used} {x : s.den} {r : List D}, ext lend H s ds u = some (x, r, u') → u.excl → u'.excl := by
  have tr : ∀ {u : Used} {id : Nat}, u.moved id = false → u.excl → Used.excl ((id, false) :: u) := by
    intro u id hm hu i h1 h2
    simp only [List.mem_cons, Prod.mk.injEq] at h1 h2
    rcases h1 with ⟨_, h⟩ | h1
    · cases h
    rcases h2 with ⟨rfl, _⟩ | h2
    · rw [Used.moved_iff.mpr h1] at hm; cases hm
    · exact hu i h1 h2
  have mv : ∀ {u : Used} {id : Nat}, u.has id = false → u.excl → Used.excl ((id, true) :: u) := by
    intro u id hm hu i h1 h2
    simp only [List.mem_cons, Prod.mk.injEq] at h1 h2
    rcases h2 with ⟨_, h⟩ | h2
    · cases h
    rcases h1 with ⟨rfl, _⟩ | h1
    · rw [Used.has_iff.mpr ⟨_, h2⟩] at hm; cases hm
    · exact hu i h1 h2
  intro s
  induction s with
  | int k =>
    intro ds u u' x r h hu
    cases ds with
    | nil => simp [ext] at h
    | cons d ds =>
      cases d <;> simp only [ext] at h <;> try (cases h; done)
      split at h
      · simp only [Option.some.injEq, Prod.mk.injEq] at h; obtain ⟨_, _, rfl⟩ := h; exact hu
      · cases h
  | bool =>
    intro ds u u' x r h hu
    cases ds with
    | nil => simp [ext] at h
    | cons d ds =>
      cases d <;> simp only [ext] at h <;> try (cases h; done)
      simp only [Option.some.injEq, Prod.mk.injEq] at h; obtain ⟨_, _, rfl⟩ := h; exact hu
  | str =>
    intro ds u u' x r h hu
    cases ds with
    | nil => simp [ext] at h
    | cons d ds =>
      cases d <;> simp only [ext] at h <;> try (cases h; done)
      simp only [Option.some.injEq, Prod.mk.injEq] at h; obtain ⟨_, _, rfl⟩ := h; exact hu
  | tr p t =>
    intro ds u u' x r h hu
    cases ds with
    | nil => simp [ext] at h
    | cons d ds =>
      cases d <;> simp only [ext] at h <;> try (cases h; done)
      · split at h
        · split at h
          · simp only [Option.some.injEq, Prod.mk.injEq] at h; obtain ⟨_, _, rfl⟩ := h; exact hu
          · cases h
        · cases h
      · simp only [Option.some.injEq, Prod.mk.injEq] at h; obtain ⟨_, _, rfl⟩ := h; exact hu
      · split at h
        · split at h
          · rename_i e1
            simp only [Bool.and_eq_true, Bool.not_eq_true'] at e1
            split at h
            · simp only [Option.some.injEq, Prod.mk.injEq] at h; obtain ⟨_, _, rfl⟩ := h; exact tr e1.2 hu
            · cases h
          · cases h
        · cases h
      · split at h
        · split at h
          · rename_i e1
            simp only [Bool.and_eq_true, Bool.not_eq_true'] at e1
            split at h
            · simp only [Option.some.injEq, Prod.mk.injEq] at h; obtain ⟨_, _, rfl⟩ := h; exact tr e1.2 hu
            · cases h
          · cases h
        · cases h
  | own p t =>
    intro ds u u' x r h hu
    cases ds with
    | nil => simp [ext] at h
    | cons d ds =>
      cases d <;> simp only [ext] at h <;> try (cases h; done)
      · simp only [Option.some.injEq, Prod.mk.injEq] at h; obtain ⟨_, _, rfl⟩ := h; exact hu
      · split at h
        · split at h
          · rename_i e1
            simp only [Bool.and_eq_true, Bool.not_eq_true'] at e1
            split at h
            · simp only [Option.some.injEq, Prod.mk.injEq] at h; obtain ⟨_, _, rfl⟩ := h; exact mv e1.2 hu
            · cases h
          · cases h
        · cases h
      · split at h
        · split at h
          · rename_i e1
            simp only [Bool.and_eq_true, Bool.not_eq_true'] at e1
            split at h
            · simp only [Option.some.injEq, Prod.mk.injEq] at h; obtain ⟨_, _, rfl⟩ := h; exact mv e1.1.2 hu
            · cases h
          · cases h
        · cases h
  | box s ih =>
    intro ds u u' x r h hu
    cases ds with
    | nil => simp [ext] at h
    | cons d ds =>
      cases d <;> simp only [ext] at h <;> try (cases h; done)
      split at h
      · split at h
        · rename_i e1
          simp only [Bool.and_eq_true, Bool.not_eq_true'] at e1
          split at h
          · rename_i e2
            simp only [Option.some.injEq, Prod.mk.injEq] at h; obtain ⟨_, _, rfl⟩ := h
            exact ih e2 (mv e1.2 hu)
          · cases h
        · cases h
      · cases h
  | rbox s ih =>
    intro ds u u' x r h hu
    cases ds with
    | nil => simp [ext] at h
    | cons d ds =>
      cases d <;> simp only [ext] at h <;> try (cases h; done)
      · split at h
        · split at h
          · rename_i e1
            simp only [Bool.and_eq_true, Bool.not_eq_true'] at e1
            split at h
            · rename_i e2
              simp only [Option.some.injEq, Prod.mk.injEq] at h; obtain ⟨_, _, rfl⟩ := h
              exact ih e2 (tr e1.2 hu)
            · cases h
          · cases h
        · cases h
      · split at h
        · split at h
          · rename_i e2
            simp only [Option.some.injEq, Prod.mk.injEq] at h; obtain ⟨_, _, rfl⟩ := h
            exact ih e2 hu
          · cases h
        · cases h
  | clo g s ih =>
    intro ds u u' x r h hu
    cases ds with
    | nil => simp [ext] at h
    | cons d ds =>
      cases d <;> simp only [ext] at h <;> try (cases h; done)
      split at h
      · split at h
        · rename_i e2
          simp only [Option.some.injEq, Prod.mk.injEq] at h; obtain ⟨_, _, rfl⟩ := h
          exact ih e2 hu
        · cases h
      · cases h
  | agg s ih =>
    intro ds u u' x r h hu
    cases ds with
    | nil => simp [ext] at h
    | cons d ds =>
      cases d <;> simp only [ext] at h <;> try (cases h; done)
      split at h
      · rename_i e2
        simp only [Option.some.injEq, Prod.mk.injEq] at h; obtain ⟨_, _, rfl⟩ := h
        exact ih e2 hu
      · cases h
  | pair a b iha ihb =>
    intro ds u u' x r h hu
    simp only [ext] at h
    split at h
    · rename_i e1
      split at h
      · rename_i e2
        simp only [Option.some.injEq, Prod.mk.injEq] at h; obtain ⟨_, _, rfl⟩ := h
        exact ihb e2 (iha e1 hu)
      · cases h
    · cases h
  | unit =>
    intro ds u u' x r h hu
    simp only [ext, Option.some.injEq, Prod.mk.injEq] at h; obtain ⟨_, _, rfl⟩ := h; exact hu

end
end Go.Proofs.Ytoafakkbmnnimaa.Ab
