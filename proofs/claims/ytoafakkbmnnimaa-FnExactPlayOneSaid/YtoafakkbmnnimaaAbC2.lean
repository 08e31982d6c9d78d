import Derived.Test.YtoafakkbmnnimaaAbC1
namespace Go.Proofs.Ytoafakkbmnnimaa.Ab
open Go
set_option linter.unusedVariables false
set_option linter.unusedSimpArgs false
set_option linter.unnecessarySimpa false

section
variable {P : Program} {A : Ann} {C : Cx} {env : List D} {H : Heap} {B : List (Option Nat)} {a : Act} {w : World}

theorem run_isAgg {t : Nat} {d : TypeDesc} (h : P.underlying t = some d) (w : World) : (isAgg t).run P w = .ok (aggDesc d) w := by
  simp only [isAgg, Sem.run_bind, run_underlying h, Result.andThen_ok]
  cases d <;> rfl

theorem run_sizeOf' {t : Nat} {i : TypeInfo} (h : P.info? t = some i) (w : World) : (sizeOf t).run P w = .ok i.size w := by
  simp [sizeOf, typeInfo, h]

theorem loadVar_ok {N Np : Nat → Prop} (ok : TyOk P A) {t n : Nat} {ag : Bool} (hl : A.lay t = some (n, ag)) {b o : Nat} {ds : List D} {vs : List Value} {d : D}
    (hlen : vs.length = n) (hc : ∀ j, j < n → w.cell? ⟨b, o + j, none⟩ = vs[j]?) (hd : CRs N Np H B w ds vs) (hm : mkAgg ag ds = some d) :
    ∃ v, (loadVar t ⟨b, o, none⟩).run P w = .ok v w ∧ CR N Np H B w d v := by
  obtain ⟨i, de, hi, hs, hu, hag⟩ := ok.lay t n ag hl
  unfold loadVar
  simp only [Sem.run_bind, run_isAgg hu, Result.andThen_ok, hag]
  cases ag with
  | true =>
    simp only [mkAgg, Option.some.injEq] at hm
    subst hm
    have hr := run_loadCells_list (P := P) w ⟨b, o, none⟩ vs (fun j v e => by
      have hj : j < vs.length := by
        rcases Nat.lt_or_ge j vs.length with q | q
        · exact q
        · rw [List.getElem?_eq_none q] at e; cases e
      rw [add_mk, hc j (by omega), e])
    rw [hlen] at hr
    refine ⟨.agg vs.toArray, ?_, ?_⟩
    · simp only [if_true, Sem.run_bind, run_sizeOf' hi, hs, Result.andThen_ok, hr, Sem.run_pure]
    · simp only [CR]; exact ⟨_, rfl, hd⟩
  | false =>
    cases ds with
    | nil => simp [mkAgg] at hm
    | cons d0 r =>
      cases r with
      | cons _ _ => simp [mkAgg] at hm
      | nil =>
        simp only [mkAgg, Option.some.injEq] at hm
        subst hm
        simp only [CRs] at hd
        obtain ⟨u, us, rfl, h1, rfl⟩ := hd
        have h0 := hc 0 (by simp at hlen; omega)
        simp only [Nat.add_zero, List.getElem?_cons_zero] at h0
        refine ⟨u, ?_, h1⟩
        simp [run_load, h0]

theorem mkAgg_len {ag : Bool} {ds : List D} {d : D} (_ : mkAgg ag ds = some d) : True := trivial

theorem loadD_ok (ok : TyOk P A) (h : HS C H B w) {t n : Nat} {ag : Bool} (hl : A.lay t = some (n, ag)) {x d : D} {v : Value} (hx : CR (C.N B) (C.Np B) H B w x v) (e : loadD H n ag x = some d) :
    ∃ u, (Instr.loadAt t v).run P w = .ok u w ∧ CR (C.N B) (C.Np B) H B w d u := by
  have main : ∀ (b o : Nat) (ds : List D) (vs : List Value), v = .pointer (some ⟨b, o, none⟩) → vs.length = n → (∀ j, j < n → w.cell? ⟨b, o + j, none⟩ = vs[j]?) → CRs (C.N B) (C.Np B) H B w ds vs → mkAgg ag ds = some d →
      ∃ u, (Instr.loadAt t v).run P w = .ok u w ∧ CR (C.N B) (C.Np B) H B w d u := by
    intro b o ds vs hv h1 h2 h3 h4
    obtain ⟨u, k1, k2⟩ := loadVar_ok ok hl h1 h2 h3 h4
    refine ⟨u, ?_, k2⟩
    subst hv
    simp only [Instr.loadAt, Instr.sureAddr, Sem.run_bind, Sem.run_pure, Result.andThen_ok, k1]
  cases x <;> simp only [loadD] at e <;> try (cases e; done)
  case ptr id off =>
    split at e
    · rename_i cells hH
      split at e
      · rename_i hle
        simp only [CR] at hx
        obtain ⟨⟨hid, _⟩, hp⟩ := hx
        obtain ⟨rb, hb, hv⟩ := hp _ hH
        obtain ⟨rb', cs, e1, hcs, hcc⟩ := h.blk _ _ _ hH hb
        cases e1
        have hlc := hcc.length
        refine main rb off _ _ hv ?_ ?_ ((hcc.drop off).take n) e
        · simp; simp at hlc; omega
        · intro j hj
          rw [cell_of_cells hcs]
          simp [List.getElem?_take, hj]
      · cases e
    · cases e
  case rptr cells off =>
    split at e
    · rename_i hle
      simp only [CR] at hx
      obtain ⟨rb, ro, hv, _, _, vs, hvs, hcell⟩ := hx
      have hlc := hvs.length
      refine main rb (ro + off) _ _ hv ?_ ?_ ((hvs.drop off).take n) e
      · simp; omega
      · intro j hj
        rw [Nat.add_assoc, hcell (off + j) (by omega)]
        simp [List.getElem?_take, hj]
    · cases e
  case eptr id st i c =>
    split at e
    · rename_i p st' ty l hH
      split at e
      · rename_i e0
        subst e0
        split at e
        · rename_i hle
          simp only [CR] at hx
          obtain ⟨⟨hid, _⟩, hp⟩ := hx
          obtain ⟨_, hp⟩ := hp _ _ _ _ hH
          obtain ⟨hi, rb, hb, hv⟩ := hp rfl
          obtain ⟨cs, hcs, hsz, hd⟩ := h.blk _ _ _ hH hb
          obtain ⟨us, hu, hcell⟩ := hd i hi
          have hlu := hu.len
          have hrd : rdL ty l i = l[i] := by simp [rdL, hi]
          rw [hrd] at e
          refine main rb (i * ty.size + c) _ _ hv ?_ ?_ (((Dat_flat p hu).drop c).take n) e
          · simp; omega
          · intro j hj
            rw [cell_of_cells hcs, Nat.add_assoc, hcell (c + j) (by omega)]
            simp [List.getElem?_take, hj]
        · cases e
      · cases e
    · cases e

theorem CR.value {N Np : Nat → Prop} {d : D} {v u : Value} (e : v = u) (h : CR N Np H B w d v) : CR N Np H B w d u := e ▸ h

theorem gIdx_iff {i : Int} {n : Nat} : gIdx i n = true ↔ 0 ≤ i ∧ i < (n : Int) := by
  simp [gIdx]

theorem indexAddrD_ok (ok : TyOk P A) (h : HS C H B w) {t : Nat} {e : Ty} (ht : A.ty t = some (.sl e)) {x d : D} {v : Value} {k : IntKind} {i : Int} {g : Bool} (hx : CR (C.N B) (C.Np B) H B w x v)
    (hlb : ∀ b, C.Lb b → C.Lp b) (he : indexAddrD H e x i = some (g, d)) (hg : g = true) : ∃ u, (Instr.indexAt t v (.int k i)).run P w = .ok u w ∧ CR (C.N B) (C.Np B) H B w d u := by
  obtain ⟨et, hu, hty⟩ := ok.sl t e ht
  obtain ⟨ie, _, hie, hsz, _⟩ := ok.tyi et e hty
  have main : ∀ (b o len c : Nat), v = .slice (some ⟨b, o, none⟩) len c → 0 ≤ i → i < (len : Int) →
      (Instr.indexAt t v (.int k i)).run P w = .ok (.pointer (some ⟨b, o + i.toNat * e.size, none⟩)) w := by
    intro b o len c hv h1 h2
    subst hv
    simp [Instr.indexAt, asIntOf, run_underlying hu, h1, h2, run_sizeOf' hie, hsz, add_mk]
  cases x <;> simp only [indexAddrD] at he <;> try (cases he; done)
  case nilsl => simp only [Option.some.injEq, Prod.mk.injEq] at he; rw [hg] at he; exact absurd he.1 (by simp)
  case sl p ty l =>
    split at he
    · rename_i hsz2
      have hs2 := Nat.eq_of_beq_eq_true hsz2
      simp only [Option.some.injEq, Prod.mk.injEq] at he
      obtain ⟨rfl, rfl⟩ := he
      obtain ⟨h1, h2⟩ := gIdx_iff.mp hg
      simp only [CR] at hx
      obtain ⟨a0, c, hv, hc, hr⟩ := hx
      injection hv with hv _
      have hlt : i.toNat < l.length := by omega
      rcases hr with rfl | ⟨b, o, ha, hn, hb, hr⟩
      · simp at hlt
      · subst ha
        refine ⟨_, main b o _ c hv h1 h2, ?_⟩
        obtain ⟨us, hd, hcell⟩ := hr i.toNat hlt
        have hrd : rdL ty l i.toNat = l[i.toNat] := by simp [rdL, hlt]
        simp only [CR]
        have hnN : ¬ C.N B b := by
          cases p
          · exact hn
          · exact fun q => hn (Cx.N_Np hlb q)
        refine ⟨b, o + i.toNat * e.size, by simp, hnN, hb, us, by rw [hrd]; exact Dat_flat p hd, fun j hj => ?_⟩
        rw [hs2]
        exact hcell j (by rw [← hd.len]; exact hj)
    · cases he
  case hd id st =>
    split at he
    · rename_i p st' ty l hH
      split at he
      · rename_i hsz2
        simp only [Bool.and_eq_true] at hsz2
        have e0 := Nat.eq_of_beq_eq_true hsz2.1
        have hs2 := Nat.eq_of_beq_eq_true hsz2.2
        subst e0
        simp only [Option.some.injEq, Prod.mk.injEq] at he
        obtain ⟨rfl, rfl⟩ := he
        obtain ⟨h1, h2⟩ := gIdx_iff.mp hg
        simp only [CR] at hx
        obtain ⟨⟨hid, _⟩, hp⟩ := hx
        obtain ⟨_, hp⟩ := hp _ _ _ _ hH
        obtain ⟨a0, c, hv, hc, hr⟩ := hp rfl
        have hidB : id < B.length := by rw [h.lenB]; exact hid
        have hB := List.getElem?_eq_getElem hidB
        have hbr := h.blk _ _ _ hH hB
        unfold RowP at hr
        rw [hB] at hr
        have hlt : i.toNat < l.length := by omega
        cases hob : B[id] with
        | none =>
          rw [hob] at hbr
          simp only [BR] at hbr
          subst hbr
          simp at hlt
        | some rb =>
          rw [hob] at hr hB
          simp only at hr
          obtain ⟨ha, _⟩ := hr
          subst ha
          refine ⟨_, main rb (0 * ty.size) _ c hv h1 h2, ?_⟩
          simp only [CR]
          refine ⟨⟨hid, rfl⟩, fun p' st' t' l' e1 => ?_⟩
          rw [hH] at e1
          injection e1 with e1
          injection e1 with q1 q2 q3 q4
          subst q1; subst q2; subst q3; cases q4
          exact ⟨Nat.le_refl _, fun _ => ⟨hlt, rb, hB, by simp [hs2]⟩⟩
      · cases he
    · cases he
  case hds id st off len =>
    split at he
    · rename_i p st' ty l hH
      split at he
      · rename_i hsz2
        simp only [Bool.and_eq_true] at hsz2
        have e0 := Nat.eq_of_beq_eq_true hsz2.1
        have hs2 := Nat.eq_of_beq_eq_true hsz2.2
        subst e0
        simp only [Option.some.injEq, Prod.mk.injEq] at he
        obtain ⟨rfl, rfl⟩ := he
        obtain ⟨h1, h2⟩ := gIdx_iff.mp hg
        simp only [CR] at hx
        obtain ⟨⟨hid, _⟩, hp⟩ := hx
        obtain ⟨_, hp⟩ := hp _ _ _ _ hH
        obtain ⟨ho, a0, c, hv, hc, hr⟩ := hp rfl
        have hidB : id < B.length := by rw [h.lenB]; exact hid
        have hB := List.getElem?_eq_getElem hidB
        have hbr := h.blk _ _ _ hH hB
        have hr := hr (.inr (by omega))
        unfold RowP at hr
        rw [hB] at hr
        cases hob : B[id] with
        | none =>
          rw [hob] at hbr
          simp only [BR] at hbr
          subst hbr
          simp at ho; omega
        | some rb =>
          rw [hob] at hr hB
          simp only at hr
          obtain ⟨ha, _⟩ := hr
          subst ha
          refine ⟨_, main rb (off * ty.size) _ c hv h1 h2, ?_⟩
          simp only [CR]
          refine ⟨⟨hid, rfl⟩, fun p' st' t' l' e1 => ?_⟩
          rw [hH] at e1
          injection e1 with e1
          injection e1 with q1 q2 q3 q4
          subst q1; subst q2; subst q3; cases q4
          exact ⟨Nat.le_refl _, fun _ => ⟨by omega, rb, hB, by rw [hs2, Nat.add_mul]; rfl⟩⟩
      · cases he
    · cases he

end
end Go.Proofs.Ytoafakkbmnnimaa.Ab
