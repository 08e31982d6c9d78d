import Derived.Test.YtoafakkbmnnimaaAbC3
namespace Go.Proofs.Ytoafakkbmnnimaa.Ab
open Go
set_option linter.unusedVariables false
set_option linter.unusedSimpArgs false
set_option linter.unnecessarySimpa false
set_option linter.unusedSimpArgs false

section
variable {P : Program} {A : Ann} {C : Cx} {env : List D} {H : Heap} {B : List (Option Nat)} {a : Act} {w : World}

theorem srcOf_dat (h : HS C H B w) {e : Ty} {x : D} {v : Value} {p : Bool} {l : List e.den} {Nt : Nat → Prop} (hx : CR (C.N B) (C.Np B) H B w x v) (hs : ∀ s, x ≠ .str s) (he : srcOf H e x = some (p, l))
    (hL : Lets (C.N B) (C.Np B) w p Nt) (hn : ∀ b, Has B b → ¬ Nt b) : Dat Nt w (.sl e) l [v] := by
  cases x <;> simp only [srcOf] at he <;> try (cases he; done)
  case str s => exact absurd rfl (hs s)
  case nilsl =>
    simp only [Option.some.injEq, Prod.mk.injEq] at he
    obtain ⟨rfl, rfl⟩ := he
    simp only [CR] at hx
    subst hx
    exact ⟨none, 0, rfl, Nat.le_refl _, .inl rfl⟩
  case sl q t l0 =>
    split at he
    · rename_i e0
      subst e0
      simp only [Option.some.injEq, Prod.mk.injEq] at he
      obtain ⟨rfl, rfl⟩ := he
      simp only [CR] at hx
      exact hx.lets hL
    · cases he
  case hd id st =>
    split at he
    · rename_i q st' t l0 hH
      split at he
      · rename_i e1
        subst e1
        split at he
        · rename_i e0
          subst e0
          simp only [Option.some.injEq, Prod.mk.injEq] at he
          obtain ⟨rfl, rfl⟩ := he
          simp only [CR] at hx
          have hid : id < B.length := by rw [h.lenB]; exact hx.1.1
          have hB := List.getElem?_eq_getElem hid
          exact hd_dat hH hB (h.blk _ _ _ hH hB) hx hL (fun rb e => hn rb ⟨id, by rw [hB, e]⟩)
        · cases he
      · cases he
    · cases he
  case hds id st off len =>
    split at he
    · rename_i q st' t l0 hH
      split at he
      · rename_i e1
        subst e1
        split at he
        · rename_i e0
          subst e0
          simp only [Option.some.injEq, Prod.mk.injEq] at he
          obtain ⟨rfl, rfl⟩ := he
          simp only [CR] at hx
          have hid : id < B.length := by rw [h.lenB]; exact hx.1.1
          have hB := List.getElem?_eq_getElem hid
          exact row_dat hH hB (h.blk _ _ _ hH hB) hx hL (fun rb e => hn rb ⟨id, by rw [hB, e]⟩)
        · cases he
      · cases he
    · cases he

theorem dat_bytes {N : Nat → Prop} {l : List Int} {v : Value} (h : Dat N w (.sl (.int .u8)) l [v]) : (Conv.bytesToString v).run P w = .ok (.string (strI l)) w := by
  obtain ⟨A0, c, hv, hc, hr⟩ := h
  injection hv with hv _
  subst hv
  cases A0 with
  | none =>
    rcases hr with rfl | ⟨b, o, ha, _⟩
    · simp [Conv.bytesToString, strI]; rfl
    · cases ha
  | some a =>
    have hload : (loadCells a l.length).run P w = .ok (l.map (Value.int .u8)).toArray w := by
      have := run_loadCells_list (P := P) w a (l.map (Value.int .u8)) (fun j v e => by
        rcases hr with rfl | ⟨b, o, ha, _, _, hr⟩
        · simp at e
        · cases ha
          simp only [List.getElem?_map, Option.map_eq_some_iff] at e
          obtain ⟨n, e1, rfl⟩ := e
          have hj : j < l.length := by
            rcases Nat.lt_or_ge j l.length with q | q
            · exact q
            · rw [List.getElem?_eq_none q] at e1; cases e1
          obtain ⟨us, hu, hcell⟩ := hr j hj
          have h0 := hcell 0 (by simp [Ty.size])
          simp only [Dat] at hu
          subst hu
          rw [add_mk]
          simp only [Ty.size, Nat.mul_one, Nat.add_zero, List.getElem?_cons_zero] at h0
          rw [h0]
          rw [List.getElem?_eq_getElem hj] at e1
          cases e1
          rfl)
      simpa using this
    rw [run_bytesToString w a _ _ l hload, strI_ok]
    simp [strI]

theorem optI_ok (h : St C env H B a w) {x : Option Operand} {n : Option Int} (e : optI (x.map (opd env)) = some n) : (x = none ∧ n = none) ∨ ∃ o k i, x = some o ∧ n = some i ∧ a.eval o = .int k i := by
  cases x with
  | none => simp [optI] at e; exact .inl ⟨rfl, e.symm⟩
  | some o =>
    right
    simp only [Option.map_some] at e
    have ho := opd_ok h o
    cases hd : opd env o <;> rw [hd] at e <;> simp only [optI] at e <;> try (cases e; done)
    rename_i k i
    rw [hd] at ho
    simp only [CR] at ho
    cases e
    exact ⟨o, k, i, rfl, rfl, ho⟩

theorem sliceBounds_ok (h : St C env H B a w) {lo hi : Option Operand} {l' h' : Option Int} (e1 : optI (lo.map (opd env)) = some l') (e2 : optI (hi.map (opd env)) = some h') {b : Bool} {len cap : Nat} (hlc : len ≤ cap)
    (k1 : 0 ≤ l'.getD 0) (k2 : l'.getD 0 ≤ h'.getD (len : Int)) (k3 : h'.getD (len : Int) ≤ (len : Int)) :
    (Instr.sliceBounds b len cap (lo.map a.eval) (hi.map a.eval) none).run P w = .ok ((l'.getD 0).toNat, (h'.getD (len : Int)).toNat, cap) w := by
  rcases optI_ok h e1 with ⟨rfl, rfl⟩ | ⟨o1, q1, i1, rfl, rfl, v1⟩ <;> rcases optI_ok h e2 with ⟨rfl, rfl⟩ | ⟨o2, q2, i2, rfl, rfl, v2⟩
  · simp [Instr.sliceBounds]
  · simp only [Option.getD_none, Option.getD_some] at k1 k2 k3
    simp only [Instr.sliceBounds, Option.map_none, Option.map_some, v2, Sem.run_bind, Sem.run_pure, Result.andThen_ok, Option.getD_none, Option.getD_some]
    rw [run_sliceBound w _ _ _ _ k2 (by omega)]
    simp
  · simp only [Option.getD_none, Option.getD_some] at k1 k2 k3
    simp only [Instr.sliceBounds, Option.map_none, Option.map_some, v1, Sem.run_bind, Sem.run_pure, Result.andThen_ok, Option.getD_none, Option.getD_some]
    rw [run_sliceBound w _ _ _ _ k1 (by omega)]
    simp
  · simp only [Option.getD_some] at k1 k2 k3
    simp only [Instr.sliceBounds, Option.map_some, v1, v2, Sem.run_bind, Sem.run_pure, Result.andThen_ok, Option.getD_some]
    rw [run_sliceBound w _ _ _ _ (by omega) (by omega)]
    simp only [Result.andThen_ok]
    rw [run_sliceBound w _ _ _ _ k1 (by omega)]
    simp

theorem lenD_ok (ok : TyOk P A) (h : HS C H B w) {t : Nat} {x : D} {v : Value} {n : Int} {ts : Array TypeId} (ht : ts[0]? = some t) (hx : CR (C.N B) (C.Np B) H B w x v) (he : lenD H (A.ty t) x = some n) {ty : TypeId} :
    (Builtin.len_ ts ty #[v]).run P w = .ok (.int .i64 n) w := by
  have hsl : ∀ e, A.ty t = some (.sl e) → ∀ a0 k c, v = .slice a0 k c → (k : Int) = n → (Builtin.len_ ts ty #[v]).run P w = .ok (.int .i64 n) w := by
    intro e h1 a0 k c hv hk
    obtain ⟨et, hu, _⟩ := ok.sl t e h1
    subst hv
    simp [Builtin.len_, ht, run_underlying hu, goInt, hk]
  unfold lenD at he
  split at he
  · rename_i e h1
    simp only [CR] at hx
    exact hsl _ h1 none 0 0 hx (by simpa using he)
  · rename_i h1
    simp only [CR] at hx
    subst hx
    simp only [Option.some.injEq] at he
    simp [Builtin.len_, ht, run_underlying (ok.str t h1), goInt, he]
  · rename_i e h1
    simp only [CR] at hx
    obtain ⟨a0, c, hv, _⟩ := hx
    injection hv with hv _
    exact hsl _ h1 a0 _ c hv (by simpa using he)
  · rename_i e id st h1
    split at he
    · rename_i p st' t' l hH
      split at he
      · rename_i e1
        subst e1
        simp only [CR] at hx
        obtain ⟨_, hp⟩ := hx
        obtain ⟨_, hp⟩ := hp _ _ _ _ hH
        obtain ⟨a0, c, hv, _⟩ := hp rfl
        exact hsl _ h1 a0 _ c hv (by simpa using he)
      · cases he
    · cases he
  · rename_i e id st off len h1
    split at he
    · rename_i p st' t' l hH
      split at he
      · rename_i e1
        subst e1
        simp only [CR] at hx
        obtain ⟨_, hp⟩ := hx
        obtain ⟨_, hp⟩ := hp _ _ _ _ hH
        obtain ⟨_, a0, c, hv, _⟩ := hp rfl
        exact hsl _ h1 a0 _ c hv (by simpa using he)
      · cases he
    · cases he
  · cases he

theorem run_v {s : Sem Value} {v : Value} {w w' : World} (h : s.run P w = .ok v w') : (do pure (Next.value (← s)) : Sem Next).run P w = .ok (.value v) w' := by
  simp [h]

theorem sliced_own {id st : Nat} {p : Bool} {t : Ty} {l : List t.den} {v : Value} (h : HS C H B w) (hH : H[id]? = some (.arr p st t l)) (hv : HdP H B w id st v) {lo hi : Nat} (h1 : lo ≤ hi) (h2 : hi ≤ l.length) :
    ∃ a0 c, v = .slice a0 l.length c ∧ l.length ≤ c ∧ HdsP H B w id st lo (hi - lo) (sliced a0 lo hi c t.size) := by
  obtain ⟨⟨hid, _⟩, hp⟩ := hv
  obtain ⟨_, hp⟩ := hp _ _ _ _ hH
  obtain ⟨a0, c, hv, hc, hr⟩ := hp rfl
  refine ⟨a0, c, hv, hc, ⟨hid, rfl⟩, fun p' st' t' l' e => ?_⟩
  rw [hH] at e
  injection e with e
  injection e with q1 q2 q3 q4
  subst q1; subst q2; subst q3; cases q4
  refine ⟨Nat.le_refl _, fun _ => ⟨by omega, _, _, rfl, by omega, fun hne => ?_⟩⟩
  unfold RowP at hr ⊢
  cases hB : B[id]? with
  | none => rw [hB] at hr; simp only at hr ⊢; obtain ⟨rfl, rfl⟩ := hr; simp
  | some ob =>
    rw [hB] at hr
    cases ob with
    | none => simp only at hr ⊢; obtain ⟨rfl, rfl⟩ := hr; simp
    | some rb =>
      simp only at hr ⊢
      obtain ⟨rfl, cs, hcs, hsz⟩ := hr
      refine ⟨?_, cs, hcs, ?_⟩
      · split
        · rename_i e
          have e0 : lo = 0 := by
            rcases hne with q | q
            · exact q
            · omega
          rw [e0]
        · simp [add_mk]
      · have : lo + (c - lo) ≤ 0 + c ∨ c < lo := by omega
        rcases this with q | q
        · exact Nat.le_trans (Nat.mul_le_mul_right _ q) hsz
        · omega

theorem sliced_dat {N : Nat → Prop} {t : Ty} {l : List t.den} {v : Value} (hv : Dat N w (.sl t) l [v]) {lo hi : Nat} (h1 : lo ≤ hi) (h2 : hi ≤ l.length) :
    ∃ a0 c, v = .slice a0 l.length c ∧ l.length ≤ c ∧ Dat N w (.sl t) ((l.take hi).drop lo) [sliced a0 lo hi c t.size] := by
  obtain ⟨a0, c, e, hc, hr⟩ := hv
  injection e with e _
  have hlen : ((l.take hi).drop lo).length = hi - lo := by simp; omega
  refine ⟨a0, c, e, hc, _, _, by rw [hlen]; rfl, by omega, ?_⟩
  by_cases hz : hi - lo = 0
  · left
    have : lo = hi := by omega
    subst this
    simp
  · right
    rcases hr with rfl | ⟨b, o, rfl, hn, hb, hr⟩
    · simp at h2; omega
    · refine ⟨b, o + lo * t.size, ?_, hn, hb, fun i hi' => ?_⟩
      · split
        · rename_i e
          have : lo = c := by omega
          omega
        · simp [add_mk]
      · rw [hlen] at hi'
        obtain ⟨us, hu, hcell⟩ := hr (lo + i) (by omega)
        refine ⟨us, ?_, fun j hj => ?_⟩
        · have e : ((l.take hi).drop lo)[i]'(by omega) = l[lo + i]'(by omega) := by simp
          rw [e]; exact hu
        · rw [← hcell j hj]
          congr 2
          rw [Nat.add_mul]
          omega

end
end Go.Proofs.Ytoafakkbmnnimaa.Ab
