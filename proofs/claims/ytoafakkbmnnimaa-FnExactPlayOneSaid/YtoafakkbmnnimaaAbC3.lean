import Derived.Test.YtoafakkbmnnimaaAbC2
namespace Go.Proofs.Ytoafakkbmnnimaa.Ab
open Go
set_option linter.unusedVariables false
set_option linter.unusedSimpArgs false
set_option linter.unnecessarySimpa false
set_option linter.unusedSimpArgs false

section
variable {P : Program} {A : Ann} {C : Cx} {env : List D} {H : Heap} {B : List (Option Nat)} {a : Act} {w : World}

/-- What an operation gives that makes and writes nothing. -/
def Gives (P : Program) (C : Cx) (H : Heap) (B : List (Option Nat)) (w : World) (s : Sem Value) (d : D) : Prop :=
  ∃ v, s.run P w = .ok v w ∧ CR (C.N B) (C.Np B) H B w d v

theorem binI_ok {op : BinOp} {xt : Nat} {k : IntKind} {x y : Int} {g : Bool} {d : D} (h : binI op k x y = some (g, d)) (hg : g = true) :
    Gives P C H B w (binOp op xt (.int k x) (.int k y)) d := by
  cases op <;> simp only [binI] at h <;> try (cases h; done)
  all_goals simp only [Option.some.injEq, Prod.mk.injEq] at h
  all_goals obtain ⟨h1, rfl⟩ := h
  case quo =>
    rw [hg] at h1
    have hy : y ≠ 0 := by simpa using h1
    refine ⟨_, ?_, by simp only [CR]; rfl⟩
    simp [binOp, Op.intDiv, hy]
  case rem =>
    rw [hg] at h1
    have hy : y ≠ 0 := by simpa using h1
    refine ⟨_, ?_, by simp only [CR]; rfl⟩
    simp [binOp, Op.intDiv, hy]
  case eql => exact ⟨.bool (x == y), by simp [binOp, Op.intCmp], by simp [CR]; rw [Bool.eq_iff_iff]; simp⟩
  case neq => exact ⟨.bool (x != y), by simp [binOp, Op.intCmp], by simp [CR, bne]; rw [Bool.eq_iff_iff]; simp⟩
  all_goals
    refine ⟨_, ?_, by simp only [CR]; rfl⟩
    simp [binOp, Op.intArith, Op.intBits, Op.intCmp]

theorem binS_ok {op : BinOp} {xt : Nat} {x y : ByteArray} {g : Bool} {d : D} (h : binS op x y = some (g, d)) (hg : g = true) :
    Gives P C H B w (binOp op xt (.string x) (.string y)) d := by
  cases op <;> simp only [binS] at h <;> try (cases h; done)
  all_goals simp only [Option.some.injEq, Prod.mk.injEq] at h
  all_goals obtain ⟨h1, rfl⟩ := h
  case add =>
    rw [hg] at h1
    have hy : x.size + y.size ≤ 140737488355328 := by simpa using h1
    have hn : ¬ ((x.size + y.size : Nat) : Int) > IntKind.i64.max := by
      have : IntKind.i64.max = 9223372036854775807 := by decide
      omega
    refine ⟨.string (x ++ y), ?_, by simp [CR]⟩
    simp only [binOp, Op.stringOp]
    rw [if_neg hn]
    rfl
  all_goals
    refine ⟨_, ?_, by simp only [CR]; rfl⟩
    simp [binOp, Op.stringOp, strEq, strLt]

theorem eqGuard_plain (op : BinOp) (t : Nat) (x y : Operand) (u v : Value) (h1 : u ≠ .nilIface) (h2 : ∀ cs, u ≠ .agg cs) (w : World) : (eqGuard op t x y u v).run P w = .ok () w := by
  cases u <;> first | exact absurd rfl h1 | exact absurd rfl (h2 _) | (cases op <;> simp [eqGuard])

theorem binD_ok (ok : TyOk P A) {op : BinOp} {xt : Nat} {ox oy : Operand} {x y : D} {u v : Value} {g : Bool} {d : D} (hx : CR (C.N B) (C.Np B) H B w x u) (hy : CR (C.N B) (C.Np B) H B w y v)
    (h : binD A xt op x y = some (g, d)) (hg : g = true) : Gives P C H B w (do eqGuard op xt ox oy u v; binOp op xt u v) d := by
  unfold Gives
  simp only [Sem.run_bind]
  cases x <;> simp only [binD] at h <;> try (cases h; done)
  case int k x =>
    cases y <;> simp only at h <;> try (cases h; done)
    rename_i k' y
    simp only [CR] at hx hy
    subst hx; subst hy
    rw [eqGuard_plain _ _ _ _ _ _ (by simp) (by simp)]
    simp only [Result.andThen_ok]
    split at h
    · simp only [Option.some.injEq, Prod.mk.injEq] at h
      obtain ⟨h1, rfl⟩ := h
      rw [hg] at h1
      have hy : ¬ y < 0 := by simpa using h1
      refine ⟨_, ?_, by simp only [CR]; rfl⟩
      simp [binOp, Op.shift, hy]
    · simp only [Option.some.injEq, Prod.mk.injEq] at h
      obtain ⟨h1, rfl⟩ := h
      rw [hg] at h1
      have hy : ¬ y < 0 := by simpa using h1
      refine ⟨_, ?_, by simp only [CR]; rfl⟩
      simp [binOp, Op.shift, hy]
    · split at h
      · rename_i e
        subst e
        exact binI_ok h hg
      · cases h
  case bool x =>
    cases y <;> simp only at h <;> try (cases h; done)
    rename_i y
    simp only [CR] at hx hy
    subst hx; subst hy
    rw [eqGuard_plain _ _ _ _ _ _ (by simp) (by simp)]
    simp only [Result.andThen_ok]
    split at h
    · rename_i e
      simp only [Option.some.injEq, Prod.mk.injEq] at h
      obtain ⟨h1, rfl⟩ := h
      exact ⟨_, run_eql_bool w xt x y (ok.bool _ e), by simp [CR]⟩
    · rename_i e
      simp only [Option.some.injEq, Prod.mk.injEq] at h
      obtain ⟨h1, rfl⟩ := h
      exact ⟨_, run_neq_bool w xt x y (ok.bool _ e), by simp [CR]⟩
    · cases h
  case str x =>
    cases y <;> simp only at h <;> try (cases h; done)
    simp only [CR] at hx hy
    subst hx; subst hy
    rw [eqGuard_plain _ _ _ _ _ _ (by simp) (by simp)]
    simp only [Result.andThen_ok]
    exact binS_ok h hg
  case agg cs =>
    cases y <;> simp only at h <;> try (cases h; done)
    rename_i ds
    simp only [CR] at hx hy
    obtain ⟨xs, rfl, hx⟩ := hx
    obtain ⟨ys, rfl, hy⟩ := hy
    split at h
    · rename_i e
      obtain ⟨k1, k2⟩ := ok.eqt _ e
      rw [run_eqGuard_agg _ _ _ _ _ _ _ k1]
      simp only [Result.andThen_ok]
      split at h
      · rename_i b e2
        simp only [Option.some.injEq, Prod.mk.injEq] at h
        obtain ⟨h1, rfl⟩ := h
        exact ⟨.bool b, by rw [run_eql_struct, k2 w _ _ xs ys b e2 _ _ _ _ hx hy]; rfl, by simp [CR]⟩
      · rename_i b e2
        simp only [Option.some.injEq, Prod.mk.injEq] at h
        obtain ⟨h1, rfl⟩ := h
        exact ⟨.bool (!b), by rw [run_neq_struct, k2 w _ _ xs ys b e2 _ _ _ _ hx hy]; rfl, by simp [CR]⟩
      · cases h
    · cases h

theorem unD_ok {op : UnOp} {x : D} {u : Value} {g : Bool} {d : D} (hx : CR (C.N B) (C.Np B) H B w x u) (h : unD op x = some (g, d)) : Gives P C H B w (Op.unary op u) d := by
  unfold Gives
  cases op <;> cases x <;> simp only [unD] at h <;> try (cases h; done)
  all_goals simp only [Option.some.injEq, Prod.mk.injEq] at h
  all_goals obtain ⟨h1, rfl⟩ := h
  all_goals simp only [CR] at hx
  all_goals subst hx
  · refine ⟨_, ?_, by simp only [CR]; rfl⟩
    simp [Op.unary, Op.intArith]
  · refine ⟨_, ?_, by simp only [CR]; rfl⟩
    simp [Op.unary]

theorem fieldAt_ok (ok : TyOk P A) {s f o n : Nat} {ag : Bool} (hf : A.fld s f = some (o, n, ag)) (b off : Nat) : (Instr.fieldAt s (.pointer (some ⟨b, off, none⟩)) f).run P w = .ok (.pointer (some ⟨b, off + o, none⟩)) w := by
  obtain ⟨fs, fd, i, d, hu, hfs, ho, hi, hn, hn0, _⟩ := ok.fld s f o n ag hf
  have : ¬ i.size = 0 := by omega
  simp [Instr.fieldAt, run_underlying hu, hfs, Instr.sureAddr, fieldPlace, run_sizeOf' hi, this, add_mk, ho]

theorem part_ok {N Np : Nat → Prop} {t n o : Nat} {ag : Bool} {i : TypeInfo} {de : TypeDesc} (hi : P.info? t = some i) (hs : i.size = n) (hu : P.underlying t = some de) (hag : aggDesc de = ag)
    {cs : List D} {vs : Array Value} {d : D} (_ : o + n ≤ cs.length) (hc : CRs N Np H B w cs vs.toList) (hm : mkAgg ag ((cs.drop o).take n) = some d) :
    ∃ v, (part t vs o).run P w = .ok v w ∧ CR N Np H B w d v := by
  have hlen := hc.length
  have hk := (hc.drop o).take n
  unfold part
  simp only [Sem.run_bind, run_isAgg hu, Result.andThen_ok, hag]
  cases ag with
  | true =>
    simp only [mkAgg, Option.some.injEq] at hm
    subst hm
    refine ⟨.agg (vs.extract o (o + n)), by simp [run_sizeOf' hi, hs], ?_⟩
    simp only [CR]
    refine ⟨_, rfl, ?_⟩
    have e : (vs.extract o (o + n)).toList = (vs.toList.drop o).take n := by
      simp [Array.toList_extract, List.extract_eq_take_drop]
    rw [e]; exact hk
  | false =>
    have hgo : ∀ r : List D, mkAgg false r = some d → r = [d] := by
      intro r hr
      cases r with
      | nil => simp [mkAgg] at hr
      | cons d0 r =>
        cases r with
        | cons _ _ => simp [mkAgg] at hr
        | nil => simp only [mkAgg, Option.some.injEq] at hr; rw [hr]
    have e := hgo _ hm
    rw [e] at hk
    simp only [CRs] at hk
    obtain ⟨u, us, e2, h1, rfl⟩ := hk
    have e3 : vs[o]? = some u := by
      have : ((vs.toList.drop o).take n)[0]? = some u := by rw [e2]; rfl
      rw [List.getElem?_take] at this
      split at this
      · simpa using this
      · cases this
    exact ⟨u, by simp [e3], h1⟩

theorem CRs_iff {N Np : Nat → Prop} : ∀ {ds : List D} {vs : List Value}, CRs N Np H B w ds vs ↔ vs.length = ds.length ∧ ∀ i, i < ds.length → CR N Np H B w (get ds i) (vs.getD i undef)
  | [], vs => by simp [CRs]
  | d :: ds, vs => by
    constructor
    · intro h
      exact ⟨h.length, fun i _ => h.get i⟩
    · rintro ⟨h1, h2⟩
      cases vs with
      | nil => simp at h1
      | cons v vs =>
        simp only [CRs]
        refine ⟨v, vs, rfl, by simpa [get] using h2 0 (by simp), CRs_iff.mpr ⟨by simpa using h1, fun i hi => ?_⟩⟩
        simpa [get] using h2 (i + 1) (by simpa using hi)

theorem spl_get : ∀ (off : Nat) (ds cs : List D), off + ds.length ≤ cs.length → ∀ i, get (spl off ds cs) i = if off ≤ i ∧ i < off + ds.length then get ds (i - off) else get cs i
  | 0, [], cs, _, i => by
    have : ¬ (0 ≤ i ∧ i < 0 + ([] : List D).length) := by simp
    rw [if_neg this]; simp [spl]
  | 0, d :: ds, [], h, i => by simp at h
  | 0, d :: ds, c :: cs, h, i => by
    cases i with
    | zero => simp [spl, get]
    | succ i =>
      have ih := spl_get 0 ds cs (by simpa using h) i
      simp only [spl]
      have e1 : get (d :: spl 0 ds cs) (i + 1) = get (spl 0 ds cs) i := by simp [get]
      have e2 : get (c :: cs) (i + 1) = get cs i := by simp [get]
      have e3 : get (d :: ds) (i + 1 - 0) = get ds (i - 0) := by simp [get]
      rw [e1, ih, e2, e3]
      simp only [List.length_cons]
      by_cases q : 0 ≤ i ∧ i < 0 + ds.length
      · rw [if_pos q, if_pos (by omega)]
      · rw [if_neg q, if_neg (by omega)]
  | off + 1, ds, [], h, i => by simp at h
  | off + 1, ds, c :: cs, h, i => by
    cases i with
    | zero =>
      have : ¬ (off + 1 ≤ 0 ∧ 0 < off + 1 + ds.length) := by omega
      rw [if_neg this]; simp [spl, get]
    | succ i =>
      have ih := spl_get off ds cs (by simp at h; omega) i
      simp only [spl]
      have e1 : get (c :: spl off ds cs) (i + 1) = get (spl off ds cs) i := by simp [get]
      have e2 : get (c :: cs) (i + 1) = get cs i := by simp [get]
      rw [e1, ih, e2]
      by_cases q : off ≤ i ∧ i < off + ds.length
      · rw [if_pos q, if_pos (by omega)]; congr 1; omega
      · rw [if_neg q, if_neg (by omega)]

theorem spl_len : ∀ (off : Nat) (ds cs : List D), (spl off ds cs).length = cs.length
  | 0, [], _ => by simp [spl]
  | 0, _ :: _, [] => by simp [spl]
  | 0, d :: ds, c :: cs => by simp [spl, spl_len 0 ds cs]
  | _ + 1, _, [] => by simp [spl]
  | off + 1, ds, c :: cs => by simp [spl, spl_len off ds cs]

theorem foldl_get (off : Nat) : ∀ (us : List Value) (k : Nat) (vs : Array Value) (i : Nat), off + k + us.length ≤ vs.size →
    ((us.zipIdx k).foldl (fun cs (x : Value × Nat) => cs.setIfInBounds (off + x.2) x.1) vs)[i]? = if off + k ≤ i ∧ i < off + k + us.length then us[i - (off + k)]? else vs[i]?
  | [], k, vs, i, _ => by
    have : ¬ (off + k ≤ i ∧ i < off + k + ([] : List Value).length) := by simp
    rw [if_neg this]; simp
  | u :: us, k, vs, i, h => by
    simp only [List.zipIdx_cons, List.foldl_cons]
    rw [foldl_get off us (k + 1) _ i (by simp at h ⊢; omega)]
    simp only [List.length_cons]
    by_cases q : off + (k + 1) ≤ i ∧ i < off + (k + 1) + us.length
    · rw [if_pos q, if_pos (by omega)]
      have : i - (off + k) = (i - (off + (k + 1))) + 1 := by omega
      rw [this]; simp
    · rw [if_neg q]
      by_cases e : i = off + k
      · subst e
        rw [if_pos (by omega)]
        simp at h
        simp [Array.getElem?_setIfInBounds]
        omega
      · rw [if_neg (by omega), Array.getElem?_setIfInBounds_ne (by omega)]

theorem foldl_size (off : Nat) : ∀ (us : List (Value × Nat)) (vs : Array Value), (us.foldl (fun cs (x : Value × Nat) => cs.setIfInBounds (off + x.2) x.1) vs).size = vs.size
  | [], _ => rfl
  | u :: us, vs => by simp only [List.foldl_cons]; rw [foldl_size off us]; simp

theorem spl_ok {N Np : Nat → Prop} {off : Nat} {ds cs : List D} {us : List Value} {vs : Array Value} (h1 : CRs N Np H B w ds us) (h2 : CRs N Np H B w cs vs.toList) (hle : off + ds.length ≤ cs.length) :
    CRs N Np H B w (spl off ds cs) ((us.zipIdx).foldl (fun cs (x : Value × Nat) => cs.setIfInBounds (off + x.2) x.1) vs).toList := by
  have l1 := h1.length
  have l2 := h2.length
  simp at l2
  rw [CRs_iff]
  refine ⟨by simp [foldl_size, spl_len, l2], fun i hi => ?_⟩
  rw [spl_get _ _ _ hle]
  have e : ((us.zipIdx).foldl (fun cs (x : Value × Nat) => cs.setIfInBounds (off + x.2) x.1) vs).toList.getD i undef = (if off ≤ i ∧ i < off + ds.length then us.getD (i - off) undef else vs.toList.getD i undef) := by
    simp only [List.getD_eq_getElem?_getD, Array.getElem?_toList]
    rw [foldl_get off us 0 vs i (by omega)]
    simp only [Nat.add_zero, l1]
    split <;> rfl
  rw [e]
  split
  · exact h1.get _
  · exact h2.get _

theorem fill_ok {t : Nat} {N Np : Nat → Prop} {places : List (Nat × Nat)} (hp : ∀ f o n ag, A.fld t f = some (o, n, ag) → places[f]? = some (o, n)) :
    ∀ {parts : List (Nat × D)} {vparts : List (Nat × Value)} {cs : List D} {vs : Array Value} {r : List D}, fillD A t parts cs = some r →
      (∀ (i : Nat) p, parts[i]? = some p → ∃ v, vparts[i]? = some (p.1, v) ∧ (okD p.2 = true → CRs N Np H B w (cellsOf p.2) v.cells.toList)) → vparts.length = parts.length → CRs N Np H B w cs vs.toList →
      ∃ us, Instr.fill (places.toArray[·]?) vs vparts = some us ∧ CRs N Np H B w r us.toList := by
  intro parts
  induction parts with
  | nil =>
    intro vparts cs vs r h hv hl hc
    cases vparts with
    | cons _ _ => simp at hl
    | nil =>
      simp only [fillD, Option.some.injEq] at h
      subst h
      exact ⟨vs, rfl, hc⟩
  | cons p parts ih =>
    intro vparts cs vs r h hv hl hc
    cases vparts with
    | nil => simp at hl
    | cons q vparts =>
      obtain ⟨i, x⟩ := p
      obtain ⟨v, e0, hx⟩ := hv 0 _ rfl
      simp only [List.getElem?_cons_zero, Option.some.injEq] at e0
      subst e0
      simp only [fillD] at h
      split at h
      · rename_i o n ag hf
        split at h
        · rename_i hle
          have hpl := hp _ _ _ _ hf
          replace hx : CRs N Np H B w (cellsOf x) v.cells.toList := hx hle.2.2
          have hlx := hx.length
          have hlc := hc.length
          have hsz : v.cells.size = n := by rw [← Array.length_toList, hlx]; exact hle.1
          have hvs : vs.size = cs.length := by simpa using hlc
          have hk := spl_ok hx hc (off := o) (by omega)
          obtain ⟨us, k1, k2⟩ := ih (vparts := vparts) h (fun i p hp' => hv (i + 1) p hp') (by simpa using hl) hk
          refine ⟨us, ?_, k2⟩
          rw [Instr.fill]
          have e1 : places.toArray[i]? = some (o, n) := by simpa using hpl
          simp only [e1]
          have h2 := hle.2.1
          rw [if_neg (by rw [hsz, hvs]; simp; exact h2)]
          rw [← k1]
          congr 1
          rw [← Array.foldl_toList]
          simp [Array.toList_zipIdx]
        · cases h
      · cases h

theorem zcells_ok {N Np : Nat → Prop} : ∀ y : Ty, CRs N Np H B w (zcells y) (zvals y)
  | .int k => by simp [zcells, zvals, CRs, CR]
  | .bool => by simp [zcells, zvals, CRs, CR]
  | .str => by simp [zcells, zvals, CRs, CR]
  | .sl e => by simp [zcells, zvals, CRs, CR]
  | .pair a b => (zcells_ok a).append (zcells_ok b)

theorem strI_ok (l : List Int) : ∀ s : ByteArray, l.foldl (fun s n => s.push (UInt8.ofNat n.toNat)) s = ⟨s.data ++ (l.map fun n => UInt8.ofNat n.toNat).toArray⟩ := by
  induction l with
  | nil => intro s; simp
  | cons n l ih =>
    intro s
    rw [List.foldl_cons, ih]
    simp [ByteArray.push]

end
end Go.Proofs.Ytoafakkbmnnimaa.Ab
