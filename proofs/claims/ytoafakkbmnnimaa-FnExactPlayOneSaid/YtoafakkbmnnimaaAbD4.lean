import Derived.Test.YtoafakkbmnnimaaAbD3
namespace Go.Proofs.Ytoafakkbmnnimaa.Ab
open Go
set_option linter.unusedVariables false
set_option linter.unusedSimpArgs false
set_option linter.unnecessarySimpa false
set_option linter.unusedSimpArgs false
set_option linter.unusedVariables false

section
variable {P : Program} {A : Ann} {C : Cx} {env : List D} {H : Heap} {B : List (Option Nat)} {a : Act} {w w' : World}

/-- Cells hold the elements of a list. -/
def Holds (N : Nat → Prop) (w : World) (e : Ty) (l : List e.den) (cs : Array Value) : Prop :=
  l.length * e.size ≤ cs.size ∧ ∀ i, (h : i < l.length) → ∃ us, Dat N w e l[i] us ∧ ∀ j, j < e.size → cs[i * e.size + j]? = us[j]?

theorem mul_lt_of {i j n s : Nat} (hi : i < n) (hj : j < s) : i * s + j < n * s := by
  have : (i + 1) * s ≤ n * s := Nat.mul_le_mul_right _ hi
  rw [Nat.add_mul] at this
  omega

theorem unfl_parts (h : St C env H B a w) {e : Ty} {x : Operand} {y : e.den} {q : Bool} {g : List Nat} (hu : unfl H e (cellsOf (opd env x)) = some (y, [], q, g)) {f : List Nat} (hg : ∀ id ∈ g, id ∈ f) {p : Bool} (hpq : imp p q = true) :
    Dat (pk p (C.N (killB B f)) (C.Np (killB B f))) w e y (a.eval x).cells.toList := by
  have hxu : opd env x ≠ .undef := by
    intro z
    rw [z] at hu
    have : ∀ t : Ty, unfl H t (cellsOf .undef) = none := by
      intro t
      induction t with
      | pair a b iha _ => simp only [unfl, iha]
      | _ => simp [cellsOf, unfl]
    rw [this] at hu
    cases hu
  have hcc := cellsOf_ok (opd_ok h x) hxu
  obtain ⟨us1, vs1, e1, hnil, hd1⟩ := unfl_ok (fun b => Cx.N_Np h.lb) h.lenB h.blk hu hcc (lets_kill h.lb f hpq) (fun id0 hi0 rb0 e0 k => by
    have := killed_out h.toHS (hg id0 hi0) e0
    cases p
    · exact this (Cx.N_Np h.lb k)
    · exact this k)
  simp only [CRs] at hnil
  subst hnil
  rw [List.append_nil] at e1
  rw [e1]; exact hd1

theorem fillE_mono {e : Ty} : ∀ {parts : List (Nat × D)} {p p' : Bool} {l l' : List e.den} {f f' : List Nat}, fillE H e parts p l f = some (p', l', f') → (∀ id ∈ f, id ∈ f') ∧ imp p' p = true ∧ l'.length = l.length
  | [], p, p', l, l', f, f', h => by
    simp only [fillE, Option.some.injEq, Prod.mk.injEq] at h
    obtain ⟨rfl, rfl, rfl⟩ := h
    exact ⟨fun _ q => q, by cases p <;> rfl, rfl⟩
  | (i, x) :: r, p, p', l, l', f, f', h => by
    simp only [fillE] at h
    split at h
    · rename_i y q g hu
      split at h
      · obtain ⟨k1, k2, k3⟩ := fillE_mono h
        exact ⟨fun id hi => k1 id (List.mem_append_left _ hi), by cases p <;> cases q <;> cases p' <;> simp_all [imp], by simpa using k3⟩
      · cases h
    · cases h

theorem fillE_ok (h : St C env H B a w) {e : Ty} : ∀ {parts : List (Nat × Operand)} {p p' : Bool} {l l' : List e.den} {f f' : List Nat} {cs : Array Value},
    fillE H e (parts.map fun q => (q.1, opd env q.2)) p l f = some (p', l', f') → Holds (pk p' (C.N (killB B f')) (C.Np (killB B f'))) w e l cs →
    ∃ cs', Instr.fill (fun i => some (i * e.size, e.size)) cs (parts.map fun q => (q.1, a.eval q.2)) = some cs' ∧ Holds (pk p' (C.N (killB B f')) (C.Np (killB B f'))) w e l' cs' ∧ cs'.size = cs.size
  | [], p, p', l, l', f, f', cs, hf, hc => by
    simp only [List.map_nil, fillE, Option.some.injEq, Prod.mk.injEq] at hf
    obtain ⟨rfl, rfl, rfl⟩ := hf
    exact ⟨cs, rfl, hc, rfl⟩
  | (i, x) :: r, p, p', l, l', f, f', cs, hf, hc => by
    simp only [List.map_cons, fillE] at hf
    split at hf
    · rename_i y q g hu
      split at hf
      · rename_i hi
        obtain ⟨k1, k2, k3⟩ := fillE_mono hf
        have hd := unfl_parts h hu (f := f') (fun id hi => k1 id (List.mem_append_right _ hi)) (p := p') (by cases p <;> cases q <;> cases p' <;> simp_all [imp])
        have hl := hd.len
        have hvs : (a.eval x).cells.size = e.size := by simpa using hl
        obtain ⟨hsz, hh⟩ := hc
        have hrow : i * e.size + e.size ≤ cs.size := by
          have : (i + 1) * e.size ≤ l.length * e.size := Nat.mul_le_mul_right _ hi
          rw [Nat.add_mul] at this
          omega
        have hget := foldl_get (i * e.size) (a.eval x).cells.toList 0 cs
        have hfs := foldl_size (i * e.size) ((a.eval x).cells.toList.zipIdx 0) cs
        simp only [Nat.add_zero, Array.length_toList, hvs] at hget
        have hc' : Holds (pk p' (C.N (killB B f')) (C.Np (killB B f'))) w e (l.set i y) (((a.eval x).cells.toList.zipIdx 0).foldl (fun cs (x : Value × Nat) => cs.setIfInBounds (i * e.size + x.2) x.1) cs) := by
          refine ⟨by rw [hfs, List.length_set]; exact hsz, fun j hj => ?_⟩
          simp only [List.length_set] at hj
          by_cases z : j = i
          · subst z
            refine ⟨(a.eval x).cells.toList, ?_, fun m hm => ?_⟩
            · have e2 : (l.set j y)[j]'(by simpa using hi) = y := by simp
              rw [e2]; exact hd
            · rw [hget _ (by omega), if_pos (by omega)]
              congr 1; omega
          · obtain ⟨us, hus, hcell⟩ := hh j hj
            refine ⟨us, ?_, fun m hm => ?_⟩
            · have e2 : (l.set i y)[j]'(by simpa using hj) = l[j] := by rw [List.getElem_set_ne (fun q => z q.symm)]
              rw [e2]; exact hus
            · rw [hget _ (by omega), if_neg ?_]
              · exact hcell m hm
              · intro q
                rcases Nat.lt_or_gt_of_ne z with q1 | q1
                · have : (j + 1) * e.size ≤ i * e.size := Nat.mul_le_mul_right _ q1
                  rw [Nat.add_mul] at this
                  omega
                · have : (i + 1) * e.size ≤ j * e.size := Nat.mul_le_mul_right _ q1
                  rw [Nat.add_mul] at this
                  omega
        obtain ⟨cs', m1, m2, m3⟩ := fillE_ok h hf hc'
        refine ⟨cs', ?_, m2, m3.trans hfs⟩
        rw [List.map_cons, Instr.fill]
        simp only
        rw [if_neg (by rw [hvs]; simp; omega), ← m1]
        congr 1
        rw [← Array.foldl_toList]
        simp [Array.toList_zipIdx]
      · cases hf
    · cases hf

theorem zeros_get (z : Array Value) {n i j : Nat} (hz : 0 < z.size) (hi : i < n) (hj : j < z.size) : ((Array.range (n * z.size)).map (fun k => z[k % z.size]!))[i * z.size + j]? = z[j]? := by
  have h1 := mul_lt_of hi hj
  have h2 : (i * z.size + j) % z.size = j := by rw [Nat.mul_comm, Nat.mul_add_mod]; exact Nat.mod_eq_of_lt hj
  simp [h1, h2, hj]

theorem Holds_zero {N : Nat → Prop} (e : Ty) (z : Value) (hz : z.cells.toList = zvals e) (n : Nat) : Holds N w e (List.replicate n e.zero) ((Array.range (n * e.size)).map (fun k => z.cells[k % z.cells.size]!)) := by
  have hd := Dat_zero (N := N) (w := w) e
  have hl := hd.len
  have hzs : z.cells.size = e.size := by rw [← Array.length_toList, hz]; exact hl
  refine ⟨by simp, fun i hi => ⟨zvals e, ?_, fun j hj => ?_⟩⟩
  · simpa using hd
  · have := zeros_get z.cells (n := n) (i := i) (j := j) (by rw [hzs]; exact e.size_pos) (by simpa using hi) (by omega)
    rw [hzs] at this ⊢
    rw [this, ← hz]
    simp

theorem hd_new {N Np : Nat → Prop} {p : Bool} {e : Ty} {l : List e.den} {cs : Array Value} {nb : Nat} (hl : B.length = H.length) (hc : Cells w nb cs) (hs : l.length * e.size ≤ cs.size) :
    CR N Np (H ++ [.arr p 0 e l]) (B ++ [some nb]) w (.hd H.length 0) (.slice (some ⟨nb, 0, none⟩) l.length l.length) := by
  simp only [CR]
  refine ⟨⟨by simp, rfl⟩, fun p' st' t' l' e1 => ?_⟩
  rw [List.getElem?_append_right (Nat.le_refl _)] at e1
  simp only [Nat.sub_self, List.getElem?_cons_zero] at e1
  injection e1 with e1
  injection e1 with q1 q2 q3 q4
  subst q1; subst q2; subst q3; cases q4
  refine ⟨Nat.le_refl _, fun _ => ⟨_, _, rfl, Nat.le_refl _, ?_⟩⟩
  unfold RowP
  rw [List.getElem?_append_right (by omega), hl]
  simp only [Nat.sub_self, List.getElem?_cons_zero]
  exact ⟨by simp, cs, hc, by rw [Nat.zero_add]; exact hs⟩

theorem buildSlice_ok (ok : TyOk P A) (h : St C env H B a w) {o : Oper} {t len : Nat} {parts : Array (Nat × Operand)} (ho : o.op = .buildSlice t len parts) {e : Ty} (ht : A.ty t = some (.sl e)) (hlen : len ≤ 1024)
    {p : Bool} {l : List e.den} {f : List Nat} (hf : fillE H e (parts.toList.map fun q => (q.1, opd env q.2)) true (List.replicate len e.zero) [] = some (p, l, f)) :
    EffGives P C env (kill H f ++ [.arr p 0 e l]) a w o (.hd H.length 0) := by
  obtain ⟨et, hu, hty⟩ := ok.sl _ _ ht
  obtain ⟨ie, z, hie, hs, hz, hzc, hb⟩ := ok.tyi _ _ hty
  have hH0 := Holds_zero (N := pk p (C.N (killB B f)) (C.Np (killB B f))) (w := w) e z hzc len
  obtain ⟨cs, m1, m2, m3⟩ := fillE_ok h hf hH0
  have hll := (fillE_mono hf).2.2
  simp only [List.length_replicate] at hll
  have hk := h.kill f
  have hklen : (kill H f).length = H.length := kill_len _ _
  have hst := hk.newBlk (blk := .arr p 0 e l) (cs := cs) (el := et) (fun s hn => ⟨cs, hn, m2.1, fun i hi => by
    obtain ⟨us, hus, hcell⟩ := m2.2 i hi
    refine ⟨us, ?_, hcell⟩
    cases p
    · exact Dat.mono s.g hus
    · exact Dat.mono s.gp hus⟩)
  have hzs : z.cells.size = e.size := by
    have := (Dat_zero (N := fun _ => False) (w := w) e).len
    rw [← Array.length_toList, hzc]; exact this
  have hrun : (Instr.buildSlice t len (parts.map fun (i, x) => (i, a.eval x))).run P w = .ok (.slice (some ⟨w.heap.size, 0, none⟩) len len) (w.alloc (.cells cs et)) := by
    have hparts : (parts.map fun (i, x) => (i, a.eval x)).toList = parts.toList.map fun q => (q.1, a.eval q.2) := by
      rw [Array.toList_map]
    have hsm : ¬ len * ie.size > 2 ^ 24 := by
      rw [hs]
      have : len * e.size ≤ 1024 * 64 := Nat.mul_le_mul hlen hb.2
      omega
    rcases Nat.eq_zero_or_pos len with h0 | h0
    · subst h0
      have hr0 : Array.range 0 = #[] := rfl
      simp only [Nat.zero_mul, hr0, List.map_toArray, List.map_nil] at m1
      simp [Instr.buildSlice, run_underlying hu, run_sizeOf' hie, hparts, hs, m1, newRow, hr0]
    · have hpos : ¬ len * e.size = 0 := by
        have := Nat.mul_pos h0 e.size_pos
        omega
      rw [hs] at hsm
      have hz0 : (zeroValue et).run P w = .ok z w := by simp [zeroValue, typeInfo, hie, hz]
      simp only [Instr.buildSlice, Sem.run_bind, run_underlying hu, run_sizeOf' hie, hs, Result.andThen_ok, Sem.run_ite, if_neg hsm, if_neg hpos, hz0, Sem.run_pure, hparts, m1]
      simp [newRow]
  have hcell : Cells (w.alloc (.cells cs et)) w.heap.size cs := ⟨et, by show (w.heap.push _)[w.heap.size]? = _; simp⟩
  have hcr := hd_new (N := C.N (killB B f ++ [some w.heap.size])) (Np := C.Np (killB B f ++ [some w.heap.size])) (p := p) (H := kill H f) (B := killB B f) hk.lenB hcell m2.1
  rw [hll, hklen] at hcr
  exact ⟨_, _, _, .inl (by simp only [execOp, ho]; exact run_v hrun), hst, hcr⟩

theorem wrap_small {n : Int} (h0 : 0 ≤ n) (h1 : n ≤ 1099511627776) : IntKind.i64.wrap n = n := by
  simp [IntKind.wrap, IntKind.bits, IntKind.signed]
  omega

theorem makeSlice_ok (ok : TyOk P A) (h : St C env H B a w) {o : Oper} {t : Nat} {lo co : Operand} (ho : o.op = .makeSlice t lo co) {e : Ty} (ht : A.ty t = some (.sl e)) {k : IntKind} {n : Int} (hn : opd env lo = .int k n)
    (hs : sameOp lo co = true) (h0 : 0 ≤ n) (h1 : n ≤ 1099511627776) : EffGives P C env (H ++ [.arr true 0 e (List.replicate n.toNat e.zero)]) a w o (.hd H.length 0) := by
  obtain ⟨et, hu, hty⟩ := ok.sl _ _ ht
  obtain ⟨ie, z, hie, hsz, hz, hzc, hb, hb2⟩ := ok.tyi _ _ hty
  have hlo := opd_ok h lo
  rw [hn] at hlo
  simp only [CR] at hlo
  have hco : ∃ k', a.eval co = .int k' n := by
    unfold sameOp at hs
    split at hs
    · rename_i x y
      have := Nat.eq_of_beq_eq_true hs
      subst this
      exact ⟨k, hlo⟩
    · rename_i k1 x k2 y
      have := of_decide_eq_true hs
      subst this
      simp only [Act.eval] at hlo ⊢
      injection hlo with _ q
      exact ⟨k2, by rw [q]⟩
    · cases hs
  obtain ⟨k', hco⟩ := hco
  have hzs : z.cells.size = e.size := by
    have := (Dat_zero (N := fun _ => False) (w := w) e).len
    rw [← Array.length_toList, hzc]; exact this
  have hH0 := fun (N : Nat → Prop) => Holds_zero (N := N) (w := w) e z hzc n.toNat
  have hw := wrap_small h0 h1
  have hbig : ¬ (ie.bytes : Int) * n > 2 ^ 48 := by
    have h3 : (ie.bytes : Int) ≤ 128 := by omega
    have h4 : (ie.bytes : Int) * n ≤ 128 * n := Int.mul_le_mul_of_nonneg_right h3 h0
    omega
  have hbig2 : ¬ 281474976710656 < (ie.bytes : Int) * n := by omega
  have hneg : ¬ n < 0 := by omega
  have hz0 : (zeroValue et).run P w = .ok z w := by simp [zeroValue, typeInfo, hie, hz]
  have hti : (typeInfo et).run P w = .ok ie w := by simp [typeInfo, hie]
  have hrun : (Instr.makeSlice t (.int k n) (.int k' n)).run P w = .ok (.slice (some ⟨w.heap.size, 0, none⟩) n.toNat n.toNat)
      (w.alloc (.cells ((Array.range (n.toNat * e.size)).map (fun k => z.cells[k % z.cells.size]!)) et)) := by
    rcases Nat.eq_zero_or_pos n.toNat with q | q
    · have hr0 : Array.range 0 = #[] := rfl
      simp [Instr.makeSlice, run_underlying hu, asInt, asIntOf, hti, hw, hneg, hbig2, run_sizeOf' hie, hsz, q, newRow, hr0]
    · have hpos : ¬ (n.toNat * e.size = 0) := by
        have := Nat.mul_pos q e.size_pos
        omega
      simp [Instr.makeSlice, run_underlying hu, asInt, asIntOf, hti, hw, hneg, hbig2, run_sizeOf' hie, hsz, hz0, newRow, hpos]

  have hst := h.newBlk (blk := .arr true 0 e (List.replicate n.toNat e.zero)) (cs := (Array.range (n.toNat * e.size)).map (fun k => z.cells[k % z.cells.size]!)) (el := et) (fun s hn => ⟨_, hn, (hH0 (fun _ => False)).1, fun i hi => by
    obtain ⟨us, hus, hcell⟩ := (hH0 (C.Np B)).2 i hi
    exact ⟨us, Dat.mono s.gp hus, hcell⟩⟩)
  have hcell : Cells (w.alloc (.cells ((Array.range (n.toNat * e.size)).map (fun k => z.cells[k % z.cells.size]!)) et)) w.heap.size ((Array.range (n.toNat * e.size)).map (fun k => z.cells[k % z.cells.size]!)) := ⟨et, by show (w.heap.push _)[w.heap.size]? = _; simp⟩
  have hcr := hd_new (N := C.N (B ++ [some w.heap.size])) (Np := C.Np (B ++ [some w.heap.size])) (p := true) (H := H) (B := B) h.lenB hcell (hH0 (fun _ => False)).1
  rw [List.length_replicate] at hcr
  exact ⟨_, _, _, .inl (by simp only [execOp, ho, hlo, hco]; exact run_v hrun), hst, hcr⟩

end
end Go.Proofs.Ytoafakkbmnnimaa.Ab
