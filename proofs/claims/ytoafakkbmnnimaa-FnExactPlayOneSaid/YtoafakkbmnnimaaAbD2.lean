import Derived.Test.YtoafakkbmnnimaaAbD1
namespace Go.Proofs.Ytoafakkbmnnimaa.Ab
open Go
set_option linter.unusedVariables false
set_option linter.unusedSimpArgs false
set_option linter.unnecessarySimpa false
set_option linter.unusedSimpArgs false
set_option linter.unusedVariables false

section
variable {P : Program} {A : Ann} {C : Cx} {env : List D} {H : Heap} {B : List (Option Nat)} {a : Act} {w w' : World}

theorem Dat.one {N : Nat → Prop} : ∀ {t : Ty} {x : t.den} {vs : List Value}, Dat N w t x vs → ∀ v ∈ vs, v.oneCell' = true
  | .int _, _, _, h => by cases h; simp [Value.oneCell']
  | .bool, _, _, h => by cases h; simp [Value.oneCell']
  | .str, _, _, h => by cases h; simp [Value.oneCell']
  | .sl _, _, _, h => by obtain ⟨A0, c, rfl, _⟩ := h; simp [Value.oneCell']
  | .pair a b, _, _, h => by
    obtain ⟨us, ws, rfl, h1, h2⟩ := h
    intro v hv
    rcases List.mem_append.mp hv with q | q
    · exact h1.one v q
    · exact h2.one v q

theorem Dat_zero {N : Nat → Prop} : ∀ t : Ty, Dat N w t t.zero (zvals t)
  | .int _ => rfl
  | .bool => rfl
  | .str => rfl
  | .sl _ => ⟨none, 0, rfl, Nat.le_refl _, .inl rfl⟩
  | .pair a b => ⟨_, _, rfl, Dat_zero a, Dat_zero b⟩

theorem Dat.world {N : Nat → Prop} (hw : w'.heap = w.heap) {t : Ty} {x : t.den} {vs : List Value} (h : Dat N w t x vs) : Dat N w' t x vs :=
  h.mono ⟨by rw [hw]; exact Nat.le_refl _, fun b _ _ => by rw [hw], fun _ _ q => q⟩

theorem cellD_one {N Np : Nat → Prop} {d : D} {v : Value} (h : CR N Np H B w d v) (hd : cellD d = true) : v.oneCell' = true := by
  cases d <;> simp only [cellD, CR] at h hd <;> try (cases hd; done)
  case int => subst h; rfl
  case bool => subst h; rfl
  case str => subst h; rfl
  case sl => obtain ⟨A0, c, e, _⟩ := h; injection e with e _; subst e; rfl
  case nilsl => subst h; rfl
  case hd => exact h.1.2
  case hds => exact h.1.2
  case ptr => exact h.1.2
  case eptr => exact h.1.2
  case rptr => obtain ⟨rb, ro, rfl, _⟩ := h; rfl
  case clo => obtain ⟨vs, rfl, _⟩ := h; rfl

theorem CRs.one {N Np : Nat → Prop} : ∀ {ds : List D} {vs : List Value}, CRs N Np H B w ds vs → ds.all cellD = true → ∀ v ∈ vs, v.oneCell' = true
  | [], vs, h, _ => by simp only [CRs] at h; subst h; simp
  | d :: ds, vs, h, hd => by
    simp only [CRs] at h
    obtain ⟨u, us, rfl, h1, h2⟩ := h
    simp only [List.all_cons, Bool.and_eq_true] at hd
    intro v hv
    rcases List.mem_cons.mp hv with rfl | q
    · exact cellD_one h1 hd.1
    · exact h2.one hd.2 v q

/-- The world behind a store of a run of cells. -/
theorem setRow_facts {rb : Nat} {cs cs' : Array Value} (hc : Cells w rb cs) (hs : cs'.size = cs.size) :
    Cells (w.setRow rb cs') rb cs' ∧ w.heap.size ≤ (w.setRow rb cs').heap.size ∧ (∀ b, b ≠ rb → (w.setRow rb cs').heap[b]? = w.heap[b]?) ∧
    (∀ b cs0, Cells w b cs0 → ∃ cs1, Cells (w.setRow rb cs') b cs1 ∧ cs1.size = cs0.size) ∧ (w.setRow rb cs').os = w.os ∧ (w.setRow rb cs').tape = w.tape ∧ (w.setRow rb cs').output = w.output := by
  obtain ⟨el, hc⟩ := hc
  have h1 : Cells (w.setRow rb cs') rb cs' := ⟨el, setRow_heap w rb cs cs' el (0, 0) hc⟩
  have h2 : ∀ b, b ≠ rb → (w.setRow rb cs').heap[b]? = w.heap[b]? := by
    intro b hb
    simp only [World.setRow, Array.getElem?_modify]
    rw [if_neg (by omega)]
  refine ⟨h1, by simp [World.setRow], h2, ?_, rfl, rfl, rfl⟩
  intro b cs0 ⟨e, k⟩
  by_cases q : b = rb
  · subst q
    rw [hc] at k
    injection k with k
    injection k with k1 k2
    subst k1
    exact ⟨cs', h1, hs⟩
  · exact ⟨cs0, ⟨e, by rw [h2 b q]; exact k⟩, rfl⟩

/-- What an operation gives that makes memory or writes into it. -/
def EffGives (P : Program) (C : Cx) (env : List D) (H' : Heap) (a : Act) (w : World) (o : Oper) (d : D) : Prop :=
  ∃ v B' w', ((execOp a.eval o).run P w = .ok (.value v) w' ∨ ((execOp a.eval o).run P w = .ok .skip w' ∧ v = undef)) ∧ St C env H' B' a w' ∧ CR (C.N B') (C.Np B') H' B' w' d v

theorem storeVar_ok (ok : TyOk P A) {t n : Nat} {ag : Bool} (hl : A.lay t = some (n, ag)) {b o : Nat} {v : Value} {cs : Array Value} (hc : Cells w b cs) (hn : v.cells.size = n) (hle : o + n ≤ cs.size) (h1 : ∀ u ∈ v.cells.toList, u.oneCell' = true) :
    (Instr.storeAt t (.pointer (some ⟨b, o, none⟩)) v).run P w = .ok () (w.setRow b (cs.toList.take o ++ v.cells.toList ++ cs.toList.drop (o + n)).toArray) := by
  obtain ⟨i, de, hi, hs, hu, hag⟩ := ok.lay t n ag hl
  obtain ⟨el, hc⟩ := hc
  have hlen : v.cells.toList.length = n := by simpa using hn
  have hr := run_storeCells_at (P := P) b o el v.cells.toList 0 cs w hc (by omega) h1
  simp only [Nat.add_zero] at hr
  rw [hlen] at hr
  have hne : ¬ v.cells.size ≠ n := by omega
  simp only [Instr.storeAt, Instr.sureAddr, Sem.run_bind, Sem.run_pure, Result.andThen_ok, storeVar, run_sizeOf' hi, hs, Sem.run_ite, if_neg hne, hr]

theorem spl_eq : ∀ (off : Nat) (ds cs : List D), off + ds.length ≤ cs.length → spl off ds cs = cs.take off ++ ds ++ cs.drop (off + ds.length)
  | 0, [], cs, _ => by simp [spl]
  | 0, d :: ds, [], h => by simp at h
  | 0, d :: ds, c :: cs, h => by
    have ih := spl_eq 0 ds cs (by simpa using h)
    simp only [spl, ih]
    simp
  | off + 1, ds, [], h => by simp at h
  | off + 1, ds, c :: cs, h => by
    have ih := spl_eq off ds cs (by simp at h; omega)
    simp only [spl, ih]
    simp [Nat.add_right_comm]

theorem CRs.splice {N Np : Nat → Prop} {off : Nat} {ds cs : List D} {us vs : List Value} (h1 : CRs N Np H B w ds us) (h2 : CRs N Np H B w cs vs) (hle : off + ds.length ≤ cs.length) :
    CRs N Np H B w (spl off ds cs) (vs.take off ++ us ++ vs.drop (off + ds.length)) := by
  rw [spl_eq _ _ _ hle]
  exact ((h2.take off).append h1).append (h2.drop _)

theorem alloc_ok (ok : TyOk P A) (h : St C env H B a w) {o : Oper} {t : Nat} {y : Ty} (ho : o.op = .alloc t) (hy : A.ty t = some y) : EffGives P C env (H ++ [.box (zcells y)]) a w o (.ptr H.length 0) := by
  obtain ⟨i, z, hi, hs, hz, hzc, _⟩ := ok.tyi _ _ hy
  have hst := h.newBlk (blk := .box (zcells y)) (cs := z.cells) (el := t) (fun s hn => ⟨_, z.cells, rfl, hn, by rw [hzc]; exact zcells_ok y⟩)
  refine ⟨.pointer (some ⟨w.heap.size, 0, none⟩), _, _, .inl ?_, hst, ?_⟩
  · simp [execOp, ho, Instr.alloc, zeroValue, typeInfo, hi, hz, newVar, newRow]
  · simp only [CR]
    refine ⟨⟨by simp, rfl⟩, fun cells _ => ⟨w.heap.size, ?_, rfl⟩⟩
    rw [List.getElem?_append_right (by rw [h.lenB]; exact Nat.le_refl _), h.lenB]; simp

theorem box_ok (h : St C env H B a w) {o : Oper} {t : Nat} {x : Operand} (ho : o.op = .box t x) (hx : okD (opd env x) = true) : EffGives P C env (H ++ [.box (cellsOf (opd env x))]) a w o (.ptr H.length 0) := by
  have hc := cellsOf_ok (opd_ok h x) (fun e => by rw [e] at hx; exact absurd hx (by simp [okD]))
  have hst := h.newBlk (blk := .box (cellsOf (opd env x))) (cs := (a.eval x).cells) (el := t) (fun s hn => ⟨_, _, rfl, hn, hc.step s⟩)
  refine ⟨.pointer (some ⟨w.heap.size, 0, none⟩), _, _, .inl ?_, hst, ?_⟩
  · simp [execOp, ho, Instr.box, newVar, newRow]
  · simp only [CR]
    refine ⟨⟨by simp, rfl⟩, fun cells _ => ⟨w.heap.size, ?_, rfl⟩⟩
    rw [List.getElem?_append_right (by rw [h.lenB]; exact Nat.le_refl _), h.lenB]; simp

end
end Go.Proofs.Ytoafakkbmnnimaa.Ab
