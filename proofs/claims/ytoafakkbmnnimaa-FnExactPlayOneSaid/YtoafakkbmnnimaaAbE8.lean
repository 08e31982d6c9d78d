import Derived.Test.YtoafakkbmnnimaaAbE7
namespace Go.Proofs.Ytoafakkbmnnimaa.Ab
open Go
set_option linter.unusedVariables false
set_option linter.unusedSimpArgs false
set_option linter.unnecessarySimpa false
set_option linter.unusedSimpArgs false
set_option linter.unusedVariables false

section
variable {P : Program} {A : Ann} {V : Lvl A} {ops : Array Oper} {C : Cx} {env env' E : List D} {H H0 H1 : Heap} {B : List (Option Nat)} {a : Act} {w w' : World} {e : Nat}

theorem St.sub (h : St C env H B a w) (h1 : ∀ t, get env' t = .undef ∨ get env' t = get env t) (h2 : env'.length = env.length) : St C env' H B a w where
  toHS := h.toHS
  envs := fun t => by
    rcases h1 t with q | q
    · rw [q]; exact undef_ok
    · rw [q]; exact h.envs t
  envlen := h2.trans h.envlen
  defers := h.defers
  siz := h.siz
  fix := h.fix

theorem get_out {env : List D} {t : Nat} (h : env.length ≤ t) : get env t = .undef := by
  simp [get, List.getElem?_eq_none h]

/-- What the check of a region says. -/
structure Sure (ops : Array Oper) : Prop where
  after : ∀ (i : Nat) o, ops[i]? = some o → ∀ x ∈ o.after, Region.binds .any x = true → x.on < i
  dst : ∀ (i : Nat) o, ops[i]? = some o → ∃ t, o.dst = some t
  one : ∀ (i j : Nat) o q t, ops[i]? = some o → ops[j]? = some q → o.dst = some t → q.dst = some t → i = j
  reads : ∀ (i j : Nat) o q t, ops[i]? = some o → ops[j]? = some q → q.dst = some t → (t ∈ opTmps o ∨ ∃ g want, o.guard = some (g, want) ∧ (ops[g]?).bind (·.dst) = some t) → (j < i ∧ waitsFor o j = true) ∨ (i < j ∧ waitsFor q i = true)

theorem sureOps_ok (h : sureOps ops.toList = true) : Sure ops := by
  unfold sureOps at h
  rw [List.all_eq_true] at h
  have key : ∀ (i : Nat) o, ops[i]? = some o → (∀ x ∈ o.after, Region.binds .any x = true → x.on < i) ∧ ∀ (j : Nat) q, ops[j]? = some q → ∃ t, q.dst = some t ∧ (i = j ∨ o.dst ≠ some t) ∧
      ((t ∈ opTmps o ∨ ∃ g want, o.guard = some (g, want) ∧ (ops[g]?).bind (·.dst) = some t) → (j < i ∧ waitsFor o j = true) ∨ (i < j ∧ waitsFor q i = true)) := by
    intro i o hi
    have hlt : i < ops.toList.length := by simpa using (Array.getElem?_eq_some_iff.1 hi).1
    have h1 := h i (List.mem_range.mpr hlt)
    have hi' : ops.toList[i]? = some o := by simpa using hi
    rw [hi'] at h1
    simp only [Bool.and_eq_true] at h1
    refine ⟨fun x hx hbx => ?_, fun j q hj => ?_⟩
    · have := Array.all_eq_true_iff_forall_mem.mp h1.1 x hx
      rw [hbx] at this
      exact Nat.blt_eq.mp (by simpa using this)
    · have hlj : j < ops.toList.length := by simpa using (Array.getElem?_eq_some_iff.1 hj).1
      have h2 := List.all_eq_true.mp h1.2 j (List.mem_range.mpr hlj)
      have hj' : ops.toList[j]? = some q := by simpa using hj
      rw [hj'] at h2
      simp only at h2
      cases hq : q.dst with
      | none => rw [hq] at h2; cases h2
      | some t =>
        rw [hq] at h2
        simp only [Bool.and_eq_true, Bool.or_eq_true, Bool.not_eq_true'] at h2
        obtain ⟨h3, h4⟩ := h2
        refine ⟨t, rfl, ?_, fun hr => ?_⟩
        · rcases h3 with h3 | h3
          · exact .inl (Nat.eq_of_beq_eq_true h3)
          · exact .inr (by simpa using h3)
        · rcases h4 with (h4 | h4) | h4
          · exfalso
            rcases hr with hr | ⟨g, want, hg, hgt⟩
            · have : (opTmps o).contains t = true := by simpa using hr
              rw [this] at h4
              simp at h4
            · have hgt' : (ops.toList[g]?).bind (·.dst) = some t := by simpa using hgt
              rw [hg] at h4
              simp only [hgt'] at h4
              simp at h4
          · exact .inl ⟨Nat.blt_eq.mp h4.1, h4.2⟩
          · exact .inr ⟨Nat.blt_eq.mp h4.1, h4.2⟩
  refine ⟨fun i o hi => (key i o hi).1, fun i o hi => ?_, fun i j o q t hi hj h1 h2 => ?_, fun i j o q t hi hj h1 h2 => ?_⟩
  · obtain ⟨t, h1, _⟩ := (key i o hi).2 i o hi
    exact ⟨t, h1⟩
  · obtain ⟨t', h3, h4, _⟩ := (key i o hi).2 j q hj
    rw [h2] at h3
    cases h3
    exact h4.resolve_right (fun z => z h1)
  · obtain ⟨t', h3, _, h4⟩ := (key i o hi).2 j q hj
    rw [h1] at h3
    cases h3
    exact h4 h2

/-- What the one operation that makes something gives. -/
def EffV (A : Ann) (all : List Oper) (H0 H1 : Heap) (env : List D) (o : Oper) (d : D) : Prop :=
  (Want all env o true ∧ isAppend o.op = true ∧ eff A env H0 o.op = some (true, d, H1)) ∨ (Want all env o false ∧ d = .tup [] ∧ H1 = H0)

/-- A region's run, told operation by operation. -/
structure Pl (A : Ann) (V : Lvl A) (ops : Array Oper) (H0 H1 : Heap) (e : Nat) (env E : List D) : Prop where
  len : E.length = env.length
  keepE : ∀ t, (∀ (j : Nat) o, ops[j]? = some o → o.dst ≠ some t) → get E t = get env t
  at_ : ∀ (j : Nat) o, ops[j]? = some o → ∃ env_j d, (j = e → EffV A ops.toList H0 H1 env_j o d) ∧ (j ≠ e → OpV A V ops.toList H0 env_j o d ∧ (∀ q, ops[e]? = some q → isMove o.op = true ∨ (j < e ∧ j ∈ needL ops.toList e [q] []))) ∧
    (∀ t, (∀ (i : Nat) q, j ≤ i → ops[i]? = some q → q.dst ≠ some t) → get env_j t = get E t) ∧ (∀ t, o.dst = some t → t < env.length → get E t = d) ∧
    (∀ t, (∀ (i : Nat) q, i < j → ops[i]? = some q → q.dst ≠ some t) → get env_j t = get env t)
  none_ : ops[e]? = none → H1 = H0

def wr (ops : Array Oper) (t : Nat) (p : Nat → Bool) : Bool := (List.range ops.size).any fun j => p j && ((ops[j]?).bind (·.dst) == some t)

theorem wr_iff {t : Nat} {p : Nat → Bool} : wr ops t p = true ↔ ∃ (j : Nat) (o : Oper), ops[j]? = some o ∧ o.dst = some t ∧ p j = true := by
  unfold wr
  rw [List.any_eq_true]
  constructor
  · rintro ⟨j, hj, h⟩
    rw [List.mem_range] at hj
    simp only [Bool.and_eq_true, beq_iff_eq] at h
    have : ops[j]? = some ops[j] := Array.getElem?_eq_getElem hj
    rw [this] at h
    exact ⟨j, _, this, h.2, h.1⟩
  · rintro ⟨j, o, h1, h2, h3⟩
    refine ⟨j, List.mem_range.mpr (Array.getElem?_eq_some_iff.1 h1).1, ?_⟩
    simp [h1, h2, h3]

/-- The slots while a part of a region's operations has run. -/
def mix (ops : Array Oper) (env E : List D) (p : Nat → Bool) : List D :=
  (List.range env.length).map fun t => if wr ops t p then get E t else get env t

theorem mix_get (hl : E.length = env.length) (p : Nat → Bool) (t : Nat) :
    get (mix ops env E p) t = if wr ops t p then get E t else get env t := by
  by_cases ht : t < env.length
  · simp [mix, get, ht]
  · rw [get_out (by simp [mix]; omega)]
    split
    · rw [get_out (by omega)]
    · rw [get_out (by omega)]

theorem mix_len (p : Nat → Bool) : (mix ops env E p).length = env.length := by simp [mix]

/-- How many have not run. -/
def cnt (p : Nat → Bool) : Nat → Nat
  | 0 => 0
  | n + 1 => cnt p n + (match p n with | true => 0 | false => 1)

theorem cnt_le {p q : Nat → Bool} (h : ∀ j, p j = true → q j = true) : ∀ n, cnt q n ≤ cnt p n
  | 0 => Nat.le_refl _
  | n + 1 => by
    have := cnt_le h n
    simp only [cnt]
    cases hp : p n
    · cases q n <;> simp only [] <;> omega
    · rw [h n hp]; simp only []; omega

theorem cnt_lt {p q : Nat → Bool} (h : ∀ j, p j = true → q j = true) {i : Nat} (h1 : p i = false) (h2 : q i = true) : ∀ n, i < n → cnt q n < cnt p n
  | 0, hi => absurd hi (by omega)
  | n + 1, hi => by
    simp only [cnt]
    by_cases e : i = n
    · subst e
      have := cnt_le h i
      rw [h1, h2]
      simp only []
      omega
    · have := cnt_lt h h1 h2 n (by omega)
      cases hp : p n
      · cases q n <;> simp only [] <;> omega
      · rw [h n hp]; simp only []; omega

theorem cnt_zero {p : Nat → Bool} : ∀ n, cnt p n = 0 → ∀ j, j < n → p j = true
  | 0, _, j, hj => absurd hj (by omega)
  | n + 1, h, j, hj => by
    simp only [cnt] at h
    by_cases e : j = n
    · subst e
      cases hp : p j
      · rw [hp] at h; simp at h
      · rfl
    · exact cnt_zero n (by omega) j (by omega)

theorem eff_congr {op : Op} (ha : isAppend op = true) (h : Same op env env') : eff A env H op = eff A env' H op := by
  cases op <;> simp only [isAppend] at ha <;> try (cases ha; done)
  case call c =>
    simp only [Same, Op.operands] at h
    have hc : ∀ x ∈ c.args, opd env x = opd env' x := fun x hx => h x (by simp [Call.operands, hx])
    simp only [eff]
    split
    · rename_i s x t t2 h1 h2 h3
      have e1 : opd env s = opd env' s := hc s (by rw [← Array.mem_toList_iff, h2]; simp)
      have e2 : opd env x = opd env' x := hc x (by rw [← Array.mem_toList_iff, h2]; simp)
      rw [e1, e2]
    · rfl

theorem NV.move {o : Oper} {d : D} (hm : isMove o.op = true) (h : NV A V H0 env o d) : NV A V H1 env o d := by
  rcases h with h | h | ⟨c, f, ds, ho, _⟩
  · left
    cases ho : o.op <;> rw [ho] at hm h <;> simp only [isMove] at hm <;> try (cases hm; done)
    all_goals simpa [nev] using h
  · cases ho : o.op <;> rw [ho] at hm h <;> simp only [isMove] at hm <;> try (cases hm; done)
    all_goals simp [litN] at h
  · rw [ho] at hm; simp [isMove] at hm

end
end Go.Proofs.Ytoafakkbmnnimaa.Ab
