import Derived.Test.YtoafakkbmnnimaaAbD7
namespace Go.Proofs.Ytoafakkbmnnimaa.Ab
open Go
set_option linter.unusedVariables false
set_option linter.unusedSimpArgs false
set_option linter.unnecessarySimpa false
set_option linter.unusedSimpArgs false
set_option linter.unusedVariables false

section
variable {P : Program} {A : Ann} {V : Lvl A} {all : List Oper} {C : Cx} {env env' : List D} {H : Heap} {B : List (Option Nat)} {a : Act} {w w' : World}

def Same (op : Op) (env env' : List D) : Prop := ∀ x ∈ op.operands, opd env x = opd env' x

theorem parts_congr {ps : Array (Nat × Operand)} (h : ∀ x ∈ ps.map (·.2), opd env x = opd env' x) :
    (ps.toList.map fun p => (p.1, opd env p.2)) = (ps.toList.map fun p => (p.1, opd env' p.2)) :=
  List.map_congr_left fun p hm => by
    have := h p.2 (Array.mem_map.2 ⟨p, by simpa using hm, rfl⟩)
    rw [this]

theorem args_congr {ps : Array Operand} (h : ∀ x ∈ ps, opd env x = opd env' x) : ps.toList.map (opd env) = ps.toList.map (opd env') :=
  List.map_congr_left fun p hm => h p (by simpa using hm)

theorem nev_congr {op : Op} (h : Same op env env') : nev A env H op = nev A env' H op := by
  cases op <;> simp only [Same, Op.operands] at h <;> simp only [nev] <;> try rfl
  case build t ps =>
    rw [parts_congr (fun x hx => h x (by simpa using hx))]
  case makeFunc f fs cs =>
    cases f <;> simp only [] <;> try rfl
    rw [args_congr (ps := cs) fun x hx => h x (by simp [hx])]
  case call c =>
    have hc : ∀ x ∈ c.args, opd env x = opd env' x := fun x hx => h x (by simp [Call.operands, hx])
    split
    · rename_i x h1 h2
      have : opd env x = opd env' x := hc x (by rw [← Array.mem_toList_iff, h2]; simp)
      rw [this]
    · rename_i x y h1 h2
      have e1 : opd env x = opd env' x := hc x (by rw [← Array.mem_toList_iff, h2]; simp)
      have e2 : opd env y = opd env' y := hc y (by rw [← Array.mem_toList_iff, h2]; simp)
      rw [e1, e2]
    · rename_i x y h1 h2
      have e1 : opd env x = opd env' x := hc x (by rw [← Array.mem_toList_iff, h2]; simp)
      have e2 : opd env y = opd env' y := hc y (by rw [← Array.mem_toList_iff, h2]; simp)
      rw [e1, e2]
    · rfl
  case slice t x lo hi mx => cases lo <;> cases hi <;> cases mx <;> simp_all [nev]
  all_goals (simp_all)

theorem litN_congr {op : Op} (h : Same op env env') : litN A env H op = litN A env' H op := by
  cases op <;> simp only [Same, Op.operands] at h <;> simp only [litN] <;> try rfl
  case buildSlice t n ps =>
    rw [parts_congr (fun x hx => h x (by simpa using hx))]

theorem callee_congr {c : Call} (h : Same (.call c) env env') : callee env c = callee env' c := by
  simp only [Same, Op.operands] at h
  have hc : ∀ x ∈ c.args, opd env x = opd env' x := fun x hx => h x (by simp [Call.operands, hx])
  unfold callee
  split
  · rename_i f hf
    have : opd env f = opd env' f := h f (by simp [Call.operands, hf])
    rw [this, args_congr hc]
  · rfl

/-- What a call gives where nothing may be made. -/
def CallNV (A : Ann) (V : Lvl A) (H : Heap) (f : Nat) (ds : List D) (d : D) : Prop :=
  ∃ x u y, ext true H (A.sig f).ins ds [] = some (x, [], u) ∧ (((A.sig f).out.perm || !u.lent) && u.ids.isEmpty && (A.sig f).inout.isEmpty && nshape (A.sig f).out) = true ∧
    V.call f x = some y ∧ d = resD ((embN (A.sig f).out y).take (A.sig f).nres)

def NV (A : Ann) (V : Lvl A) (H : Heap) (env : List D) (o : Oper) (d : D) : Prop :=
  nev A env H o.op = some (true, d) ∨ litN A env H o.op = some d ∨ ∃ c f ds, o.op = .call c ∧ callee env c = some (f, ds) ∧ CallNV A V H f ds d

theorem NV.congr {o : Oper} {d : D} (h : Same o.op env env') (k : NV A V H env o d) : NV A V H env' o d := by
  rcases k with k | k | ⟨c, f, ds, h1, h2, h3⟩
  · exact .inl (by rw [← nev_congr h]; exact k)
  · exact .inr (.inl (by rw [← litN_congr h]; exact k))
  · exact .inr (.inr ⟨c, f, ds, h1, by rw [← callee_congr (by rw [← h1]; exact h)]; exact h2, h3⟩)

/-- What a guard says. -/
def Want (all : List Oper) (env : List D) (o : Oper) (b : Bool) : Prop :=
  match o.guard with
  | none => b = true
  | some (j, want) => ∃ t, (all[j]?).bind (·.dst) = some t ∧ ((∃ c, get env t = .bool c ∧ b = (c == want)) ∨ (get env t = .tup [] ∧ b = false))

def OpV (A : Ann) (V : Lvl A) (all : List Oper) (H : Heap) (env : List D) (o : Oper) (d : D) : Prop :=
  (Want all env o true ∧ NV A V H env o d) ∨ (Want all env o false ∧ d = .tup [])

inductive Tr (A : Ann) (V : Lvl A) (all : List Oper) (H : Heap) : List Oper → List D → List D → Prop
  | nil (env : List D) : Tr A V all H [] env env
  | cons {o : Oper} {os : List Oper} {env E : List D} {d : D} : OpV A V all H env o d → Tr A V all H os (putE env o.dst d) E → Tr A V all H (o :: os) env E

theorem set_self {t : Nat} {d : D} (h : get env t = d) : env.set t d = env := by
  by_cases hl : t < env.length
  · subst h
    have : get env t = env[t] := by simp [get, hl]
    rw [this]
    exact List.set_getElem_self hl
  · exact List.set_eq_of_length_le (by omega)

/-- Both ways of a guard, told apart. -/
theorem guardE_some {R : Type} {o : Oper} {yes no : List D → Option R} {r : R} (h : guardE R all o env yes no = some r) :
    (Want all env o true ∧ yes env = some r) ∨ (Want all env o false ∧ no env = some r) := by
  unfold guardE at h
  cases hg : o.guard with
  | none => rw [hg] at h; exact .inl ⟨by simp [Want, hg], h⟩
  | some g =>
    obtain ⟨j, want⟩ := g
    rw [hg] at h
    simp only at h
    cases ht : (all[j]?).bind (·.dst) with
    | none => rw [ht] at h; cases h
    | some t =>
      rw [ht] at h
      simp only at h
      cases hb : get env t <;> rw [hb] at h <;> (try simp only at h) <;> try (cases h; done)
      case tup vs =>
        cases vs with
        | cons _ _ => cases h
        | nil => exact .inr ⟨by unfold Want; rw [hg]; exact ⟨t, ht, .inr ⟨hb, rfl⟩⟩, h⟩
      rename_i b
      have hw : ∀ c, (b == want) = c → Want all env o c := fun c hc => by
        unfold Want
        rw [hg]
        exact ⟨t, ht, .inl ⟨b, hb, hc.symm⟩⟩
      cases want <;> cases b <;> simp only [cond] at h <;> rw [set_self hb] at h
      · exact .inl ⟨hw _ rfl, h⟩
      · exact .inr ⟨hw _ rfl, h⟩
      · exact .inr ⟨hw _ rfl, h⟩
      · exact .inl ⟨hw _ rfl, h⟩

theorem callN_some {R : Type} {f : Nat} {ds : List D} {K : D → Option R} {r : R} (h : callN A V R f ds H K = some r) : ∃ d, CallNV A V H f ds d ∧ K d = some r := by
  unfold callN at h
  split at h
  · rename_i x u he
    split at h
    · rename_i hc
      cases hy : V.call f x with
      | none => rw [hy] at h; cases h
      | some y =>
        rw [hy] at h
        exact ⟨_, ⟨x, u, y, he, hc, hy, rfl⟩, h⟩
    · cases h
  · cases h

theorem runN_tr {R : Type} {K : List D → Option R} {r : R} : ∀ {ops : List Oper} {env : List D}, runN A V R all H K ops env = some r → ∃ E, Tr A V all H ops env E ∧ K E = some r
  | [], env, h => ⟨env, .nil env, h⟩
  | o :: os, env, h => by
    simp only [runN] at h
    rcases guardE_some h with ⟨hw, h⟩ | ⟨hw, h⟩
    · split at h
      · rename_i g d he
        cases g with
        | false => cases h
        | true =>
          obtain ⟨E, h1, h2⟩ := runN_tr h
          exact ⟨E, .cons (.inl ⟨hw, .inl he⟩) h1, h2⟩
      · split at h
        · rename_i d he
          obtain ⟨E, h1, h2⟩ := runN_tr h
          exact ⟨E, .cons (.inl ⟨hw, .inr (.inl he)⟩) h1, h2⟩
        · split at h
          · rename_i c ho
            split at h
            · rename_i f ds hc
              obtain ⟨d, hd, h⟩ := callN_some h
              obtain ⟨E, h1, h2⟩ := runN_tr h
              exact ⟨E, .cons (.inl ⟨hw, .inr (.inr ⟨c, f, ds, ho, hc, hd⟩)⟩) h1, h2⟩
            · cases h
          · cases h
    · obtain ⟨E, h1, h2⟩ := runN_tr h
      exact ⟨E, .cons (.inr ⟨hw, rfl⟩) h1, h2⟩

end
end Go.Proofs.Ytoafakkbmnnimaa.Ab
