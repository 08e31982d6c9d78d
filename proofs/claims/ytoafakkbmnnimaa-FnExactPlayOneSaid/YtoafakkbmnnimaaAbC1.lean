import Derived.Test.YtoafakkbmnnimaaAbB5
import Derived.Laws.Tables
import Derived.Laws.StructEq
import Derived.Laws.Strings
import Derived.Laws.BytesString
namespace Go.Proofs.Ytoafakkbmnnimaa.Ab
open Go
set_option linter.unusedVariables false
set_option linter.unusedSimpArgs false
set_option linter.unnecessarySimpa false

def zvals : Ty → List Value
  | .int k => [.int k 0]
  | .bool => [.bool false]
  | .str => [.string ⟨#[]⟩]
  | .sl _ => [.slice none 0 0]
  | .pair a b => zvals a ++ zvals b

def aggDesc : TypeDesc → Bool
  | .struct _ | .array _ _ => true
  | _ => false

/-- What the tables of an annotation say of the program's types. -/
structure TyOk (P : Program) (A : Ann) : Prop where
  lay : ∀ t n ag, A.lay t = some (n, ag) → ∃ i d, P.info? t = some i ∧ i.size = n ∧ P.underlying t = some d ∧ aggDesc d = ag
  fld : ∀ s f o n ag, A.fld s f = some (o, n, ag) → ∃ fs fd i d, P.underlying s = some (.struct fs) ∧ fs[f]? = some fd ∧ fd.offset = o ∧ P.info? fd.type = some i ∧ i.size = n ∧ n ≠ 0 ∧
    P.underlying fd.type = some d ∧ aggDesc d = ag
  tyi : ∀ t y, A.ty t = some y → ∃ i z, P.info? t = some i ∧ i.size = y.size ∧ i.zero = some z ∧ z.cells.toList = zvals y ∧ i.bytes ≤ 128 ∧ y.size ≤ 64
  int : ∀ t k, A.ty t = some (.int k) → P.underlying t = some (.int k)
  bool : ∀ t, A.ty t = some .bool → P.underlying t = some .bool
  str : ∀ t, A.ty t = some .str → P.underlying t = some .string
  sl : ∀ t e, A.ty t = some (.sl e) → ∃ et, P.underlying t = some (.slice et) ∧ A.ty et = some e
  some_ : ∀ t y, A.ty t = some y → ∃ d, P.underlying t = some d
  bld : ∀ t f o n ag, A.fld t f = some (o, n, ag) → ∃ it z fs places, P.info? t = some it ∧ P.underlying t = some (.struct fs) ∧ it.zero = some z ∧
    fs.toList.mapM (fun f => (P.info? f.type).map fun i => (f.offset, i.size)) = some places ∧ ∀ f o n ag, A.fld t f = some (o, n, ag) → places[f]? = some (o, n)
  eqt : ∀ t, A.eqt t = true → P.eqGuardType P.depth t = false ∧ ∀ (w : World) (cs ds : List D) (xs ys : Array Value) (b : Bool), eqCs cs ds = some b →
    (∀ N Np H B, CRs N Np H B w cs xs.toList → CRs N Np H B w ds ys.toList → (Op.equalIn 10000 t (.agg xs) (.agg ys)).run P w = .ok b w)
  mixed : P.follows .mixedOrders = true

section
variable {P : Program} {A : Ann} {C : Cx} {env : List D} {H : Heap} {B : List (Option Nat)} {a : Act} {w : World}

theorem add_mk (b o n : Nat) : (⟨b, o, none⟩ : Addr).add n = ⟨b, o + n, none⟩ := by
  unfold Addr.add; split <;> simp_all

theorem constD_ok {N Np : Nat → Prop} (v : Value) : CR N Np H B w (constD v) v := by
  unfold constD
  split <;> simp [CR]

theorem constA_ok {N Np : Nat → Prop} (v : Value) : CR N Np H B w (constA v) v := by
  unfold constA
  split
  · rename_i cs
    simp only [CR]
    refine ⟨cs, rfl, ?_⟩
    generalize cs.toList = l
    induction l with
    | nil => simp [CRs]
    | cons x l ih => simp only [List.map_cons, CRs]; exact ⟨x, l, rfl, constD_ok x, ih⟩
  · exact constD_ok v

theorem opd_ok (h : St C env H B a w) (x : Operand) : CR (C.N B) (C.Np B) H B w (opd env x) (a.eval x) := by
  cases x with
  | tmp t => exact h.envs t
  | const v => exact constA_ok v
  | global g => simp [opd, CR]
  | func f => simp only [opd, CR, Act.eval]; exact ⟨#[], rfl, by simp [CRs]⟩

theorem opds_ok (h : St C env H B a w) : ∀ (l : List Operand), CRs (C.N B) (C.Np B) H B w (l.map (opd env)) (l.map a.eval)
  | [] => by simp [CRs]
  | x :: l => by simp only [List.map_cons, CRs]; exact ⟨_, _, rfl, opd_ok h x, opds_ok h l⟩

theorem cellsOf_ok {N Np : Nat → Prop} {d : D} {v : Value} (h : CR N Np H B w d v) (hd : d ≠ .undef) : CRs N Np H B w (cellsOf d) v.cells.toList := by
  cases d <;> simp only [cellsOf, CRs, CR] at h ⊢ <;> try (exact absurd rfl hd)
  case agg cs => obtain ⟨vs, rfl, h⟩ := h; exact h
  case int => subst h; exact ⟨_, [], by simp [Value.cells], rfl, rfl⟩
  case bool => subst h; exact ⟨_, [], by simp [Value.cells], rfl, rfl⟩
  case str => subst h; exact ⟨_, [], by simp [Value.cells], rfl, rfl⟩
  case sl =>
    have h' := h
    obtain ⟨A, c, e, _⟩ := h
    injection e with e _
    subst e
    exact ⟨_, [], by simp [Value.cells], h', rfl⟩
  case nilsl => subst h; exact ⟨_, [], by simp [Value.cells], rfl, rfl⟩
  case hd => exact ⟨v, [], by cases v <;> first | rfl | (exact absurd h.1.2 (by simp [Value.oneCell'])), h, rfl⟩
  case hds => exact ⟨v, [], by cases v <;> first | rfl | (exact absurd h.1.2 (by simp [Value.oneCell'])), h, rfl⟩
  case ptr => exact ⟨v, [], by cases v <;> first | rfl | (exact absurd h.1.2 (by simp [Value.oneCell'])), h, rfl⟩
  case eptr => exact ⟨v, [], by cases v <;> first | rfl | (exact absurd h.1.2 (by simp [Value.oneCell'])), h, rfl⟩
  case rptr => obtain ⟨rb, ro, rfl, h⟩ := h; exact ⟨_, [], rfl, ⟨rb, ro, rfl, h⟩, rfl⟩
  case clo => obtain ⟨vs, rfl, h⟩ := h; exact ⟨_, [], rfl, ⟨vs, rfl, h⟩, rfl⟩
  case tup => obtain ⟨vs, rfl, h⟩ := h; exact ⟨_, [], rfl, ⟨vs, rfl, h⟩, rfl⟩

end
end Go.Proofs.Ytoafakkbmnnimaa.Ab
