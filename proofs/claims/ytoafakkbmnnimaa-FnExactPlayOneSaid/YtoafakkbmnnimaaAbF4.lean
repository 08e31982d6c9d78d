import Derived.Test.YtoafakkbmnnimaaAbF3
namespace Go.Proofs.Ytoafakkbmnnimaa.Ab
open Go
set_option linter.unusedVariables false
set_option linter.unusedSimpArgs false
set_option linter.unnecessarySimpa false
set_option linter.unusedSimpArgs false
set_option linter.unusedVariables false

theorem call_eq {P : Program} {A : Ann} {k f : Nat} {fn : Func} (hp : A.prim f = none) (hf : P.funcs[f]? = some fn) (x : (A.sig f).ins.den) :
    (lvl P A (k + 1)).call f x = body A (lvl P A k) k f fn x := by
  simp only [lvl, hp, hf]

theorem call_of {P : Program} {A : Ann} {f : Nat} {fn : Func} (hp : A.prim f = none) (hf : P.funcs[f]? = some fn) {X : Nat → (A.sig f).ins.den → Option (A.sig f).out.den} (hb : ∀ k x, body A (lvl P A k) k f fn x = X k x) (k : Nat)
    (x : (A.sig f).ins.den) : (lvl P A (k + 1)).call f x = X k x := (call_eq hp hf x).trans (hb _ _)

theorem names_of {P : Program} (h : (P.funcs.toList.all fun fn => !(fn.name == "runtime.NumGoroutine")) = true) (f : Nat) (fn : Func) (hf : P.funcs[f]? = some fn) : (fn.name == "runtime.NumGoroutine") = false := by
  have hm : fn ∈ P.funcs.toList := List.mem_of_getElem? (i := f) (by simpa using hf)
  have := List.all_eq_true.mp h fn hm
  simpa using this

/-- A loop that ends, and what it gives. -/
theorem loop_ind {X S : Type} {step : (X → Option S) → X → Option S} {r : S} (I : Nat → X → Prop)
    (h : ∀ m x, I m x → ∀ again : X → Option S, (∀ y m', m' < m → I m' y → again y = some r) → step again x = some r) : ∀ (n m : Nat) (x : X), m < n → I m x → loopN step n x = some r
  | 0, _, _, hm, _ => absurd hm (by omega)
  | n + 1, m, x, hm, hI => h m x hI _ (fun y m' hlt hy => loop_ind I h n m' y (by omega) hy)

theorem wrap64 {n : Int} (h1 : -9223372036854775808 ≤ n) (h2 : n ≤ 9223372036854775807) : IntKind.i64.wrap n = n := by
  simp [IntKind.wrap, IntKind.bits, IntKind.signed]
  omega

theorem wrap_nat {n : Nat} (h : n ≤ 4611686018427387904) : IntKind.i64.wrap (n : Int) = (n : Int) := wrap64 (by omega) (by omega)

theorem wrap_succ {i : Nat} (h : i < 4611686018427387904) : IntKind.i64.wrap ((i : Int) + (1 : Int)) = ((i + 1 : Nat) : Int) := by
  rw [wrap64 (by omega) (by omega)]; simp

theorem gIdx_nat {i n : Nat} (h : i < n) : gIdx (i : Int) n = true := by
  simp [gIdx, h]

theorem rdL_nat {t : Ty} {l : List t.den} {i : Nat} (h : i < l.length) : rdL t l ((i : Int)).toNat = l[i] := by
  simp [rdL, h]

theorem rdL_get {t : Ty} {l : List t.den} {i : Nat} (h : i < l.length) : rdL t l i = l[i] := by
  simp [rdL, h]

theorem strEq_iff {a b : ByteArray} : strEq a b = true ↔ a = b := by
  unfold strEq
  rw [beq_iff_eq]
  constructor
  · intro h
    rw [ByteArray.toList_eq, ByteArray.toList_eq] at h
    obtain ⟨⟨a⟩⟩ := a
    obtain ⟨⟨b⟩⟩ := b
    simp only at h
    rw [h]
  · intro h; rw [h]

theorem strEq_refl (a : ByteArray) : strEq a a = true := strEq_iff.mpr rfl

/-- A row filled one by one. -/
theorem fill_step {α : Type} {l : List α} {z : α} {i : Nat} {f : α → α} (h : i < l.length) :
    ((l.map f).take i ++ List.replicate (l.length - i) z).set i (f l[i]) = (l.map f).take (i + 1) ++ List.replicate (l.length - (i + 1)) z := by
  have h1 : ((l.map f).take i).length = i := by simp; omega
  rw [List.set_append_right _ _ (by omega), h1, Nat.sub_self]
  have : l.length - i = (l.length - (i + 1)) + 1 := by omega
  rw [this, List.replicate_succ, List.set_cons_zero, List.take_add_one]
  simp [h]

end Go.Proofs.Ytoafakkbmnnimaa.Ab
