import Derived.Test.YthhpkgegmfjdmaaGreatAbK2
import Derived.Test.YthhpkgegmfjdmaaGreatAbF4
namespace Go.Proofs.YthhpkgegmfjdmaaGreat.Ab
open Go
set_option linter.unusedVariables false
set_option linter.unusedSimpArgs false
set_option linter.unnecessarySimpa false
set_option linter.unusedSimpArgs false
set_option linter.unusedVariables false

/-! Tools for runs without a bound on rounds. -/

theorem gIdx_cast (i n : Nat) : gIdx (i : Int) n = decide (i < n) := by
  unfold gIdx
  by_cases h : i < n <;> simp [h]

theorem wrap_i64 (n : Int) : IntKind.i64.wrap n = (n + 9223372036854775808) % 18446744073709551616 - 9223372036854775808 := by
  simp [IntKind.wrap, IntKind.bits, IntKind.signed]
  split <;> omega

theorem wrap_u8 (n : Int) : IntKind.u8.wrap n = n % 256 := by
  simp [IntKind.wrap, IntKind.bits, IntKind.signed]

theorem wrap_u32 (n : Int) : IntKind.u32.wrap n = n % 4294967296 := by
  simp [IntKind.wrap, IntKind.bits, IntKind.signed]

theorem lt_cast (a b : Nat) : decide ((a : Int) < (b : Int)) = decide (a < b) := by simp

theorem succ_cast (i : Nat) : ((i + 1 : Nat) : Int) = (i : Int) + 1 := by simp

/-- A loop that counts up to n. -/
theorem W_nat {X R A : Type} (W : X → Option R) (n : Nat) (mk : A → Int → X) (res : Nat → A → R) (P : Nat → A → Prop)
    (hend : ∀ a, P n a → W (mk a (n : Int)) = some (res n a))
    (hstep : ∀ (i : Nat) a, i < n → P i a → W (mk a (i : Int)) = some (res i a) ∨ ∃ a', P (i + 1) a' ∧ res (i + 1) a' = res i a ∧ W (mk a (i : Int)) = W (mk a' ((i + 1 : Nat) : Int))) :
    ∀ (i : Nat) a, i ≤ n → P i a → W (mk a (i : Int)) = some (res i a) := by
  intro i a hi hP
  obtain ⟨d, hd⟩ : ∃ d, i + d = n := ⟨n - i, by omega⟩
  clear hi
  induction d generalizing i a with
  | zero =>
    have : i = n := by omega
    subst this
    exact hend a hP
  | succ d ih =>
    rcases hstep i a (by omega) hP with h | ⟨a', h1, h2, h3⟩
    · exact h
    · rw [h3, ih (i + 1) a' h1 (by omega), h2]

/-- What a loop over a list gives: f takes an element and goes on or ends. -/
def iter {E A R : Type} (f : Nat → E → A → A ⊕ R) (fin : A → R) : Nat → List E → A → R
  | _, [], a => fin a
  | i, x :: l, a => match f i x a with
    | .inl a' => iter f fin (i + 1) l a'
    | .inr r => r

/-- A loop over a list. -/
theorem W_iter {X R A E : Type} (W : X → Option R) (l : List E) (mk : A → Int → X) (f : Nat → E → A → A ⊕ R) (fin : A → R) (P : Nat → A → Prop)
    (hend : ∀ a, P l.length a → W (mk a (l.length : Int)) = some (fin a))
    (hstep : ∀ (i : Nat) (h : i < l.length) a, P i a → match f i l[i] a with
      | .inl a' => P (i + 1) a' ∧ W (mk a (i : Int)) = W (mk a' ((i + 1 : Nat) : Int))
      | .inr r => W (mk a (i : Int)) = some r) (a : A) (hP : P 0 a) : W (mk a 0) = some (iter f fin 0 l a) := by
  have key := W_nat W l.length mk (fun i a => iter f fin i (l.drop i) a) P (fun a h => by
    rw [hend a h, List.drop_eq_nil_of_le (Nat.le_refl _)]; rfl) (fun i a hi hP => by
      have hs := hstep i hi a hP
      have hd : l.drop i = l[i] :: l.drop (i + 1) := List.drop_eq_getElem_cons hi
      rw [hd]
      simp only [iter]
      cases hf : f i l[i] a with
      | inl a' =>
        rw [hf] at hs
        exact .inr ⟨a', hs.1, rfl, hs.2⟩
      | inr r =>
        rw [hf] at hs
        exact .inl hs) 0 a (Nat.zero_le _) hP
  exact key

theorem bind_some' {A B : Type} (a : A) (f : A → Option B) : (some a).bind f = f a := rfl

/-! ### Budgets -/
/-- What is left of b when w is used; -1 when it is not enough. -/
def szr (b : Int) (w : Nat) : Int := if (w : Int) ≤ b then b - w else -1

theorem szr_neg {b : Int} {w : Nat} : szr b w < 0 ↔ ¬ (w : Int) ≤ b := by
  unfold szr
  split <;> omega

theorem szr_ok {b : Int} {w : Nat} (h : (w : Int) ≤ b) : szr b w = b - w := if_pos h
theorem szr_no {b : Int} {w : Nat} (h : ¬ (w : Int) ≤ b) : szr b w = -1 := if_neg h

theorem szr_add {b : Int} {v w : Nat} (h : (v : Int) ≤ b) : szr (b - v) w = szr b (v + w) := by
  unfold szr
  by_cases h2 : (w : Int) ≤ b - v
  · rw [if_pos h2, if_pos (by omega)]; omega
  · rw [if_neg h2, if_neg (by omega)]

/-- The weight of data: the bytes of texts, and one for each element of a list. -/
def Ty.wt : (t : Ty) → t.den → Nat
  | .int _, _ => 0
  | .bool, _ => 0
  | .str, s => s.size
  | .sl e, l => l.length + (l.map e.wt).sum
  | .pair a b, x => a.wt x.1 + b.wt x.2

/-- One field's step, and what follows. -/
theorem szr_bind {b : Int} {v w : Nat} {F : Option Int} {K : Int → Option Int} (hF : F = some (szr b v)) (hK : (v : Int) ≤ b → K (b - v) = some (szr (b - v) w)) :
    (F.bind fun y => bif decide (y < 0) then some (-1) else K y) = some (szr b (v + w)) := by
  subst hF
  by_cases h : (v : Int) ≤ b
  · rw [szr_ok h]
    have : decide (b - (v : Int) < 0) = false := by simp; omega
    simp only [Option.bind_some, this, cond_false]
    rw [hK h, szr_add h]
  · rw [szr_no h, szr_no (b := b) (w := v + w) (by omega)]
    rfl

theorem szr_here {b : Int} {v w : Nat} {e : Int} {K : Option Int} (hb : 0 ≤ b) (hb2 : b ≤ 1048576) (he : e = IntKind.i64.wrap (b - (v : Int))) (hv : v ≤ 9223372036854775807) (hK : (v : Int) ≤ b → K = some (szr (b - v) w)) :
    (bif decide (e < 0) then some (-1) else K) = some (szr b (v + w)) := by
  rw [he, wrap64 (by omega) (by omega)]
  by_cases h : (v : Int) ≤ b
  · have : decide (b - (v : Int) < 0) = false := by simp; omega
    rw [this, cond_false, hK h, szr_add h]
  · have : decide (b - (v : Int) < 0) = true := by simp; omega
    rw [this, szr_no (b := b) (w := v + w) (by omega)]
    rfl

/-- A loop that looks for one that passes. -/
theorem W_any {X R E : Type} (W : X → Option R) (l : List E) (mk : Int → X) (p : E → Bool) (yes no : R) (hend : W (mk (l.length : Int)) = some no)
    (hstep : ∀ (i : Nat) (h : i < l.length), W (mk (i : Int)) = bif p l[i] then some yes else W (mk ((i + 1 : Nat) : Int))) : W (mk 0) = some (bif l.any p then yes else no) := by
  have := W_iter W l (fun (_ : Unit) i => mk i) (fun _ x _ => if p x then .inr yes else .inl ()) (fun _ => no) (fun _ _ => True) (fun _ _ => hend) (fun i h a _ => by
    have hs := hstep i h
    cases hp : p l[i] with
    | true => simp only [hp, cond_true] at hs; simp only [if_true]; exact hs
    | false => simp only [hp, cond_false] at hs; simp only [Bool.false_eq_true, if_false]; exact ⟨trivial, hs⟩) () trivial
  rw [this]
  congr 1
  have key : ∀ (l : List E) (i : Nat), iter (fun _ x (_ : Unit) => if p x then .inr yes else .inl ()) (fun _ => no) i l () = bif l.any p then yes else no := by
    intro l
    induction l with
    | nil => intro i; rfl
    | cons x l ih =>
      intro i
      simp only [iter, List.any_cons]
      cases hp : p x with
      | true => simp
      | false => simp only [Bool.false_eq_true, if_false, Bool.false_or]; exact ih _
  exact key l 0

/-- A loop that goes over all. -/
theorem W_fold {X R E A : Type} (W : X → Option R) (l : List E) (mk : A → Int → X) (f : A → E → A) (fin : A → R) (P : Nat → A → Prop)
    (hend : ∀ a, P l.length a → W (mk a (l.length : Int)) = some (fin a))
    (hstep : ∀ (i : Nat) (h : i < l.length) a, P i a → P (i + 1) (f a l[i]) ∧ W (mk a (i : Int)) = W (mk (f a l[i]) ((i + 1 : Nat) : Int))) (a : A) (hP : P 0 a) : W (mk a 0) = some (fin (l.foldl f a)) := by
  have := W_iter W l mk (fun _ x a => .inl (f a x)) fin P hend (fun i h a hp => hstep i h a hp) a hP
  rw [this]
  congr 1
  have key : ∀ (l : List E) (i : Nat) (a : A), iter (fun _ x a => (.inl (f a x) : A ⊕ R)) fin i l a = fin (l.foldl f a) := by
    intro l
    induction l with
    | nil => intro i a; rfl
    | cons x l ih => intro i a; simp only [iter, List.foldl_cons]; exact ih _ _
  exact key l 0 a

/-- A loop that picks some, each as g tells. -/
theorem W_pick {X R E B : Type} (W : X → Option R) (l : List E) (mk : List B → Int → X) (p : E → Bool) (g : E → B) (fin : List B → R) (hl : l.length ≤ 1099511627776)
    (hend : ∀ a : List B, a.length ≤ l.length → W (mk a (l.length : Int)) = some (fin a))
    (hstep : ∀ (i : Nat) (h : i < l.length) (a : List B), a.length ≤ i → W (mk a (i : Int)) = bif p l[i] then W (mk (a ++ [g l[i]]) ((i + 1 : Nat) : Int)) else W (mk a ((i + 1 : Nat) : Int))) : W (mk [] 0) = some (fin ((l.filter p).map g)) := by
  have := W_fold W l mk (fun a x => if p x then a ++ [g x] else a) fin (fun i a => a.length ≤ i) hend (fun i h a hp => by
    have hs := hstep i h a hp
    cases hc : p l[i] with
    | true =>
      simp only [hc, cond_true] at hs
      simp only [if_true]
      exact ⟨by simp; omega, hs⟩
    | false =>
      simp only [hc, cond_false] at hs
      simp only [Bool.false_eq_true, if_false]
      exact ⟨by omega, hs⟩) [] (Nat.le_refl 0)
  rw [this]
  congr 1
  have key : ∀ (l : List E) (a : List B), l.foldl (fun a x => if p x then a ++ [g x] else a) a = a ++ (l.filter p).map g := by
    intro l
    induction l with
    | nil => intro a; simp
    | cons x l ih =>
      intro a
      simp only [List.foldl_cons, ih, List.filter_cons]
      cases hp : p x <;> simp
  rw [key]; simp

end Go.Proofs.YthhpkgegmfjdmaaGreat.Ab
