import Derived.Test.YthhpkgegmfjdmaaAbVT
namespace Go.Proofs.Ythhpkgegmfjdmaa.Ab
open Go
set_option linter.unusedVariables false
set_option linter.unusedSimpArgs false
set_option linter.unnecessarySimpa false
set_option linter.unusedSimpArgs false
set_option linter.unusedVariables false

/-! ### Loops over numbers -/
theorem range_split {n i : Nat} (h : i < n) : (List.range n).drop i = i :: (List.range n).drop (i + 1) := by
  have := List.drop_eq_getElem_cons (l := List.range n) (i := i) (by simpa using h)
  simpa using this

/-- A loop that looks for the first that passes. -/
theorem W_find {X R : Type} (W : X → Option R) (n : Nat) (mk : Int → X) (p : Nat → Bool) (yes : Nat → R) (no : R) (hend : W (mk (n : Int)) = some no)
    (hstep : ∀ i, i < n → W (mk (i : Int)) = bif p i then some (yes i) else W (mk ((i + 1 : Nat) : Int))) : W (mk 0) = some (match (List.range n).find? p with
      | some i => yes i
      | none => no) := by
  have := W_nat W n (fun (_ : Unit) i => mk i) (fun i _ => match ((List.range n).drop i).find? p with
      | some i => yes i
      | none => no) (fun _ _ => True) (fun _ _ => by
        rw [hend, List.drop_eq_nil_of_le (by simp)]; rfl) (fun i a hi _ => by
        have hs := hstep i hi
        rw [range_split hi, List.find?_cons]
        cases hp : p i with
        | true => rw [hp, cond_true] at hs; exact .inl hs
        | false => rw [hp, cond_false] at hs; exact .inr ⟨(), trivial, rfl, hs⟩) 0 () (Nat.zero_le _) trivial
  exact this

/-- A loop that goes over all and keeps whether one passed. -/
theorem W_flag {X R : Type} (W : X → Option R) (n : Nat) (mk : Bool → Int → X) (p : Nat → Bool) (fin : Bool → R) (hend : ∀ b, W (mk b (n : Int)) = some (fin b))
    (hstep : ∀ b i, i < n → W (mk b (i : Int)) = W (mk (b || p i) ((i + 1 : Nat) : Int))) (b : Bool) : W (mk b 0) = some (fin (b || (List.range n).any p)) := by
  have := W_nat W n mk (fun i b => fin (b || ((List.range n).drop i).any p)) (fun _ _ => True) (fun b _ => by
        rw [hend, List.drop_eq_nil_of_le (by simp)]; simp) (fun i b hi _ => .inr ⟨b || p i, trivial, by
        rw [range_split hi, List.any_cons, Bool.or_assoc], hstep b i hi⟩) 0 b (Nat.zero_le _) trivial
  exact this

/-- A loop that goes on while all pass. -/
theorem W_while {X R : Type} (W : X → Option R) (n : Nat) (mk : Bool → Int → X) (p : Nat → Bool) (fin : Bool → R) (hend : ∀ b, W (mk b (n : Int)) = some (fin b)) (hstop : ∀ i, i < n → W (mk false (i : Int)) = some (fin false))
    (hstep : ∀ i, i < n → W (mk true (i : Int)) = W (mk (p i) ((i + 1 : Nat) : Int))) (b : Bool) : W (mk b 0) = some (fin (b && (List.range n).all p)) := by
  have := W_nat W n mk (fun i b => fin (b && ((List.range n).drop i).all p)) (fun _ _ => True) (fun b _ => by
        rw [hend, List.drop_eq_nil_of_le (by simp)]; simp) (fun i b hi _ => by
        cases b with
        | false => exact .inl (by rw [hstop i hi]; simp)
        | true => exact .inr ⟨p i, trivial, by rw [range_split hi, List.all_cons, Bool.true_and], hstep i hi⟩) 0 b (Nat.zero_le _) trivial
  exact this

/-! ### Whether a number is in a list -/
def asInts (t : List Nat) : List Int := t.map fun i : Nat => (i : Int)
theorem asInts_len (t : List Nat) : (asInts t).length = t.length := by simp [asInts]

theorem Contains_int (t : List Nat) (j : Nat) (ht : t.length ≤ 1099511627776) : q_slices_Contains_int_int (asInts t, (j : Int)) = some (t.contains j) := by
  have key : ∀ (d i : Nat), i + d = t.length → (W_slices_Index_int_int_2 (asInts t, (j : Int), (t.length : Int), (i : Int)) = some (.inl ()) ∧ (t.drop i).contains j = false) ∨
      ∃ k : Nat, W_slices_Index_int_int_2 (asInts t, (j : Int), (t.length : Int), (i : Int)) = some (.inr (k : Int)) ∧ (t.drop i).contains j = true := by
    intro d
    induction d with
    | zero =>
      intro i hi
      have : i = t.length := by omega
      subst this
      left
      rw [w_slices_Index_int_int_2]
      simp only [S_slices_Index_int_int_2, lt_cast, Nat.lt_irrefl, decide_false, cond_false, List.drop_length]
      exact ⟨trivial, rfl⟩
    | succ d ih =>
      intro i hi
      have h : i < t.length := by omega
      have h' : i < (asInts t).length := by simpa [asInts] using h
      have hr : rdL (Ty.int .i64) (asInts t) i = (t[i] : Int) := by
        rw [rdL_get (t := Ty.int .i64) h']; simp [asInts]
      rw [w_slices_Index_int_int_2, List.drop_eq_getElem_cons h, List.contains_cons]
      simp only [S_slices_Index_int_int_2, lt_cast, h, decide_true, cond_true, gIdx_nat h', Int.toNat_natCast, hr]
      by_cases e : j = t[i]
      · right
        refine ⟨i, ?_, ?_⟩
        · simp [e, asInts_len, h]
        · simp [e]
      · have e1 : decide ((j : Int) = (t[i] : Int)) = false := by simp; omega
        have e2 : (j == t[i]) = false := by simpa using e
        rw [e1, cond_false, wrap_succ (by omega), e2, Bool.false_or]
        exact ih (i + 1) (by omega)
  rw [e_slices_Contains_int_int]; unfold X_slices_Contains_int_int
  rw [e_slices_Index_int_int]; unfold X_slices_Index_int_int
  simp only [asInts_len]
  rcases key t.length 0 (by omega) with ⟨h1, h2⟩ | ⟨k, h1, h2⟩
  · have h1 : W_slices_Index_int_int_2 (asInts t, (j : Int), (t.length : Int), 0) = _ := h1
    rw [List.drop_zero] at h2
    simp only [h1, Option.bind_some, h2]
    rfl
  · have h1 : W_slices_Index_int_int_2 (asInts t, (j : Int), (t.length : Int), 0) = _ := h1
    rw [List.drop_zero] at h2
    simp only [h1, Option.bind_some, h2]
    simp

/-! ### An order -/
def bfAt (l : List YTxn.den) (j i : Nat) : Bool := before (rdL YTxn l j) (rdL YTxn l i)
/-- i may come next behind those of t. -/
def nextOk (l : List YTxn.den) (t : List Nat) (i : Nat) : Bool := !t.contains i && !(List.range l.length).any (fun j => !decide (j = i) && (!t.contains j && bfAt l j i))
def pickNext (l : List YTxn.den) (t : List Nat) : Option Nat := (List.range l.length).find? (nextOk l t)
def ordGo (l : List YTxn.den) : Nat → List Nat → Option (List Nat)
  | 0, t => some t
  | k + 1, t => match pickNext l t with
    | none => none
    | some i => ordGo l k (t ++ [i])
def ordOf (l : List YTxn.den) : Option (List Nat) := ordGo l l.length []
def ordRes : Option (List Nat) → List Int × Bool
  | some t => (asInts t, true)
  | none => ([], false)

theorem asInts_snoc (t : List Nat) (i : Nat) : asInts t ++ [(i : Int)] = asInts (t ++ [i]) := by simp [asInts]

section
variable {l : List YTxn.den} (hw : ∀ x ∈ l, YTxn.wt x ≤ big40) (hl : l.length ≤ 1048576)
include hw hl

theorem blocked_impl (t : List Nat) (ht : t.length ≤ l.length) (m : Bool) (i : Nat) (hi : i < l.length) (l2 : List YTxn.den) (n2 i2 : Int) (b : Bool) :
    W_impl_SerialOrder_10 (l, asInts t, m, (i : Int), l[i], b, l2, n2, i2, l, (l.length : Int), 0) = some (.inl (l, asInts t, m, (i : Int), b || (List.range l.length).any (fun j => !decide (j = i) && (!t.contains j && bfAt l j i)), l2, n2, i2)) := by
  have := W_flag W_impl_SerialOrder_10 l.length (fun b j => (l, asInts t, m, (i : Int), l[i], b, l2, n2, i2, l, (l.length : Int), j)) (fun j => !decide (j = i) && (!t.contains j && bfAt l j i)) (fun b => .inl (l, asInts t, m, (i : Int), b, l2, n2, i2))
    (fun b => by
      rw [w_impl_SerialOrder_10]; simp only [S_impl_SerialOrder_10, lt_cast, Nat.lt_irrefl, decide_false, cond_false])
    (fun b j hj => by
      have hc : q_slices_Contains_int_int (asInts t, (j : Int)) = some (t.contains j) := Contains_int t j (by omega)
      have hb : q_impl_Before (l[j], l[i]) = some (bfAt l j i) := by
        rw [Before_impl _ _ (hw _ (List.getElem_mem hj)) (hw _ (List.getElem_mem hi))]
        unfold bfAt
        rw [rdL_get hj, rdL_get hi]
      rw [w_impl_SerialOrder_10]
      simp only [S_impl_SerialOrder_10, lt_cast, hj, decide_true, cond_true, gIdx_nat hj, Int.toNat_natCast, rdL_get hj, hc, hb, Option.bind_some]
      have he : decide ((j : Int) = (i : Int)) = decide (j = i) := by by_cases e : j = i <;> simp [e] <;> omega
      rw [wrap_succ (by omega), he]
      cases b <;> cases decide (j = i) <;> cases t.contains j <;> cases bfAt l j i <;> rfl) b
  exact this

theorem pick_impl (t : List Nat) (ht : t.length ≤ l.length) (m : Bool) :
    W_impl_SerialOrder_5 (l, asInts t, m, l, (l.length : Int), 0) = some (match pickNext l t with
      | some i => .inl (l, asInts (t ++ [i]), true)
      | none => .inl (l, asInts t, m)) := by
  have := W_find W_impl_SerialOrder_5 l.length (fun i => (l, asInts t, m, l, (l.length : Int), i)) (nextOk l t) (fun i => .inl (l, asInts (t ++ [i]), true)) (.inl (l, asInts t, m))
    (by rw [w_impl_SerialOrder_5]; simp only [S_impl_SerialOrder_5, lt_cast, Nat.lt_irrefl, decide_false, cond_false])
    (fun i hi => by
      have hc : q_slices_Contains_int_int (asInts t, (i : Int)) = some (t.contains i) := Contains_int t i (by omega)
      have hk : Nat.ble ((asInts t).length + ([(i : Int)] : List Int).length) cap40 = true := by
        rw [Nat.ble_eq, asInts_len]; simp only [List.length_cons, List.length_nil, cap40]; omega
      rw [w_impl_SerialOrder_5]
      simp only [S_impl_SerialOrder_5, lt_cast, hi, decide_true, cond_true, gIdx_nat hi, Int.toNat_natCast, rdL_get hi, hc, Option.bind_some, blocked_impl hw hl t ht m i hi l (l.length : Int) (i : Int) false, hk, Bool.false_or, asInts_snoc]
      rw [wrap_succ (by omega)]
      unfold nextOk
      cases t.contains i <;> cases (List.range l.length).any (fun j => !decide (j = i) && (!t.contains j && bfAt l j i)) <;> rfl)
  rw [this]
  unfold pickNext
  cases (List.range l.length).find? (nextOk l t) <;> rfl

theorem go_impl : ∀ (k : Nat) (t : List Nat), t.length + k = l.length → W_impl_SerialOrder_2 (l, asInts t) = some (match ordGo l k t with
    | some t => .inl (asInts t)
    | none => .inr ([], false))
  | 0, t, h => by
    rw [w_impl_SerialOrder_2]
    have : ¬ ((asInts t).length : Int) < (l.length : Int) := by rw [asInts_len]; omega
    simp only [S_impl_SerialOrder_2, this, decide_false, cond_false]
    rfl
  | k + 1, t, h => by
    rw [w_impl_SerialOrder_2]
    have : ((asInts t).length : Int) < (l.length : Int) := by rw [asInts_len]; omega
    simp only [S_impl_SerialOrder_2, this, decide_true, cond_true, pick_impl hw hl t (by omega) false, Option.bind_some, ordGo]
    cases hp : pickNext l t with
    | none => rfl
    | some i =>
      simp only [Bool.not_true, cond_false]
      exact go_impl k (t ++ [i]) (by simp; omega)

theorem SerialOrder_impl : q_impl_SerialOrder l = some (ordRes (ordOf l)) := by
  have h : W_impl_SerialOrder_2 (l, []) = _ := go_impl hw hl l.length [] (by simp)
  rw [e_impl_SerialOrder]; unfold X_impl_SerialOrder
  simp only [h, Option.bind_some]
  unfold ordOf
  cases ordGo l l.length [] <;> rfl

/-! The reference's. -/
def leftOf (n : Nat) (t : List Nat) : List Bool := (List.range n).map fun i => !t.contains i

omit hw hl in
theorem leftOf_get {n : Nat} {t : List Nat} {i : Nat} (h : i < n) : rdL Ty.bool (leftOf n t) i = !t.contains i := by
  have h' : i < (leftOf n t).length := by simp [leftOf, h]
  rw [rdL_get (t := Ty.bool) h']
  simp [leftOf]
omit hw hl in
theorem leftOf_len {n : Nat} {t : List Nat} : (leftOf n t).length = n := by simp [leftOf]
omit hw hl in
theorem leftOf_set {n : Nat} {t : List Nat} {i : Nat} : (leftOf n t).set i false = leftOf n (t ++ [i]) := by
  apply List.ext_getElem
  · simp [leftOf]
  · intro j h1 h2
    rw [List.getElem_set]
    simp only [leftOf, List.getElem_map, List.getElem_range, List.contains_eq_mem, List.mem_append, List.mem_cons, List.not_mem_nil, or_false]
    by_cases e : i = j
    · simp [e]
    · have : ¬ j = i := fun z => e z.symm
      simp [e, this]
omit hw hl in
theorem leftOf_nil {n : Nat} : leftOf n [] = List.replicate n true := by
  apply List.ext_getElem
  · simp [leftOf]
  · intro j h1 h2
    simp [leftOf]

theorem free_spec (t : List Nat) (nx : Int) (i : Nat) (hi : i < l.length) (b : Bool) :
    W_spec_SerialOrder_14 (l, leftOf l.length t, asInts t, nx, (i : Int), b, 0) = some (.inl (l, leftOf l.length t, asInts t, nx, (i : Int), b && (List.range l.length).all (fun j => t.contains j || decide (j = i) || !bfAt l j i))) := by
  exact W_while W_spec_SerialOrder_14 l.length (fun b j => (l, leftOf l.length t, asInts t, nx, (i : Int), b, j)) (fun j => t.contains j || decide (j = i) || !bfAt l j i) (fun b => .inl (l, leftOf l.length t, asInts t, nx, (i : Int), b))
    (fun b => by
      rw [w_spec_SerialOrder_14]; simp only [S_spec_SerialOrder_14, lt_cast, Nat.lt_irrefl, decide_false, cond_false, Option.bind_some])
    (fun j hj => by
      rw [w_spec_SerialOrder_14]; simp only [S_spec_SerialOrder_14, lt_cast, hj, decide_true, cond_true, Option.bind_some, cond_false])
    (fun j hj => by
      have hb : q_spec_Before (l[j], l[i]) = some (bfAt l j i) := by
        rw [Before_spec _ _ (hw _ (List.getElem_mem hj)) (hw _ (List.getElem_mem hi))]
        unfold bfAt
        rw [rdL_get hj, rdL_get hi]
      rw [w_spec_SerialOrder_14]
      simp only [S_spec_SerialOrder_14, lt_cast, hj, decide_true, cond_true, gIdx_nat hj, gIdx_nat hi, leftOf_len, Int.toNat_natCast, rdL_get hj, rdL_get hi, leftOf_get hj, hb, Option.bind_some, Bool.not_not]
      have he : decide ((j : Int) = (i : Int)) = decide (j = i) := by by_cases e : j = i <;> simp [e] <;> omega
      rw [wrap_succ (by omega), he]
      cases decide (j = i) <;> cases t.contains j <;> cases bfAt l j i <;> rfl) b

omit hw hl in
theorem next_free (t : List Nat) (i : Nat) : (!t.contains i && (List.range l.length).all (fun j => t.contains j || decide (j = i) || !bfAt l j i)) = nextOk l t i := by
  unfold nextOk
  congr 1
  rw [List.all_eq_not_any_not]
  congr 2
  funext j
  cases decide (j = i) <;> cases t.contains j <;> cases bfAt l j i <;> rfl

theorem pick_spec (t : List Nat) : W_spec_SerialOrder_10 (l, leftOf l.length t, asInts t, -1, 0) = some (.inl (l, leftOf l.length t, asInts t, match pickNext l t with
      | some i => (i : Int)
      | none => -1)) := by
  have done : ∀ (i : Nat) (j : Nat), j ≤ l.length → W_spec_SerialOrder_10 (l, leftOf l.length t, asInts t, (i : Int), (j : Int)) = some (.inl (l, leftOf l.length t, asInts t, (i : Int))) := fun i j hj => by
    rw [w_spec_SerialOrder_10]
    have h0 : decide ((i : Int) < 0) = false := by simp
    simp only [S_spec_SerialOrder_10, lt_cast, h0]
    cases decide (j < l.length) <;> rfl
  have := W_find W_spec_SerialOrder_10 l.length (fun i => (l, leftOf l.length t, asInts t, -1, i)) (nextOk l t) (fun i => .inl (l, leftOf l.length t, asInts t, (i : Int))) (.inl (l, leftOf l.length t, asInts t, -1))
    (by rw [w_spec_SerialOrder_10]; simp only [S_spec_SerialOrder_10, lt_cast, Nat.lt_irrefl, decide_false, cond_false, Option.bind_some])
    (fun i hi => by
      rw [w_spec_SerialOrder_10]
      have h0 : decide ((-1 : Int) < 0) = true := rfl
      simp only [S_spec_SerialOrder_10, lt_cast, hi, decide_true, cond_true, Option.bind_some, h0, gIdx_nat hi, leftOf_len, Int.toNat_natCast, leftOf_get hi, free_spec hw hl t (-1) i hi, next_free]
      rw [wrap_succ (by omega), done i (i + 1) (by omega)]
      have hnf := next_free (l := l) t i
      rw [hnf])
  rw [this]
  unfold pickNext
  cases (List.range l.length).find? (nextOk l t) <;> rfl

theorem go_spec : ∀ (k : Nat) (t : List Nat), t.length + k = l.length → W_spec_SerialOrder_7 (l, leftOf l.length t, asInts t) = some (match ordGo l k t with
    | some t => .inl (asInts t)
    | none => .inr ([], false))
  | 0, t, h => by
    rw [w_spec_SerialOrder_7]
    have : ¬ ((asInts t).length : Int) < (l.length : Int) := by rw [asInts_len]; omega
    simp only [S_spec_SerialOrder_7, this, decide_false, cond_false]
    rfl
  | k + 1, t, h => by
    rw [w_spec_SerialOrder_7]
    have : ((asInts t).length : Int) < (l.length : Int) := by rw [asInts_len]; omega
    simp only [S_spec_SerialOrder_7, this, decide_true, cond_true, pick_spec hw hl t, Option.bind_some, ordGo]
    cases hp : pickNext l t with
    | none => rfl
    | some i =>
      have hi : i < l.length := by
        have := List.mem_of_find?_eq_some hp
        simpa using this
      have h0 : decide ((i : Int) < 0) = false := by simp
      have hk : Nat.ble ((asInts t).length + ([(i : Int)] : List Int).length) cap40 = true := by
        rw [Nat.ble_eq, asInts_len]; simp only [List.length_cons, List.length_nil, cap40]; omega
      simp only [h0, cond_false, gIdx_nat hi, leftOf_len, cond_true, hk, Int.toNat_natCast, leftOf_set, asInts_snoc]
      exact go_spec k (t ++ [i]) (by simp; omega)

omit hw in
theorem all_true : W_spec_SerialOrder_3 (l, List.replicate l.length false, 0) = some (.inl (l, List.replicate l.length true)) := by
  have := W_nat W_spec_SerialOrder_3 l.length (fun (_ : Unit) i => (l, List.replicate i.toNat true ++ List.replicate (l.length - i.toNat) false, i)) (fun _ _ => .inl (l, List.replicate l.length true)) (fun _ _ => True)
    (fun a _ => by
      rw [w_spec_SerialOrder_3]
      simp [S_spec_SerialOrder_3])
    (fun i a h _ => .inr ⟨(), trivial, rfl, by
      rw [w_spec_SerialOrder_3]
      have h1 : (List.replicate i true ++ List.replicate (l.length - i) false).length = l.length := by simp; omega
      have h2 : (List.replicate i true ++ List.replicate (l.length - i) false).set i true = List.replicate (i + 1) true ++ List.replicate (l.length - (i + 1)) false := by
        rw [List.set_append_right _ _ (by simp)]
        have : l.length - i = (l.length - (i + 1)) + 1 := by omega
        simp only [List.length_replicate, Nat.sub_self]
        rw [this, List.replicate_succ, List.set_cons_zero, List.replicate_succ']
        simp
      simp only [S_spec_SerialOrder_3, Int.toNat_natCast, h1, lt_cast, h, decide_true, cond_true, gIdx_nat h, h2]
      rw [wrap_succ (by omega)]⟩) 0 () (Nat.zero_le _) trivial
  simpa using this

theorem SerialOrder_spec : q_spec_SerialOrder l = some (ordRes (ordOf l)) := by
  have h : W_spec_SerialOrder_7 (l, leftOf l.length [], asInts []) = _ := go_spec hw hl l.length [] (by simp)
  rw [leftOf_nil] at h
  have h : W_spec_SerialOrder_7 (l, List.replicate l.length true, []) = _ := h
  have hn : (decide (0 ≤ (l.length : Int)) && decide ((l.length : Int) ≤ 1099511627776)) = true := by simp; omega
  rw [e_spec_SerialOrder]; unfold X_spec_SerialOrder
  rw [hn, cond_true, Int.toNat_natCast]
  have h3 : W_spec_SerialOrder_3 (l, List.replicate l.length (Ty.bool).zero, 0) = _ := all_true hl
  simp only [h3, Option.bind_some, h]
  unfold ordOf
  cases ordGo l l.length [] <;> rfl

end

/-! ### What an order tells -/
theorem ordGo_good {l : List YTxn.den} : ∀ (k : Nat) (t u : List Nat), ordGo l k t = some u → (∀ i ∈ t, i < l.length) → t.Nodup → (∀ (a b : Nat) (ha : a < b) (hb : b < t.length), bfAt l t[b] t[a] = false) →
    (∀ (a : Nat) (ha : a < t.length) (j : Nat), j < l.length → j ∉ t → bfAt l j t[a] = false) →
    u.length = t.length + k ∧ (∀ i ∈ u, i < l.length) ∧ u.Nodup ∧ (∀ (a b : Nat) (ha : a < b) (hb : b < u.length), bfAt l u[b] u[a] = false)
  | 0, t, u, h, h1, h2, h3, h4 => by
    cases h
    exact ⟨rfl, h1, h2, h3⟩
  | k + 1, t, u, h, h1, h2, h3, h4 => by
    simp only [ordGo] at h
    split at h
    · cases h
    · rename_i i hp
      have hi : i < l.length := by
        have := List.mem_of_find?_eq_some hp
        simpa using this
      have hok : nextOk l t i = true := by
        have := List.find?_some hp
        exact this
      unfold nextOk at hok
      simp only [Bool.and_eq_true, Bool.not_eq_true', List.contains_eq_mem, decide_eq_false_iff_not, List.any_eq_false, List.mem_range, not_and, Bool.not_eq_true, decide_eq_true_eq] at hok
      obtain ⟨hni, hfree⟩ := hok
      have g := ordGo_good k (t ++ [i]) u h (fun x hx => by
          rcases List.mem_append.mp hx with q | q
          · exact h1 x q
          · simp at q; subst q; exact hi) (by
          rw [List.nodup_append]
          exact ⟨h2, by simp, fun x hx y hy => by simp at hy; subst hy; intro z; subst z; exact hni hx⟩) (fun a b hab hb => by
          simp only [List.length_append, List.length_cons, List.length_nil] at hb
          by_cases hbt : b < t.length
          · rw [List.getElem_append_left hbt, List.getElem_append_left (by omega)]
            exact h3 a b hab hbt
          · have hbe : b = t.length := by omega
            subst hbe
            rw [List.getElem_append_right (Nat.le_refl _), List.getElem_append_left hab]
            simp only [Nat.sub_self, List.getElem_cons_zero]
            exact h4 a hab i hi hni) (fun a ha j hj hnj => by
          simp only [List.mem_append, List.mem_cons, List.not_mem_nil, or_false, not_or] at hnj
          by_cases hat : a < t.length
          · rw [List.getElem_append_left hat]
            exact h4 a hat j hj hnj.1
          · simp only [List.length_append, List.length_cons, List.length_nil] at ha
            have hae : a = t.length := by omega
            subst hae
            rw [List.getElem_append_right (Nat.le_refl _)]
            simp only [Nat.sub_self, List.getElem_cons_zero]
            have := hfree j hj
            exact this (by simpa using hnj.2) (by simpa using hnj.1))
      exact ⟨by rw [g.1]; simp; omega, g.2.1, g.2.2.1, g.2.2.2⟩

theorem ordOf_good {l : List YTxn.den} {u : List Nat} (h : ordOf l = some u) : u.length = l.length ∧ (∀ i ∈ u, i < l.length) ∧ u.Nodup ∧ (∀ (a b : Nat) (ha : a < b) (hb : b < u.length), bfAt l u[b] u[a] = false) := by
  have := ordGo_good l.length [] u h (fun i hi => by cases hi) List.nodup_nil (fun a b _ hb => by simp at hb) (fun a ha => by simp at ha)
  simpa using this

theorem ordOf_none {l : List YTxn.den} (h : ordOf l = none) : 1 < l.length := by
  match l, h with
  | [], h => cases h
  | [x], h =>
    exfalso
    have : nextOk [x] [] 0 = true := rfl
    unfold ordOf at h
    simp only [List.length_cons, List.length_nil, ordGo, pickNext] at h
    have e : List.range (0 + 1) = [0] := rfl
    rw [e, List.find?_cons, this] at h
    simp only [ordGo] at h
    cases h
  | x :: y :: l, h => simp

end Go.Proofs.Ythhpkgegmfjdmaa.Ab
