import Derived.Test.YtbkicjpdlchbgaaGreatAbG1
import Derived.Test.YtbkicjpdlchbgaaGreatAbK2
import Derived.Test.YtbkicjpdlchbgaaGreatAbF4
import Derived.Test.YtbkicjpdlchbgaaGreatAbS2
namespace Go.Proofs.YtbkicjpdlchbgaaGreat.Ab
open Go
set_option linter.unusedVariables false
set_option linter.unusedSimpArgs false
set_option linter.unnecessarySimpa false
section
theorem lt_cast (a b : Nat) : decide ((a : Int) < (b : Int)) = decide (a < b) := by simp
/-- A loop that counts up to n. -/
theorem W_nat {X R A : Type} (W : X → Option R) (n : Nat) (mk : A → Int → X) (res : Nat → A → R) (P : Nat → A → Prop)
    (hend : ∀ a, P n a → W (mk a (n : Int)) = some (res n a))
    (hstep : ∀ (i : Nat) a, i < n → P i a → W (mk a (i : Int)) = some (res i a) ∨ ∃ a', P (i + 1) a' ∧ res (i + 1) a' = res i a ∧ W (mk a (i : Int)) = W (mk a' ((i + 1 : Nat) : Int))) :
    ∀ (i : Nat) a, i ≤ n → P i a → W (mk a (i : Int)) = some (res i a) := by
  intro i a hi hP
  obtain ⟨d, hd⟩ : ∃ d, i + d = n := ⟨n - i, by omega⟩
  clear hi
  induction d generalizing i a with
  | zero =>
    have : i = n := by omega
    subst this
    exact hend a hP
  | succ d ih =>
    rcases hstep i a (by omega) hP with h | ⟨a', h1, h2, h3⟩
    · exact h
    · rw [h3, ih (i + 1) a' h1 (by omega), h2]
/-- What a loop over a list gives: f takes an element and goes on or ends. -/
def iter {E A R : Type} (f : Nat → E → A → A ⊕ R) (fin : A → R) : Nat → List E → A → R
  | _, [], a => fin a
  | i, x :: l, a => match f i x a with
    | .inl a' => iter f fin (i + 1) l a'
    | .inr r => r
/-- A loop over a list. -/
theorem W_iter {X R A E : Type} (W : X → Option R) (l : List E) (mk : A → Int → X) (f : Nat → E → A → A ⊕ R) (fin : A → R) (P : Nat → A → Prop)
    (hend : ∀ a, P l.length a → W (mk a (l.length : Int)) = some (fin a))
    (hstep : ∀ (i : Nat) (h : i < l.length) a, P i a → match f i l[i] a with
      | .inl a' => P (i + 1) a' ∧ W (mk a (i : Int)) = W (mk a' ((i + 1 : Nat) : Int))
      | .inr r => W (mk a (i : Int)) = some r) (a : A) (hP : P 0 a) : W (mk a 0) = some (iter f fin 0 l a) := by
  have key := W_nat W l.length mk (fun i a => iter f fin i (l.drop i) a) P (fun a h => by
    rw [hend a h, List.drop_eq_nil_of_le (Nat.le_refl _)]; rfl) (fun i a hi hP => by
      have hs := hstep i hi a hP
      have hd : l.drop i = l[i] :: l.drop (i + 1) := List.drop_eq_getElem_cons hi
      rw [hd]
      simp only [iter]
      cases hf : f i l[i] a with
      | inl a' =>
        rw [hf] at hs
        exact .inr ⟨a', hs.1, rfl, hs.2⟩
      | inr r =>
        rw [hf] at hs
        exact .inl hs) 0 a (Nat.zero_le _) hP
  exact key
/-- What is left of b when w is used; -1 when it is not enough. -/
def szr (b : Int) (w : Nat) : Int := if (w : Int) ≤ b then b - w else -1
theorem szr_ok {b : Int} {w : Nat} (h : (w : Int) ≤ b) : szr b w = b - w := if_pos h
theorem szr_no {b : Int} {w : Nat} (h : ¬ (w : Int) ≤ b) : szr b w = -1 := if_neg h
theorem szr_add {b : Int} {v w : Nat} (h : (v : Int) ≤ b) : szr (b - v) w = szr b (v + w) := by
  unfold szr
  by_cases h2 : (w : Int) ≤ b - v
  · rw [if_pos h2, if_pos (by omega)]; omega
  · rw [if_neg h2, if_neg (by omega)]
/-- The weight of data: the bytes of texts, and one for each element of a list. -/
def Ty.wt : (t : Ty) → t.den → Nat
  | .int _, _ => 0
  | .bool, _ => 0
  | .str, s => s.size
  | .sl e, l => l.length + (l.map e.wt).sum
  | .pair a b, x => a.wt x.1 + b.wt x.2
/-- One field's step, and what follows. -/
theorem szr_bind {b : Int} {v w : Nat} {F : Option Int} {K : Int → Option Int} (hF : F = some (szr b v)) (hK : (v : Int) ≤ b → K (b - v) = some (szr (b - v) w)) :
    (F.bind fun y => bif decide (y < 0) then some (-1) else K y) = some (szr b (v + w)) := by
  subst hF
  by_cases h : (v : Int) ≤ b
  · rw [szr_ok h]
    have : decide (b - (v : Int) < 0) = false := by simp; omega
    simp only [Option.bind_some, this, cond_false]
    rw [hK h, szr_add h]
  · rw [szr_no h, szr_no (b := b) (w := v + w) (by omega)]
    rfl
/-- A loop that looks for one that passes. -/
theorem W_any {X R E : Type} (W : X → Option R) (l : List E) (mk : Int → X) (p : E → Bool) (yes no : R) (hend : W (mk (l.length : Int)) = some no)
    (hstep : ∀ (i : Nat) (h : i < l.length), W (mk (i : Int)) = bif p l[i] then some yes else W (mk ((i + 1 : Nat) : Int))) : W (mk 0) = some (bif l.any p then yes else no) := by
  have := W_iter W l (fun (_ : Unit) i => mk i) (fun _ x _ => if p x then .inr yes else .inl ()) (fun _ => no) (fun _ _ => True) (fun _ _ => hend) (fun i h a _ => by
    have hs := hstep i h
    cases hp : p l[i] with
    | true => simp only [hp, cond_true] at hs; simp only [if_true]; exact hs
    | false => simp only [hp, cond_false] at hs; simp only [Bool.false_eq_true, if_false]; exact ⟨trivial, hs⟩) () trivial
  rw [this]
  congr 1
  have key : ∀ (l : List E) (i : Nat), iter (fun _ x (_ : Unit) => if p x then .inr yes else .inl ()) (fun _ => no) i l () = bif l.any p then yes else no := by
    intro l
    induction l with
    | nil => intro i; rfl
    | cons x l ih =>
      intro i
      simp only [iter, List.any_cons]
      cases hp : p x with
      | true => simp
      | false => simp only [Bool.false_eq_true, if_false, Bool.false_or]; exact ih _
  exact key l 0
/-- A loop that goes over all. -/
theorem W_fold {X R E A : Type} (W : X → Option R) (l : List E) (mk : A → Int → X) (f : A → E → A) (fin : A → R) (P : Nat → A → Prop)
    (hend : ∀ a, P l.length a → W (mk a (l.length : Int)) = some (fin a))
    (hstep : ∀ (i : Nat) (h : i < l.length) a, P i a → P (i + 1) (f a l[i]) ∧ W (mk a (i : Int)) = W (mk (f a l[i]) ((i + 1 : Nat) : Int))) (a : A) (hP : P 0 a) : W (mk a 0) = some (fin (l.foldl f a)) := by
  have := W_iter W l mk (fun _ x a => .inl (f a x)) fin P hend (fun i h a hp => hstep i h a hp) a hP
  rw [this]
  congr 1
  have key : ∀ (l : List E) (i : Nat) (a : A), iter (fun _ x a => (.inl (f a x) : A ⊕ R)) fin i l a = fin (l.foldl f a) := by
    intro l
    induction l with
    | nil => intro i a; rfl
    | cons x l ih => intro i a; simp only [iter, List.foldl_cons]; exact ih _ _
  exact key l 0 a
/-- A loop that picks some, each as g tells. -/
theorem W_pick {X R E B : Type} (W : X → Option R) (l : List E) (mk : List B → Int → X) (p : E → Bool) (g : E → B) (fin : List B → R) (hl : l.length ≤ 1099511627776)
    (hend : ∀ a : List B, a.length ≤ l.length → W (mk a (l.length : Int)) = some (fin a))
    (hstep : ∀ (i : Nat) (h : i < l.length) (a : List B), a.length ≤ i → W (mk a (i : Int)) = bif p l[i] then W (mk (a ++ [g l[i]]) ((i + 1 : Nat) : Int)) else W (mk a ((i + 1 : Nat) : Int))) : W (mk [] 0) = some (fin ((l.filter p).map g)) := by
  have := W_fold W l mk (fun a x => if p x then a ++ [g x] else a) fin (fun i a => a.length ≤ i) hend (fun i h a hp => by
    have hs := hstep i h a hp
    cases hc : p l[i] with
    | true =>
      simp only [hc, cond_true] at hs
      simp only [if_true]
      exact ⟨by simp; omega, hs⟩
    | false =>
      simp only [hc, cond_false] at hs
      simp only [Bool.false_eq_true, if_false]
      exact ⟨by omega, hs⟩) [] (Nat.le_refl 0)
  rw [this]
  congr 1
  have key : ∀ (l : List E) (a : List B), l.foldl (fun a x => if p x then a ++ [g x] else a) a = a ++ (l.filter p).map g := by
    intro l
    induction l with
    | nil => intro a; simp
    | cons x l ih =>
      intro a
      simp only [List.foldl_cons, ih, List.filter_cons]
      cases hp : p x <;> simp
  rw [key]; simp
end
section
theorem toList_toS (b : ByteArray) : b.toList = toS b := by rw [ByteArray.toList_eq]; rfl
theorem toS_inj {a b : ByteArray} (h : toS a = toS b) : a = b := by rw [← unS_toS a, h, unS_toS]
theorem bytesLess_lt : ∀ (x y : List UInt8), Op.bytesLess x y = decide (x < y)
  | x, [] => by simp [Op.bytesLess]
  | [], y :: ys => by simp [Op.bytesLess]
  | x :: xs, y :: ys => by
    rw [Op.bytesLess, bytesLess_lt xs ys, Bool.eq_iff_iff]
    simp [List.cons_lt_cons_iff]
theorem strLt_iff {a b : ByteArray} : strLt a b = true ↔ toS a < toS b := by
  unfold strLt
  rw [toList_toS, toList_toS, bytesLess_lt]
  simp
theorem strLt_no {a b : ByteArray} : strLt a b = false ↔ ¬ toS a < toS b := by
  rw [← strLt_iff]; simp
theorem lt_irr (x : List UInt8) : ¬ x < x := List.lt_irrefl x
theorem lt_tr {x y z : List UInt8} (h : x < y) (k : y < z) : x < z := List.lt_trans h k
theorem lt_tri (x y : List UInt8) : x < y ∨ x = y ∨ y < x := by
  rcases List.le_total x y with h | h
  · rcases List.le_iff_lt_or_eq.mp h with h | h
    · exact .inl h
    · exact .inr (.inl h)
  · rcases List.le_iff_lt_or_eq.mp h with h | h
    · exact .inr (.inr h)
    · exact .inr (.inl h.symm)
theorem sLt_irr (a : ByteArray) : strLt a a = false := strLt_no.mpr (lt_irr _)
theorem sLt_tr {a b c : ByteArray} (h : strLt a b = true) (k : strLt b c = true) : strLt a c = true := strLt_iff.mpr (lt_tr (strLt_iff.mp h) (strLt_iff.mp k))
theorem sLt_tri (a b : ByteArray) : strLt a b = true ∨ a = b ∨ strLt b a = true := by
  rcases lt_tri (toS a) (toS b) with h | h | h
  · exact .inl (strLt_iff.mpr h)
  · exact .inr (.inl (toS_inj h))
  · exact .inr (.inr (strLt_iff.mpr h))
theorem sLt_asym {a b : ByteArray} (h : strLt a b = true) : strLt b a = false := by
  cases k : strLt b a with
  | false => rfl
  | true => exact absurd (sLt_tr h k) (by rw [sLt_irr]; exact Bool.false_ne_true)
theorem strEq_false {a b : ByteArray} : strEq a b = false ↔ a ≠ b := by
  rw [← Bool.not_eq_true, strEq_iff]
/-- Greater, as the program asks it. -/
theorem gt_iff {a b : ByteArray} : (!(strLt a b || strEq a b)) = strLt b a := by
  rcases sLt_tri a b with h | h | h
  · rw [h, sLt_asym h]; rfl
  · subst h; rw [sLt_irr, strEq_refl]; rfl
  · rw [sLt_asym h, h]
    have : strEq a b = false := strEq_false.mpr (fun e => by subst e; rw [sLt_irr] at h; cases h)
    rw [this]; rfl
def Asc (l : List ByteArray) : Prop := l.Pairwise fun a b => strLt a b = true
theorem Asc.ext : ∀ {l m : List ByteArray}, Asc l → Asc m → (∀ x, x ∈ l ↔ x ∈ m) → l = m
  | [], [], _, _, _ => rfl
  | [], y :: m, _, _, h => by have := (h y).mpr (by simp); simp at this
  | x :: l, [], _, _, h => by have := (h x).mp (by simp); simp at this
  | x :: l, y :: m, hl, hm, h => by
    have hl' := List.pairwise_cons.mp hl
    have hm' := List.pairwise_cons.mp hm
    have hxy : x = y := by
      rcases List.mem_cons.mp ((h x).mp (by simp)) with e | e
      · exact e
      · rcases List.mem_cons.mp ((h y).mpr (by simp)) with e' | e'
        · exact e'.symm
        · have := sLt_tr (hm'.1 x e) (hl'.1 y e')
          rw [sLt_irr] at this; cases this
    subst hxy
    congr 1
    refine Asc.ext hl'.2 hm'.2 fun z => ?_
    constructor
    · intro hz
      rcases List.mem_cons.mp ((h z).mp (by simp [hz])) with e | e
      · subst e; have := hl'.1 z hz; rw [sLt_irr] at this; cases this
      · exact e
    · intro hz
      rcases List.mem_cons.mp ((h z).mpr (by simp [hz])) with e | e
      · subst e; have := hm'.1 z hz; rw [sLt_irr] at this; cases this
      · exact e
theorem Asc.filter {l : List ByteArray} (h : Asc l) (p : ByteArray → Bool) : Asc (l.filter p) := List.Pairwise.filter p h
/-- A key is laid into its place. -/
def insK (k : ByteArray) (l : List ByteArray) : List ByteArray := l.filter (fun x => strLt x k) ++ [k] ++ l.filter (fun x => !(strLt x k || strEq x k))
theorem mem_insK {k x : ByteArray} {l : List ByteArray} : x ∈ insK k l ↔ x = k ∨ x ∈ l := by
  simp only [insK, List.mem_append, List.mem_filter, List.mem_singleton, gt_iff]
  constructor
  · rintro ((h | h) | h)
    · exact .inr h.1
    · exact .inl h
    · exact .inr h.1
  · rintro (h | h)
    · exact .inl (.inr h)
    · rcases sLt_tri x k with e | e | e
      · exact .inl (.inl ⟨h, e⟩)
      · exact .inl (.inr e)
      · exact .inr ⟨h, e⟩
theorem insK_asc {k : ByteArray} {l : List ByteArray} (h : Asc l) : Asc (insK k l) := by
  unfold Asc insK
  rw [List.pairwise_append, List.pairwise_append]
  refine ⟨⟨h.filter _, by simp, fun a ha b hb => ?_⟩, h.filter _, fun a ha b hb => ?_⟩
  · simp only [List.mem_singleton] at hb
    subst hb
    exact (List.mem_filter.mp ha).2
  · have hb := (List.mem_filter.mp hb).2
    rw [gt_iff] at hb
    rcases List.mem_append.mp ha with ha | ha
    · exact sLt_tr (List.mem_filter.mp ha).2 hb
    · simp only [List.mem_singleton] at ha
      subst ha
      exact hb
theorem fold_insK {l : List ByteArray} : ∀ {a : List ByteArray}, Asc a → Asc (l.foldl (fun a k => insK k a) a) ∧ ∀ x, x ∈ l.foldl (fun a k => insK k a) a ↔ x ∈ l ∨ x ∈ a := by
  induction l with
  | nil => intro a h; exact ⟨h, fun x => by simp⟩
  | cons k l ih =>
    intro a h
    obtain ⟨h1, h2⟩ := ih (insK_asc (k := k) h)
    refine ⟨h1, fun x => ?_⟩
    rw [List.foldl_cons, h2, mem_insK, List.mem_cons]
    constructor
    · rintro (q | q | q)
      · exact .inl (.inr q)
      · exact .inl (.inl q)
      · exact .inr q
    · rintro ((q | q) | q)
      · exact .inr (.inl q)
      · exact .inl q
      · exact .inr (.inr q)
theorem compact_spec (d : Array (List UInt8)) (hs : ∀ i j : Nat, i ≤ j → j < d.size → d[i]! ≤ d[j]!) : ∀ m, m ≤ d.size → (Lib.compactUpTo d m).Pairwise (· < ·) ∧ (∀ x, x ∈ Lib.compactUpTo d m ↔ ∃ i, i < m ∧ d[i]! = x)
  | 0, _ => by simp [Lib.compactUpTo]
  | m + 1, hm => by
    obtain ⟨h1, h2⟩ := compact_spec d hs m (by omega)
    rw [Lib.compactUpTo_succ]
    by_cases hk : Lib.keeps d m = true
    · rw [if_pos hk]
      constructor
      · rw [List.pairwise_append]
        refine ⟨h1, by simp, fun a ha b hb => ?_⟩
        simp only [List.mem_singleton] at hb
        subst hb
        obtain ⟨i, hi, rfl⟩ := (h2 a).mp ha
        unfold Lib.keeps at hk
        have hk := of_decide_eq_true hk
        rcases hk with hk | hk
        · omega
        · have l1 := hs i (m - 1) (by omega) (by omega)
          have l2 := hs (m - 1) m (by omega) (by omega)
          rcases List.le_iff_lt_or_eq.mp l2 with l2 | l2
          · rcases List.le_iff_lt_or_eq.mp l1 with l1 | l1
            · exact lt_tr l1 l2
            · rw [l1]; exact l2
          · exact absurd l2.symm hk
      · intro x
        simp only [List.mem_append, List.mem_singleton, h2]
        constructor
        · rintro (⟨i, hi, rfl⟩ | rfl)
          · exact ⟨i, by omega, rfl⟩
          · exact ⟨m, by omega, rfl⟩
        · rintro ⟨i, hi, rfl⟩
          rcases Nat.lt_or_ge i m with q | q
          · exact .inl ⟨i, q, rfl⟩
          · exact .inr (by rw [show i = m by omega])
    · rw [if_neg hk, List.append_nil]
      refine ⟨h1, fun x => ?_⟩
      rw [h2]
      unfold Lib.keeps at hk
      simp only [decide_eq_true_eq, not_or, ne_eq, Decidable.not_not] at hk
      constructor
      · rintro ⟨i, hi, rfl⟩; exact ⟨i, by omega, rfl⟩
      · rintro ⟨i, hi, rfl⟩
        rcases Nat.lt_or_ge i m with q | q
        · exact ⟨i, q, rfl⟩
        · have : i = m := by omega
          subst this
          exact ⟨i - 1, by omega, hk.2.symm⟩
/-- The keys of texts, each once, ascending. -/
def keysS (l : List ByteArray) : List ByteArray := dedS (sortS l)
theorem keysS_spec (l : List ByteArray) : Asc (keysS l) ∧ ∀ x, x ∈ keysS l ↔ x ∈ l := by
  obtain ⟨d, hd⟩ : ∃ d, d = (l.map toS).mergeSort fun x y => decide (x ≤ y) := ⟨_, rfl⟩
  have hk : keysS l = (Lib.compact d).map unS := by
    unfold keysS dedS sortS
    rw [← hd, List.map_map]
    have : (toS ∘ unS) = id := by funext x; rfl
    rw [this, List.map_id]
  have hsort : d.Pairwise (· ≤ ·) := by
    rw [hd]
    have := List.pairwise_mergeSort (le := fun (x y : List UInt8) => decide (x ≤ y)) (fun a b c h1 h2 => by
      simp only [decide_eq_true_eq] at h1 h2 ⊢
      exact List.le_trans h1 h2) (fun a b => by
      simp only [Bool.or_eq_true, decide_eq_true_eq]
      exact List.le_total a b) (l.map toS)
    exact this.imp (fun h => by simpa using h)
  have hmem : ∀ x, x ∈ d ↔ x ∈ l.map toS := fun x => by rw [hd]; exact (List.mergeSort_perm _ _).mem_iff
  have hs : ∀ i j : Nat, i ≤ j → j < d.toArray.size → d.toArray[i]! ≤ d.toArray[j]! := fun i j hij hj => by
    have hj' : j < d.length := by simpa using hj
    have hi' : i < d.length := by omega
    rw [getElem!_pos _ i (by simpa using hi'), getElem!_pos _ j hj]
    simp only [List.getElem_toArray]
    rcases Nat.lt_or_ge i j with q | q
    · exact List.pairwise_iff_getElem.mp hsort i j hi' hj' q
    · have : i = j := by omega
      subst this
      exact List.le_refl _
  obtain ⟨h1, h2⟩ := compact_spec d.toArray hs d.length (by simp)
  rw [hk]
  constructor
  · unfold Asc
    rw [List.pairwise_map]
    exact h1.imp (fun h => strLt_iff.mpr h)
  · intro x
    rw [List.mem_map]
    constructor
    · rintro ⟨y, hy, rfl⟩
      obtain ⟨i, hi, rfl⟩ := (h2 y).mp hy
      rw [getElem!_pos _ i (by simpa using hi)]
      have : d[i] ∈ l.map toS := (hmem _).mp (List.getElem_mem hi)
      obtain ⟨z, hz, e⟩ := List.mem_map.mp this
      simp only [List.getElem_toArray]
      rw [← e, unS_toS]
      exact hz
    · intro hx
      have : toS x ∈ d := (hmem _).mpr (List.mem_map.mpr ⟨x, hx, rfl⟩)
      obtain ⟨i, hi, e⟩ := List.mem_iff_getElem.mp this
      refine ⟨toS x, (h2 _).mpr ⟨i, hi, ?_⟩, unS_toS x⟩
      rw [getElem!_pos _ i (by simpa using hi)]
      simpa using e
theorem sortS_len (l : List ByteArray) : (sortS l).length = l.length := by simp [sortS]
/-- The keys of a range, one by one or all at once. -/
theorem keys_eq (l : List ByteArray) (p : ByteArray → Bool) : (l.filter p).foldl (fun a k => insK k a) [] = (keysS l).filter p := by
  obtain ⟨h1, h2⟩ := fold_insK (l := l.filter p) (a := []) List.Pairwise.nil
  obtain ⟨k1, k2⟩ := keysS_spec l
  refine Asc.ext h1 (k1.filter p) fun x => ?_
  rw [h2, List.mem_filter, List.mem_filter, k2]
  simp
end
section
def big40 : Nat := 1099511627776
theorem fill_step' {α β : Type} {l : List α} {z : β} {i : Nat} {f : α → β} (h : i < l.length) :
    ((l.map f).take i ++ List.replicate (l.length - i) z).set i (f l[i]) = (l.map f).take (i + 1) ++ List.replicate (l.length - (i + 1)) z := by
  have h1 : ((l.map f).take i).length = i := by simp; omega
  rw [List.set_append_right _ _ (by omega), h1, Nat.sub_self]
  have : l.length - i = (l.length - (i + 1)) + 1 := by omega
  rw [this, List.replicate_succ, List.set_cons_zero, List.take_add_one]
  simp [h]
/-- A row copied one by one, each through a call. -/
theorem Q.copy {T T' : Ty} {S : Type} {q : T.den → Option T'.den} {g : T.den → T'.den} {W : List T.den × List T'.den × Int → Option (List T'.den ⊕ S)}
    (hW : ∀ x, W x = (bif (decide (x.2.2 < (x.1.length : Int))) then (bif (gIdx x.2.2 x.1.length) then ((q (rdL T x.1 (x.2.2).toNat)).bind fun (y1 : T'.den) =>
      (bif (gIdx x.2.2 x.2.1.length) then (W (x.1, ((x.2.1.set (x.2.2).toNat y1), (IntKind.i64.wrap (x.2.2 + (1 : Int)))))) else none)) else none) else (some (.inl x.2.1))))
    (l : List T.den) (hl : l.length ≤ 1099511627776) (hq : ∀ x ∈ l, q x = some (g x)) (z : T'.den) : W (l, (List.replicate ((l.length : Int)).toNat z, (0 : Int))) = some (.inl (l.map g)) := by
  have := W_nat W l.length (fun (_ : Unit) i => (l, (l.map g).take i.toNat ++ List.replicate (l.length - i.toNat) z, i)) (fun _ _ => .inl (l.map g)) (fun _ _ => True)
    (fun a _ => by
      rw [hW]
      simp only [lt_cast, Nat.lt_irrefl, decide_false, cond_false, Int.toNat_natCast]
      have h2 : (l.map g).take l.length = l.map g := List.take_of_length_le (by simp)
      simp [h2])
    (fun i a h _ => .inr ⟨(), trivial, rfl, by
      rw [hW]
      have h2 : gIdx (i : Int) ((l.map g).take i ++ List.replicate (l.length - i) z).length = true := gIdx_nat (by simp; omega)
      simp only [lt_cast, h, decide_true, cond_true, gIdx_nat h, Int.toNat_natCast, rdL_get h, hq _ (List.getElem_mem h), Option.bind_some, h2]
      rw [wrap_succ (by omega), fill_step' h]⟩) 0 () (by omega) trivial
  simpa using this
/-- A row copied one by one, as it is. -/
theorem Q.copy0 {T : Ty} {S : Type} {W : List T.den × List T.den × Int → Option (List T.den ⊕ S)}
    (hW : ∀ x, W x = (bif (decide (x.2.2 < (x.1.length : Int))) then (bif (gIdx x.2.2 x.1.length) then (bif (gIdx x.2.2 x.2.1.length) then (W (x.1, ((x.2.1.set (x.2.2).toNat (rdL T x.1 (x.2.2).toNat)), (IntKind.i64.wrap (x.2.2 + (1 : Int)))))) else none) else none) else (some (.inl x.2.1))))
    (l : List T.den) (hl : l.length ≤ 1099511627776) (z : T.den) : W (l, (List.replicate ((l.length : Int)).toNat z, (0 : Int))) = some (.inl l) := by
  have := Q.copy (W := W) (q := fun x => some x) (g := fun x => x) (fun x => hW x) l hl (fun _ _ => rfl) z
  simpa using this
/-- A row held against itself. -/
theorem Q.same {T : Ty} {S : Type} {q : T.den × T.den → Option Bool} {W : List T.den × List T.den × Int → Option (Unit ⊕ Bool)}
    (hW : ∀ x, W x = (bif (decide (x.2.2 < (x.1.length : Int))) then (bif (gIdx x.2.2 x.1.length) then (bif (gIdx x.2.2 x.2.1.length) then
      ((q ((rdL T x.1 (x.2.2).toNat), (rdL T x.2.1 (x.2.2).toNat))).bind fun (y1 : Bool) => (bif (!y1) then (some (.inr false)) else (W (x.1, (x.2.1, (IntKind.i64.wrap (x.2.2 + (1 : Int)))))))) else none) else none) else (some (.inl ()))))
    (l : List T.den) (hl : l.length ≤ 1099511627776) (hq : ∀ x ∈ l, q (x, x) = some true) : W (l, (l, (0 : Int))) = some (.inl ()) :=
  W_nat W l.length (fun (_ : Unit) i => (l, l, i)) (fun _ _ => .inl ()) (fun _ _ => True)
    (fun a _ => by
      rw [hW]
      simp only [lt_cast, Nat.lt_irrefl, decide_false, cond_false])
    (fun i a h _ => .inr ⟨(), trivial, rfl, by
      rw [hW]
      simp only [lt_cast, h, decide_true, cond_true, gIdx_nat h, Int.toNat_natCast, rdL_get h, hq _ (List.getElem_mem h), Option.bind_some, Bool.not_true, cond_false]
      rw [wrap_succ (by omega)]⟩) 0 () (by omega) trivial
/-- A row measured. -/
theorem Q.size {T : Ty} {q : T.den × Int → Option Int} {W : List T.den × Int × Int → Option (Int ⊕ Int)}
    (hW : ∀ x, W x = (bif (decide (x.2.2 < (x.1.length : Int))) then (bif (gIdx x.2.2 x.1.length) then ((q ((rdL T x.1 (x.2.2).toNat), x.2.1)).bind fun (y1 : Int) =>
      (bif (decide (y1 < (0 : Int))) then (some (.inr (-1 : Int))) else (W (x.1, (y1, (IntKind.i64.wrap (x.2.2 + (1 : Int)))))))) else none) else (some (.inl x.2.1))))
    (l : List T.den) (hl : l.length ≤ 1099511627776) (hq : ∀ x ∈ l, ∀ c : Int, 0 ≤ c → c ≤ 1048576 → ∃ y, q (x, c) = some y ∧ if (T.wt x : Int) ≤ c then y = c - T.wt x else y < 0) (b : Int) (hb : 0 ≤ b) (hb2 : b ≤ 1048576) :
    ((W (l, (b, (0 : Int)))).bind fun r => match r with
      | .inl o => some o
      | .inr z => some z) = some (szr b (l.map T.wt).sum) := by
  have key := W_nat W l.length (fun (c : Int) i => (l, c, i)) (fun i c => if (((l.drop i).map T.wt).sum : Int) ≤ c then .inl (c - ((l.drop i).map T.wt).sum) else .inr (-1)) (fun _ c => 0 ≤ c ∧ c ≤ 1048576)
    (fun c hc => by
      rw [hW]
      simp only [lt_cast, Nat.lt_irrefl, decide_false, cond_false, List.drop_length, List.map_nil, List.sum_nil]
      rw [if_pos (by simpa using hc.1)]
      simp)
    (fun i c h hc => by
      have hd : l.drop i = l[i] :: l.drop (i + 1) := List.drop_eq_getElem_cons h
      obtain ⟨y, hy, hy2⟩ := hq _ (List.getElem_mem h) c hc.1 hc.2
      rw [hW, hd]
      simp only [lt_cast, h, decide_true, cond_true, gIdx_nat h, Int.toNat_natCast, rdL_get h, hy, Option.bind_some, List.map_cons, List.sum_cons]
      by_cases hw : (T.wt l[i] : Int) ≤ c
      · right
        rw [if_pos hw] at hy2
        subst hy2
        refine ⟨c - T.wt l[i], ⟨by omega, by omega⟩, ?_, ?_⟩
        · by_cases h2 : (((l.drop (i + 1)).map T.wt).sum : Int) ≤ c - T.wt l[i]
          · rw [if_pos h2, if_pos (by omega)]; congr 1; omega
          · rw [if_neg h2, if_neg (by omega)]
        · have : decide (c - (T.wt l[i] : Int) < 0) = false := by simp; omega
          rw [this, cond_false, wrap_succ (by omega)]
      · left
        rw [if_neg hw] at hy2
        have : decide (y < 0) = true := by simp; omega
        rw [this, if_neg (by omega)]
        rfl) 0 b (by omega) ⟨hb, hb2⟩
  have key : W (l, b, 0) = _ := key
  rw [key]
  simp only [List.drop_zero, Option.bind_some]
  unfold szr
  by_cases h : ((l.map T.wt).sum : Int) ≤ b
  · rw [if_pos h, if_pos h]
  · rw [if_neg h, if_neg h]
theorem szr_str {b : Int} {v w : Nat} {K : Option Int} (hK : (v : Int) ≤ b → K = some (szr (b - v) w)) : (bif decide (b - (v : Int) < 0) then some (-1) else K) = some (szr b (v + w)) := by
  by_cases h : (v : Int) ≤ b
  · have : decide (b - (v : Int) < 0) = false := by simp; omega
    rw [this, cond_false, hK h, szr_add h]
  · have : decide (b - (v : Int) < 0) = true := by simp; omega
    rw [this, szr_no (b := b) (w := v + w) (by omega)]
    rfl
theorem szr_spec {b : Int} {w : Nat} : if (w : Int) ≤ b then szr b w = b - w else szr b w < 0 := by
  unfold szr
  split <;> rename_i h <;> simp [h]
/-- A law's guard. -/
theorem szr_law {b : Int} {w : Nat} {F : Option Int} {K : Int → Option Bool} (hF : F = some (szr b w)) (hK : (w : Int) ≤ b → K (b - w) = some true) :
    (F.bind fun y => bif decide (y < 0) then some true else K y) = some true := by
  subst hF
  by_cases h : (w : Int) ≤ b
  · rw [szr_ok h]
    have : decide (b - (w : Int) < 0) = false := by simp; omega
    simp only [Option.bind_some, this, cond_false]
    exact hK h
  · rw [szr_no h]
    rfl
theorem wt_mem {α : Type} {f : α → Nat} {l : List α} {x : α} (h : x ∈ l) : f x ≤ (l.map f).sum := by
  induction l with
  | nil => cases h
  | cons y l ih =>
    simp only [List.map_cons, List.sum_cons]
    rcases List.mem_cons.mp h with rfl | h
    · omega
    · have := ih h; omega
theorem fine_mem {T : Ty} {l : List T.den} (h : (Ty.sl T).fine l) {x : T.den} (hx : x ∈ l) : T.fine x := by
  obtain ⟨i, hi, rfl⟩ := List.getElem_of_mem hx
  exact h.2 i hi
abbrev YRange : Ty := (.pair .str .str)
abbrev YWrite : Ty := (.pair .str (.pair .str .bool))
abbrev YVersion : Ty := (.pair .str (.pair .str (.pair .bool (.int .i64))))
abbrev YPair : Ty := (.pair .str .str)
abbrev YCell : Ty := (.pair .str .str)
abbrev YPut : Ty := (.pair (.int .i64) .str)
abbrev YDisk : Ty := (.pair (.sl .str) (.sl YPut))
abbrev YTxn : Ty := (.pair (.int .i64) (.pair (.int .i64) (.pair (.int .i64) (.pair (.int .i64) (.pair (.sl YRange) (.pair (.sl YWrite) (.pair .bool .str)))))))
abbrev YBase : Ty := (.pair (.sl YVersion) (.pair (.sl YTxn) (.pair (.sl YTxn) (.pair (.int .i64) (.int .i64)))))
abbrev YEngine : Ty := (.pair YBase (.sl YTxn))
abbrev YStore : Ty := (.pair YEngine YDisk)
abbrev YWorld : Ty := (.pair YStore (.pair (.sl YTxn) (.pair (.sl (.int .i64)) (.sl .str))))
end
section
theorem sz_IntS (l : List ((Ty.int .i64)).den) (b : Int) (hf : (Ty.sl (Ty.int .i64)).fine l) (hb : 0 ≤ b) (hb2 : b ≤ 1048576) : q_laws_szIntS (l, b) = some (szr b ((Ty.sl (Ty.int .i64)).wt l)) := by
  have hl : l.length ≤ 9223372036854775807 := by have := hf.1; simp only [maxLen] at this; exact this
  rw [e_laws_szIntS]; unfold X_laws_szIntS; simp only
  rw [wrap64 (n := b - (l.length : Int)) (by omega) (by omega)]
  have hw : (Ty.sl (Ty.int .i64)).wt l = l.length + (l.map ((Ty.int .i64)).wt).sum := rfl
  rw [hw]; refine szr_str (fun c => ?_)
  have h0 : (l.map (Ty.int .i64).wt).sum = 0 := by clear hf hl hw c; induction l with
    | nil => rfl
    | cons x l ih => rw [List.map_cons, List.sum_cons, ih]; rfl
  rw [h0, szr_ok (by omega)]; simp
theorem to_IntS (l : List ((Ty.int .i64)).den) (hx : (Ty.sl (Ty.int .i64)).wt l ≤ 1099511627776) : q_laws_toIntS l = some l := by
  have hw : (Ty.sl (Ty.int .i64)).wt l = l.length + (l.map ((Ty.int .i64)).wt).sum := rfl
  rw [hw] at hx; rw [e_laws_toIntS]; unfold X_laws_toIntS
  have h1 : (decide (0 ≤ (l.length : Int)) && decide ((l.length : Int) ≤ 1099511627776)) = true := by simp; omega
  have h2 : W_laws_toIntS_3 (l, (List.replicate ((l.length : Int)).toNat ((Ty.int .i64)).zero), (0 : Int)) = some (.inl l) := Q.copy0 (T := (Ty.int .i64)) (W := W_laws_toIntS_3) (fun x => w_laws_toIntS_3 x) l (by omega) _
  simp only [h1, cond_true, h2, Option.bind_some]
theorem eq_IntS (l : List ((Ty.int .i64)).den) (hx : (Ty.sl (Ty.int .i64)).wt l ≤ 1099511627776) : q_laws_eqIntS (l, l) = some true := by
  have hw : (Ty.sl (Ty.int .i64)).wt l = l.length + (l.map ((Ty.int .i64)).wt).sum := rfl
  rw [hw] at hx; rw [e_laws_eqIntS]; unfold X_laws_eqIntS; simp only
  have h2 : W_laws_eqIntS_4 (l, l, (0 : Int)) = some (.inl ()) := Q.same (T := (Ty.int .i64)) (S := Unit) (q := fun x => some (decide (x.1 = x.2))) (W := W_laws_eqIntS_4) (fun x => w_laws_eqIntS_4 x) l (by omega) (fun x _ => by simp [strEq_refl])
  simp only [decide_true, Bool.not_true, cond_false, h2, Option.bind_some]
theorem sz_StringS (l : List (Ty.str).den) (b : Int) (hf : (Ty.sl Ty.str).fine l) (hb : 0 ≤ b) (hb2 : b ≤ 1048576) : q_laws_szStringS (l, b) = some (szr b ((Ty.sl Ty.str).wt l)) := by
  have hl : l.length ≤ 9223372036854775807 := by have := hf.1; simp only [maxLen] at this; exact this
  rw [e_laws_szStringS]; unfold X_laws_szStringS; simp only
  rw [wrap64 (n := b - (l.length : Int)) (by omega) (by omega)]
  have hw : (Ty.sl Ty.str).wt l = l.length + (l.map (Ty.str).wt).sum := rfl
  rw [hw]; refine szr_str (fun c => ?_)
  exact Q.size (T := Ty.str) (q := (fun x => some (IntKind.i64.wrap (x.2 - (x.1.size : Int))))) (W := W_laws_szStringS_5) (fun x => w_laws_szStringS_5 x) l (by omega) (fun x hx c h1 h2 => ⟨_, rfl, by have := fine_mem hf hx; simp only [Ty.fine, maxLen] at this; simp only [Ty.wt]; rw [wrap64 (by omega) (by omega)]; by_cases hc : ((ByteArray.size x : Nat) : Int) ≤ c <;> simp only [hc, if_true, if_false] <;> omega⟩) (b - (l.length : Int)) (by omega) (by omega)
theorem to_StringS (l : List (Ty.str).den) (hx : (Ty.sl Ty.str).wt l ≤ 1099511627776) : q_laws_toStringS l = some l := by
  have hw : (Ty.sl Ty.str).wt l = l.length + (l.map (Ty.str).wt).sum := rfl
  rw [hw] at hx; rw [e_laws_toStringS]; unfold X_laws_toStringS
  have h1 : (decide (0 ≤ (l.length : Int)) && decide ((l.length : Int) ≤ 1099511627776)) = true := by simp; omega
  have h2 : W_laws_toStringS_3 (l, (List.replicate ((l.length : Int)).toNat (Ty.str).zero), (0 : Int)) = some (.inl l) := Q.copy0 (T := Ty.str) (W := W_laws_toStringS_3) (fun x => w_laws_toStringS_3 x) l (by omega) _
  simp only [h1, cond_true, h2, Option.bind_some]
theorem eq_StringS (l : List (Ty.str).den) (hx : (Ty.sl Ty.str).wt l ≤ 1099511627776) : q_laws_eqStringS (l, l) = some true := by
  have hw : (Ty.sl Ty.str).wt l = l.length + (l.map (Ty.str).wt).sum := rfl
  rw [hw] at hx; rw [e_laws_eqStringS]; unfold X_laws_eqStringS; simp only
  have h2 : W_laws_eqStringS_4 (l, l, (0 : Int)) = some (.inl ()) := Q.same (T := Ty.str) (S := Unit) (q := fun x => some (strEq x.1 x.2)) (W := W_laws_eqStringS_4) (fun x => w_laws_eqStringS_4 x) l (by omega) (fun x _ => by simp [strEq_refl])
  simp only [decide_true, Bool.not_true, cond_false, h2, Option.bind_some]
theorem sz_Range (x : (YRange).den) (b : Int) (hf : (YRange).fine x) (hb : 0 ≤ b) (hb2 : b ≤ 1048576) : q_laws_szRange (x, b) = some (szr b ((YRange).wt x)) := by
  obtain ⟨hf0, hf1⟩ := hf
  have hs0 : x.1.size ≤ 9223372036854775807 := by have := hf0; simp only [Ty.fine, maxLen] at this; exact this
  have hs1 : x.2.size ≤ 9223372036854775807 := by have := hf1; simp only [Ty.fine, maxLen] at this; exact this
  have hw : (YRange).wt x = (x.1.size + (x.2.size + 0)) := by simp only [Ty.wt] <;> omega
  rw [hw, e_laws_szRange]; unfold X_laws_szRange; simp only
  rw [wrap64 (n := b - (x.1.size : Int)) (by omega) (by omega)]
  refine szr_str (fun c0 => ?_)
  rw [wrap64 (n := b - ((x.1.size : Nat) : Int) - (x.2.size : Int)) (by omega) (by omega)]
  refine szr_str (fun c1 => ?_)
  rw [szr_ok (by omega)]; simp
theorem sz_RangeS (l : List (YRange).den) (b : Int) (hf : (Ty.sl YRange).fine l) (hb : 0 ≤ b) (hb2 : b ≤ 1048576) : q_laws_szRangeS (l, b) = some (szr b ((Ty.sl YRange).wt l)) := by
  have hl : l.length ≤ 9223372036854775807 := by have := hf.1; simp only [maxLen] at this; exact this
  rw [e_laws_szRangeS]; unfold X_laws_szRangeS; simp only
  rw [wrap64 (n := b - (l.length : Int)) (by omega) (by omega)]
  have hw : (Ty.sl YRange).wt l = l.length + (l.map (YRange).wt).sum := rfl
  rw [hw]; refine szr_str (fun c => ?_)
  exact Q.size (T := YRange) (q := q_laws_szRange) (W := W_laws_szRangeS_5) (fun x => w_laws_szRangeS_5 x) l (by omega) (fun x hx c h1 h2 => ⟨_, sz_Range x c (fine_mem hf hx) h1 h2, szr_spec⟩) (b - (l.length : Int)) (by omega) (by omega)
theorem to_Range (x : (YRange).den) (hx : (YRange).wt x ≤ 1099511627776) : q_laws_toRange x = some x := by
  rw [e_laws_toRange]; rfl
theorem to_RangeS (l : List (YRange).den) (hx : (Ty.sl YRange).wt l ≤ 1099511627776) : q_laws_toRangeS l = some l := by
  have hw : (Ty.sl YRange).wt l = l.length + (l.map (YRange).wt).sum := rfl
  rw [hw] at hx; rw [e_laws_toRangeS]; unfold X_laws_toRangeS
  have h1 : (decide (0 ≤ (l.length : Int)) && decide ((l.length : Int) ≤ 1099511627776)) = true := by simp; omega
  have h2 : W_laws_toRangeS_3 (l, (List.replicate ((l.length : Int)).toNat (YRange).zero), (0 : Int)) = some (.inl (l.map fun x => x)) := Q.copy (T := YRange) (T' := YRange) (q := q_laws_toRange) (W := W_laws_toRangeS_3) (fun x => w_laws_toRangeS_3 x) l (by omega) (fun x hm => to_Range x (by have := wt_mem (f := (YRange).wt) hm; omega)) _
  rw [List.map_id'] at h2
  simp only [h1, cond_true, h2, Option.bind_some]
theorem eq_Range (x : (YRange).den) (hx : (YRange).wt x ≤ 1099511627776) : q_laws_eqRange (x, x) = some true := by
  simp only [Ty.wt] at hx
  rw [e_laws_eqRange]; unfold X_laws_eqRange; simp only
  simp only [Option.bind_some, strEq_refl, decide_true, beq_self_eq_true, Bool.not_true, cond_false]
theorem eq_RangeS (l : List (YRange).den) (hx : (Ty.sl YRange).wt l ≤ 1099511627776) : q_laws_eqRangeS (l, l) = some true := by
  have hw : (Ty.sl YRange).wt l = l.length + (l.map (YRange).wt).sum := rfl
  rw [hw] at hx; rw [e_laws_eqRangeS]; unfold X_laws_eqRangeS; simp only
  have h2 : W_laws_eqRangeS_4 (l, l, (0 : Int)) = some (.inl ()) := Q.same (T := YRange) (S := Unit) (q := q_laws_eqRange) (W := W_laws_eqRangeS_4) (fun x => w_laws_eqRangeS_4 x) l (by omega) (fun x hm => eq_Range x (by have := wt_mem (f := (YRange).wt) hm; omega))
  simp only [decide_true, Bool.not_true, cond_false, h2, Option.bind_some]
theorem sz_Write (x : (YWrite).den) (b : Int) (hf : (YWrite).fine x) (hb : 0 ≤ b) (hb2 : b ≤ 1048576) : q_laws_szWrite (x, b) = some (szr b ((YWrite).wt x)) := by
  obtain ⟨hf0, hf1, hf2⟩ := hf
  have hs0 : x.1.size ≤ 9223372036854775807 := by have := hf0; simp only [Ty.fine, maxLen] at this; exact this
  have hs1 : x.2.1.size ≤ 9223372036854775807 := by have := hf1; simp only [Ty.fine, maxLen] at this; exact this
  have hw : (YWrite).wt x = (x.1.size + (x.2.1.size + 0)) := by simp only [Ty.wt] <;> omega
  rw [hw, e_laws_szWrite]; unfold X_laws_szWrite; simp only
  rw [wrap64 (n := b - (x.1.size : Int)) (by omega) (by omega)]
  refine szr_str (fun c0 => ?_)
  rw [wrap64 (n := b - ((x.1.size : Nat) : Int) - (x.2.1.size : Int)) (by omega) (by omega)]
  refine szr_str (fun c1 => ?_)
  rw [szr_ok (by omega)]; simp
theorem sz_WriteS (l : List (YWrite).den) (b : Int) (hf : (Ty.sl YWrite).fine l) (hb : 0 ≤ b) (hb2 : b ≤ 1048576) : q_laws_szWriteS (l, b) = some (szr b ((Ty.sl YWrite).wt l)) := by
  have hl : l.length ≤ 9223372036854775807 := by have := hf.1; simp only [maxLen] at this; exact this
  rw [e_laws_szWriteS]; unfold X_laws_szWriteS; simp only
  rw [wrap64 (n := b - (l.length : Int)) (by omega) (by omega)]
  have hw : (Ty.sl YWrite).wt l = l.length + (l.map (YWrite).wt).sum := rfl
  rw [hw]; refine szr_str (fun c => ?_)
  exact Q.size (T := YWrite) (q := q_laws_szWrite) (W := W_laws_szWriteS_5) (fun x => w_laws_szWriteS_5 x) l (by omega) (fun x hx c h1 h2 => ⟨_, sz_Write x c (fine_mem hf hx) h1 h2, szr_spec⟩) (b - (l.length : Int)) (by omega) (by omega)
theorem to_Write (x : (YWrite).den) (hx : (YWrite).wt x ≤ 1099511627776) : q_laws_toWrite x = some x := by
  rw [e_laws_toWrite]; rfl
theorem to_WriteS (l : List (YWrite).den) (hx : (Ty.sl YWrite).wt l ≤ 1099511627776) : q_laws_toWriteS l = some l := by
  have hw : (Ty.sl YWrite).wt l = l.length + (l.map (YWrite).wt).sum := rfl
  rw [hw] at hx; rw [e_laws_toWriteS]; unfold X_laws_toWriteS
  have h1 : (decide (0 ≤ (l.length : Int)) && decide ((l.length : Int) ≤ 1099511627776)) = true := by simp; omega
  have h2 : W_laws_toWriteS_3 (l, (List.replicate ((l.length : Int)).toNat (YWrite).zero), (0 : Int)) = some (.inl (l.map fun x => x)) := Q.copy (T := YWrite) (T' := YWrite) (q := q_laws_toWrite) (W := W_laws_toWriteS_3) (fun x => w_laws_toWriteS_3 x) l (by omega) (fun x hm => to_Write x (by have := wt_mem (f := (YWrite).wt) hm; omega)) _
  rw [List.map_id'] at h2
  simp only [h1, cond_true, h2, Option.bind_some]
theorem eq_Write (x : (YWrite).den) (hx : (YWrite).wt x ≤ 1099511627776) : q_laws_eqWrite (x, x) = some true := by
  simp only [Ty.wt] at hx
  rw [e_laws_eqWrite]; unfold X_laws_eqWrite; simp only
  simp only [Option.bind_some, strEq_refl, decide_true, beq_self_eq_true, Bool.not_true, cond_false]
theorem eq_WriteS (l : List (YWrite).den) (hx : (Ty.sl YWrite).wt l ≤ 1099511627776) : q_laws_eqWriteS (l, l) = some true := by
  have hw : (Ty.sl YWrite).wt l = l.length + (l.map (YWrite).wt).sum := rfl
  rw [hw] at hx; rw [e_laws_eqWriteS]; unfold X_laws_eqWriteS; simp only
  have h2 : W_laws_eqWriteS_4 (l, l, (0 : Int)) = some (.inl ()) := Q.same (T := YWrite) (S := Unit) (q := q_laws_eqWrite) (W := W_laws_eqWriteS_4) (fun x => w_laws_eqWriteS_4 x) l (by omega) (fun x hm => eq_Write x (by have := wt_mem (f := (YWrite).wt) hm; omega))
  simp only [decide_true, Bool.not_true, cond_false, h2, Option.bind_some]
theorem sz_Version (x : (YVersion).den) (b : Int) (hf : (YVersion).fine x) (hb : 0 ≤ b) (hb2 : b ≤ 1048576) : q_laws_szVersion (x, b) = some (szr b ((YVersion).wt x)) := by
  obtain ⟨hf0, hf1, hf2, hf3⟩ := hf
  have hs0 : x.1.size ≤ 9223372036854775807 := by have := hf0; simp only [Ty.fine, maxLen] at this; exact this
  have hs1 : x.2.1.size ≤ 9223372036854775807 := by have := hf1; simp only [Ty.fine, maxLen] at this; exact this
  have hw : (YVersion).wt x = (x.1.size + (x.2.1.size + 0)) := by simp only [Ty.wt] <;> omega
  rw [hw, e_laws_szVersion]; unfold X_laws_szVersion; simp only
  rw [wrap64 (n := b - (x.1.size : Int)) (by omega) (by omega)]
  refine szr_str (fun c0 => ?_)
  rw [wrap64 (n := b - ((x.1.size : Nat) : Int) - (x.2.1.size : Int)) (by omega) (by omega)]
  refine szr_str (fun c1 => ?_)
  rw [szr_ok (by omega)]; simp
theorem sz_VersionS (l : List (YVersion).den) (b : Int) (hf : (Ty.sl YVersion).fine l) (hb : 0 ≤ b) (hb2 : b ≤ 1048576) : q_laws_szVersionS (l, b) = some (szr b ((Ty.sl YVersion).wt l)) := by
  have hl : l.length ≤ 9223372036854775807 := by have := hf.1; simp only [maxLen] at this; exact this
  rw [e_laws_szVersionS]; unfold X_laws_szVersionS; simp only
  rw [wrap64 (n := b - (l.length : Int)) (by omega) (by omega)]
  have hw : (Ty.sl YVersion).wt l = l.length + (l.map (YVersion).wt).sum := rfl
  rw [hw]; refine szr_str (fun c => ?_)
  exact Q.size (T := YVersion) (q := q_laws_szVersion) (W := W_laws_szVersionS_5) (fun x => w_laws_szVersionS_5 x) l (by omega) (fun x hx c h1 h2 => ⟨_, sz_Version x c (fine_mem hf hx) h1 h2, szr_spec⟩) (b - (l.length : Int)) (by omega) (by omega)
theorem to_Version (x : (YVersion).den) (hx : (YVersion).wt x ≤ 1099511627776) : q_laws_toVersion x = some x := by
  rw [e_laws_toVersion]; rfl
theorem to_VersionS (l : List (YVersion).den) (hx : (Ty.sl YVersion).wt l ≤ 1099511627776) : q_laws_toVersionS l = some l := by
  have hw : (Ty.sl YVersion).wt l = l.length + (l.map (YVersion).wt).sum := rfl
  rw [hw] at hx; rw [e_laws_toVersionS]; unfold X_laws_toVersionS
  have h1 : (decide (0 ≤ (l.length : Int)) && decide ((l.length : Int) ≤ 1099511627776)) = true := by simp; omega
  have h2 : W_laws_toVersionS_3 (l, (List.replicate ((l.length : Int)).toNat (YVersion).zero), (0 : Int)) = some (.inl (l.map fun x => x)) := Q.copy (T := YVersion) (T' := YVersion) (q := q_laws_toVersion) (W := W_laws_toVersionS_3) (fun x => w_laws_toVersionS_3 x) l (by omega) (fun x hm => to_Version x (by have := wt_mem (f := (YVersion).wt) hm; omega)) _
  rw [List.map_id'] at h2
  simp only [h1, cond_true, h2, Option.bind_some]
theorem eq_Version (x : (YVersion).den) (hx : (YVersion).wt x ≤ 1099511627776) : q_laws_eqVersion (x, x) = some true := by
  simp only [Ty.wt] at hx
  rw [e_laws_eqVersion]; unfold X_laws_eqVersion; simp only
  simp only [Option.bind_some, strEq_refl, decide_true, beq_self_eq_true, Bool.not_true, cond_false]
theorem eq_VersionS (l : List (YVersion).den) (hx : (Ty.sl YVersion).wt l ≤ 1099511627776) : q_laws_eqVersionS (l, l) = some true := by
  have hw : (Ty.sl YVersion).wt l = l.length + (l.map (YVersion).wt).sum := rfl
  rw [hw] at hx; rw [e_laws_eqVersionS]; unfold X_laws_eqVersionS; simp only
  have h2 : W_laws_eqVersionS_4 (l, l, (0 : Int)) = some (.inl ()) := Q.same (T := YVersion) (S := Unit) (q := q_laws_eqVersion) (W := W_laws_eqVersionS_4) (fun x => w_laws_eqVersionS_4 x) l (by omega) (fun x hm => eq_Version x (by have := wt_mem (f := (YVersion).wt) hm; omega))
  simp only [decide_true, Bool.not_true, cond_false, h2, Option.bind_some]
theorem sz_Put (x : (YPut).den) (b : Int) (hf : (YPut).fine x) (hb : 0 ≤ b) (hb2 : b ≤ 1048576) : q_laws_szPut (x, b) = some (szr b ((YPut).wt x)) := by
  obtain ⟨hf0, hf1⟩ := hf
  have hs1 : x.2.size ≤ 9223372036854775807 := by have := hf1; simp only [Ty.fine, maxLen] at this; exact this
  have hw : (YPut).wt x = (x.2.size + 0) := by simp only [Ty.wt] <;> omega
  rw [hw, e_laws_szPut]; unfold X_laws_szPut; simp only
  rw [wrap64 (n := b - (x.2.size : Int)) (by omega) (by omega)]
  refine szr_str (fun c1 => ?_)
  rw [szr_ok (by omega)]; simp
theorem sz_PutS (l : List (YPut).den) (b : Int) (hf : (Ty.sl YPut).fine l) (hb : 0 ≤ b) (hb2 : b ≤ 1048576) : q_laws_szPutS (l, b) = some (szr b ((Ty.sl YPut).wt l)) := by
  have hl : l.length ≤ 9223372036854775807 := by have := hf.1; simp only [maxLen] at this; exact this
  rw [e_laws_szPutS]; unfold X_laws_szPutS; simp only
  rw [wrap64 (n := b - (l.length : Int)) (by omega) (by omega)]
  have hw : (Ty.sl YPut).wt l = l.length + (l.map (YPut).wt).sum := rfl
  rw [hw]; refine szr_str (fun c => ?_)
  exact Q.size (T := YPut) (q := q_laws_szPut) (W := W_laws_szPutS_5) (fun x => w_laws_szPutS_5 x) l (by omega) (fun x hx c h1 h2 => ⟨_, sz_Put x c (fine_mem hf hx) h1 h2, szr_spec⟩) (b - (l.length : Int)) (by omega) (by omega)
theorem to_Put (x : (YPut).den) (hx : (YPut).wt x ≤ 1099511627776) : q_laws_toPut x = some x := by
  rw [e_laws_toPut]; rfl
theorem to_PutS (l : List (YPut).den) (hx : (Ty.sl YPut).wt l ≤ 1099511627776) : q_laws_toPutS l = some l := by
  have hw : (Ty.sl YPut).wt l = l.length + (l.map (YPut).wt).sum := rfl
  rw [hw] at hx; rw [e_laws_toPutS]; unfold X_laws_toPutS
  have h1 : (decide (0 ≤ (l.length : Int)) && decide ((l.length : Int) ≤ 1099511627776)) = true := by simp; omega
  have h2 : W_laws_toPutS_3 (l, (List.replicate ((l.length : Int)).toNat (YPut).zero), (0 : Int)) = some (.inl (l.map fun x => x)) := Q.copy (T := YPut) (T' := YPut) (q := q_laws_toPut) (W := W_laws_toPutS_3) (fun x => w_laws_toPutS_3 x) l (by omega) (fun x hm => to_Put x (by have := wt_mem (f := (YPut).wt) hm; omega)) _
  rw [List.map_id'] at h2
  simp only [h1, cond_true, h2, Option.bind_some]
theorem eq_Put (x : (YPut).den) (hx : (YPut).wt x ≤ 1099511627776) : q_laws_eqPut (x, x) = some true := by
  simp only [Ty.wt] at hx
  rw [e_laws_eqPut]; unfold X_laws_eqPut; simp only
  simp only [Option.bind_some, strEq_refl, decide_true, beq_self_eq_true, Bool.not_true, cond_false]
theorem eq_PutS (l : List (YPut).den) (hx : (Ty.sl YPut).wt l ≤ 1099511627776) : q_laws_eqPutS (l, l) = some true := by
  have hw : (Ty.sl YPut).wt l = l.length + (l.map (YPut).wt).sum := rfl
  rw [hw] at hx; rw [e_laws_eqPutS]; unfold X_laws_eqPutS; simp only
  have h2 : W_laws_eqPutS_4 (l, l, (0 : Int)) = some (.inl ()) := Q.same (T := YPut) (S := Unit) (q := q_laws_eqPut) (W := W_laws_eqPutS_4) (fun x => w_laws_eqPutS_4 x) l (by omega) (fun x hm => eq_Put x (by have := wt_mem (f := (YPut).wt) hm; omega))
  simp only [decide_true, Bool.not_true, cond_false, h2, Option.bind_some]
theorem sz_Disk (x : (YDisk).den) (b : Int) (hf : (YDisk).fine x) (hb : 0 ≤ b) (hb2 : b ≤ 1048576) : q_laws_szDisk (x, b) = some (szr b ((YDisk).wt x)) := by
  obtain ⟨hf0, hf1⟩ := hf
  have hw : (YDisk).wt x = ((Ty.sl Ty.str).wt x.1 + ((Ty.sl YPut).wt x.2 + 0)) := by simp only [Ty.wt] <;> omega
  rw [hw, e_laws_szDisk]; unfold X_laws_szDisk; simp only
  refine szr_bind (sz_StringS _ _ hf0 (by omega) (by omega)) (fun c0 => ?_)
  refine szr_bind (sz_PutS _ _ hf1 (by omega) (by omega)) (fun c1 => ?_)
  rw [szr_ok (by omega)]; simp
theorem to_Disk (x : (YDisk).den) (hx : (YDisk).wt x ≤ 1099511627776) : q_laws_toDisk x = some x := by
  simp only [Ty.wt] at hx
  rw [e_laws_toDisk]; unfold X_laws_toDisk
  simp only [to_StringS x.1 (by simp only [Ty.wt]; omega), to_PutS x.2 (by simp only [Ty.wt]; omega), Option.bind_some]
theorem eq_Disk (x : (YDisk).den) (hx : (YDisk).wt x ≤ 1099511627776) : q_laws_eqDisk (x, x) = some true := by
  simp only [Ty.wt] at hx
  rw [e_laws_eqDisk]; unfold X_laws_eqDisk; simp only
  simp only [eq_StringS x.1 (by simp only [Ty.wt]; omega), eq_PutS x.2 (by simp only [Ty.wt]; omega), Option.bind_some, strEq_refl, decide_true, beq_self_eq_true, Bool.not_true, cond_false]
theorem sz_Txn (x : (YTxn).den) (b : Int) (hf : (YTxn).fine x) (hb : 0 ≤ b) (hb2 : b ≤ 1048576) : q_laws_szTxn (x, b) = some (szr b ((YTxn).wt x)) := by
  obtain ⟨hf0, hf1, hf2, hf3, hf4, hf5, hf6, hf7⟩ := hf
  have hs7 : x.2.2.2.2.2.2.2.size ≤ 9223372036854775807 := by have := hf7; simp only [Ty.fine, maxLen] at this; exact this
  have hw : (YTxn).wt x = ((Ty.sl YRange).wt x.2.2.2.2.1 + ((Ty.sl YWrite).wt x.2.2.2.2.2.1 + (x.2.2.2.2.2.2.2.size + 0))) := by simp only [Ty.wt] <;> omega
  rw [hw, e_laws_szTxn]; unfold X_laws_szTxn; simp only
  refine szr_bind (sz_RangeS _ _ hf4 (by omega) (by omega)) (fun c4 => ?_)
  refine szr_bind (sz_WriteS _ _ hf5 (by omega) (by omega)) (fun c5 => ?_)
  rw [wrap64 (n := b - (((Ty.sl YRange).wt x.2.2.2.2.1 : Nat) : Int) - (((Ty.sl YWrite).wt x.2.2.2.2.2.1 : Nat) : Int) - (x.2.2.2.2.2.2.2.size : Int)) (by omega) (by omega)]
  refine szr_str (fun c7 => ?_)
  rw [szr_ok (by omega)]; simp
theorem sz_TxnS (l : List (YTxn).den) (b : Int) (hf : (Ty.sl YTxn).fine l) (hb : 0 ≤ b) (hb2 : b ≤ 1048576) : q_laws_szTxnS (l, b) = some (szr b ((Ty.sl YTxn).wt l)) := by
  have hl : l.length ≤ 9223372036854775807 := by have := hf.1; simp only [maxLen] at this; exact this
  rw [e_laws_szTxnS]; unfold X_laws_szTxnS; simp only
  rw [wrap64 (n := b - (l.length : Int)) (by omega) (by omega)]
  have hw : (Ty.sl YTxn).wt l = l.length + (l.map (YTxn).wt).sum := rfl
  rw [hw]; refine szr_str (fun c => ?_)
  exact Q.size (T := YTxn) (q := q_laws_szTxn) (W := W_laws_szTxnS_5) (fun x => w_laws_szTxnS_5 x) l (by omega) (fun x hx c h1 h2 => ⟨_, sz_Txn x c (fine_mem hf hx) h1 h2, szr_spec⟩) (b - (l.length : Int)) (by omega) (by omega)
theorem to_Txn (x : (YTxn).den) (hx : (YTxn).wt x ≤ 1099511627776) : q_laws_toTxn x = some x := by
  simp only [Ty.wt] at hx
  rw [e_laws_toTxn]; unfold X_laws_toTxn
  simp only [to_RangeS x.2.2.2.2.1 (by simp only [Ty.wt]; omega), to_WriteS x.2.2.2.2.2.1 (by simp only [Ty.wt]; omega), Option.bind_some]
theorem to_TxnS (l : List (YTxn).den) (hx : (Ty.sl YTxn).wt l ≤ 1099511627776) : q_laws_toTxnS l = some l := by
  have hw : (Ty.sl YTxn).wt l = l.length + (l.map (YTxn).wt).sum := rfl
  rw [hw] at hx; rw [e_laws_toTxnS]; unfold X_laws_toTxnS
  have h1 : (decide (0 ≤ (l.length : Int)) && decide ((l.length : Int) ≤ 1099511627776)) = true := by simp; omega
  have h2 : W_laws_toTxnS_3 (l, (List.replicate ((l.length : Int)).toNat (YTxn).zero), (0 : Int)) = some (.inl (l.map fun x => x)) := Q.copy (T := YTxn) (T' := YTxn) (q := q_laws_toTxn) (W := W_laws_toTxnS_3) (fun x => w_laws_toTxnS_3 x) l (by omega) (fun x hm => to_Txn x (by have := wt_mem (f := (YTxn).wt) hm; omega)) _
  rw [List.map_id'] at h2
  simp only [h1, cond_true, h2, Option.bind_some]
theorem eq_Txn (x : (YTxn).den) (hx : (YTxn).wt x ≤ 1099511627776) : q_laws_eqTxn (x, x) = some true := by
  simp only [Ty.wt] at hx
  rw [e_laws_eqTxn]; unfold X_laws_eqTxn; simp only
  simp only [eq_RangeS x.2.2.2.2.1 (by simp only [Ty.wt]; omega), eq_WriteS x.2.2.2.2.2.1 (by simp only [Ty.wt]; omega), Option.bind_some, strEq_refl, decide_true, beq_self_eq_true, Bool.not_true, cond_false]
theorem eq_TxnS (l : List (YTxn).den) (hx : (Ty.sl YTxn).wt l ≤ 1099511627776) : q_laws_eqTxnS (l, l) = some true := by
  have hw : (Ty.sl YTxn).wt l = l.length + (l.map (YTxn).wt).sum := rfl
  rw [hw] at hx; rw [e_laws_eqTxnS]; unfold X_laws_eqTxnS; simp only
  have h2 : W_laws_eqTxnS_4 (l, l, (0 : Int)) = some (.inl ()) := Q.same (T := YTxn) (S := Unit) (q := q_laws_eqTxn) (W := W_laws_eqTxnS_4) (fun x => w_laws_eqTxnS_4 x) l (by omega) (fun x hm => eq_Txn x (by have := wt_mem (f := (YTxn).wt) hm; omega))
  simp only [decide_true, Bool.not_true, cond_false, h2, Option.bind_some]
theorem sz_Base (x : (YBase).den) (b : Int) (hf : (YBase).fine x) (hb : 0 ≤ b) (hb2 : b ≤ 1048576) : q_laws_szBase (x, b) = some (szr b ((YBase).wt x)) := by
  obtain ⟨hf0, hf1, hf2, hf3, hf4⟩ := hf
  have hw : (YBase).wt x = ((Ty.sl YVersion).wt x.1 + ((Ty.sl YTxn).wt x.2.1 + ((Ty.sl YTxn).wt x.2.2.1 + 0))) := by simp only [Ty.wt] <;> omega
  rw [hw, e_laws_szBase]; unfold X_laws_szBase; simp only
  refine szr_bind (sz_VersionS _ _ hf0 (by omega) (by omega)) (fun c0 => ?_)
  refine szr_bind (sz_TxnS _ _ hf1 (by omega) (by omega)) (fun c1 => ?_)
  refine szr_bind (sz_TxnS _ _ hf2 (by omega) (by omega)) (fun c2 => ?_)
  rw [szr_ok (by omega)]; simp
theorem to_Base (x : (YBase).den) (hx : (YBase).wt x ≤ 1099511627776) : q_laws_toBase x = some x := by
  simp only [Ty.wt] at hx
  rw [e_laws_toBase]; unfold X_laws_toBase
  simp only [to_VersionS x.1 (by simp only [Ty.wt]; omega), to_TxnS x.2.1 (by simp only [Ty.wt]; omega), to_TxnS x.2.2.1 (by simp only [Ty.wt]; omega), Option.bind_some]
theorem eq_Base (x : (YBase).den) (hx : (YBase).wt x ≤ 1099511627776) : q_laws_eqBase (x, x) = some true := by
  simp only [Ty.wt] at hx
  rw [e_laws_eqBase]; unfold X_laws_eqBase; simp only
  simp only [eq_VersionS x.1 (by simp only [Ty.wt]; omega), eq_TxnS x.2.1 (by simp only [Ty.wt]; omega), eq_TxnS x.2.2.1 (by simp only [Ty.wt]; omega), Option.bind_some, strEq_refl, decide_true, beq_self_eq_true, Bool.not_true, cond_false]
theorem sz_Engine (x : (YEngine).den) (b : Int) (hf : (YEngine).fine x) (hb : 0 ≤ b) (hb2 : b ≤ 1048576) : q_laws_szEngine (x, b) = some (szr b ((YEngine).wt x)) := by
  obtain ⟨hf0, hf1⟩ := hf
  have hw : (YEngine).wt x = (YBase.wt x.1 + ((Ty.sl YTxn).wt x.2 + 0)) := by simp only [Ty.wt] <;> omega
  rw [hw, e_laws_szEngine]; unfold X_laws_szEngine; simp only
  refine szr_bind (sz_Base _ _ hf0 (by omega) (by omega)) (fun c0 => ?_)
  refine szr_bind (sz_TxnS _ _ hf1 (by omega) (by omega)) (fun c1 => ?_)
  rw [szr_ok (by omega)]; simp
theorem to_Engine (x : (YEngine).den) (hx : (YEngine).wt x ≤ 1099511627776) : q_laws_toEngine x = some x := by
  simp only [Ty.wt] at hx
  rw [e_laws_toEngine]; unfold X_laws_toEngine
  simp only [to_Base x.1 (by simp only [Ty.wt]; omega), to_TxnS x.2 (by simp only [Ty.wt]; omega), Option.bind_some]
theorem eq_Engine (x : (YEngine).den) (hx : (YEngine).wt x ≤ 1099511627776) : q_laws_eqEngine (x, x) = some true := by
  simp only [Ty.wt] at hx
  rw [e_laws_eqEngine]; unfold X_laws_eqEngine; simp only
  simp only [eq_Base x.1 (by simp only [Ty.wt]; omega), eq_TxnS x.2 (by simp only [Ty.wt]; omega), Option.bind_some, strEq_refl, decide_true, beq_self_eq_true, Bool.not_true, cond_false]
theorem sz_Store (x : (YStore).den) (b : Int) (hf : (YStore).fine x) (hb : 0 ≤ b) (hb2 : b ≤ 1048576) : q_laws_szStore (x, b) = some (szr b ((YStore).wt x)) := by
  obtain ⟨hf0, hf1⟩ := hf
  have hw : (YStore).wt x = (YEngine.wt x.1 + (YDisk.wt x.2 + 0)) := by simp only [Ty.wt] <;> omega
  rw [hw, e_laws_szStore]; unfold X_laws_szStore; simp only
  refine szr_bind (sz_Engine _ _ hf0 (by omega) (by omega)) (fun c0 => ?_)
  refine szr_bind (sz_Disk _ _ hf1 (by omega) (by omega)) (fun c1 => ?_)
  rw [szr_ok (by omega)]; simp
theorem to_Store (x : (YStore).den) (hx : (YStore).wt x ≤ 1099511627776) : q_laws_toStore x = some x := by
  simp only [Ty.wt] at hx
  rw [e_laws_toStore]; unfold X_laws_toStore
  simp only [to_Engine x.1 (by simp only [Ty.wt]; omega), to_Disk x.2 (by simp only [Ty.wt]; omega), Option.bind_some]
theorem eq_Store (x : (YStore).den) (hx : (YStore).wt x ≤ 1099511627776) : q_laws_eqStore (x, x) = some true := by
  simp only [Ty.wt] at hx
  rw [e_laws_eqStore]; unfold X_laws_eqStore; simp only
  simp only [eq_Engine x.1 (by simp only [Ty.wt]; omega), eq_Disk x.2 (by simp only [Ty.wt]; omega), Option.bind_some, strEq_refl, decide_true, beq_self_eq_true, Bool.not_true, cond_false]
theorem sz_World (x : (YWorld).den) (b : Int) (hf : (YWorld).fine x) (hb : 0 ≤ b) (hb2 : b ≤ 1048576) : q_laws_szWorld (x, b) = some (szr b ((YWorld).wt x)) := by
  obtain ⟨hf0, hf1, hf2, hf3⟩ := hf
  have hw : (YWorld).wt x = (YStore.wt x.1 + ((Ty.sl YTxn).wt x.2.1 + ((Ty.sl (Ty.int .i64)).wt x.2.2.1 + ((Ty.sl Ty.str).wt x.2.2.2 + 0)))) := by simp only [Ty.wt] <;> omega
  rw [hw, e_laws_szWorld]; unfold X_laws_szWorld; simp only
  refine szr_bind (sz_Store _ _ hf0 (by omega) (by omega)) (fun c0 => ?_)
  refine szr_bind (sz_TxnS _ _ hf1 (by omega) (by omega)) (fun c1 => ?_)
  refine szr_bind (sz_IntS _ _ hf2 (by omega) (by omega)) (fun c2 => ?_)
  refine szr_bind (sz_StringS _ _ hf3 (by omega) (by omega)) (fun c3 => ?_)
  rw [szr_ok (by omega)]; simp
theorem to_World (x : (YWorld).den) (hx : (YWorld).wt x ≤ 1099511627776) : q_laws_toWorld x = some x := by
  simp only [Ty.wt] at hx
  rw [e_laws_toWorld]; unfold X_laws_toWorld
  simp only [to_Store x.1 (by simp only [Ty.wt]; omega), to_TxnS x.2.1 (by simp only [Ty.wt]; omega), to_IntS x.2.2.1 (by simp only [Ty.wt]; omega), to_StringS x.2.2.2 (by simp only [Ty.wt]; omega), Option.bind_some]
theorem eq_World (x : (YWorld).den) (hx : (YWorld).wt x ≤ 1099511627776) : q_laws_eqWorld (x, x) = some true := by
  simp only [Ty.wt] at hx
  rw [e_laws_eqWorld]; unfold X_laws_eqWorld; simp only
  simp only [eq_Store x.1 (by simp only [Ty.wt]; omega), eq_TxnS x.2.1 (by simp only [Ty.wt]; omega), eq_IntS x.2.2.1 (by simp only [Ty.wt]; omega), eq_StringS x.2.2.2 (by simp only [Ty.wt]; omega), Option.bind_some, strEq_refl, decide_true, beq_self_eq_true, Bool.not_true, cond_false]
end
section
theorem ble_cap {n : Nat} (h : n ≤ 1099511627776) : Nat.ble n cap40 = true := Nat.ble_eq_true_of_le h
def inR (r : ByteArray × ByteArray) (k : ByteArray) : Bool := !strLt k r.1 && (strLt k r.2 || strEq k r.2)
theorem InRange_spec (r : ByteArray × ByteArray) (k : ByteArray) : q_spec_InRange (r, k) = some (inR r k) := by
  rw [e_spec_InRange]; unfold X_spec_InRange inR; cases strLt k r.1 <;> rfl
theorem InRange_impl (r : ByteArray × ByteArray) (k : ByteArray) : q_impl_InRange (r, k) = some (inR r k) := by
  rw [e_impl_InRange]; unfold X_impl_InRange inR; cases strLt k r.1 <;> rfl
def touches (r : List YRange.den) (w : List YWrite.den) : Bool := r.any fun x => w.any fun y => inR x y.1
def meets (a b : List YWrite.den) : Bool := a.any fun x => b.any fun y => strEq x.1 y.1
def viewOf (m : List YCell.den) (r : YRange.den) : List YPair.den := m.filter fun c => inR r c.1
theorem ViewOf_spec (m : List YCell.den) (r : YRange.den) (hm : m.length ≤ 1099511627775) : q_spec_ViewOf (m, r) = some (viewOf m r) := by
  have L := W_pick W_spec_ViewOf_3 m (fun a i => (m, r, a, i)) (fun c => inR r c.1) (fun c => c) (fun a => .inl a) (by omega)
    (fun a _ => by rw [w_spec_ViewOf_3]; simp only [S_spec_ViewOf_3, lt_cast, Nat.lt_irrefl, decide_false, cond_false])
    (fun i hi a ha => by
      rw [w_spec_ViewOf_3]; simp only [S_spec_ViewOf_3, lt_cast, hi, decide_true, cond_true, gIdx_nat hi, Int.toNat_natCast, rdL_get hi, InRange_spec, Option.bind_some, List.length_singleton, ble_cap (show a.length + 1 ≤ 1099511627776 by omega)]
      rw [wrap_succ (by omega)])
  rw [List.map_id'] at L
  rw [e_spec_ViewOf]; unfold X_spec_ViewOf
  simp only [L, Option.bind_some]
  rfl
theorem ViewOf_impl (m : List YCell.den) (r : YRange.den) (hm : m.length ≤ 1099511627775) : q_impl_ViewOf (m, r) = some (viewOf m r) := by
  have L := W_pick W_impl_ViewOf_3 m (fun a i => (r, a, m, (m.length : Int), i)) (fun c => inR r c.1) (fun c => c) (fun a => .inl a) (by omega)
    (fun a _ => by rw [w_impl_ViewOf_3]; simp only [S_impl_ViewOf_3, lt_cast, Nat.lt_irrefl, decide_false, cond_false])
    (fun i hi a ha => by
      rw [w_impl_ViewOf_3]; simp only [S_impl_ViewOf_3, lt_cast, hi, decide_true, cond_true, gIdx_nat hi, Int.toNat_natCast, rdL_get hi, InRange_impl, Option.bind_some, List.length_singleton, ble_cap (show a.length + 1 ≤ 1099511627776 by omega)]
      rw [wrap_succ (by omega)])
  rw [List.map_id'] at L
  rw [e_impl_ViewOf]; unfold X_impl_ViewOf
  simp only [L, Option.bind_some]
  rfl
end
section
theorem W_count {X R A : Type} (W : X → Option R) (n : Nat) (mk : A → Int → X) (v : Nat → A) (r : R) (hend : W (mk (v n) (n : Int)) = some r)
    (hstep : ∀ i, i < n → W (mk (v i) (i : Int)) = W (mk (v (i + 1)) ((i + 1 : Nat) : Int))) : W (mk (v 0) 0) = some r := by
  have := W_nat W n (fun (_ : Unit) i => mk (v i.toNat) i) (fun _ _ => r) (fun _ _ => True) (fun _ _ => by simpa using hend) (fun i a hi _ => .inr ⟨(), trivial, rfl, by
    have h := hstep i hi
    have e : ((i : Int) + 1).toNat = i + 1 := by omega
    simp only [Int.toNat_natCast]
    exact h⟩) 0 () (Nat.zero_le _) trivial
  simpa using this
theorem fold_flt {α : Type} (p : α → Bool) : ∀ (l a : List α), l.foldl (fun a x => if p x = true then a ++ [x] else a) a = a ++ l.filter p
  | [], a => by simp
  | x :: l, a => by
    rw [List.foldl_cons, fold_flt p l]
    cases hc : p x <;> simp [hc]
abbrev VerT := ByteArray × ByteArray × Bool × Int
def emp : ByteArray := ⟨#[]⟩
def atStep (l : List VerT) (k : ByteArray) (snap out : Int) (i : Nat) : Int :=
  if strEq (rdL YVersion l i).1 k = true ∧ (rdL YVersion l i).2.2.2 ≤ snap ∧ (out < 0 ∨ (rdL YVersion l i).2.2.2 > (rdL YVersion l out.toNat).2.2.2) then (i : Int) else out
def atGo (l : List VerT) (k : ByteArray) (snap : Int) : Nat → Int
  | 0 => -1
  | n + 1 => atStep l k snap (atGo l k snap n) n
def lastAt (l : List VerT) (k : ByteArray) (snap : Int) : Int := atGo l k snap l.length
theorem atGo_rng (l : List VerT) (k : ByteArray) (snap : Int) : ∀ n, -1 ≤ atGo l k snap n ∧ atGo l k snap n < (n : Int)
  | 0 => by simp [atGo]
  | n + 1 => by
    have := atGo_rng l k snap n
    simp only [atGo, atStep]
    split <;> omega
theorem lastAt_rng (l : List VerT) (k : ByteArray) (snap : Int) : -1 ≤ lastAt l k snap ∧ lastAt l k snap < (l.length : Int) := atGo_rng l k snap l.length
theorem lastAt_spec (l : List VerT) (k : ByteArray) (snap : Int) (hl : l.length ≤ 1099511627776) : q_spec_l06At (l, k, snap) = some (lastAt l k snap) := by
  have L := W_count W_spec_l06At_3 l.length (fun a i => (l, k, snap, a, i)) (fun i => atGo l k snap i) (.inl (lastAt l k snap))
    (by rw [w_spec_l06At_3]; simp only [S_spec_l06At_3, lt_cast, Nat.lt_irrefl, decide_false, cond_false]; rfl)
    (fun i hi => by
      have hr := atGo_rng l k snap i
      rw [w_spec_l06At_3]
      simp only [S_spec_l06At_3, lt_cast, hi, decide_true, cond_true, gIdx_nat hi, Int.toNat_natCast, atGo, atStep]
      rw [wrap_succ (by omega)]
      cases h1 : strEq (rdL YVersion l i).1 k with
      | false => simp [h1]
      | true =>
        by_cases h2 : (rdL YVersion l i).2.2.2 ≤ snap
        · by_cases h3 : atGo l k snap i < 0
          · simp [h1, h2, h3]
          · have hg : gIdx (atGo l k snap i) l.length = true := gIdx_iff.mpr ⟨by omega, by omega⟩
            by_cases h4 : (rdL YVersion l i).2.2.2 > (rdL YVersion l (atGo l k snap i).toNat).2.2.2
            · simp [h1, h2, h3, h4, hg]
            · simp [h1, h2, h3, h4, hg]
        · simp [h1, h2])
  have L : W_spec_l06At_3 (l, k, snap, -1, 0) = _ := L
  rw [e_spec_l06At]; unfold X_spec_l06At
  simp only [L, Option.bind_some]
theorem lastAt_impl (l : List VerT) (k : ByteArray) (snap : Int) (hl : l.length ≤ 1099511627776) : q_impl_lastAt (l, k, snap) = some (lastAt l k snap) := by
  have L := W_count W_impl_lastAt_3 l.length (fun a i => (l, k, snap, a, l, (l.length : Int), i)) (fun i => atGo l k snap i) (.inl (lastAt l k snap))
    (by rw [w_impl_lastAt_3]; simp only [S_impl_lastAt_3, lt_cast, Nat.lt_irrefl, decide_false, cond_false]; rfl)
    (fun i hi => by
      have hr := atGo_rng l k snap i
      rw [w_impl_lastAt_3]
      simp only [S_impl_lastAt_3, lt_cast, hi, decide_true, cond_true, gIdx_nat hi, Int.toNat_natCast, atGo, atStep]
      rw [wrap_succ (by omega)]
      cases h1 : strEq (rdL YVersion l i).1 k with
      | false => simp [h1]
      | true =>
        by_cases h2 : (rdL YVersion l i).2.2.2 ≤ snap
        · by_cases h3 : atGo l k snap i < 0
          · simp [h1, h2, h3]
          · have hg : gIdx (atGo l k snap i) l.length = true := gIdx_iff.mpr ⟨by omega, by omega⟩
            by_cases h4 : (rdL YVersion l i).2.2.2 > (rdL YVersion l (atGo l k snap i).toNat).2.2.2
            · simp [h1, h2, h3, h4, hg]
            · simp [h1, h2, h3, h4, hg]
        · simp [h1, h2])
  have L : W_impl_lastAt_3 (l, k, snap, -1, l, (l.length : Int), 0) = _ := L
  rw [e_impl_lastAt]; unfold X_impl_lastAt
  simp only [L, Option.bind_some]
def seenAt (l : List VerT) (k : ByteArray) (snap : Int) : ByteArray × Bool :=
  if lastAt l k snap < 0 ∨ (rdL YVersion l (lastAt l k snap).toNat).2.2.1 = true then (emp, false) else ((rdL YVersion l (lastAt l k snap).toNat).2.1, true)
theorem seen_body (l : List VerT) (k : ByteArray) (snap : Int) (y : Int) (hy : y = lastAt l k snap) :
    (((bif decide (y < 0) then some true else (bif gIdx y l.length then some (rdL YVersion l y.toNat).2.2.1 else none)) : Option Bool).bind fun j2 => (bif j2 then some ((⟨#[]⟩ : ByteArray), false) else (bif gIdx y l.length then some ((rdL YVersion l y.toNat).2.1, true) else none))) = some (seenAt l k snap) := by
  subst hy
  have hr := lastAt_rng l k snap
  unfold seenAt
  by_cases h : lastAt l k snap < 0
  · simp [h, emp]
  · have hg : gIdx (lastAt l k snap) l.length = true := gIdx_iff.mpr ⟨by omega, by omega⟩
    cases h2 : (rdL YVersion l (lastAt l k snap).toNat).2.2.1 <;> simp [h, hg, h2, emp]
theorem SeenAt_spec (l : List VerT) (k : ByteArray) (snap : Int) (hl : l.length ≤ 1099511627776) : q_spec_SeenAt (l, k, snap) = some (seenAt l k snap) := by
  rw [e_spec_SeenAt]; unfold X_spec_SeenAt
  simp only [lastAt_spec l k snap hl, Option.bind_some]
  exact seen_body l k snap _ rfl
theorem SeenAt_impl (l : List VerT) (k : ByteArray) (snap : Int) (hl : l.length ≤ 1099511627776) : q_impl_SeenAt (l, k, snap) = some (seenAt l k snap) := by
  rw [e_impl_SeenAt]; unfold X_impl_SeenAt
  simp only [lastAt_impl l k snap hl, Option.bind_some]
  exact seen_body l k snap _ rfl
theorem Keys_impl (l : List VerT) (hl : l.length ≤ 1099511627775) : q_impl_keysOf l = some (keysS (l.map fun v => v.1)) := by
  have L := W_pick W_impl_keysOf_3 l (fun a i => (a, l, (l.length : Int), i)) (fun _ => true) (fun v => v.1) (fun a => .inl a) (by omega)
    (fun a _ => by rw [w_impl_keysOf_3]; simp only [S_impl_keysOf_3, lt_cast, Nat.lt_irrefl, decide_false, cond_false])
    (fun i hi a ha => by
      rw [w_impl_keysOf_3]; simp only [S_impl_keysOf_3, lt_cast, hi, decide_true, cond_true, gIdx_nat hi, Int.toNat_natCast, rdL_get (t := YVersion) hi, List.length_singleton, ble_cap (show a.length + 1 ≤ 1099511627776 by omega)]
      rw [wrap_succ (by omega)])
  have hf : l.filter (fun _ => true) = l := by simp
  rw [hf] at L
  have h1 : pSort (l.map fun v => v.1) = some (sortS (l.map fun v => v.1)) := by
    unfold pSort; rw [List.length_map, ble_cap (by omega)]; rfl
  have h2 : pCompact (sortS (l.map fun v => v.1)) = some (keysS (l.map fun v => v.1)) := by
    unfold pCompact; rw [sortS_len, List.length_map, ble_cap (by omega)]; rfl
  rw [e_impl_keysOf]; unfold X_impl_keysOf
  simp only [L, Option.bind_some, e_slices_Sort_string_string, e_slices_Compact_string_string]
  simp only [h1, h2, Option.bind_some]
theorem keysS_len (l : List ByteArray) : (keysS l).length ≤ l.length := by
  have := compact_len_le (sortS l)
  rw [sortS_len] at this
  exact this
theorem l06Keys_low (k : ByteArray) (r : ByteArray × ByteArray) (l : List VerT) (j : Int) (out : List ByteArray) (ho : out.length ≤ 1099511627775) :
    W_spec_l06Keys_9 (l, r, out, j, k, [], 0) = some (.inl (l, r, out, j, k, out.filter fun x => strLt x k)) := by
  have L := W_pick W_spec_l06Keys_9 out (fun a i => (l, r, out, j, k, a, i)) (fun x => strLt x k) (fun x => x) (fun a => .inl (l, r, out, j, k, a)) (by omega)
    (fun a _ => by rw [w_spec_l06Keys_9]; simp only [S_spec_l06Keys_9, lt_cast, Nat.lt_irrefl, decide_false, cond_false])
    (fun i hi a ha => by
      rw [w_spec_l06Keys_9]; simp only [S_spec_l06Keys_9, lt_cast, hi, decide_true, cond_true, gIdx_nat hi, Int.toNat_natCast, rdL_get (t := Ty.str) hi, List.length_singleton, ble_cap (show a.length + 1 ≤ 1099511627776 by omega)]
      rw [wrap_succ (by omega)])
  rw [List.map_id'] at L
  exact L
theorem l06Keys_high (k : ByteArray) (r : ByteArray × ByteArray) (l : List VerT) (j : Int) (out a0 : List ByteArray) (ho : out.length + a0.length ≤ 1099511627775) :
    W_spec_l06Keys_15 (l, r, out, j, k, a0, 0) = some (.inl (l, r, j, a0 ++ out.filter fun x => !(strLt x k || strEq x k))) := by
  have L := W_fold W_spec_l06Keys_15 out (fun a i => (l, r, out, j, k, a, i)) (fun a x => if (!(strLt x k || strEq x k)) = true then a ++ [x] else a) (fun a => .inl (l, r, j, a)) (fun i a => a.length ≤ a0.length + i)
    (fun a _ => by rw [w_spec_l06Keys_15]; simp only [S_spec_l06Keys_15, lt_cast, Nat.lt_irrefl, decide_false, cond_false])
    (fun i hi a ha => by
      rw [w_spec_l06Keys_15]; simp only [S_spec_l06Keys_15, lt_cast, hi, decide_true, cond_true, gIdx_nat hi, Int.toNat_natCast, rdL_get (t := Ty.str) hi, List.length_singleton, ble_cap (show a.length + 1 ≤ 1099511627776 by omega)]
      rw [wrap_succ (by omega)]
      cases hc : (!(strLt out[i] k || strEq out[i] k)) with
      | true => simp; omega
      | false => simp; omega) a0 (by simp)
  rw [fold_flt (fun x => !(strLt x k || strEq x k))] at L
  exact L
theorem insK_len (k : ByteArray) (l : List ByteArray) : (insK k l).length ≤ l.length + 1 := by
  unfold insK
  have h : (fun x => !(strLt x k || strEq x k)) = fun x => strLt k x := by funext x; exact gt_iff
  rw [h]
  have : (l.filter fun x => strLt x k).length + (l.filter fun x => strLt k x).length ≤ l.length := by
    induction l with
    | nil => simp
    | cons x l ih =>
      simp only [List.filter_cons]
      cases h1 : strLt x k with
      | true => rw [sLt_asym h1]; simp; omega
      | false => cases h2 : strLt k x <;> simp <;> omega
  simp
  omega
theorem Keys_spec (l : List VerT) (r : ByteArray × ByteArray) (hl : l.length ≤ 500000000000) : q_spec_l06Keys (l, r) = some ((keysS (l.map fun v => v.1)).filter fun k => inR r k) := by
  have L := W_fold W_spec_l06Keys_3 l (fun a i => (l, r, a, i)) (fun a v => if inR r v.1 = true then insK v.1 a else a) (fun a => .inl a) (fun i a => a.length ≤ i)
    (fun a _ => by rw [w_spec_l06Keys_3]; simp only [S_spec_l06Keys_3, lt_cast, Nat.lt_irrefl, decide_false, cond_false])
    (fun i hi a ha => by
      rw [w_spec_l06Keys_3]; simp only [S_spec_l06Keys_3, lt_cast, hi, decide_true, cond_true, gIdx_nat hi, Int.toNat_natCast, rdL_get (t := YVersion) hi, InRange_spec, Option.bind_some]
      cases hc : inR r l[i].1 with
      | false =>
        simp only [Bool.not_false, cond_true, Bool.false_eq_true, if_false]
        rw [wrap_succ (by omega)]
        exact ⟨by omega, rfl⟩
      | true =>
        have hlow : (a.filter fun x => strLt x l[i].1).length ≤ a.length := List.length_filter_le _ _
        simp only [Bool.not_true, cond_false, if_true, l06Keys_low l[i].1 r l (i : Int) a (by omega), Option.bind_some, List.length_singleton, ble_cap (show (a.filter fun x => strLt x l[i].1).length + 1 ≤ 1099511627776 by omega), cond_true,
          l06Keys_high l[i].1 r l (i : Int) a (a.filter (fun x => strLt x l[i].1) ++ [l[i].1]) (by simp; omega)]
        rw [wrap_succ (by omega)]
        exact ⟨Nat.le_trans (insK_len _ _) (by omega), rfl⟩) [] (by simp)
  rw [e_spec_l06Keys]; unfold X_spec_l06Keys
  simp only [L, Option.bind_some]
  have hfold : ∀ (m : List VerT) (a : List ByteArray), m.foldl (fun a v => if inR r v.1 = true then insK v.1 a else a) a = ((m.map fun v => v.1).filter fun k => inR r k).foldl (fun a k => insK k a) a := by
    intro m
    induction m with
    | nil => intro a; rfl
    | cons x m ih =>
      intro a
      rw [List.foldl_cons, ih]
      cases hc : inR r x.1 <;> simp [hc]
  rw [hfold, keys_eq]
def scanAt (l : List VerT) (r : ByteArray × ByteArray) (snap : Int) : List (ByteArray × ByteArray) :=
  ((keysS (l.map fun v => v.1)).filter fun k => (seenAt l k snap).2 && inR r k).map fun k => (k, (seenAt l k snap).1)
theorem ScanAt_spec (l : List VerT) (r : ByteArray × ByteArray) (snap : Int) (hl : l.length ≤ 500000000000) : q_spec_ScanAt (l, r, snap) = some (scanAt l r snap) := by
  obtain ⟨ks, hks⟩ : ∃ ks, ks = (keysS (l.map fun v => v.1)).filter fun k => inR r k := ⟨_, rfl⟩
  have hkl : ks.length ≤ l.length := by
    rw [hks]
    refine Nat.le_trans (List.length_filter_le _ _) (Nat.le_trans (keysS_len _) (by simp))
  have L := W_pick W_spec_ScanAt_4 ks (fun a i => (l, snap, a, ks, i)) (fun k => (seenAt l k snap).2) (fun k => (k, (seenAt l k snap).1)) (fun a => .inl a) (by omega)
    (fun a _ => by rw [w_spec_ScanAt_4]; simp only [S_spec_ScanAt_4, lt_cast, Nat.lt_irrefl, decide_false, cond_false])
    (fun i hi a ha => by
      rw [w_spec_ScanAt_4]; simp only [S_spec_ScanAt_4, lt_cast, hi, decide_true, cond_true, gIdx_nat hi, Int.toNat_natCast, rdL_get (t := Ty.str) hi, SeenAt_spec l _ snap (show l.length ≤ 1099511627776 by omega), Option.bind_some, List.length_singleton, ble_cap (show a.length + 1 ≤ 1099511627776 by omega)]
      rw [wrap_succ (by omega)])
  rw [e_spec_ScanAt]; unfold X_spec_ScanAt
  simp only [Keys_spec l r hl, Option.bind_some]
  rw [← hks]
  simp only [L, Option.bind_some]
  rw [hks, List.filter_filter]
  rfl
theorem ScanAt_impl (l : List VerT) (r : ByteArray × ByteArray) (snap : Int) (hl : l.length ≤ 500000000000) : q_impl_ScanAt (l, r, snap) = some (scanAt l r snap) := by
  obtain ⟨ks, hks⟩ : ∃ ks, ks = keysS (l.map fun v => v.1) := ⟨_, rfl⟩
  have hkl : ks.length ≤ l.length := by
    rw [hks]
    refine Nat.le_trans (keysS_len _) (by simp)
  have L := W_pick W_impl_ScanAt_3 ks (fun a i => (l, snap, r, a, ks, (ks.length : Int), i)) (fun k => (seenAt l k snap).2 && inR r k) (fun k => (k, (seenAt l k snap).1)) (fun a => .inl a) (by omega)
    (fun a _ => by rw [w_impl_ScanAt_3]; simp only [S_impl_ScanAt_3, lt_cast, Nat.lt_irrefl, decide_false, cond_false])
    (fun i hi a ha => by
      rw [w_impl_ScanAt_3]; simp only [S_impl_ScanAt_3, lt_cast, hi, decide_true, cond_true, gIdx_nat hi, Int.toNat_natCast, rdL_get (t := Ty.str) hi, SeenAt_impl l _ snap (show l.length ≤ 1099511627776 by omega), InRange_impl, Option.bind_some, List.length_singleton, ble_cap (show a.length + 1 ≤ 1099511627776 by omega)]
      rw [wrap_succ (by omega)]
      cases (seenAt l ks[i] snap).2 <;> rfl)
  rw [e_impl_ScanAt]; unfold X_impl_ScanAt
  simp only [Keys_impl l (show l.length ≤ 1099511627775 by omega), Option.bind_some]
  rw [← hks]
  simp only [L, Option.bind_some]
  rw [hks]
  rfl
end
section
theorem tw_facts {E : Type} (p : E → Bool) : ∀ (l : List E), (l.takeWhile p).length ≤ l.length ∧ (∀ (i : Nat) (h : i < l.length), i < (l.takeWhile p).length → p l[i] = true) ∧
    (∀ (h : (l.takeWhile p).length < l.length), p l[(l.takeWhile p).length] = false) ∧ l.takeWhile p = l.take (l.takeWhile p).length ∧ l.dropWhile p = l.drop (l.takeWhile p).length
  | [] => ⟨Nat.le_refl _, fun i h => absurd h (Nat.not_lt_zero i), fun h => absurd h (Nat.not_lt_zero _), rfl, rfl⟩
  | x :: l => by
    obtain ⟨h1, h2, h3, h4, h5⟩ := tw_facts p l
    cases hp : p x with
    | false =>
      simp only [List.takeWhile_cons, hp, List.dropWhile_cons, Bool.false_eq_true, if_false, List.length_nil]
      exact ⟨Nat.zero_le _, fun i _ h => absurd h (Nat.not_lt_zero i), fun _ => hp, rfl, rfl⟩
    | true =>
      simp only [List.takeWhile_cons, hp, List.dropWhile_cons, if_true, List.length_cons]
      refine ⟨by omega, fun i h k => ?_, fun h => ?_, ?_, ?_⟩
      · cases i with
        | zero => exact hp
        | succ i => simpa using h2 i (by simpa using h) (by omega)
      · simpa using h3 (by omega)
      · rw [List.take_succ_cons, ← h4]
      · rw [List.drop_succ_cons, ← h5]
/-- A loop that takes as long as it may. -/
theorem W_take {X R E : Type} (W : X → Option R) (l : List E) (mk : List E → Int → X) (p : E → Bool) (fin : List E → Int → R)
    (hend : W (mk l (l.length : Int)) = some (fin l (l.length : Int)))
    (hstep : ∀ (i : Nat) (h : i < l.length), W (mk (l.take i) (i : Int)) = bif p l[i] then W (mk (l.take (i + 1)) ((i + 1 : Nat) : Int)) else some (fin (l.take i) (i : Int))) :
    W (mk [] 0) = some (fin (l.takeWhile p) ((l.takeWhile p).length : Int)) := by
  obtain ⟨h1, h2, h3, h4, _⟩ := tw_facts p l
  have := W_nat W (l.takeWhile p).length (fun (a : List E) i => mk a i) (fun _ _ => fin (l.takeWhile p) ((l.takeWhile p).length : Int)) (fun i a => a = l.take i)
    (fun a ha => by
      rw [ha]
      by_cases hk : (l.takeWhile p).length < l.length
      · rw [hstep _ hk, h3 hk, cond_false, ← h4]
      · have e : (l.takeWhile p).length = l.length := by omega
        have e2 : l.takeWhile p = l := by rw [h4, e]; exact List.take_length
        rw [e2, List.take_length]
        exact hend)
    (fun i a hi ha => .inr ⟨_, rfl, rfl, by rw [ha, hstep i (by omega), h2 i (by omega) hi, cond_true]⟩) 0 [] (Nat.zero_le _) (by simp)
  exact this
/-- A loop that looks for the first that does not pass. -/
theorem W_first {X R E : Type} (W : X → Option R) (l : List E) (mk : Int → X) (p : E → Bool) (yes : Int → R) (no : R)
    (hend : W (mk (l.length : Int)) = some no)
    (hstep : ∀ (i : Nat) (h : i < l.length), W (mk (i : Int)) = bif p l[i] then W (mk ((i + 1 : Nat) : Int)) else some (yes (i : Int))) :
    W (mk 0) = some (if (l.takeWhile p).length < l.length then yes ((l.takeWhile p).length : Int) else no) := by
  obtain ⟨h1, h2, h3, _, _⟩ := tw_facts p l
  have := W_nat W (l.takeWhile p).length (fun (_ : Unit) i => mk i) (fun _ _ => if (l.takeWhile p).length < l.length then yes ((l.takeWhile p).length : Int) else no) (fun _ _ => True)
    (fun a _ => by
      by_cases hk : (l.takeWhile p).length < l.length
      · rw [hstep _ hk, h3 hk, cond_false, if_pos hk]
      · have e : (l.takeWhile p).length = l.length := by omega
        rw [if_neg hk, e]
        exact hend)
    (fun i a hi _ => .inr ⟨(), trivial, rfl, by rw [hstep i (by omega), h2 i (by omega) hi, cond_true]⟩) 0 () (Nat.zero_le _) trivial
  exact this
def verLe (v y : VerT) : Bool := strLt y.1 v.1 || (strEq y.1 v.1 && decide (y.2.2.2 ≤ v.2.2.2))
def putV (l : List VerT) (v : VerT) : List VerT := l.takeWhile (verLe v) ++ [v] ++ l.dropWhile (verLe v)
def putVs (l : List VerT) (ws : List YWrite.den) (cs : Int) : List VerT := ws.foldl (fun l w => putV l (w.1, w.2.1, w.2.2, cs)) l
theorem putV_len (l : List VerT) (v : VerT) : (putV l v).length = l.length + 1 := by
  have : l.length = (l.takeWhile (verLe v)).length + (l.dropWhile (verLe v)).length := by rw [← List.length_append, List.takeWhile_append_dropWhile]
  simp [putV]
  omega
theorem putVs_len : ∀ (ws : List YWrite.den) (l : List VerT) (cs : Int), (putVs l ws cs).length = l.length + ws.length
  | [], l, cs => rfl
  | w :: ws, l, cs => by
    have := putVs_len ws (putV l (w.1, w.2.1, w.2.2, cs)) cs
    unfold putVs at this ⊢
    rw [List.foldl_cons, this, putV_len]
    simp
    omega
theorem putV_eq (l : List VerT) (v : VerT) : putV l v = l.take (l.takeWhile (verLe v)).length ++ [v] ++ l.drop (l.takeWhile (verLe v)).length := by
  obtain ⟨_, _, _, h4, h5⟩ := tw_facts (verLe v) l
  unfold putV
  rw [← h4, ← h5]
theorem Cmp_string (a b : ByteArray) : q_cmp_Compare_string (a, b) = some (if strLt a b then -1 else if strEq a b then 0 else 1) := by
  have ns : ∀ x, q_cmp_isNaN_string x = some false := fun x => by
    rw [e_cmp_isNaN_string]; unfold X_cmp_isNaN_string
    have : strEq x x = true := by simp [strEq]
    rw [this]; rfl
  rw [e_cmp_Compare_string]; unfold X_cmp_Compare_string
  simp only [ns, Option.bind_some, cond_false]
  cases strLt a b <;> cases strEq a b <;> rfl
theorem Cmp_int (a b : Int) : q_cmp_Compare_int (a, b) = some (if a < b then -1 else if a > b then 1 else 0) := by
  have ns : ∀ x, q_cmp_isNaN_int x = some false := fun x => by
    rw [e_cmp_isNaN_int]; unfold X_cmp_isNaN_int
    simp
  rw [e_cmp_Compare_int]; unfold X_cmp_Compare_int
  simp only [ns, Option.bind_some, cond_false]
  by_cases h : a < b
  · simp [h]
  · by_cases h2 : a > b <;> simp [h, h2]
theorem Cmp_ver (y v : VerT) : q_impl_PutVersions_1 (y, v) = some (!verLe v y) := by
  rw [e_impl_PutVersions_1]; unfold X_impl_PutVersions_1
  rw [e_impl_compareVersion]; unfold X_impl_compareVersion
  simp only [Cmp_string, Option.bind_some]
  unfold verLe
  cases h1 : strLt y.1 v.1 with
  | true => simp
  | false =>
    cases h2 : strEq y.1 v.1 with
    | false => simp
    | true =>
      simp only [Bool.false_eq_true, if_false, if_true, decide_true, Bool.not_true, cond_false, Cmp_int, Option.bind_some, Bool.false_or, Bool.true_and]
      by_cases h3 : y.2.2.2 < v.2.2.2
      · have : y.2.2.2 ≤ v.2.2.2 := by omega
        simp [h3, this]
      · by_cases h4 : y.2.2.2 > v.2.2.2
        · have : ¬ y.2.2.2 ≤ v.2.2.2 := by omega
          simp [h3, h4, this]
        · have : y.2.2.2 ≤ v.2.2.2 := by omega
          simp [h3, h4, this]
theorem Index_ver (l : List VerT) (v : VerT) (hl : l.length ≤ 1099511627775) : q_slices_IndexFunc_impl_Version_impl_PutVersions_1 (l, v) = some (if (l.takeWhile (verLe v)).length < l.length then ((l.takeWhile (verLe v)).length : Int) else -1) := by
  have L := W_first W_slices_IndexFunc_impl_Version_impl_PutVersions_1_2 l (fun i => (l, v, (l.length : Int), i)) (verLe v) (fun i => .inr i) (.inl ())
    (by rw [w_slices_IndexFunc_impl_Version_impl_PutVersions_1_2]; simp only [S_slices_IndexFunc_impl_Version_impl_PutVersions_1_2, lt_cast, Nat.lt_irrefl, decide_false, cond_false])
    (fun i hi => by
      rw [w_slices_IndexFunc_impl_Version_impl_PutVersions_1_2]
      simp only [S_slices_IndexFunc_impl_Version_impl_PutVersions_1_2, lt_cast, hi, decide_true, cond_true, gIdx_nat hi, Int.toNat_natCast, rdL_get (t := YVersion) hi, Cmp_ver, Option.bind_some]
      rw [wrap_succ (by omega)]
      cases verLe v l[i] <;> rfl)
  rw [e_slices_IndexFunc_impl_Version_impl_PutVersions_1]; unfold X_slices_IndexFunc_impl_Version_impl_PutVersions_1
  simp only [L, Option.bind_some]
  by_cases h : (l.takeWhile (verLe v)).length < l.length
  · simp only [if_pos h]
  · simp only [if_neg h]
theorem Insert_ver (l : List VerT) (v : VerT) (k : Nat) (hk : k ≤ l.length) (hl : l.length ≤ 1099511627775) : q_slices_Insert_impl_Version (l, (k : Int), [v]) = some (l.take k ++ [v] ++ l.drop k) := by
  rw [e_slices_Insert_impl_Version]
  unfold pInsert
  have h1 : decide ((0 : Int) ≤ (k : Int)) = true := by simp
  have h2 : decide ((k : Int) ≤ (l.length : Int)) = true := by simpa using hk
  simp only [h1, h2, ble_cap (show l.length + 1 ≤ 1099511627776 by omega), Bool.true_and, List.length_singleton, Int.toNat_natCast]
  rfl
theorem PutVersions_impl (l : List VerT) (ws : List YWrite.den) (cs : Int) (hl : l.length + ws.length ≤ 1000000000000) : q_impl_PutVersions (l, ws, cs) = some (putVs l ws cs) := by
  have L := W_fold W_impl_PutVersions_3 ws (fun a i => (cs, a, ws, (ws.length : Int), i)) (fun l w => putV l (w.1, w.2.1, w.2.2, cs)) (fun a => .inl a) (fun i a => a.length = l.length + i)
    (fun a _ => by rw [w_impl_PutVersions_3]; simp only [S_impl_PutVersions_3, lt_cast, Nat.lt_irrefl, decide_false, cond_false])
    (fun i hi a ha => by
      have hal : a.length ≤ 1099511627775 := by omega
      rw [w_impl_PutVersions_3]
      simp only [S_impl_PutVersions_3, lt_cast, hi, decide_true, cond_true, gIdx_nat hi, Int.toNat_natCast, rdL_get (t := YWrite) hi, Index_ver a _ hal, Option.bind_some]
      refine ⟨by rw [putV_len]; omega, ?_⟩
      obtain ⟨t1, _⟩ := tw_facts (verLe (ws[i].1, ws[i].2.1, ws[i].2.2, cs)) a
      rw [putV_eq, wrap_succ (by omega)]
      by_cases hk : (a.takeWhile (verLe (ws[i].1, ws[i].2.1, ws[i].2.2, cs))).length < a.length
      · rw [if_pos hk]
        have : decide (((a.takeWhile (verLe (ws[i].1, ws[i].2.1, ws[i].2.2, cs))).length : Int) < 0) = false := by simp
        simp only [this, cond_false, Insert_ver a _ _ t1 hal, Option.bind_some]
      · rw [if_neg hk]
        have e : (a.takeWhile (verLe (ws[i].1, ws[i].2.1, ws[i].2.2, cs))).length = a.length := by omega
        have : decide ((-1 : Int) < 0) = true := by decide
        simp only [this, cond_true, Insert_ver a _ _ (Nat.le_refl _) hal, Option.bind_some]
        rw [e]) l (by simp)
  rw [e_impl_PutVersions]; unfold X_impl_PutVersions
  simp only [ble_cap (show l.length ≤ 1099511627776 by omega), cond_true, L, Option.bind_some]
  rfl
theorem Put_spec (ws : List YWrite.den) (cs : Int) (l : List VerT) (j : Int) (v : VerT) (hl : l.length ≤ 1000000000000) :
    W_spec_PutVersions_8 (ws, cs, l, j, v, [], 0) = some (.inl (ws, cs, l, j, v, l.takeWhile (verLe v), ((l.takeWhile (verLe v)).length : Int))) :=
  W_take W_spec_PutVersions_8 l (fun a i => (ws, cs, l, j, v, a, i)) (verLe v) (fun a i => .inl (ws, cs, l, j, v, a, i))
    (by rw [w_spec_PutVersions_8]; simp only [S_spec_PutVersions_8, lt_cast, Nat.lt_irrefl, decide_false, cond_false, Option.bind_some])
    (fun i hi => by
      rw [w_spec_PutVersions_8]
      have hb : ((l.take i).length + [l[i]].length) ≤ 1099511627776 := by simp; omega
      simp only [S_spec_PutVersions_8, lt_cast, hi, decide_true, cond_true, gIdx_nat hi, Int.toNat_natCast, rdL_get (t := YVersion) hi, ble_cap hb]
      rw [wrap_succ (by omega), List.take_succ_eq_append_getElem hi]
      unfold verLe
      cases h1 : strLt l[i].1 v.1 with
      | true => simp
      | false =>
        cases h2 : strEq l[i].1 v.1 with
        | false => simp
        | true =>
          by_cases h3 : l[i].2.2.2 ≤ v.2.2.2 <;> simp [h3])
theorem PutVersions_spec (l : List VerT) (ws : List YWrite.den) (cs : Int) (hl : l.length + ws.length ≤ 1000000000000) : q_spec_PutVersions (l, ws, cs) = some (putVs l ws cs) := by
  have L := W_fold W_spec_PutVersions_3 ws (fun a i => (ws, cs, a, i)) (fun l w => putV l (w.1, w.2.1, w.2.2, cs)) (fun a => .inl a) (fun i a => a.length = l.length + i)
    (fun a _ => by rw [w_spec_PutVersions_3]; simp only [S_spec_PutVersions_3, lt_cast, Nat.lt_irrefl, decide_false, cond_false])
    (fun i hi a ha => by
      have hal : a.length ≤ 1000000000000 := by omega
      rw [w_spec_PutVersions_3]
      simp only [S_spec_PutVersions_3, lt_cast, hi, decide_true, cond_true, gIdx_nat hi, Int.toNat_natCast, rdL_get (t := YWrite) hi, Put_spec ws cs a _ _ hal, Option.bind_some]
      obtain ⟨v, hv⟩ : ∃ v : VerT, v = (ws[i].1, ws[i].2.1, ws[i].2.2, cs) := ⟨_, rfl⟩
      rw [← hv]
      obtain ⟨t1, _, _, t4, t5⟩ := tw_facts (verLe v) a
      refine ⟨by rw [putV_len]; omega, ?_⟩
      have g1 : decide ((0 : Int) ≤ ((a.takeWhile (verLe v)).length : Int)) = true := by simp
      have g2 : decide (((a.takeWhile (verLe v)).length : Int) ≤ (a.length : Int)) = true := by simpa using t1
      have g3 : decide ((a.length : Int) ≤ (a.length : Int)) = true := by simp
      have b1 : (a.takeWhile (verLe v)).length + [v].length ≤ 1099511627776 := by simp; omega
      have b2 : (a.takeWhile (verLe v) ++ [v]).length + (a.drop (a.takeWhile (verLe v)).length).length ≤ 1099511627776 := by simp; omega
      simp only [g1, g2, g3, Bool.true_and, ble_cap b1, cond_true, List.take_length, ble_cap b2]
      rw [wrap_succ (by omega), ← t5]
      rfl) l (by simp)
  rw [e_spec_PutVersions]; unfold X_spec_PutVersions
  simp only [List.length_nil, Nat.zero_add, List.nil_append, ble_cap (show l.length ≤ 1099511627776 by omega), cond_true, L, Option.bind_some]
  rfl
end
section
abbrev PrT := ByteArray × ByteArray
theorem pairs_zip {a b : List PrT} (h : a.length = b.length) : (bif (a.zip b).any (fun p => !(strEq p.1.1 p.2.1 && (strEq p.1.2 p.2.2 && true))) then false else true) = decide (a = b) := by
  induction a generalizing b with
  | nil =>
    cases b with
    | nil => rfl
    | cons _ _ => simp at h
  | cons x a ih =>
    cases b with
    | nil => simp at h
    | cons y b =>
      have ih := ih (b := b) (by simpa using h)
      simp only [List.zip_cons_cons, List.any_cons]
      by_cases h1 : x.1 = y.1
      · by_cases h2 : x.2 = y.2
        · have hxy : x = y := Prod.ext h1 h2
          subst hxy
          rw [strEq_refl, strEq_refl]
          simp only [Bool.and_self, Bool.not_true, Bool.false_or, ih]
          simp
        · have := strEq_false.mpr h2
          rw [this]
          have hne : ¬ (x :: a = y :: b) := fun e => h2 (by injection e with e; rw [e])
          simp [hne]
      · have := strEq_false.mpr h1
        rw [this]
        have hne : ¬ (x :: a = y :: b) := fun e => h1 (by injection e with e; rw [e])
        simp [hne]
theorem Pairs_spec (a b : List PrT) (ha : a.length ≤ 1099511627776) : q_spec_l06Pairs (a, b) = some (decide (a = b)) := by
  rw [e_spec_l06Pairs]; unfold X_spec_l06Pairs
  by_cases h : a.length = b.length
  · have hz : (a.zip b).length = a.length := by simp [h]
    have L := W_any W_spec_l06Pairs_4 (a.zip b) (fun i => (a, b, i)) (fun p => !(strEq p.1.1 p.2.1 && (strEq p.1.2 p.2.2 && true))) (.inr false) (.inl ())
      (by rw [w_spec_l06Pairs_4, hz]; simp only [S_spec_l06Pairs_4, lt_cast, Nat.lt_irrefl, decide_false, cond_false])
      (fun i hi => by
        have hi1 : i < a.length := by omega
        have hi2 : i < b.length := by omega
        rw [w_spec_l06Pairs_4]; simp only [S_spec_l06Pairs_4, lt_cast, hi1, decide_true, cond_true, gIdx_nat hi1, gIdx_nat hi2, Int.toNat_natCast, rdL_get (t := YPair) hi1, rdL_get (t := YPair) hi2, List.getElem_zip]
        rw [wrap_succ (by omega)])
    have e1 : decide ((a.length : Int) = (b.length : Int)) = true := by simp [h]
    simp only [e1, Bool.not_true, cond_false, L, Option.bind_some]
    rw [← pairs_zip h]
    cases (a.zip b).any fun p => !(strEq p.1.1 p.2.1 && (strEq p.1.2 p.2.2 && true)) <;> rfl
  · have e1 : decide ((a.length : Int) = (b.length : Int)) = false := by simp; omega
    have e2 : decide (a = b) = false := by
      rw [decide_eq_false_iff_not]; intro e; exact h (by rw [e])
    rw [e1, e2]; rfl
theorem Pairs_impl (a b : List PrT) (ha : a.length ≤ 1099511627776) : q_slices_Equal_impl_Pair (a, b) = some (decide (a = b)) := by
  rw [e_slices_Equal_impl_Pair]; unfold X_slices_Equal_impl_Pair
  by_cases h : a.length = b.length
  · have hz : (a.zip b).length = a.length := by simp [h]
    have L := W_any W_slices_Equal_impl_Pair_4 (a.zip b) (fun i => (a, b, (a.length : Int), i)) (fun p => !(strEq p.1.1 p.2.1 && (strEq p.1.2 p.2.2 && true))) (.inr false) (.inl ())
      (by rw [w_slices_Equal_impl_Pair_4, hz]; simp only [S_slices_Equal_impl_Pair_4, lt_cast, Nat.lt_irrefl, decide_false, cond_false])
      (fun i hi => by
        have hi1 : i < a.length := by omega
        have hi2 : i < b.length := by omega
        rw [w_slices_Equal_impl_Pair_4]; simp only [S_slices_Equal_impl_Pair_4, lt_cast, hi1, decide_true, cond_true, gIdx_nat hi1, gIdx_nat hi2, Int.toNat_natCast, rdL_get (t := YPair) hi1, rdL_get (t := YPair) hi2, List.getElem_zip]
        rw [wrap_succ (by omega)])
    have e1 : decide ((a.length : Int) = (b.length : Int)) = true := by simp [h]
    simp only [e1, Bool.not_true, cond_false, L, Option.bind_some]
    rw [← pairs_zip h]
    cases (a.zip b).any fun p => !(strEq p.1.1 p.2.1 && (strEq p.1.2 p.2.2 && true)) <;> rfl
  · have e1 : decide ((a.length : Int) = (b.length : Int)) = false := by simp; omega
    have e2 : decide (a = b) = false := by
      rw [decide_eq_false_iff_not]; intro e; exact h (by rw [e])
    rw [e1, e2]; rfl
end
section
theorem Touches_spec (r : List YRange.den) (w : List YWrite.den) (hr : r.length ≤ big40) (hw : w.length ≤ big40) : q_spec_Touches (r, w) = some (touches r w) := by
  unfold big40 at hr hw
  have inner : ∀ (i : Nat) (hi : i < r.length), W_spec_Touches_5 (r, w, (i : Int), 0) = some (bif w.any (fun y => inR r[i] y.1) then .inr true else .inl (r, w, (i : Int))) := fun i hi =>
    W_any W_spec_Touches_5 w (fun j => (r, w, (i : Int), j)) (fun y => inR r[i] y.1) _ _ (by
      rw [w_spec_Touches_5]; simp only [S_spec_Touches_5, lt_cast, Nat.lt_irrefl, decide_false, cond_false]) (fun j hj => by
      rw [w_spec_Touches_5]; simp only [S_spec_Touches_5, lt_cast, hj, decide_true, cond_true, gIdx_nat hi, gIdx_nat hj, Int.toNat_natCast, rdL_get hi, rdL_get hj, InRange_spec, Option.bind_some]
      rw [wrap_succ (by omega)])
  have outer := W_any W_spec_Touches_2 r (fun i => (r, w, i)) (fun x => w.any fun y => inR x y.1) (.inr true) (.inl ()) (by
      rw [w_spec_Touches_2]; simp only [S_spec_Touches_2, lt_cast, Nat.lt_irrefl, decide_false, cond_false]) (fun i hi => by
      rw [w_spec_Touches_2]; simp only [S_spec_Touches_2, lt_cast, hi, decide_true, cond_true, inner i hi, Option.bind_some]
      have ws := wrap_succ (i := i) (by omega)
      cases w.any fun y => inR r[i] y.1 <;> simp only [cond_true, cond_false, ws])
  rw [e_spec_Touches]; unfold X_spec_Touches
  simp only [outer, Option.bind_some]
  unfold touches
  cases r.any fun x => w.any fun y => inR x y.1 <;> rfl
theorem Meets_spec (r w : List YWrite.den) (hr : r.length ≤ big40) (hw : w.length ≤ big40) : q_spec_Meets (r, w) = some (meets r w) := by
  unfold big40 at hr hw
  have inner : ∀ (i : Nat) (hi : i < r.length), W_spec_Meets_5 (r, w, (i : Int), 0) = some (bif w.any (fun y => strEq r[i].1 y.1) then .inr true else .inl (r, w, (i : Int))) := fun i hi =>
    W_any W_spec_Meets_5 w (fun j => (r, w, (i : Int), j)) (fun y => strEq r[i].1 y.1) _ _ (by
      rw [w_spec_Meets_5]; simp only [S_spec_Meets_5, lt_cast, Nat.lt_irrefl, decide_false, cond_false]) (fun j hj => by
      rw [w_spec_Meets_5]; simp only [S_spec_Meets_5, lt_cast, hj, decide_true, cond_true, gIdx_nat hi, gIdx_nat hj, Int.toNat_natCast, rdL_get hi, rdL_get hj, Option.bind_some]
      rw [wrap_succ (by omega)])
  have outer := W_any W_spec_Meets_2 r (fun i => (r, w, i)) (fun x => w.any fun y => strEq x.1 y.1) (.inr true) (.inl ()) (by
      rw [w_spec_Meets_2]; simp only [S_spec_Meets_2, lt_cast, Nat.lt_irrefl, decide_false, cond_false]) (fun i hi => by
      rw [w_spec_Meets_2]; simp only [S_spec_Meets_2, lt_cast, hi, decide_true, cond_true, inner i hi, Option.bind_some]
      have ws := wrap_succ (i := i) (by omega)
      cases w.any fun y => strEq r[i].1 y.1 <;> simp only [cond_true, cond_false, ws])
  rw [e_spec_Meets]; unfold X_spec_Meets
  simp only [outer, Option.bind_some]
  unfold meets
  cases r.any fun x => w.any fun y => strEq x.1 y.1 <;> rfl
theorem Touches_impl (r : List YRange.den) (w : List YWrite.den) (hr : r.length ≤ big40) (hw : w.length ≤ big40) : q_impl_Touches (r, w) = some (touches r w) := by
  unfold big40 at hr hw
  have inner : ∀ (i : Nat) (hi : i < r.length), W_impl_Touches_5 (w, r[i], r, (r.length : Int), (i : Int), w, (w.length : Int), 0) = some (bif w.any (fun y => inR r[i] y.1) then .inr true else .inl (w, r, (r.length : Int), (i : Int))) := fun i hi =>
    W_any W_impl_Touches_5 w (fun j => (w, r[i], r, (r.length : Int), (i : Int), w, (w.length : Int), j)) (fun y => inR r[i] y.1) _ _ (by
      rw [w_impl_Touches_5]; simp only [S_impl_Touches_5, lt_cast, Nat.lt_irrefl, decide_false, cond_false]) (fun j hj => by
      rw [w_impl_Touches_5]; simp only [S_impl_Touches_5, lt_cast, hj, decide_true, cond_true, gIdx_nat hi, gIdx_nat hj, Int.toNat_natCast, rdL_get hi, rdL_get hj, InRange_impl, Option.bind_some]
      rw [wrap_succ (by omega)])
  have outer := W_any W_impl_Touches_2 r (fun i => (w, r, (r.length : Int), i)) (fun x => w.any fun y => inR x y.1) (.inr true) (.inl ()) (by
      rw [w_impl_Touches_2]; simp only [S_impl_Touches_2, lt_cast, Nat.lt_irrefl, decide_false, cond_false]) (fun i hi => by
      rw [w_impl_Touches_2]; simp only [S_impl_Touches_2, lt_cast, hi, decide_true, cond_true, gIdx_nat hi, Int.toNat_natCast, rdL_get hi, inner i hi, Option.bind_some]
      have ws := wrap_succ (i := i) (by omega)
      cases w.any fun y => inR r[i] y.1 <;> simp only [cond_true, cond_false, ws])
  rw [e_impl_Touches]; unfold X_impl_Touches
  simp only [outer, Option.bind_some]
  unfold touches
  cases r.any fun x => w.any fun y => inR x y.1 <;> rfl
theorem Meets_impl (r w : List YWrite.den) (hr : r.length ≤ big40) (hw : w.length ≤ big40) : q_impl_Meets (r, w) = some (meets r w) := by
  unfold big40 at hr hw
  have inner : ∀ (i : Nat) (hi : i < r.length), W_impl_Meets_5 (w, r[i], r, (r.length : Int), (i : Int), w, (w.length : Int), 0) = some (bif w.any (fun y => strEq r[i].1 y.1) then .inr true else .inl (w, r, (r.length : Int), (i : Int))) := fun i hi =>
    W_any W_impl_Meets_5 w (fun j => (w, r[i], r, (r.length : Int), (i : Int), w, (w.length : Int), j)) (fun y => strEq r[i].1 y.1) _ _ (by
      rw [w_impl_Meets_5]; simp only [S_impl_Meets_5, lt_cast, Nat.lt_irrefl, decide_false, cond_false]) (fun j hj => by
      rw [w_impl_Meets_5]; simp only [S_impl_Meets_5, lt_cast, hj, decide_true, cond_true, gIdx_nat hi, gIdx_nat hj, Int.toNat_natCast, rdL_get hi, rdL_get hj, Option.bind_some]
      rw [wrap_succ (by omega)])
  have outer := W_any W_impl_Meets_2 r (fun i => (w, r, (r.length : Int), i)) (fun x => w.any fun y => strEq x.1 y.1) (.inr true) (.inl ()) (by
      rw [w_impl_Meets_2]; simp only [S_impl_Meets_2, lt_cast, Nat.lt_irrefl, decide_false, cond_false]) (fun i hi => by
      rw [w_impl_Meets_2]; simp only [S_impl_Meets_2, lt_cast, hi, decide_true, cond_true, gIdx_nat hi, Int.toNat_natCast, rdL_get hi, inner i hi, Option.bind_some]
      have ws := wrap_succ (i := i) (by omega)
      cases w.any fun y => strEq r[i].1 y.1 <;> simp only [cond_true, cond_false, ws])
  rw [e_impl_Meets]; unfold X_impl_Meets
  simp only [outer, Option.bind_some]
  unfold meets
  cases r.any fun x => w.any fun y => strEq x.1 y.1 <;> rfl
def before (a b : YTxn.den) : Bool :=
  decide (a.2.1 = 3) && decide (b.2.1 = 3) && !decide (a.1 = b.1) &&
  (decide (a.2.2.2.1 ≤ b.2.2.1) && touches b.2.2.2.2.1 a.2.2.2.2.2.1 || decide (a.2.2.2.1 < b.2.2.2.1) && meets a.2.2.2.2.2.1 b.2.2.2.2.2.1 || decide (b.2.2.2.1 > a.2.2.1) && touches a.2.2.2.2.1 b.2.2.2.2.2.1)
theorem wt_reads {a : YTxn.den} : a.2.2.2.2.1.length ≤ YTxn.wt a := by simp only [Ty.wt]; omega
theorem wt_writes {a : YTxn.den} : a.2.2.2.2.2.1.length ≤ YTxn.wt a := by simp only [Ty.wt]; omega
theorem isDone_impl (a : YTxn.den) : q_impl_isDone a = some (decide (a.2.1 = 3)) := by
  rw [e_impl_isDone]; rfl
theorem Before_spec (a b : YTxn.den) (ha : YTxn.wt a ≤ big40) (hb : YTxn.wt b ≤ big40) : q_spec_Before (a, b) = some (before a b) := by
  have t1 := Touches_spec b.2.2.2.2.1 a.2.2.2.2.2.1 (Nat.le_trans wt_reads hb) (Nat.le_trans wt_writes ha)
  have t2 := Touches_spec a.2.2.2.2.1 b.2.2.2.2.2.1 (Nat.le_trans wt_reads ha) (Nat.le_trans wt_writes hb)
  have t3 := Meets_spec a.2.2.2.2.2.1 b.2.2.2.2.2.1 (Nat.le_trans wt_writes ha) (Nat.le_trans wt_writes hb)
  rw [e_spec_Before]; unfold X_spec_Before
  simp only [t1, t2, t3, Option.bind_some]
  unfold before
  generalize touches b.2.2.2.2.1 a.2.2.2.2.2.1 = u1
  generalize touches a.2.2.2.2.1 b.2.2.2.2.2.1 = u2
  generalize meets a.2.2.2.2.2.1 b.2.2.2.2.2.1 = u3
  cases decide (a.1 = b.1) <;> cases decide (a.2.1 = 3) <;> cases decide (b.2.1 = 3) <;> cases decide (a.2.2.2.1 ≤ b.2.2.1) <;> cases decide (a.2.2.2.1 < b.2.2.2.1) <;> cases decide (b.2.2.2.1 > a.2.2.1) <;> cases u1 <;> cases u2 <;> cases u3 <;> rfl
theorem Before_impl (a b : YTxn.den) (ha : YTxn.wt a ≤ big40) (hb : YTxn.wt b ≤ big40) : q_impl_Before (a, b) = some (before a b) := by
  have t1 := Touches_impl b.2.2.2.2.1 a.2.2.2.2.2.1 (Nat.le_trans wt_reads hb) (Nat.le_trans wt_writes ha)
  have t2 := Touches_impl a.2.2.2.2.1 b.2.2.2.2.2.1 (Nat.le_trans wt_reads ha) (Nat.le_trans wt_writes hb)
  have t3 := Meets_impl a.2.2.2.2.2.1 b.2.2.2.2.2.1 (Nat.le_trans wt_writes ha) (Nat.le_trans wt_writes hb)
  rw [e_impl_Before]; unfold X_impl_Before
  simp only [t1, t2, t3, isDone_impl, Option.bind_some]
  unfold before
  generalize touches b.2.2.2.2.1 a.2.2.2.2.2.1 = u1
  generalize touches a.2.2.2.2.1 b.2.2.2.2.2.1 = u2
  generalize meets a.2.2.2.2.2.1 b.2.2.2.2.2.1 = u3
  cases decide (a.1 = b.1) <;> cases decide (a.2.1 = 3) <;> cases decide (b.2.1 = 3) <;> cases decide (a.2.2.2.1 ≤ b.2.2.1) <;> cases decide (a.2.2.2.1 < b.2.2.2.1) <;> cases decide (b.2.2.2.1 > a.2.2.1) <;> cases u1 <;> cases u2 <;> cases u3 <;> rfl
end
section
theorem range_split {n i : Nat} (h : i < n) : (List.range n).drop i = i :: (List.range n).drop (i + 1) := by
  have := List.drop_eq_getElem_cons (l := List.range n) (i := i) (by simpa using h)
  simpa using this
/-- A loop that looks for the first that passes. -/
theorem W_find {X R : Type} (W : X → Option R) (n : Nat) (mk : Int → X) (p : Nat → Bool) (yes : Nat → R) (no : R) (hend : W (mk (n : Int)) = some no)
    (hstep : ∀ i, i < n → W (mk (i : Int)) = bif p i then some (yes i) else W (mk ((i + 1 : Nat) : Int))) : W (mk 0) = some (match (List.range n).find? p with
      | some i => yes i
      | none => no) := by
  have := W_nat W n (fun (_ : Unit) i => mk i) (fun i _ => match ((List.range n).drop i).find? p with
      | some i => yes i
      | none => no) (fun _ _ => True) (fun _ _ => by
        rw [hend, List.drop_eq_nil_of_le (by simp)]; rfl) (fun i a hi _ => by
        have hs := hstep i hi
        rw [range_split hi, List.find?_cons]
        cases hp : p i with
        | true => rw [hp, cond_true] at hs; exact .inl hs
        | false => rw [hp, cond_false] at hs; exact .inr ⟨(), trivial, rfl, hs⟩) 0 () (Nat.zero_le _) trivial
  exact this
/-- A loop that goes over all and keeps whether one passed. -/
theorem W_flag {X R : Type} (W : X → Option R) (n : Nat) (mk : Bool → Int → X) (p : Nat → Bool) (fin : Bool → R) (hend : ∀ b, W (mk b (n : Int)) = some (fin b))
    (hstep : ∀ b i, i < n → W (mk b (i : Int)) = W (mk (b || p i) ((i + 1 : Nat) : Int))) (b : Bool) : W (mk b 0) = some (fin (b || (List.range n).any p)) := by
  have := W_nat W n mk (fun i b => fin (b || ((List.range n).drop i).any p)) (fun _ _ => True) (fun b _ => by
        rw [hend, List.drop_eq_nil_of_le (by simp)]; simp) (fun i b hi _ => .inr ⟨b || p i, trivial, by
        rw [range_split hi, List.any_cons, Bool.or_assoc], hstep b i hi⟩) 0 b (Nat.zero_le _) trivial
  exact this
/-- A loop that goes on while all pass. -/
theorem W_while {X R : Type} (W : X → Option R) (n : Nat) (mk : Bool → Int → X) (p : Nat → Bool) (fin : Bool → R) (hend : ∀ b, W (mk b (n : Int)) = some (fin b)) (hstop : ∀ i, i < n → W (mk false (i : Int)) = some (fin false))
    (hstep : ∀ i, i < n → W (mk true (i : Int)) = W (mk (p i) ((i + 1 : Nat) : Int))) (b : Bool) : W (mk b 0) = some (fin (b && (List.range n).all p)) := by
  have := W_nat W n mk (fun i b => fin (b && ((List.range n).drop i).all p)) (fun _ _ => True) (fun b _ => by
        rw [hend, List.drop_eq_nil_of_le (by simp)]; simp) (fun i b hi _ => by
        cases b with
        | false => exact .inl (by rw [hstop i hi]; simp)
        | true => exact .inr ⟨p i, trivial, by rw [range_split hi, List.all_cons, Bool.true_and], hstep i hi⟩) 0 b (Nat.zero_le _) trivial
  exact this
def asInts (t : List Nat) : List Int := t.map fun i : Nat => (i : Int)
theorem asInts_len (t : List Nat) : (asInts t).length = t.length := by simp [asInts]
theorem Contains_int (t : List Nat) (j : Nat) (ht : t.length ≤ 1099511627776) : q_slices_Contains_int_int (asInts t, (j : Int)) = some (t.contains j) := by
  have key : ∀ (d i : Nat), i + d = t.length → (W_slices_Index_int_int_2 (asInts t, (j : Int), (t.length : Int), (i : Int)) = some (.inl ()) ∧ (t.drop i).contains j = false) ∨
      ∃ k : Nat, W_slices_Index_int_int_2 (asInts t, (j : Int), (t.length : Int), (i : Int)) = some (.inr (k : Int)) ∧ (t.drop i).contains j = true := by
    intro d
    induction d with
    | zero =>
      intro i hi
      have : i = t.length := by omega
      subst this
      left
      rw [w_slices_Index_int_int_2]
      simp only [S_slices_Index_int_int_2, lt_cast, Nat.lt_irrefl, decide_false, cond_false, List.drop_length]
      exact ⟨trivial, rfl⟩
    | succ d ih =>
      intro i hi
      have h : i < t.length := by omega
      have h' : i < (asInts t).length := by simpa [asInts] using h
      have hr : rdL (Ty.int .i64) (asInts t) i = (t[i] : Int) := by
        rw [rdL_get (t := Ty.int .i64) h']; simp [asInts]
      rw [w_slices_Index_int_int_2, List.drop_eq_getElem_cons h, List.contains_cons]
      simp only [S_slices_Index_int_int_2, lt_cast, h, decide_true, cond_true, gIdx_nat h', Int.toNat_natCast, hr]
      by_cases e : j = t[i]
      · right
        refine ⟨i, ?_, ?_⟩
        · simp [e, asInts_len, h]
        · simp [e]
      · have e1 : decide ((j : Int) = (t[i] : Int)) = false := by simp; omega
        have e2 : (j == t[i]) = false := by simpa using e
        rw [e1, cond_false, wrap_succ (by omega), e2, Bool.false_or]
        exact ih (i + 1) (by omega)
  rw [e_slices_Contains_int_int]; unfold X_slices_Contains_int_int
  rw [e_slices_Index_int_int]; unfold X_slices_Index_int_int
  simp only [asInts_len]
  rcases key t.length 0 (by omega) with ⟨h1, h2⟩ | ⟨k, h1, h2⟩
  · have h1 : W_slices_Index_int_int_2 (asInts t, (j : Int), (t.length : Int), 0) = _ := h1
    rw [List.drop_zero] at h2
    simp only [h1, Option.bind_some, h2]
    rfl
  · have h1 : W_slices_Index_int_int_2 (asInts t, (j : Int), (t.length : Int), 0) = _ := h1
    rw [List.drop_zero] at h2
    simp only [h1, Option.bind_some, h2]
    simp
def bfAt (l : List YTxn.den) (j i : Nat) : Bool := before (rdL YTxn l j) (rdL YTxn l i)
/-- i may come next behind those of t. -/
def nextOk (l : List YTxn.den) (t : List Nat) (i : Nat) : Bool := !t.contains i && !(List.range l.length).any (fun j => !decide (j = i) && (!t.contains j && bfAt l j i))
def pickNext (l : List YTxn.den) (t : List Nat) : Option Nat := (List.range l.length).find? (nextOk l t)
def ordGo (l : List YTxn.den) : Nat → List Nat → Option (List Nat)
  | 0, t => some t
  | k + 1, t => match pickNext l t with
    | none => none
    | some i => ordGo l k (t ++ [i])
def ordOf (l : List YTxn.den) : Option (List Nat) := ordGo l l.length []
def ordRes : Option (List Nat) → List Int × Bool
  | some t => (asInts t, true)
  | none => ([], false)
theorem asInts_snoc (t : List Nat) (i : Nat) : asInts t ++ [(i : Int)] = asInts (t ++ [i]) := by simp [asInts]
section
variable {l : List YTxn.den} (hw : ∀ x ∈ l, YTxn.wt x ≤ big40) (hl : l.length ≤ 1048576)
include hw hl
theorem blocked_impl (t : List Nat) (ht : t.length ≤ l.length) (m : Bool) (i : Nat) (hi : i < l.length) (l2 : List YTxn.den) (n2 i2 : Int) (b : Bool) :
    W_impl_SerialOrder_10 (l, asInts t, m, (i : Int), l[i], b, l2, n2, i2, l, (l.length : Int), 0) = some (.inl (l, asInts t, m, (i : Int), b || (List.range l.length).any (fun j => !decide (j = i) && (!t.contains j && bfAt l j i)), l2, n2, i2)) := by
  have := W_flag W_impl_SerialOrder_10 l.length (fun b j => (l, asInts t, m, (i : Int), l[i], b, l2, n2, i2, l, (l.length : Int), j)) (fun j => !decide (j = i) && (!t.contains j && bfAt l j i)) (fun b => .inl (l, asInts t, m, (i : Int), b, l2, n2, i2))
    (fun b => by
      rw [w_impl_SerialOrder_10]; simp only [S_impl_SerialOrder_10, lt_cast, Nat.lt_irrefl, decide_false, cond_false])
    (fun b j hj => by
      have hc : q_slices_Contains_int_int (asInts t, (j : Int)) = some (t.contains j) := Contains_int t j (by omega)
      have hb : q_impl_Before (l[j], l[i]) = some (bfAt l j i) := by
        rw [Before_impl _ _ (hw _ (List.getElem_mem hj)) (hw _ (List.getElem_mem hi))]
        unfold bfAt
        rw [rdL_get hj, rdL_get hi]
      rw [w_impl_SerialOrder_10]
      simp only [S_impl_SerialOrder_10, lt_cast, hj, decide_true, cond_true, gIdx_nat hj, Int.toNat_natCast, rdL_get hj, hc, hb, Option.bind_some]
      have he : decide ((j : Int) = (i : Int)) = decide (j = i) := by by_cases e : j = i <;> simp [e] <;> omega
      rw [wrap_succ (by omega), he]
      cases b <;> cases decide (j = i) <;> cases t.contains j <;> cases bfAt l j i <;> rfl) b
  exact this
theorem pick_impl (t : List Nat) (ht : t.length ≤ l.length) (m : Bool) :
    W_impl_SerialOrder_5 (l, asInts t, m, l, (l.length : Int), 0) = some (match pickNext l t with
      | some i => .inl (l, asInts (t ++ [i]), true)
      | none => .inl (l, asInts t, m)) := by
  have := W_find W_impl_SerialOrder_5 l.length (fun i => (l, asInts t, m, l, (l.length : Int), i)) (nextOk l t) (fun i => .inl (l, asInts (t ++ [i]), true)) (.inl (l, asInts t, m))
    (by rw [w_impl_SerialOrder_5]; simp only [S_impl_SerialOrder_5, lt_cast, Nat.lt_irrefl, decide_false, cond_false])
    (fun i hi => by
      have hc : q_slices_Contains_int_int (asInts t, (i : Int)) = some (t.contains i) := Contains_int t i (by omega)
      have hk : Nat.ble ((asInts t).length + ([(i : Int)] : List Int).length) cap40 = true := by
        rw [Nat.ble_eq, asInts_len]; simp only [List.length_cons, List.length_nil, cap40]; omega
      rw [w_impl_SerialOrder_5]
      simp only [S_impl_SerialOrder_5, lt_cast, hi, decide_true, cond_true, gIdx_nat hi, Int.toNat_natCast, rdL_get hi, hc, Option.bind_some, blocked_impl hw hl t ht m i hi l (l.length : Int) (i : Int) false, hk, Bool.false_or, asInts_snoc]
      rw [wrap_succ (by omega)]
      unfold nextOk
      cases t.contains i <;> cases (List.range l.length).any (fun j => !decide (j = i) && (!t.contains j && bfAt l j i)) <;> rfl)
  rw [this]
  unfold pickNext
  cases (List.range l.length).find? (nextOk l t) <;> rfl
theorem go_impl : ∀ (k : Nat) (t : List Nat), t.length + k = l.length → W_impl_SerialOrder_2 (l, asInts t) = some (match ordGo l k t with
    | some t => .inl (asInts t)
    | none => .inr ([], false))
  | 0, t, h => by
    rw [w_impl_SerialOrder_2]
    have : ¬ ((asInts t).length : Int) < (l.length : Int) := by rw [asInts_len]; omega
    simp only [S_impl_SerialOrder_2, this, decide_false, cond_false]
    rfl
  | k + 1, t, h => by
    rw [w_impl_SerialOrder_2]
    have : ((asInts t).length : Int) < (l.length : Int) := by rw [asInts_len]; omega
    simp only [S_impl_SerialOrder_2, this, decide_true, cond_true, pick_impl hw hl t (by omega) false, Option.bind_some, ordGo]
    cases hp : pickNext l t with
    | none => rfl
    | some i =>
      simp only [Bool.not_true, cond_false]
      exact go_impl k (t ++ [i]) (by simp; omega)
theorem SerialOrder_impl : q_impl_SerialOrder l = some (ordRes (ordOf l)) := by
  have h : W_impl_SerialOrder_2 (l, []) = _ := go_impl hw hl l.length [] (by simp)
  rw [e_impl_SerialOrder]; unfold X_impl_SerialOrder
  simp only [h, Option.bind_some]
  unfold ordOf
  cases ordGo l l.length [] <;> rfl
def leftOf (n : Nat) (t : List Nat) : List Bool := (List.range n).map fun i => !t.contains i
omit hw hl in
theorem leftOf_get {n : Nat} {t : List Nat} {i : Nat} (h : i < n) : rdL Ty.bool (leftOf n t) i = !t.contains i := by
  have h' : i < (leftOf n t).length := by simp [leftOf, h]
  rw [rdL_get (t := Ty.bool) h']
  simp [leftOf]
omit hw hl in
theorem leftOf_len {n : Nat} {t : List Nat} : (leftOf n t).length = n := by simp [leftOf]
omit hw hl in
theorem leftOf_set {n : Nat} {t : List Nat} {i : Nat} : (leftOf n t).set i false = leftOf n (t ++ [i]) := by
  apply List.ext_getElem
  · simp [leftOf]
  · intro j h1 h2
    rw [List.getElem_set]
    simp only [leftOf, List.getElem_map, List.getElem_range, List.contains_eq_mem, List.mem_append, List.mem_cons, List.not_mem_nil, or_false]
    by_cases e : i = j
    · simp [e]
    · have : ¬ j = i := fun z => e z.symm
      simp [e, this]
omit hw hl in
theorem leftOf_nil {n : Nat} : leftOf n [] = List.replicate n true := by
  apply List.ext_getElem
  · simp [leftOf]
  · intro j h1 h2
    simp [leftOf]
theorem free_spec (t : List Nat) (nx : Int) (i : Nat) (hi : i < l.length) (b : Bool) :
    W_spec_SerialOrder_14 (l, leftOf l.length t, asInts t, nx, (i : Int), b, 0) = some (.inl (l, leftOf l.length t, asInts t, nx, (i : Int), b && (List.range l.length).all (fun j => t.contains j || decide (j = i) || !bfAt l j i))) := by
  exact W_while W_spec_SerialOrder_14 l.length (fun b j => (l, leftOf l.length t, asInts t, nx, (i : Int), b, j)) (fun j => t.contains j || decide (j = i) || !bfAt l j i) (fun b => .inl (l, leftOf l.length t, asInts t, nx, (i : Int), b))
    (fun b => by
      rw [w_spec_SerialOrder_14]; simp only [S_spec_SerialOrder_14, lt_cast, Nat.lt_irrefl, decide_false, cond_false, Option.bind_some])
    (fun j hj => by
      rw [w_spec_SerialOrder_14]; simp only [S_spec_SerialOrder_14, lt_cast, hj, decide_true, cond_true, Option.bind_some, cond_false])
    (fun j hj => by
      have hb : q_spec_Before (l[j], l[i]) = some (bfAt l j i) := by
        rw [Before_spec _ _ (hw _ (List.getElem_mem hj)) (hw _ (List.getElem_mem hi))]
        unfold bfAt
        rw [rdL_get hj, rdL_get hi]
      rw [w_spec_SerialOrder_14]
      simp only [S_spec_SerialOrder_14, lt_cast, hj, decide_true, cond_true, gIdx_nat hj, gIdx_nat hi, leftOf_len, Int.toNat_natCast, rdL_get hj, rdL_get hi, leftOf_get hj, hb, Option.bind_some, Bool.not_not]
      have he : decide ((j : Int) = (i : Int)) = decide (j = i) := by by_cases e : j = i <;> simp [e] <;> omega
      rw [wrap_succ (by omega), he]
      cases decide (j = i) <;> cases t.contains j <;> cases bfAt l j i <;> rfl) b
omit hw hl in
theorem next_free (t : List Nat) (i : Nat) : (!t.contains i && (List.range l.length).all (fun j => t.contains j || decide (j = i) || !bfAt l j i)) = nextOk l t i := by
  unfold nextOk
  congr 1
  rw [List.all_eq_not_any_not]
  congr 2
  funext j
  cases decide (j = i) <;> cases t.contains j <;> cases bfAt l j i <;> rfl
theorem pick_spec (t : List Nat) : W_spec_SerialOrder_10 (l, leftOf l.length t, asInts t, -1, 0) = some (.inl (l, leftOf l.length t, asInts t, match pickNext l t with
      | some i => (i : Int)
      | none => -1)) := by
  have done : ∀ (i : Nat) (j : Nat), j ≤ l.length → W_spec_SerialOrder_10 (l, leftOf l.length t, asInts t, (i : Int), (j : Int)) = some (.inl (l, leftOf l.length t, asInts t, (i : Int))) := fun i j hj => by
    rw [w_spec_SerialOrder_10]
    have h0 : decide ((i : Int) < 0) = false := by simp
    simp only [S_spec_SerialOrder_10, lt_cast, h0]
    cases decide (j < l.length) <;> rfl
  have := W_find W_spec_SerialOrder_10 l.length (fun i => (l, leftOf l.length t, asInts t, -1, i)) (nextOk l t) (fun i => .inl (l, leftOf l.length t, asInts t, (i : Int))) (.inl (l, leftOf l.length t, asInts t, -1))
    (by rw [w_spec_SerialOrder_10]; simp only [S_spec_SerialOrder_10, lt_cast, Nat.lt_irrefl, decide_false, cond_false, Option.bind_some])
    (fun i hi => by
      rw [w_spec_SerialOrder_10]
      have h0 : decide ((-1 : Int) < 0) = true := rfl
      simp only [S_spec_SerialOrder_10, lt_cast, hi, decide_true, cond_true, Option.bind_some, h0, gIdx_nat hi, leftOf_len, Int.toNat_natCast, leftOf_get hi, free_spec hw hl t (-1) i hi, next_free]
      rw [wrap_succ (by omega), done i (i + 1) (by omega)]
      have hnf := next_free (l := l) t i
      rw [hnf])
  rw [this]
  unfold pickNext
  cases (List.range l.length).find? (nextOk l t) <;> rfl
theorem go_spec : ∀ (k : Nat) (t : List Nat), t.length + k = l.length → W_spec_SerialOrder_7 (l, leftOf l.length t, asInts t) = some (match ordGo l k t with
    | some t => .inl (asInts t)
    | none => .inr ([], false))
  | 0, t, h => by
    rw [w_spec_SerialOrder_7]
    have : ¬ ((asInts t).length : Int) < (l.length : Int) := by rw [asInts_len]; omega
    simp only [S_spec_SerialOrder_7, this, decide_false, cond_false]
    rfl
  | k + 1, t, h => by
    rw [w_spec_SerialOrder_7]
    have : ((asInts t).length : Int) < (l.length : Int) := by rw [asInts_len]; omega
    simp only [S_spec_SerialOrder_7, this, decide_true, cond_true, pick_spec hw hl t, Option.bind_some, ordGo]
    cases hp : pickNext l t with
    | none => rfl
    | some i =>
      have hi : i < l.length := by
        have := List.mem_of_find?_eq_some hp
        simpa using this
      have h0 : decide ((i : Int) < 0) = false := by simp
      have hk : Nat.ble ((asInts t).length + ([(i : Int)] : List Int).length) cap40 = true := by
        rw [Nat.ble_eq, asInts_len]; simp only [List.length_cons, List.length_nil, cap40]; omega
      simp only [h0, cond_false, gIdx_nat hi, leftOf_len, cond_true, hk, Int.toNat_natCast, leftOf_set, asInts_snoc]
      exact go_spec k (t ++ [i]) (by simp; omega)
omit hw in
theorem all_true : W_spec_SerialOrder_3 (l, List.replicate l.length false, 0) = some (.inl (l, List.replicate l.length true)) := by
  have := W_nat W_spec_SerialOrder_3 l.length (fun (_ : Unit) i => (l, List.replicate i.toNat true ++ List.replicate (l.length - i.toNat) false, i)) (fun _ _ => .inl (l, List.replicate l.length true)) (fun _ _ => True)
    (fun a _ => by
      rw [w_spec_SerialOrder_3]
      simp [S_spec_SerialOrder_3])
    (fun i a h _ => .inr ⟨(), trivial, rfl, by
      rw [w_spec_SerialOrder_3]
      have h1 : (List.replicate i true ++ List.replicate (l.length - i) false).length = l.length := by simp; omega
      have h2 : (List.replicate i true ++ List.replicate (l.length - i) false).set i true = List.replicate (i + 1) true ++ List.replicate (l.length - (i + 1)) false := by
        rw [List.set_append_right _ _ (by simp)]
        have : l.length - i = (l.length - (i + 1)) + 1 := by omega
        simp only [List.length_replicate, Nat.sub_self]
        rw [this, List.replicate_succ, List.set_cons_zero, List.replicate_succ']
        simp
      simp only [S_spec_SerialOrder_3, Int.toNat_natCast, h1, lt_cast, h, decide_true, cond_true, gIdx_nat h, h2]
      rw [wrap_succ (by omega)]⟩) 0 () (Nat.zero_le _) trivial
  simpa using this
theorem SerialOrder_spec : q_spec_SerialOrder l = some (ordRes (ordOf l)) := by
  have h : W_spec_SerialOrder_7 (l, leftOf l.length [], asInts []) = _ := go_spec hw hl l.length [] (by simp)
  rw [leftOf_nil] at h
  have h : W_spec_SerialOrder_7 (l, List.replicate l.length true, []) = _ := h
  have hn : (decide (0 ≤ (l.length : Int)) && decide ((l.length : Int) ≤ 1099511627776)) = true := by simp; omega
  rw [e_spec_SerialOrder]; unfold X_spec_SerialOrder
  rw [hn, cond_true, Int.toNat_natCast]
  have h3 : W_spec_SerialOrder_3 (l, List.replicate l.length (Ty.bool).zero, 0) = _ := all_true hl
  simp only [h3, Option.bind_some, h]
  unfold ordOf
  cases ordGo l l.length [] <;> rfl
end
theorem ordGo_good {l : List YTxn.den} : ∀ (k : Nat) (t u : List Nat), ordGo l k t = some u → (∀ i ∈ t, i < l.length) → t.Nodup → (∀ (a b : Nat) (ha : a < b) (hb : b < t.length), bfAt l t[b] t[a] = false) →
    (∀ (a : Nat) (ha : a < t.length) (j : Nat), j < l.length → j ∉ t → bfAt l j t[a] = false) →
    u.length = t.length + k ∧ (∀ i ∈ u, i < l.length) ∧ u.Nodup ∧ (∀ (a b : Nat) (ha : a < b) (hb : b < u.length), bfAt l u[b] u[a] = false)
  | 0, t, u, h, h1, h2, h3, h4 => by
    cases h
    exact ⟨rfl, h1, h2, h3⟩
  | k + 1, t, u, h, h1, h2, h3, h4 => by
    simp only [ordGo] at h
    split at h
    · cases h
    · rename_i i hp
      have hi : i < l.length := by
        have := List.mem_of_find?_eq_some hp
        simpa using this
      have hok : nextOk l t i = true := by
        have := List.find?_some hp
        exact this
      unfold nextOk at hok
      simp only [Bool.and_eq_true, Bool.not_eq_true', List.contains_eq_mem, decide_eq_false_iff_not, List.any_eq_false, List.mem_range, not_and, Bool.not_eq_true, decide_eq_true_eq] at hok
      obtain ⟨hni, hfree⟩ := hok
      have g := ordGo_good k (t ++ [i]) u h (fun x hx => by
          rcases List.mem_append.mp hx with q | q
          · exact h1 x q
          · simp at q; subst q; exact hi) (by
          rw [List.nodup_append]
          exact ⟨h2, by simp, fun x hx y hy => by simp at hy; subst hy; intro z; subst z; exact hni hx⟩) (fun a b hab hb => by
          simp only [List.length_append, List.length_cons, List.length_nil] at hb
          by_cases hbt : b < t.length
          · rw [List.getElem_append_left hbt, List.getElem_append_left (by omega)]
            exact h3 a b hab hbt
          · have hbe : b = t.length := by omega
            subst hbe
            rw [List.getElem_append_right (Nat.le_refl _), List.getElem_append_left hab]
            simp only [Nat.sub_self, List.getElem_cons_zero]
            exact h4 a hab i hi hni) (fun a ha j hj hnj => by
          simp only [List.mem_append, List.mem_cons, List.not_mem_nil, or_false, not_or] at hnj
          by_cases hat : a < t.length
          · rw [List.getElem_append_left hat]
            exact h4 a hat j hj hnj.1
          · simp only [List.length_append, List.length_cons, List.length_nil] at ha
            have hae : a = t.length := by omega
            subst hae
            rw [List.getElem_append_right (Nat.le_refl _)]
            simp only [Nat.sub_self, List.getElem_cons_zero]
            have := hfree j hj
            exact this (by simpa using hnj.2) (by simpa using hnj.1))
      exact ⟨by rw [g.1]; simp; omega, g.2.1, g.2.2.1, g.2.2.2⟩
theorem ordOf_good {l : List YTxn.den} {u : List Nat} (h : ordOf l = some u) : u.length = l.length ∧ (∀ i ∈ u, i < l.length) ∧ u.Nodup ∧ (∀ (a b : Nat) (ha : a < b) (hb : b < u.length), bfAt l u[b] u[a] = false) := by
  have := ordGo_good l.length [] u h (fun i hi => by cases hi) List.nodup_nil (fun a b _ hb => by simp at hb) (fun a ha => by simp at ha)
  simpa using this
end
section
def putC (m : List YCell.den) (w : YWrite.den) : List YCell.den :=
  m.filter (fun c => strLt c.1 w.1) ++ (if w.2.2 then [] else [(w.1, w.2.1)]) ++ m.filter (fun c => !(strLt c.1 w.1 || strEq c.1 w.1))
def playOne (m : List YCell.den) (ws : List YWrite.den) : List YCell.den := ws.foldl putC m
theorem fold_filter {α : Type} (p : α → Bool) : ∀ (l a : List α), l.foldl (fun a x => if p x then a ++ [x] else a) a = a ++ l.filter p
  | [], a => by simp
  | x :: l, a => by
    simp only [List.foldl_cons, fold_filter p l, List.filter_cons]
    cases p x <;> simp
theorem filter2_len {α : Type} (p q : α → Bool) (h : ∀ x, p x = true → q x = true) : ∀ l : List α, (l.filter p).length + (l.filter (fun x => !q x)).length ≤ l.length
  | [] => by simp
  | x :: l => by
    have := filter2_len p q h l
    have hx := h x
    simp only [List.filter_cons]
    cases hp : p x <;> cases hq : q x
    · simp; omega
    · simp; omega
    · rw [hp, hq] at hx; exact absurd (hx rfl) (by simp)
    · simp; omega
theorem putC_len (m : List YCell.den) (w : YWrite.den) : (putC m w).length ≤ m.length + 1 := by
  have := filter2_len (fun c : YCell.den => strLt c.1 w.1) (fun c => strLt c.1 w.1 || strEq c.1 w.1) (fun x h => by simp [h]) m
  unfold putC
  simp only [List.length_append]
  split <;> simp only [List.length_nil, List.length_cons] <;> omega
theorem low_len (a : List YCell.den) (w : YWrite.den) (h : a.length ≤ 1099511627775) : (a.filter (fun c => strLt c.1 w.1)).length + 1 ≤ 1099511627776 := by
  have : (a.filter (fun c => strLt c.1 w.1)).length ≤ a.length := List.length_filter_le _ _
  omega
theorem low_len2 (a : List YCell.den) (w : YWrite.den) (x : YCell.den) : (a.filter (fun c => strLt c.1 w.1) ++ [x]).length ≤ a.length + 1 - (a.filter (fun c => !(strLt c.1 w.1 || strEq c.1 w.1))).length := by
  have := filter2_len (fun c : YCell.den => strLt c.1 w.1) (fun c => strLt c.1 w.1 || strEq c.1 w.1) (fun x h => by simp [h]) a
  simp only [List.length_append, List.length_singleton]
  omega
theorem low_len3 (a : List YCell.den) (w : YWrite.den) : (a.filter (fun c => strLt c.1 w.1)).length ≤ a.length + 1 - (a.filter (fun c => !(strLt c.1 w.1 || strEq c.1 w.1))).length := by
  have := filter2_len (fun c : YCell.den => strLt c.1 w.1) (fun c => strLt c.1 w.1 || strEq c.1 w.1) (fun x h => by simp [h]) a
  omega
section
variable (t : YTxn.den) (w : YWrite.den) (m : List YCell.den) (hm : m.length ≤ 500000000000)
include hm
theorem low_spec (j : Int) : W_spec_PlayOne_8 (t, m, j, w, [], 0) = some (.inl (t, m, j, w, m.filter (fun c => strLt c.1 w.1))) := by
  have := W_pick W_spec_PlayOne_8 m (fun a i => (t, m, j, w, a, i)) (fun c => strLt c.1 w.1) (fun c => c) (fun a => .inl (t, m, j, w, a)) (by omega)
    (fun a _ => by rw [w_spec_PlayOne_8]; simp only [S_spec_PlayOne_8, lt_cast, Nat.lt_irrefl, decide_false, cond_false])
    (fun i hi a ha => by
      rw [w_spec_PlayOne_8]; simp only [S_spec_PlayOne_8, lt_cast, hi, decide_true, cond_true, gIdx_nat hi, Int.toNat_natCast, rdL_get hi, List.length_singleton, ble_cap (show a.length + 1 ≤ 1099511627776 by omega)]
      rw [wrap_succ (by omega)])
  rw [List.map_id'] at this
  exact this
theorem high_spec (j : Int) (a : List YCell.den) (ha : a.length ≤ m.length + 1 - (m.filter (fun c => !(strLt c.1 w.1 || strEq c.1 w.1))).length) : W_spec_PlayOne_15 (t, m, j, w, a, 0) = some (.inl (t, j, a ++ m.filter (fun c => !(strLt c.1 w.1 || strEq c.1 w.1)))) := by
  have := W_fold W_spec_PlayOne_15 m (fun a i => (t, m, j, w, a, i)) (fun a c => if !(strLt c.1 w.1 || strEq c.1 w.1) then a ++ [c] else a) (fun a => .inl (t, j, a)) (fun i a => a.length ≤ m.length + 1 + i)
    (fun a _ => by rw [w_spec_PlayOne_15]; simp only [S_spec_PlayOne_15, lt_cast, Nat.lt_irrefl, decide_false, cond_false])
    (fun i hi a ha => by
      rw [w_spec_PlayOne_15]; simp only [S_spec_PlayOne_15, lt_cast, hi, decide_true, cond_true, gIdx_nat hi, Int.toNat_natCast, rdL_get hi, List.length_singleton, ble_cap (show a.length + 1 ≤ 1099511627776 by omega)]
      rw [wrap_succ (by omega)]
      cases !(strLt m[i].1 w.1 || strEq m[i].1 w.1) with
      | true => simp only [cond_true, if_true]; refine ⟨by simp; omega, ?_⟩; simp only [ble_cap (show a.length + 1 ≤ 1099511627776 by omega), cond_true]
      | false => simp only [cond_false, Bool.false_eq_true, if_false]; refine ⟨by omega, ?_⟩; trivial) a (by omega)
  rw [fold_filter] at this
  exact this
theorem low_impl (l : List YWrite.den) (n j : Int) : W_impl_PlayOne_7 (m, w, [], l, n, j, m, (m.length : Int), 0) = some (.inl (m, w, m.filter (fun c => strLt c.1 w.1), l, n, j)) := by
  have := W_pick W_impl_PlayOne_7 m (fun a i => (m, w, a, l, n, j, m, (m.length : Int), i)) (fun c => strLt c.1 w.1) (fun c => c) (fun a => .inl (m, w, a, l, n, j)) (by omega)
    (fun a _ => by rw [w_impl_PlayOne_7]; simp only [S_impl_PlayOne_7, lt_cast, Nat.lt_irrefl, decide_false, cond_false])
    (fun i hi a ha => by
      rw [w_impl_PlayOne_7]; simp only [S_impl_PlayOne_7, lt_cast, hi, decide_true, cond_true, gIdx_nat hi, Int.toNat_natCast, rdL_get hi, List.length_singleton, ble_cap (show a.length + 1 ≤ 1099511627776 by omega)]
      rw [wrap_succ (by omega)])
  rw [List.map_id'] at this
  exact this
theorem high_impl (l : List YWrite.den) (n j : Int) (a : List YCell.den) (ha : a.length ≤ m.length + 1 - (m.filter (fun c => !(strLt c.1 w.1 || strEq c.1 w.1))).length) : W_impl_PlayOne_15 (w, a, l, n, j, m, (m.length : Int), 0) = some (.inl (a ++ m.filter (fun c => !(strLt c.1 w.1 || strEq c.1 w.1)), l, n, j)) := by
  have := W_fold W_impl_PlayOne_15 m (fun a i => (w, a, l, n, j, m, (m.length : Int), i)) (fun a c => if !(strLt c.1 w.1 || strEq c.1 w.1) then a ++ [c] else a) (fun a => .inl (a, l, n, j)) (fun i a => a.length ≤ m.length + 1 + i)
    (fun a _ => by rw [w_impl_PlayOne_15]; simp only [S_impl_PlayOne_15, lt_cast, Nat.lt_irrefl, decide_false, cond_false])
    (fun i hi a ha => by
      rw [w_impl_PlayOne_15]; simp only [S_impl_PlayOne_15, lt_cast, hi, decide_true, cond_true, gIdx_nat hi, Int.toNat_natCast, rdL_get hi, List.length_singleton, ble_cap (show a.length + 1 ≤ 1099511627776 by omega)]
      rw [wrap_succ (by omega)]
      cases !(strLt m[i].1 w.1 || strEq m[i].1 w.1) with
      | true => simp only [cond_true, if_true]; refine ⟨by simp; omega, ?_⟩; simp only [ble_cap (show a.length + 1 ≤ 1099511627776 by omega), cond_true]
      | false => simp only [cond_false, Bool.false_eq_true, if_false]; refine ⟨by omega, ?_⟩; trivial) a (by omega)
  rw [fold_filter] at this
  exact this
end
theorem parts_len (m : List YCell.den) (w : YWrite.den) : (m.filter (fun c => strLt c.1 w.1)).length + (m.filter (fun c => !(strLt c.1 w.1 || strEq c.1 w.1))).length ≤ m.length :=
  filter2_len (fun c : YCell.den => strLt c.1 w.1) (fun c => strLt c.1 w.1 || strEq c.1 w.1) (fun x h => by simp [h]) m
theorem PlayOne_spec (m : List YCell.den) (t : YTxn.den) (h : m.length + t.2.2.2.2.2.1.length ≤ 400000000000) : q_spec_PlayOne (m, t) = some (playOne m t.2.2.2.2.2.1) := by
  have L := W_fold W_spec_PlayOne_3 t.2.2.2.2.2.1 (fun a i => (t, a, i)) putC (fun a => .inl a) (fun i a => a.length ≤ m.length + i)
    (fun a _ => by rw [w_spec_PlayOne_3]; simp only [S_spec_PlayOne_3, lt_cast, Nat.lt_irrefl, decide_false, cond_false])
    (fun i hi a ha => by
      have hl := putC_len a t.2.2.2.2.2.1[i]
      have hp := parts_len a t.2.2.2.2.2.1[i]
      rw [w_spec_PlayOne_3]
      simp only [S_spec_PlayOne_3, lt_cast, hi, decide_true, cond_true, gIdx_nat hi, Int.toNat_natCast, rdL_get hi, low_spec t _ a (by omega), Option.bind_some, List.length_singleton, ble_cap (low_len a t.2.2.2.2.2.1[i] (by omega)),
        high_spec t t.2.2.2.2.2.1[i] a (by omega) (i : Int) (a.filter (fun c => strLt c.1 t.2.2.2.2.2.1[i].1) ++ [(t.2.2.2.2.2.1[i].1, t.2.2.2.2.2.1[i].2.1)]) (low_len2 ..), high_spec t t.2.2.2.2.2.1[i] a (by omega) (i : Int) (a.filter (fun c => strLt c.1 t.2.2.2.2.2.1[i].1)) (low_len3 ..)]
      rw [wrap_succ (by omega)]
      refine ⟨by omega, ?_⟩
      unfold putC
      cases t.2.2.2.2.2.1[i].2.2 <;> simp) m (by omega)
  rw [e_spec_PlayOne]; unfold X_spec_PlayOne
  have h0 : Nat.ble (([] : List YCell.den).length + m.length) cap40 = true := ble_cap (by simp; omega)
  simp only [h0, cond_true, List.nil_append, L, Option.bind_some]
  rfl
theorem PlayOne_impl (m : List YCell.den) (t : YTxn.den) (h : m.length + t.2.2.2.2.2.1.length ≤ 400000000000) : q_impl_PlayOne (m, t) = some (playOne m t.2.2.2.2.2.1) := by
  have L := W_fold W_impl_PlayOne_3 t.2.2.2.2.2.1 (fun a i => (a, t.2.2.2.2.2.1, (t.2.2.2.2.2.1.length : Int), i)) putC (fun a => .inl a) (fun i a => a.length ≤ m.length + i)
    (fun a _ => by rw [w_impl_PlayOne_3]; simp only [S_impl_PlayOne_3, lt_cast, Nat.lt_irrefl, decide_false, cond_false])
    (fun i hi a ha => by
      have hl := putC_len a t.2.2.2.2.2.1[i]
      have hp := parts_len a t.2.2.2.2.2.1[i]
      rw [w_impl_PlayOne_3]
      simp only [S_impl_PlayOne_3, lt_cast, hi, decide_true, cond_true, gIdx_nat hi, Int.toNat_natCast, rdL_get hi, low_impl _ a (by omega), Option.bind_some, List.length_singleton, ble_cap (low_len a t.2.2.2.2.2.1[i] (by omega)),
        high_impl t.2.2.2.2.2.1[i] a (by omega) t.2.2.2.2.2.1 (t.2.2.2.2.2.1.length : Int) (i : Int) (a.filter (fun c => strLt c.1 t.2.2.2.2.2.1[i].1) ++ [(t.2.2.2.2.2.1[i].1, t.2.2.2.2.2.1[i].2.1)]) (low_len2 ..), high_impl t.2.2.2.2.2.1[i] a (by omega) t.2.2.2.2.2.1 (t.2.2.2.2.2.1.length : Int) (i : Int) (a.filter (fun c => strLt c.1 t.2.2.2.2.2.1[i].1)) (low_len3 ..)]
      rw [wrap_succ (by omega)]
      refine ⟨by omega, ?_⟩
      unfold putC
      cases t.2.2.2.2.2.1[i].2.2 <;> simp) m (by omega)
  rw [e_impl_PlayOne]; unfold X_impl_PlayOne
  simp only [ble_cap (show m.length ≤ 1099511627776 by omega), cond_true, L, Option.bind_some]
  rfl
end
section
def vsStep (a : List VerT) (t : YTxn.den) : List VerT := putVs a t.2.2.2.2.2.1 t.2.2.2.1
def vsOf (l : List YTxn.den) : List VerT := l.foldl vsStep []
def readBad (vs : List VerT) (m : List PrT) (t : YTxn.den) : Bool := t.2.2.2.2.1.any fun r => !decide (viewOf m r = scanAt vs r t.2.2.1)
def playF (l : List YTxn.den) (vs : List VerT) (i : Nat) (x : Int) (m : List PrT) : List PrT ⊕ (Unit ⊕ Bool) :=
  if readBad vs m (rdL YTxn l x.toNat) = true then .inr (.inr false) else .inl (playOne m (rdL YTxn l x.toNat).2.2.2.2.2.1)
def playIt (l : List YTxn.den) (u : List Nat) : Unit ⊕ Bool := iter (playF l (vsOf l)) (fun _ => .inl ()) 0 (asInts u) []
def srOf (l : List YTxn.den) : Bool := match ordOf l with
  | none => false
  | some u => match playIt l u with
    | .inl _ => true
    | .inr b => b
def wsSum (l : List YTxn.den) : Nat := (l.map fun t => t.2.2.2.2.2.1.length).sum
theorem vs_len : ∀ (l : List YTxn.den) (a : List VerT), (l.foldl vsStep a).length = a.length + wsSum l
  | [], a => rfl
  | t :: l, a => by
    rw [List.foldl_cons, vs_len l]
    unfold vsStep
    rw [putVs_len]
    simp only [wsSum, List.map_cons, List.sum_cons]
    omega
theorem amgm (a b : Nat) (h : a + b ≤ 1048576) : a * b ≤ 274877906944 := by
  have key : 4 * (a * b) ≤ (a + b) * (a + b) := by
    rcases Nat.le_total a b with q | q
    · obtain ⟨d, rfl⟩ := Nat.exists_eq_add_of_le q
      simp only [Nat.mul_add, Nat.add_mul]
      have e : d * a = a * d := Nat.mul_comm d a
      have : 0 ≤ d * d := Nat.zero_le _
      omega
    · obtain ⟨d, rfl⟩ := Nat.exists_eq_add_of_le q
      simp only [Nat.mul_add, Nat.add_mul]
      have e : d * b = b * d := Nat.mul_comm d b
      have : 0 ≤ d * d := Nat.zero_le _
      omega
  have := Nat.mul_le_mul h h
  omega
theorem playOne_len (m : List PrT) (ws : List YWrite.den) : (playOne m ws).length ≤ m.length + ws.length := by
  induction ws generalizing m with
  | nil => exact Nat.le_refl _
  | cons w ws ih =>
    have h := ih (putC m w)
    have h2 := putC_len m w
    unfold playOne at h ⊢
    rw [List.foldl_cons]
    simp only [List.length_cons]
    omega
theorem ws_le {l : List YTxn.den} {i : Nat} (h : i < l.length) : l[i].2.2.2.2.2.1.length ≤ wsSum l := by
  unfold wsSum
  induction l generalizing i with
  | nil => exact absurd h (Nat.not_lt_zero i)
  | cons t l ih =>
    simp only [List.map_cons, List.sum_cons]
    cases i with
    | zero => simp
    | succ i =>
      have := ih (i := i) (by simpa using h)
      simp only [List.getElem_cons_succ]
      omega
section
variable {l : List YTxn.den} (hw : ∀ x ∈ l, YTxn.wt x ≤ big40) (hl : l.length + wsSum l ≤ 1048576) (hr : ∀ x ∈ l, x.2.2.2.2.1.length ≤ 1048576)
include hl
theorem Versions_spec : q_spec_l14Versions l = some (vsOf l) := by
  have L := W_fold W_spec_l14Versions_3 l (fun a i => (l, a, i)) vsStep (fun a => .inl a) (fun i a => a.length = wsSum (l.take i) )
    (fun a _ => by rw [w_spec_l14Versions_3]; simp only [S_spec_l14Versions_3, lt_cast, Nat.lt_irrefl, decide_false, cond_false])
    (fun i hi a ha => by
      have h1 := ws_le hi
      have h2 : wsSum (l.take (i + 1)) = wsSum (l.take i) + l[i].2.2.2.2.2.1.length := by
        unfold wsSum
        rw [List.take_succ_eq_append_getElem hi, List.map_append, List.sum_append]
        simp
      have h3 : wsSum (l.take i) ≤ wsSum l := by
        unfold wsSum
        conv => rhs; rw [← List.take_append_drop i l]
        rw [List.map_append, List.sum_append]
        omega
      rw [w_spec_l14Versions_3]
      simp only [S_spec_l14Versions_3, lt_cast, hi, decide_true, cond_true, gIdx_nat hi, Int.toNat_natCast, rdL_get (t := YTxn) hi, PutVersions_spec a l[i].2.2.2.2.2.1 l[i].2.2.2.1 (by omega), Option.bind_some]
      rw [wrap_succ (by omega)]
      refine ⟨?_, rfl⟩
      unfold vsStep
      rw [putVs_len]
      omega) [] (by simp [wsSum])
  rw [e_spec_l14Versions]; unfold X_spec_l14Versions
  simp only [L, Option.bind_some]
  rfl
theorem Versions_impl (t : List Int) : W_impl_SerialRight_6 (l, t, [], l, (l.length : Int), 0) = some (.inl (l, t, vsOf l)) :=
  W_fold W_impl_SerialRight_6 l (fun a i => (l, t, a, l, (l.length : Int), i)) vsStep (fun a => .inl (l, t, a)) (fun i a => a.length = wsSum (l.take i))
    (fun a _ => by rw [w_impl_SerialRight_6]; simp only [S_impl_SerialRight_6, lt_cast, Nat.lt_irrefl, decide_false, cond_false])
    (fun i hi a ha => by
      have h1 := ws_le hi
      have h2 : wsSum (l.take (i + 1)) = wsSum (l.take i) + l[i].2.2.2.2.2.1.length := by
        unfold wsSum
        rw [List.take_succ_eq_append_getElem hi, List.map_append, List.sum_append]
        simp
      have h3 : wsSum (l.take i) ≤ wsSum l := by
        unfold wsSum
        conv => rhs; rw [← List.take_append_drop i l]
        rw [List.map_append, List.sum_append]
        omega
      rw [w_impl_SerialRight_6]
      simp only [S_impl_SerialRight_6, lt_cast, hi, decide_true, cond_true, gIdx_nat hi, Int.toNat_natCast, rdL_get (t := YTxn) hi, PutVersions_impl a l[i].2.2.2.2.2.1 l[i].2.2.2.1 (by omega), Option.bind_some]
      rw [wrap_succ (by omega)]
      refine ⟨?_, rfl⟩
      unfold vsStep
      rw [putVs_len]
      omega) [] (by simp [wsSum])
theorem vsOf_len : (vsOf l).length ≤ 1048576 := by
  unfold vsOf
  rw [vs_len]
  simp
  omega
theorem play_bound {u : List Nat} (hu : u.length = l.length) {i : Nat} (hi : i < u.length) {m : List PrT} (hm : m.length ≤ i * wsSum l) {k : Nat} (hk : k < l.length) :
    m.length ≤ 300000000000 ∧ m.length + l[k].2.2.2.2.2.1.length ≤ 400000000000 ∧ (playOne m l[k].2.2.2.2.2.1).length ≤ (i + 1) * wsSum l := by
  have h1 := ws_le hk
  have h2 := amgm i (wsSum l) (by omega)
  have h3 := playOne_len m l[k].2.2.2.2.2.1
  rw [Nat.succ_mul]
  exact ⟨by omega, by omega, by omega⟩
include hr
theorem play_spec {u : List Nat} (hu : u.length = l.length) (hin : ∀ i ∈ u, i < l.length) : W_spec_SerialRight_7 (l, asInts u, vsOf l, [], 0) = some (playIt l u) := by
  have hv := vsOf_len hl
  refine W_iter W_spec_SerialRight_7 (asInts u) (fun a i => (l, asInts u, vsOf l, a, i)) (playF l (vsOf l)) (fun _ => .inl ()) (fun i m => m.length ≤ i * wsSum l)
    (fun a _ => by rw [w_spec_SerialRight_7]; simp only [S_spec_SerialRight_7, lt_cast, Nat.lt_irrefl, decide_false, cond_false])
    (fun i hi m hm => ?_) [] (by simp)
  rw [asInts_len] at hi
  have hx : (asInts u)[i]'(by rw [asInts_len]; exact hi) = (u[i] : Int) := by simp [asInts]
  have hk : u[i] < l.length := hin _ (List.getElem_mem hi)
  obtain ⟨p1, p2, p3⟩ := play_bound hl hu hi hm hk
  have hrr := hr _ (List.getElem_mem hk)
  have inner : W_spec_SerialRight_11 (l, asInts u, vsOf l, m, (i : Int), l[u[i]], 0) = some (bif readBad (vsOf l) m l[u[i]] then .inr false else .inl (l, asInts u, vsOf l, m, (i : Int), l[u[i]])) :=
    W_any W_spec_SerialRight_11 l[u[i]].2.2.2.2.1 (fun j => (l, asInts u, vsOf l, m, (i : Int), l[u[i]], j)) (fun r => !decide (viewOf m r = scanAt (vsOf l) r l[u[i]].2.2.1)) (.inr false) (.inl (l, asInts u, vsOf l, m, (i : Int), l[u[i]]))
      (by rw [w_spec_SerialRight_11]; simp only [S_spec_SerialRight_11, lt_cast, Nat.lt_irrefl, decide_false, cond_false])
      (fun j hj => by
        have hvl : (viewOf m l[u[i]].2.2.2.2.1[j]).length ≤ 1099511627776 := Nat.le_trans (List.length_filter_le _ _) (by omega)
        rw [w_spec_SerialRight_11]
        simp only [S_spec_SerialRight_11, lt_cast, hj, decide_true, cond_true, gIdx_nat hj, Int.toNat_natCast, rdL_get (t := YRange) hj, ViewOf_spec m _ (show m.length ≤ 1099511627775 by omega), ScanAt_spec (vsOf l) _ _ (show (vsOf l).length ≤ 500000000000 by omega), Option.bind_some, Pairs_spec _ _ hvl]
        rw [wrap_succ (by omega)])
  have hg : gIdx (i : Int) (asInts u).length = true := by rw [asInts_len]; exact gIdx_nat hi
  have hlt : decide ((i : Int) < ((asInts u).length : Int)) = true := by rw [asInts_len]; simpa using hi
  have hrd : rdL (Ty.int .i64) (asInts u) i = (u[i] : Int) := by
    rw [rdL_get (t := Ty.int .i64) (by rw [asInts_len]; exact hi)]
    exact hx
  have hstep : W_spec_SerialRight_7 (l, asInts u, vsOf l, m, (i : Int)) = bif readBad (vsOf l) m l[u[i]] then some (.inr false) else W_spec_SerialRight_7 (l, asInts u, vsOf l, playOne m l[u[i]].2.2.2.2.2.1, ((i + 1 : Nat) : Int)) := by
    rw [w_spec_SerialRight_7]
    simp only [S_spec_SerialRight_7, hlt, cond_true, hg, Int.toNat_natCast, hrd, gIdx_nat hk, rdL_get (t := YTxn) hk, inner, Option.bind_some]
    cases readBad (vsOf l) m l[u[i]] with
    | true => rfl
    | false =>
      simp only [cond_false, PlayOne_spec m l[u[i]] p2, Option.bind_some]
      rw [wrap_succ (by omega)]
  unfold playF
  simp only [hx, Int.toNat_natCast, rdL_get (t := YTxn) hk]
  rw [hstep]
  cases readBad (vsOf l) m l[u[i]] with
  | true => rfl
  | false => exact ⟨p3, rfl⟩
theorem play_impl {u : List Nat} (hu : u.length = l.length) (hin : ∀ i ∈ u, i < l.length) : W_impl_SerialRight_12 (l, vsOf l, [], asInts u, ((asInts u).length : Int), 0) = some (playIt l u) := by
  have hv := vsOf_len hl
  refine W_iter W_impl_SerialRight_12 (asInts u) (fun a i => (l, vsOf l, a, asInts u, ((asInts u).length : Int), i)) (playF l (vsOf l)) (fun _ => .inl ()) (fun i m => m.length ≤ i * wsSum l)
    (fun a _ => by rw [w_impl_SerialRight_12]; simp only [S_impl_SerialRight_12, lt_cast, Nat.lt_irrefl, decide_false, cond_false])
    (fun i hi m hm => ?_) [] (by simp)
  rw [asInts_len] at hi
  have hx : (asInts u)[i]'(by rw [asInts_len]; exact hi) = (u[i] : Int) := by simp [asInts]
  have hk : u[i] < l.length := hin _ (List.getElem_mem hi)
  obtain ⟨p1, p2, p3⟩ := play_bound hl hu hi hm hk
  have hrr := hr _ (List.getElem_mem hk)
  have inner : W_impl_SerialRight_16 (l, vsOf l, m, l[u[i]], asInts u, ((asInts u).length : Int), (i : Int), l[u[i]].2.2.2.2.1, (l[u[i]].2.2.2.2.1.length : Int), 0) = some (bif readBad (vsOf l) m l[u[i]] then .inr false else .inl (l, vsOf l, m, l[u[i]], asInts u, ((asInts u).length : Int), (i : Int))) :=
    W_any W_impl_SerialRight_16 l[u[i]].2.2.2.2.1 (fun j => (l, vsOf l, m, l[u[i]], asInts u, ((asInts u).length : Int), (i : Int), l[u[i]].2.2.2.2.1, (l[u[i]].2.2.2.2.1.length : Int), j)) (fun r => !decide (viewOf m r = scanAt (vsOf l) r l[u[i]].2.2.1)) (.inr false) (.inl (l, vsOf l, m, l[u[i]], asInts u, ((asInts u).length : Int), (i : Int)))
      (by rw [w_impl_SerialRight_16]; simp only [S_impl_SerialRight_16, lt_cast, Nat.lt_irrefl, decide_false, cond_false])
      (fun j hj => by
        have hvl : (viewOf m l[u[i]].2.2.2.2.1[j]).length ≤ 1099511627776 := Nat.le_trans (List.length_filter_le _ _) (by omega)
        rw [w_impl_SerialRight_16]
        simp only [S_impl_SerialRight_16, lt_cast, hj, decide_true, cond_true, gIdx_nat hj, Int.toNat_natCast, rdL_get (t := YRange) hj, ViewOf_impl m _ (show m.length ≤ 1099511627775 by omega), ScanAt_impl (vsOf l) _ _ (show (vsOf l).length ≤ 500000000000 by omega), Option.bind_some, Pairs_impl _ _ hvl]
        rw [wrap_succ (by omega)])
  have hg : gIdx (i : Int) (asInts u).length = true := by rw [asInts_len]; exact gIdx_nat hi
  have hlt : decide ((i : Int) < ((asInts u).length : Int)) = true := by rw [asInts_len]; simpa using hi
  have hrd : rdL (Ty.int .i64) (asInts u) i = (u[i] : Int) := by
    rw [rdL_get (t := Ty.int .i64) (by rw [asInts_len]; exact hi)]
    exact hx
  have hstep : W_impl_SerialRight_12 (l, vsOf l, m, asInts u, ((asInts u).length : Int), (i : Int)) = bif readBad (vsOf l) m l[u[i]] then some (.inr false) else W_impl_SerialRight_12 (l, vsOf l, playOne m l[u[i]].2.2.2.2.2.1, asInts u, ((asInts u).length : Int), ((i + 1 : Nat) : Int)) := by
    rw [w_impl_SerialRight_12]
    simp only [S_impl_SerialRight_12, hlt, cond_true, hg, Int.toNat_natCast, hrd, gIdx_nat hk, rdL_get (t := YTxn) hk, inner, Option.bind_some]
    cases readBad (vsOf l) m l[u[i]] with
    | true => rfl
    | false =>
      simp only [cond_false, PlayOne_impl m l[u[i]] p2, Option.bind_some]
      rw [wrap_succ (by omega)]
  unfold playF
  simp only [hx, Int.toNat_natCast, rdL_get (t := YTxn) hk]
  rw [hstep]
  cases readBad (vsOf l) m l[u[i]] with
  | true => rfl
  | false => exact ⟨p3, rfl⟩
include hw
theorem SerialRight_spec : q_spec_SerialRight l = some (srOf l) := by
  rw [e_spec_SerialRight]; unfold X_spec_SerialRight
  simp only [SerialOrder_spec hw (show l.length ≤ 1048576 by omega), Option.bind_some, Versions_spec hl]
  unfold srOf
  cases ho : ordOf l with
  | none => rfl
  | some u =>
    obtain ⟨g1, g2, _, _⟩ := ordOf_good ho
    simp only [ordRes, Bool.not_true, cond_false, play_spec hl hr g1 g2, Option.bind_some]
    cases playIt l u <;> rfl
theorem SerialRight_impl : q_impl_SerialRight l = some (srOf l) := by
  rw [e_impl_SerialRight]; unfold X_impl_SerialRight
  simp only [SerialOrder_impl hw (show l.length ≤ 1048576 by omega), Option.bind_some]
  unfold srOf
  cases ho : ordOf l with
  | none => rfl
  | some u =>
    obtain ⟨g1, g2, _, _⟩ := ordOf_good ho
    simp only [ordRes, Bool.not_true, cond_false, Versions_impl hl, Option.bind_some, play_impl hl hr g1 g2]
    cases playIt l u <;> rfl
end
end
section
theorem txns_small {l : List YTxn.den} (h : (Ty.sl YTxn).wt l ≤ 1048576) : (∀ x ∈ l, YTxn.wt x ≤ big40) ∧ l.length + wsSum l ≤ 1048576 ∧ ∀ x ∈ l, x.2.2.2.2.1.length ≤ 1048576 := by
  have e : (Ty.sl YTxn).wt l = l.length + (l.map YTxn.wt).sum := rfl
  have hs : ∀ (l : List YTxn.den), wsSum l ≤ (l.map YTxn.wt).sum ∧ ∀ x ∈ l, YTxn.wt x ≤ (l.map YTxn.wt).sum := by
    intro l
    induction l with
    | nil => exact ⟨Nat.le_refl _, fun x h => by cases h⟩
    | cons t l ih =>
      have h1 := wt_writes (a := t)
      simp only [wsSum, List.map_cons, List.sum_cons] at ih ⊢
      refine ⟨by omega, fun x hx => ?_⟩
      rcases List.mem_cons.1 hx with rfl | hx
      · omega
      · have := ih.2 x hx
        omega
  obtain ⟨h1, h2⟩ := hs l
  refine ⟨fun x hx => by have := h2 x hx; unfold big40; omega, by omega, fun x hx => ?_⟩
  have := h2 x hx
  have := wt_reads (a := x)
  omega
theorem law_FnExactSerial (x : YWorld.den) (hx : YWorld.fine x) : q_laws_FnExactSerial x = some true := by
  rw [e_laws_FnExactSerial]; unfold X_laws_FnExactSerial
  refine szr_law (sz_World x _ hx (by omega) (by omega)) (fun c1 => ?_)
  have wx : YWorld.wt x ≤ 1099511627776 := by omega
  have hw : YWorld.wt x = YStore.wt x.1 + ((Ty.sl YTxn).wt x.2.1 + ((Ty.sl (Ty.int .i64)).wt x.2.2.1 + (Ty.sl Ty.str).wt x.2.2.2)) := rfl
  obtain ⟨p1, p2, p3⟩ := txns_small (l := x.2.1) (by omega)
  have h1 : q_spec_Serial x = some (srOf x.2.1) := by
    rw [e_spec_Serial]; unfold X_spec_Serial
    simp only [SerialRight_spec p1 p2 p3, Option.bind_some]
  have h2 : q_impl_Serial x = some (srOf x.2.1) := by
    rw [e_impl_Serial]; unfold X_impl_Serial
    simp only [SerialRight_impl p1 p2 p3, Option.bind_some]
  simp only [to_World x wx, h1, h2, eq_World x wx, Option.bind_some, beq_self_eq_true, Bool.not_true, cond_false]
end
end Go.Proofs.YtbkicjpdlchbgaaGreat.Ab
