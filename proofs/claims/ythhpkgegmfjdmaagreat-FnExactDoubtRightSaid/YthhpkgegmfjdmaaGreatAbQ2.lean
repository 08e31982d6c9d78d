import Derived.Test.YthhpkgegmfjdmaaGreatAbQ1
namespace Go.Proofs.YthhpkgegmfjdmaaGreat.Ab
open Go
set_option linter.unusedVariables false
set_option linter.unusedSimpArgs false
set_option linter.unnecessarySimpa false
set_option linter.unusedSimpArgs false
set_option linter.unusedVariables false

/-! ### Library loops over a list, with a test that is handed in -/
theorem twl {E : Type} (p : E → Bool) : ∀ (l : List E), (l.takeWhile p).length ≤ l.length ∧ (∀ (i : Nat) (h : i < l.length), i < (l.takeWhile p).length → p l[i] = true) ∧
    (∀ (h : (l.takeWhile p).length < l.length), p l[(l.takeWhile p).length] = false)
  | [] => ⟨Nat.le_refl _, fun i h => absurd h (Nat.not_lt_zero i), fun h => absurd h (Nat.not_lt_zero _)⟩
  | x :: l => by
    obtain ⟨h1, h2, h3⟩ := twl p l
    cases hp : p x with
    | false =>
      simp only [List.takeWhile_cons, hp, Bool.false_eq_true, if_false, List.length_nil]
      exact ⟨Nat.zero_le _, fun i _ h => absurd h (Nat.not_lt_zero i), fun _ => hp⟩
    | true =>
      simp only [List.takeWhile_cons, hp, if_true, List.length_cons]
      refine ⟨by omega, fun i h k => ?_, fun h => ?_⟩
      · cases i with
        | zero => exact hp
        | succ i => simpa using h2 i (by simpa using h) (by omega)
      · simpa using h3 (by omega)

/-- The place of the first that passes. -/
def firstAt {E : Type} (p : E → Bool) (l : List E) : Nat := (l.takeWhile fun x => !p x).length

theorem firstAt_le {E : Type} (p : E → Bool) (l : List E) : firstAt p l ≤ l.length := (twl _ l).1
theorem firstAt_no {E : Type} {p : E → Bool} {l : List E} {i : Nat} (h : i < l.length) (hi : i < firstAt p l) : p l[i] = false := by
  have := (twl (fun x => !p x) l).2.1 i h hi
  simpa using this
theorem firstAt_yes {E : Type} {p : E → Bool} {l : List E} (h : firstAt p l < l.length) : p l[firstAt p l] = true := by
  unfold firstAt at h ⊢
  have := (twl (fun x => !p x) l).2.2 h
  simpa using this

theorem firstAt_any {E : Type} (p : E → Bool) (l : List E) : decide (firstAt p l < l.length) = l.any p := by
  cases hc : l.any p with
  | true =>
    obtain ⟨x, hx, hp⟩ := List.any_eq_true.mp hc
    obtain ⟨i, hi, rfl⟩ := List.getElem_of_mem hx
    have : ¬ i < firstAt p l := fun q => by rw [firstAt_no hi q] at hp; cases hp
    simp only [decide_eq_true_eq]
    omega
  | false =>
    simp only [decide_eq_false_iff_not]
    intro h
    have := firstAt_yes h
    have := List.any_eq_false.mp hc _ (List.getElem_mem h)
    contradiction

theorem Q.first {T : Ty} {c : Type} {q : T.den × c → Option Bool} {p : T.den → Bool} {W : List T.den × c × Int × Int → Option (Unit ⊕ Int)}
    (hW : ∀ x, W x = (bif (decide (x.2.2.2 < x.2.2.1)) then (bif (gIdx x.2.2.2 x.1.length) then ((q ((rdL T x.1 (x.2.2.2).toNat), x.2.1)).bind fun (y1 : Bool) => (bif y1 then (some (.inr x.2.2.2)) else (W (x.1, (x.2.1, (x.2.2.1, (IntKind.i64.wrap (x.2.2.2 + (1 : Int))))))))) else none) else (some (.inl ()))))
    (l : List T.den) (k : c) (hl : l.length ≤ 1099511627776) (hq : ∀ x ∈ l, q (x, k) = some (p x)) :
    W (l, k, (l.length : Int), 0) = some (if firstAt p l < l.length then .inr ((firstAt p l : Nat) : Int) else .inl ()) := by
  have hle := firstAt_le p l
  have := W_nat W (firstAt p l) (fun (_ : Unit) i => (l, k, (l.length : Int), i)) (fun _ _ => if firstAt p l < l.length then .inr ((firstAt p l : Nat) : Int) else .inl ()) (fun _ _ => True)
    (fun a _ => by
      rw [hW]
      by_cases hk : firstAt p l < l.length
      · simp only [lt_cast, hk, decide_true, cond_true, gIdx_nat hk, Int.toNat_natCast, rdL_get hk, hq _ (List.getElem_mem hk), firstAt_yes hk, Option.bind_some, if_true]
      · simp only [lt_cast, hk, decide_false, cond_false, if_false])
    (fun i a hi _ => .inr ⟨(), trivial, rfl, by
      have hil : i < l.length := by omega
      rw [hW]
      simp only [lt_cast, hil, decide_true, cond_true, gIdx_nat hil, Int.toNat_natCast, rdL_get hil, hq _ (List.getElem_mem hil), firstAt_no hil hi, Option.bind_some, cond_false]
      rw [wrap_succ (by omega)]⟩) 0 () (Nat.zero_le _) trivial
  exact this

/-- The loop of a deletion: what stays is put ahead. -/
theorem Q.delete {T : Ty} {c R : Type} {q : T.den × c → Option Bool} {p : T.den → Bool} {W : List T.den × c × Int × Int → Option ((List T.den × Int) ⊕ R)}
    (hW : ∀ x, W x = (bif (decide (x.2.2.2 < (x.1.length : Int))) then (bif (gIdx x.2.2.2 x.1.length) then ((q ((rdL T x.1 (x.2.2.2).toNat), x.2.1)).bind fun (y2 : Bool) => (bif (!y2) then (bif (gIdx x.2.2.1 x.1.length) then (W ((x.1.set (x.2.2.1).toNat (rdL T x.1 (x.2.2.2).toNat)), (x.2.1, ((IntKind.i64.wrap (x.2.2.1 + (1 : Int))), (IntKind.i64.wrap (x.2.2.2 + (1 : Int))))))) else none) else (W (x.1, (x.2.1, (x.2.2.1, (IntKind.i64.wrap (x.2.2.2 + (1 : Int))))))))) else none) else (some (.inl (x.1, x.2.2.1)))))
    (l : List T.den) (k : c) (hl : l.length ≤ 1099511627776) (hq : ∀ x ∈ l, q (x, k) = some (p x)) (hf : firstAt p l < l.length) :
    ∃ a : List T.den, W (l, k, ((firstAt p l : Nat) : Int), ((firstAt p l + 1 : Nat) : Int)) = some (.inl (a, ((l.filter fun x => !p x).length : Int))) ∧ a.length = l.length ∧ a.take (l.filter fun x => !p x).length = l.filter fun x => !p x := by
  have key : ∀ (d j : Nat) (a : List T.den), j + d = l.length → a.length = l.length → a.drop j = l.drop j → ((l.take j).filter fun x => !p x).length ≤ j → ((l.take j).filter fun x => !p x).length < l.length → a.take ((l.take j).filter fun x => !p x).length = (l.take j).filter (fun x => !p x) →
      ((l.take j).filter fun x => !p x).length < j →
      ∃ a' : List T.den, W (a, k, (((l.take j).filter fun x => !p x).length : Int), (j : Int)) = some (.inl (a', ((l.filter fun x => !p x).length : Int))) ∧ a'.length = l.length ∧ a'.take (l.filter fun x => !p x).length = l.filter fun x => !p x := by
    intro d
    induction d with
    | zero =>
      intro j a hj ha h1 h2 h3 h4 h5
      have e : j = l.length := by omega
      subst e
      rw [List.take_length] at h4 ⊢
      rw [hW]
      simp only [ha, lt_cast, Nat.lt_irrefl, decide_false, cond_false]
      exact ⟨a, rfl, ha, h4⟩
    | succ d ih =>
      intro j a hj ha h1 h2 h3 h4 h5
      have hjl : j < l.length := by omega
      have hja : j < a.length := by omega
      have haj : a[j] = l[j] := by
        have e1 := List.drop_eq_getElem_cons hja
        have e2 := List.drop_eq_getElem_cons hjl
        rw [h1, e2] at e1
        injection e1 with e1 _
        exact e1.symm
      have hs : l.take (j + 1) = l.take j ++ [l[j]] := List.take_succ_eq_append_getElem hjl
      have hd : a.drop (j + 1) = l.drop (j + 1) := by
        have := congrArg List.tail h1
        simpa using this
      rw [hW]
      simp only [lt_cast, hja, decide_true, cond_true, gIdx_nat hja, Int.toNat_natCast, rdL_get hja, haj, hq _ (List.getElem_mem hjl), Option.bind_some]
      rw [wrap_succ (i := j) (by omega)]
      cases hp : p l[j] with
      | true =>
        simp only [Bool.not_true, cond_false]
        have e : (l.take (j + 1)).filter (fun x => !p x) = (l.take j).filter fun x => !p x := by rw [hs, List.filter_append, List.filter_cons]; simp only [hp, Bool.not_true, Bool.false_eq_true, if_false, List.filter_nil, List.append_nil]
        have := ih (j + 1) a (by omega) ha hd (by rw [e]; omega) (by rw [e]; exact h3) (by rw [e]; exact h4) (by rw [e]; omega)
        rwa [e] at this
      | false =>
        have e : (l.take (j + 1)).filter (fun x => !p x) = (l.take j).filter (fun x => !p x) ++ [l[j]] := by rw [hs, List.filter_append, List.filter_cons]; simp only [hp, Bool.not_false, if_true, List.filter_nil]
        have el : ((l.take (j + 1)).filter fun x => !p x).length = ((l.take j).filter fun x => !p x).length + 1 := by rw [e]; simp
        have hia : ((l.take j).filter fun x => !p x).length < a.length := by omega
        simp only [Bool.not_false, cond_true, gIdx_nat hia]
        rw [wrap_succ (i := ((l.take j).filter fun x => !p x).length) (by omega)]
        have := ih (j + 1) (a.set ((l.take j).filter fun x => !p x).length l[j]) (by omega) (by simpa using ha) (by
            rw [List.drop_set_of_lt (by omega)]
            exact hd) (by rw [el]; omega) (by rw [el]; omega) (by
            rw [el, List.take_succ_eq_append_getElem (by simpa using hia), e]
            congr 1
            · rw [List.take_set_of_le (Nat.le_refl _)]
              exact h4
            · simp) (by rw [el]; omega)
        rwa [el] at this
  have hk := firstAt_le p l
  have e : (l.take (firstAt p l + 1)).filter (fun x => !p x) = l.take (firstAt p l) := by
    rw [List.take_succ_eq_append_getElem hf, List.filter_append]
    have h1 : (l.take (firstAt p l)).filter (fun x => !p x) = l.take (firstAt p l) := by
      rw [List.filter_eq_self]
      intro x hx
      obtain ⟨i, hi, rfl⟩ := List.getElem_of_mem hx
      have hi' : i < firstAt p l := by have := hi; rw [List.length_take] at this; omega
      rw [List.getElem_take, firstAt_no (by omega) hi']
      rfl
    rw [h1]
    simp [firstAt_yes hf]
  have el : ((l.take (firstAt p l + 1)).filter fun x => !p x).length = firstAt p l := by rw [e, List.length_take]; omega
  have := key (l.length - (firstAt p l + 1)) (firstAt p l + 1) l (by omega) rfl rfl (by rw [el]; omega) (by rw [el]; exact hf) (by rw [el, e]) (by rw [el]; omega)
  rwa [el] at this

end Go.Proofs.YthhpkgegmfjdmaaGreat.Ab
