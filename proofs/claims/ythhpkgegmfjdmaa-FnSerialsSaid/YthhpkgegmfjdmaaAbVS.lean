import Derived.Test.YthhpkgegmfjdmaaAbV1
import Derived.Test.YthhpkgegmfjdmaaAbVR
namespace Go.Proofs.Ythhpkgegmfjdmaa.Ab
open Go
set_option linter.unusedVariables false
set_option linter.unusedSimpArgs false
set_option linter.unnecessarySimpa false
set_option linter.unusedSimpArgs false
set_option linter.unusedVariables false

theorem W_count {X R A : Type} (W : X → Option R) (n : Nat) (mk : A → Int → X) (v : Nat → A) (r : R) (hend : W (mk (v n) (n : Int)) = some r)
    (hstep : ∀ i, i < n → W (mk (v i) (i : Int)) = W (mk (v (i + 1)) ((i + 1 : Nat) : Int))) : W (mk (v 0) 0) = some r := by
  have := W_nat W n (fun (_ : Unit) i => mk (v i.toNat) i) (fun _ _ => r) (fun _ _ => True) (fun _ _ => by simpa using hend) (fun i a hi _ => .inr ⟨(), trivial, rfl, by
    have h := hstep i hi
    have e : ((i : Int) + 1).toNat = i + 1 := by omega
    simp only [Int.toNat_natCast]
    exact h⟩) 0 () (Nat.zero_le _) trivial
  simpa using this

theorem fold_flt {α : Type} (p : α → Bool) : ∀ (l a : List α), l.foldl (fun a x => if p x = true then a ++ [x] else a) a = a ++ l.filter p
  | [], a => by simp
  | x :: l, a => by
    rw [List.foldl_cons, fold_flt p l]
    cases hc : p x <;> simp [hc]

abbrev VerT := ByteArray × ByteArray × Bool × Int
def emp : ByteArray := ⟨#[]⟩

/-! ### What is seen -/
def atStep (l : List VerT) (k : ByteArray) (snap out : Int) (i : Nat) : Int :=
  if strEq (rdL YVersion l i).1 k = true ∧ (rdL YVersion l i).2.2.2 ≤ snap ∧ (out < 0 ∨ (rdL YVersion l i).2.2.2 > (rdL YVersion l out.toNat).2.2.2) then (i : Int) else out
def atGo (l : List VerT) (k : ByteArray) (snap : Int) : Nat → Int
  | 0 => -1
  | n + 1 => atStep l k snap (atGo l k snap n) n
def lastAt (l : List VerT) (k : ByteArray) (snap : Int) : Int := atGo l k snap l.length

theorem atGo_rng (l : List VerT) (k : ByteArray) (snap : Int) : ∀ n, -1 ≤ atGo l k snap n ∧ atGo l k snap n < (n : Int)
  | 0 => by simp [atGo]
  | n + 1 => by
    have := atGo_rng l k snap n
    simp only [atGo, atStep]
    split <;> omega

theorem lastAt_rng (l : List VerT) (k : ByteArray) (snap : Int) : -1 ≤ lastAt l k snap ∧ lastAt l k snap < (l.length : Int) := atGo_rng l k snap l.length

theorem lastAt_spec (l : List VerT) (k : ByteArray) (snap : Int) (hl : l.length ≤ 1099511627776) : q_spec_l06At (l, k, snap) = some (lastAt l k snap) := by
  have L := W_count W_spec_l06At_3 l.length (fun a i => (l, k, snap, a, i)) (fun i => atGo l k snap i) (.inl (lastAt l k snap))
    (by rw [w_spec_l06At_3]; simp only [S_spec_l06At_3, lt_cast, Nat.lt_irrefl, decide_false, cond_false]; rfl)
    (fun i hi => by
      have hr := atGo_rng l k snap i
      rw [w_spec_l06At_3]
      simp only [S_spec_l06At_3, lt_cast, hi, decide_true, cond_true, gIdx_nat hi, Int.toNat_natCast, atGo, atStep]
      rw [wrap_succ (by omega)]
      cases h1 : strEq (rdL YVersion l i).1 k with
      | false => simp [h1]
      | true =>
        by_cases h2 : (rdL YVersion l i).2.2.2 ≤ snap
        · by_cases h3 : atGo l k snap i < 0
          · simp [h1, h2, h3]
          · have hg : gIdx (atGo l k snap i) l.length = true := gIdx_iff.mpr ⟨by omega, by omega⟩
            by_cases h4 : (rdL YVersion l i).2.2.2 > (rdL YVersion l (atGo l k snap i).toNat).2.2.2
            · simp [h1, h2, h3, h4, hg]
            · simp [h1, h2, h3, h4, hg]
        · simp [h1, h2])
  have L : W_spec_l06At_3 (l, k, snap, -1, 0) = _ := L
  rw [e_spec_l06At]; unfold X_spec_l06At
  simp only [L, Option.bind_some]

theorem lastAt_impl (l : List VerT) (k : ByteArray) (snap : Int) (hl : l.length ≤ 1099511627776) : q_impl_lastAt (l, k, snap) = some (lastAt l k snap) := by
  have L := W_count W_impl_lastAt_3 l.length (fun a i => (l, k, snap, a, l, (l.length : Int), i)) (fun i => atGo l k snap i) (.inl (lastAt l k snap))
    (by rw [w_impl_lastAt_3]; simp only [S_impl_lastAt_3, lt_cast, Nat.lt_irrefl, decide_false, cond_false]; rfl)
    (fun i hi => by
      have hr := atGo_rng l k snap i
      rw [w_impl_lastAt_3]
      simp only [S_impl_lastAt_3, lt_cast, hi, decide_true, cond_true, gIdx_nat hi, Int.toNat_natCast, atGo, atStep]
      rw [wrap_succ (by omega)]
      cases h1 : strEq (rdL YVersion l i).1 k with
      | false => simp [h1]
      | true =>
        by_cases h2 : (rdL YVersion l i).2.2.2 ≤ snap
        · by_cases h3 : atGo l k snap i < 0
          · simp [h1, h2, h3]
          · have hg : gIdx (atGo l k snap i) l.length = true := gIdx_iff.mpr ⟨by omega, by omega⟩
            by_cases h4 : (rdL YVersion l i).2.2.2 > (rdL YVersion l (atGo l k snap i).toNat).2.2.2
            · simp [h1, h2, h3, h4, hg]
            · simp [h1, h2, h3, h4, hg]
        · simp [h1, h2])
  have L : W_impl_lastAt_3 (l, k, snap, -1, l, (l.length : Int), 0) = _ := L
  rw [e_impl_lastAt]; unfold X_impl_lastAt
  simp only [L, Option.bind_some]

def seenAt (l : List VerT) (k : ByteArray) (snap : Int) : ByteArray × Bool :=
  if lastAt l k snap < 0 ∨ (rdL YVersion l (lastAt l k snap).toNat).2.2.1 = true then (emp, false) else ((rdL YVersion l (lastAt l k snap).toNat).2.1, true)

theorem seen_body (l : List VerT) (k : ByteArray) (snap : Int) (y : Int) (hy : y = lastAt l k snap) :
    (((bif decide (y < 0) then some true else (bif gIdx y l.length then some (rdL YVersion l y.toNat).2.2.1 else none)) : Option Bool).bind fun j2 => (bif j2 then some ((⟨#[]⟩ : ByteArray), false) else (bif gIdx y l.length then some ((rdL YVersion l y.toNat).2.1, true) else none))) = some (seenAt l k snap) := by
  subst hy
  have hr := lastAt_rng l k snap
  unfold seenAt
  by_cases h : lastAt l k snap < 0
  · simp [h, emp]
  · have hg : gIdx (lastAt l k snap) l.length = true := gIdx_iff.mpr ⟨by omega, by omega⟩
    cases h2 : (rdL YVersion l (lastAt l k snap).toNat).2.2.1 <;> simp [h, hg, h2, emp]

theorem SeenAt_spec (l : List VerT) (k : ByteArray) (snap : Int) (hl : l.length ≤ 1099511627776) : q_spec_SeenAt (l, k, snap) = some (seenAt l k snap) := by
  rw [e_spec_SeenAt]; unfold X_spec_SeenAt
  simp only [lastAt_spec l k snap hl, Option.bind_some]
  exact seen_body l k snap _ rfl
theorem SeenAt_impl (l : List VerT) (k : ByteArray) (snap : Int) (hl : l.length ≤ 1099511627776) : q_impl_SeenAt (l, k, snap) = some (seenAt l k snap) := by
  rw [e_impl_SeenAt]; unfold X_impl_SeenAt
  simp only [lastAt_impl l k snap hl, Option.bind_some]
  exact seen_body l k snap _ rfl

/-! ### Keys -/
theorem Keys_impl (l : List VerT) (hl : l.length ≤ 1099511627775) : q_impl_keysOf l = some (keysS (l.map fun v => v.1)) := by
  have L := W_pick W_impl_keysOf_3 l (fun a i => (a, l, (l.length : Int), i)) (fun _ => true) (fun v => v.1) (fun a => .inl a) (by omega)
    (fun a _ => by rw [w_impl_keysOf_3]; simp only [S_impl_keysOf_3, lt_cast, Nat.lt_irrefl, decide_false, cond_false])
    (fun i hi a ha => by
      rw [w_impl_keysOf_3]; simp only [S_impl_keysOf_3, lt_cast, hi, decide_true, cond_true, gIdx_nat hi, Int.toNat_natCast, rdL_get (t := YVersion) hi, List.length_singleton, ble_cap (show a.length + 1 ≤ 1099511627776 by omega)]
      rw [wrap_succ (by omega)])
  have hf : l.filter (fun _ => true) = l := by simp
  rw [hf] at L
  have h1 : pSort (l.map fun v => v.1) = some (sortS (l.map fun v => v.1)) := by
    unfold pSort; rw [List.length_map, ble_cap (by omega)]; rfl
  have h2 : pCompact (sortS (l.map fun v => v.1)) = some (keysS (l.map fun v => v.1)) := by
    unfold pCompact; rw [sortS_len, List.length_map, ble_cap (by omega)]; rfl
  rw [e_impl_keysOf]; unfold X_impl_keysOf
  simp only [L, Option.bind_some, e_slices_Sort_string_string, e_slices_Compact_string_string]
  simp only [h1, h2, Option.bind_some]

theorem keysS_len (l : List ByteArray) : (keysS l).length ≤ l.length := by
  have := compact_len_le (sortS l)
  rw [sortS_len] at this
  exact this

theorem l06Keys_low (k : ByteArray) (r : ByteArray × ByteArray) (l : List VerT) (j : Int) (out : List ByteArray) (ho : out.length ≤ 1099511627775) :
    W_spec_l06Keys_9 (l, r, out, j, k, [], 0) = some (.inl (l, r, out, j, k, out.filter fun x => strLt x k)) := by
  have L := W_pick W_spec_l06Keys_9 out (fun a i => (l, r, out, j, k, a, i)) (fun x => strLt x k) (fun x => x) (fun a => .inl (l, r, out, j, k, a)) (by omega)
    (fun a _ => by rw [w_spec_l06Keys_9]; simp only [S_spec_l06Keys_9, lt_cast, Nat.lt_irrefl, decide_false, cond_false])
    (fun i hi a ha => by
      rw [w_spec_l06Keys_9]; simp only [S_spec_l06Keys_9, lt_cast, hi, decide_true, cond_true, gIdx_nat hi, Int.toNat_natCast, rdL_get (t := Ty.str) hi, List.length_singleton, ble_cap (show a.length + 1 ≤ 1099511627776 by omega)]
      rw [wrap_succ (by omega)])
  rw [List.map_id'] at L
  exact L

theorem l06Keys_high (k : ByteArray) (r : ByteArray × ByteArray) (l : List VerT) (j : Int) (out a0 : List ByteArray) (ho : out.length + a0.length ≤ 1099511627775) :
    W_spec_l06Keys_15 (l, r, out, j, k, a0, 0) = some (.inl (l, r, j, a0 ++ out.filter fun x => !(strLt x k || strEq x k))) := by
  have L := W_fold W_spec_l06Keys_15 out (fun a i => (l, r, out, j, k, a, i)) (fun a x => if (!(strLt x k || strEq x k)) = true then a ++ [x] else a) (fun a => .inl (l, r, j, a)) (fun i a => a.length ≤ a0.length + i)
    (fun a _ => by rw [w_spec_l06Keys_15]; simp only [S_spec_l06Keys_15, lt_cast, Nat.lt_irrefl, decide_false, cond_false])
    (fun i hi a ha => by
      rw [w_spec_l06Keys_15]; simp only [S_spec_l06Keys_15, lt_cast, hi, decide_true, cond_true, gIdx_nat hi, Int.toNat_natCast, rdL_get (t := Ty.str) hi, List.length_singleton, ble_cap (show a.length + 1 ≤ 1099511627776 by omega)]
      rw [wrap_succ (by omega)]
      cases hc : (!(strLt out[i] k || strEq out[i] k)) with
      | true => simp; omega
      | false => simp; omega) a0 (by simp)
  rw [fold_flt (fun x => !(strLt x k || strEq x k))] at L
  exact L

theorem insK_len (k : ByteArray) (l : List ByteArray) : (insK k l).length ≤ l.length + 1 := by
  unfold insK
  have h : (fun x => !(strLt x k || strEq x k)) = fun x => strLt k x := by funext x; exact gt_iff
  rw [h]
  have : (l.filter fun x => strLt x k).length + (l.filter fun x => strLt k x).length ≤ l.length := by
    induction l with
    | nil => simp
    | cons x l ih =>
      simp only [List.filter_cons]
      cases h1 : strLt x k with
      | true => rw [sLt_asym h1]; simp; omega
      | false => cases h2 : strLt k x <;> simp <;> omega
  simp
  omega

theorem Keys_spec (l : List VerT) (r : ByteArray × ByteArray) (hl : l.length ≤ 500000000000) : q_spec_l06Keys (l, r) = some ((keysS (l.map fun v => v.1)).filter fun k => inR r k) := by
  have L := W_fold W_spec_l06Keys_3 l (fun a i => (l, r, a, i)) (fun a v => if inR r v.1 = true then insK v.1 a else a) (fun a => .inl a) (fun i a => a.length ≤ i)
    (fun a _ => by rw [w_spec_l06Keys_3]; simp only [S_spec_l06Keys_3, lt_cast, Nat.lt_irrefl, decide_false, cond_false])
    (fun i hi a ha => by
      rw [w_spec_l06Keys_3]; simp only [S_spec_l06Keys_3, lt_cast, hi, decide_true, cond_true, gIdx_nat hi, Int.toNat_natCast, rdL_get (t := YVersion) hi, InRange_spec, Option.bind_some]
      cases hc : inR r l[i].1 with
      | false =>
        simp only [Bool.not_false, cond_true, Bool.false_eq_true, if_false]
        rw [wrap_succ (by omega)]
        exact ⟨by omega, rfl⟩
      | true =>
        have hlow : (a.filter fun x => strLt x l[i].1).length ≤ a.length := List.length_filter_le _ _
        simp only [Bool.not_true, cond_false, if_true, l06Keys_low l[i].1 r l (i : Int) a (by omega), Option.bind_some, List.length_singleton, ble_cap (show (a.filter fun x => strLt x l[i].1).length + 1 ≤ 1099511627776 by omega), cond_true,
          l06Keys_high l[i].1 r l (i : Int) a (a.filter (fun x => strLt x l[i].1) ++ [l[i].1]) (by simp; omega)]
        rw [wrap_succ (by omega)]
        exact ⟨Nat.le_trans (insK_len _ _) (by omega), rfl⟩) [] (by simp)
  rw [e_spec_l06Keys]; unfold X_spec_l06Keys
  simp only [L, Option.bind_some]
  have hfold : ∀ (m : List VerT) (a : List ByteArray), m.foldl (fun a v => if inR r v.1 = true then insK v.1 a else a) a = ((m.map fun v => v.1).filter fun k => inR r k).foldl (fun a k => insK k a) a := by
    intro m
    induction m with
    | nil => intro a; rfl
    | cons x m ih =>
      intro a
      rw [List.foldl_cons, ih]
      cases hc : inR r x.1 <;> simp [hc]
  rw [hfold, keys_eq]

/-! ### Scans -/
def scanAt (l : List VerT) (r : ByteArray × ByteArray) (snap : Int) : List (ByteArray × ByteArray) :=
  ((keysS (l.map fun v => v.1)).filter fun k => (seenAt l k snap).2 && inR r k).map fun k => (k, (seenAt l k snap).1)

theorem ScanAt_spec (l : List VerT) (r : ByteArray × ByteArray) (snap : Int) (hl : l.length ≤ 500000000000) : q_spec_ScanAt (l, r, snap) = some (scanAt l r snap) := by
  obtain ⟨ks, hks⟩ : ∃ ks, ks = (keysS (l.map fun v => v.1)).filter fun k => inR r k := ⟨_, rfl⟩
  have hkl : ks.length ≤ l.length := by
    rw [hks]
    refine Nat.le_trans (List.length_filter_le _ _) (Nat.le_trans (keysS_len _) (by simp))
  have L := W_pick W_spec_ScanAt_4 ks (fun a i => (l, snap, a, ks, i)) (fun k => (seenAt l k snap).2) (fun k => (k, (seenAt l k snap).1)) (fun a => .inl a) (by omega)
    (fun a _ => by rw [w_spec_ScanAt_4]; simp only [S_spec_ScanAt_4, lt_cast, Nat.lt_irrefl, decide_false, cond_false])
    (fun i hi a ha => by
      rw [w_spec_ScanAt_4]; simp only [S_spec_ScanAt_4, lt_cast, hi, decide_true, cond_true, gIdx_nat hi, Int.toNat_natCast, rdL_get (t := Ty.str) hi, SeenAt_spec l _ snap (show l.length ≤ 1099511627776 by omega), Option.bind_some, List.length_singleton, ble_cap (show a.length + 1 ≤ 1099511627776 by omega)]
      rw [wrap_succ (by omega)])
  rw [e_spec_ScanAt]; unfold X_spec_ScanAt
  simp only [Keys_spec l r hl, Option.bind_some]
  rw [← hks]
  simp only [L, Option.bind_some]
  rw [hks, List.filter_filter]
  rfl

theorem ScanAt_impl (l : List VerT) (r : ByteArray × ByteArray) (snap : Int) (hl : l.length ≤ 500000000000) : q_impl_ScanAt (l, r, snap) = some (scanAt l r snap) := by
  obtain ⟨ks, hks⟩ : ∃ ks, ks = keysS (l.map fun v => v.1) := ⟨_, rfl⟩
  have hkl : ks.length ≤ l.length := by
    rw [hks]
    refine Nat.le_trans (keysS_len _) (by simp)
  have L := W_pick W_impl_ScanAt_3 ks (fun a i => (l, snap, r, a, ks, (ks.length : Int), i)) (fun k => (seenAt l k snap).2 && inR r k) (fun k => (k, (seenAt l k snap).1)) (fun a => .inl a) (by omega)
    (fun a _ => by rw [w_impl_ScanAt_3]; simp only [S_impl_ScanAt_3, lt_cast, Nat.lt_irrefl, decide_false, cond_false])
    (fun i hi a ha => by
      rw [w_impl_ScanAt_3]; simp only [S_impl_ScanAt_3, lt_cast, hi, decide_true, cond_true, gIdx_nat hi, Int.toNat_natCast, rdL_get (t := Ty.str) hi, SeenAt_impl l _ snap (show l.length ≤ 1099511627776 by omega), InRange_impl, Option.bind_some, List.length_singleton, ble_cap (show a.length + 1 ≤ 1099511627776 by omega)]
      rw [wrap_succ (by omega)]
      cases (seenAt l ks[i] snap).2 <;> rfl)
  rw [e_impl_ScanAt]; unfold X_impl_ScanAt
  simp only [Keys_impl l (show l.length ≤ 1099511627775 by omega), Option.bind_some]
  rw [← hks]
  simp only [L, Option.bind_some]
  rw [hks]
  rfl

theorem scanAt_len (l : List VerT) (r : ByteArray × ByteArray) (snap : Int) : (scanAt l r snap).length ≤ l.length := by
  unfold scanAt
  rw [List.length_map]
  refine Nat.le_trans (List.length_filter_le _ _) (Nat.le_trans (keysS_len _) (by simp))

end Go.Proofs.Ythhpkgegmfjdmaa.Ab
