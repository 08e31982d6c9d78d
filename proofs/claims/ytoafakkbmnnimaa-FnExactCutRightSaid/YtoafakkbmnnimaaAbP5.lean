import Derived.Test.YtoafakkbmnnimaaAbP4
namespace Go.Proofs.Ytoafakkbmnnimaa.Ab
open Go
set_option linter.unusedVariables false
set_option linter.unusedSimpArgs false
set_option linter.unnecessarySimpa false
set_option linter.unusedSimpArgs false
set_option linter.unusedVariables false

/-! ### Numbers in bytes -/
def varB (n : Nat) : List Int := if h : n < 128 then [(n : Int)] else ((n % 128 + 128 : Nat) : Int) :: varB (n / 128)
termination_by n
decreasing_by omega

theorem varB_lt {n : Nat} (h : n < 128) : varB n = [(n : Int)] := by rw [varB, dif_pos h]
theorem varB_ge {n : Nat} (h : ¬ n < 128) : varB n = ((n % 128 + 128 : Nat) : Int) :: varB (n / 128) := by rw [varB, dif_neg h]
theorem varB_len (n : Nat) : (varB n).length ≤ n + 1 := by
  induction n using Nat.strongRecOn with
  | _ n ih =>
    by_cases h : n < 128
    · rw [varB_lt h]; simp
    · rw [varB_ge h]
      have := ih (n / 128) (by omega)
      simp only [List.length_cons]; omega

theorem var_loop {S : Type} {W : Int × List Int → Option ((Int × List Int) ⊕ S)}
    (hW : ∀ x, W x = (bif (decide (x.1 > (127 : Int))) then (bif (Nat.ble (x.2.length + ([(IntKind.u8.wrap (IntKind.i64.wrap ((Int.tmod x.1 (128 : Int)) + (128 : Int))))] : List Int).length) cap40) then
      (W ((IntKind.i64.wrap (Int.tdiv x.1 (128 : Int))), (x.2 ++ ([(IntKind.u8.wrap (IntKind.i64.wrap ((Int.tmod x.1 (128 : Int)) + (128 : Int))))] : List Int)))) else none) else (some (.inl x)))) :
    ∀ (n : Nat) (acc : List Int), acc.length + n ≤ 1000000000000 → ∃ m : Nat, ∃ acc' : List Int, W ((n : Int), acc) = some (.inl ((m : Int), acc')) ∧ m < 128 ∧ acc' ++ [(m : Int)] = acc ++ varB n ∧ acc'.length ≤ acc.length + n := by
  intro n
  induction n using Nat.strongRecOn with
  | _ n ih =>
    intro acc hn
    rw [hW]
    by_cases h : n < 128
    · have : decide ((n : Int) > (127 : Int)) = false := by simp; omega
      simp only [this, cond_false]
      exact ⟨n, acc, rfl, h, by rw [varB_lt h], by omega⟩
    · have h1 : decide ((n : Int) > (127 : Int)) = true := by simp; omega
      have h2 : Int.tmod (n : Int) (128 : Int) = ((n % 128 : Nat) : Int) := tmodN n 128
      have h3 : Int.tdiv (n : Int) (128 : Int) = ((n / 128 : Nat) : Int) := tdivN n 128
      have h4 : IntKind.u8.wrap (IntKind.i64.wrap (((n % 128 : Nat) : Int) + (128 : Int))) = ((n % 128 + 128 : Nat) : Int) := by
        rw [wrap64 (by omega) (by omega)]
        have : ((n % 128 : Nat) : Int) + 128 = ((n % 128 + 128 : Nat) : Int) := by simp
        rw [this, wrap8 (by omega)]
      simp only [h1, h2, h3, h4, cond_true, List.length_singleton, ble_cap (show acc.length + 1 ≤ 1099511627776 by omega)]
      rw [wrap_nat (by omega)]
      obtain ⟨m, acc', e1, e2, e3, e4⟩ := ih (n / 128) (by omega) (acc ++ [((n % 128 + 128 : Nat) : Int)]) (by simp; omega)
      refine ⟨m, acc', e1, e2, ?_, ?_⟩
      · rw [e3, varB_ge h, List.append_assoc]; rfl
      · have : (acc ++ [((n % 128 + 128 : Nat) : Int)]).length = acc.length + 1 := by simp
        omega

theorem l01Var_ok (n : Nat) (hn : n ≤ 100000000000) : q_spec_l01Var (n : Int) = some (strI (varB n)) := by
  rw [e_spec_l01Var]; unfold X_spec_l01Var
  obtain ⟨m, acc', e1, e2, e3, e4⟩ := var_loop (W := W_spec_l01Var_2) (fun x => w_spec_l01Var_2 x) n [] (by simp; omega)
  have e4 : acc'.length ≤ n := by simpa using e4
  simp only [e1, Option.bind_some, List.length_singleton, ble_cap (show acc'.length + 1 ≤ 1099511627776 by omega), cond_true]
  rw [wrap8 (by omega), e3]; rfl

theorem VarText_impl (n : Int) : q_impl_VarText n = some (if 0 ≤ n ∧ n ≤ 1000000000 then (strI (varB n.toNat), true) else (emp, false)) := by
  rw [e_impl_VarText]; unfold X_impl_VarText
  simp only [within_ok, isIn_eq, Option.bind_some]
  by_cases h : 0 ≤ n ∧ n ≤ 1000000000
  · obtain ⟨m, rfl⟩ : ∃ m : Nat, n = m := ⟨n.toNat, by omega⟩
    obtain ⟨k, acc', e1, e2, e3, e4⟩ := var_loop (W := W_impl_VarText_4) (fun x => w_impl_VarText_4 x) m [] (by simp; omega)
    have e4 : acc'.length ≤ m := by simpa using e4
    rw [decide_eq_true h, if_pos h]
    simp only [e1, Option.bind_some, Bool.not_true, cond_false, List.length_singleton, ble_cap (show acc'.length + 1 ≤ 1099511627776 by omega), cond_true]
    rw [wrap8 (by omega), e3]; rfl
  · rw [decide_eq_false h, if_neg h]; rfl

theorem strI_size' (l : List Int) : (strI l).size = l.length := strI_size l

/-- A number read from bytes: so many more bytes may come, so many were, their value. -/
def varGo : Nat → Nat → Nat → List UInt8 → Option (Nat × Nat)
  | 0, _, _, _ => none
  | _ + 1, _, _, [] => none
  | f + 1, i, n, b :: l =>
    if b.toNat < 128 then (if n + b.toNat % 128 * 128 ^ i ≤ 1000000000 ∧ (varB (n + b.toNat % 128 * 128 ^ i)).length = i + 1 then some (n + b.toNat % 128 * 128 ^ i, i + 1) else none)
    else varGo f (i + 1) (n + b.toNat % 128 * 128 ^ i) l

def varFin (at_ : Int) (r : Option (Nat × Nat)) : Int × Int × Bool := match r with
  | some (n, k) => ((n : Int), at_ + (k : Int), true)
  | none => (0, 0, false)

def readVar (t : ByteArray) (at_ : Int) : Int × Int × Bool := if 0 ≤ at_ ∧ at_ ≤ t.size then varFin at_ (varGo 5 0 0 (t.data.toList.drop at_.toNat)) else (0, 0, false)

theorem varGo_ok : ∀ (f i n : Nat) (l : List UInt8) (v k : Nat), varGo f i n l = some (v, k) → v ≤ 1000000000 ∧ k ≤ i + l.length ∧ i < k
  | 0, _, _, _, _, _, h => by cases h
  | _ + 1, _, _, [], _, _, h => by cases h
  | f + 1, i, n, b :: l, v, k, h => by
    simp only [varGo] at h
    split at h
    · split at h
      · rename_i h2
        simp only [Option.some.injEq, Prod.mk.injEq] at h
        obtain ⟨rfl, rfl⟩ := h
        exact ⟨h2.1, by simp, by omega⟩
      · cases h
    · have := varGo_ok f (i + 1) _ l v k h
      simp only [List.length_cons]
      omega

theorem readVar_ok {t : ByteArray} {at_ : Int} (h : (readVar t at_).2.2 = true) : 0 ≤ (readVar t at_).1 ∧ (readVar t at_).1 ≤ 1000000000 ∧ 0 ≤ at_ ∧ at_ < (readVar t at_).2.1 ∧ (readVar t at_).2.1 ≤ t.size := by
  unfold readVar at h ⊢
  split at h
  · rename_i hc
    rw [if_pos hc]
    cases hv : varGo 5 0 0 (t.data.toList.drop at_.toNat) with
    | none => rw [hv] at h; cases h
    | some r =>
      obtain ⟨v, k⟩ := r
      have := varGo_ok 5 0 0 _ v k hv
      have hl : (t.data.toList.drop at_.toNat).length = t.size - at_.toNat := by simp
      simp only [varFin]
      omega
  · cases h

theorem pow128 (i : Nat) (h : i < 5) : (2 : Int) ^ (min (IntKind.i64.wrap (7 * (i : Int))).toNat IntKind.i64.bits) = ((128 ^ i : Nat) : Int) := by
  rcases i with _ | _ | _ | _ | _ | i
  all_goals first | rfl | omega

theorem pow_le (i : Nat) (h : i ≤ 5) : 128 ^ i ≤ 34359738368 := by
  rcases i with _ | _ | _ | _ | _ | _ | i
  all_goals first | decide | omega

theorem ReadVar_impl (t : ByteArray) (at_ : Int) (ht : t.size ≤ big40) : q_impl_ReadVar (t, at_) = some (readVar t at_) := by
  unfold big40 at ht
  rw [e_impl_ReadVar]; unfold X_impl_ReadVar readVar
  simp only [within_ok, isIn_eq, Option.bind_some]
  by_cases h : 0 ≤ at_ ∧ at_ ≤ t.size
  · obtain ⟨p, rfl⟩ : ∃ p : Nat, at_ = p := ⟨at_.toNat, by omega⟩
    have hp : p ≤ t.size := by omega
    rw [decide_eq_true h, if_pos h]
    have L : ∀ (f i n : Nat), i + f = 5 → n < 128 ^ i → p + i ≤ t.size → ((W_impl_ReadVar_5 (t, (p : Int), (n : Int), (i : Int))).bind fun r => match r with
        | .inl o => some ((0 : Int), (0 : Int), false)
        | .inr z => some z) = some (varFin p (varGo f i n (t.data.toList.drop (p + i)))) := by
      intro f
      induction f with
      | zero =>
        intro i n hi hn hpi
        have : i = 5 := by omega
        subst this
        rw [w_impl_ReadVar_5]; simp only [S_impl_ReadVar_5]
        rfl
      | succ f ih =>
        intro i n hi hn hpi
        have hi5 : i < 5 := by omega
        have hpw := pow_le i (by omega)
        rw [w_impl_ReadVar_5]; simp only [S_impl_ReadVar_5]
        have w1 : IntKind.i64.wrap ((p : Int) + (i : Int)) = ((p + i : Nat) : Int) := by rw [wrap64 (by omega) (by omega)]; simp
        have e1 : decide ((i : Int) < (5 : Int)) = true := by simp; omega
        by_cases hlt : p + i < t.size
        · have hd : t.data.toList.drop (p + i) = (t.data.toList[p + i]'(by simpa using hlt)) :: t.data.toList.drop (p + i + 1) := List.drop_eq_getElem_cons (by simpa using hlt)
          have hb : (t.data.toList[p + i]'(by simpa using hlt)).toNat < 256 := UInt8.toNat_lt _
          rw [hd]
          generalize hc : (t.data.toList[p + i]'(by simpa using hlt)) = c at hb
          have e2 : decide (((p + i : Nat) : Int) < (t.size : Int)) = true := by simp; omega
          have e3 : decide (0 ≤ IntKind.i64.wrap (7 * (i : Int))) = true := by rw [wrap64 (by omega) (by omega)]; simp; omega
          have t2 : Int.tmod ((c.toNat : Nat) : Int) (128 : Int) = ((c.toNat % 128 : Nat) : Int) := tmodN _ 128
          have hm : c.toNat % 128 * 128 ^ i ≤ 127 * 34359738368 := Nat.mul_le_mul (by omega) hpw
          have w2 : IntKind.i64.wrap (((c.toNat % 128 : Nat) : Int) * ((128 ^ i : Nat) : Int)) = ((c.toNat % 128 * 128 ^ i : Nat) : Int) := by
            rw [← Int.natCast_mul]; exact wrap_nat (by omega)
          have w3 : IntKind.i64.wrap ((n : Int) + ((c.toNat % 128 * 128 ^ i : Nat) : Int)) = ((n + c.toNat % 128 * 128 ^ i : Nat) : Int) := by
            rw [← Int.natCast_add]; exact wrap_nat (by omega)
          simp only [e1, cond_true, Option.bind_some, w1, e2, gIdx_nat hlt, e3, Int.toNat_natCast, byte_get hlt, hc, wrap_nat (show c.toNat ≤ 4611686018427387904 by omega), t2, pow128 i hi5, w2, w3, varGo]
          by_cases hc1 : c.toNat < 128
          · have e4 : decide (((c.toNat : Nat) : Int) < (128 : Int)) = true := by simp; omega
            simp only [e4, cond_true, if_pos hc1, VarText_impl, Option.bind_some]
            have wi : IntKind.i64.wrap ((i : Int) + 1) = ((i + 1 : Nat) : Int) := wrap_succ (by omega)
            by_cases hv : n + c.toNat % 128 * 128 ^ i ≤ 1000000000
            · rw [if_pos (show (0 : Int) ≤ ((n + c.toNat % 128 * 128 ^ i : Nat) : Int) ∧ ((n + c.toNat % 128 * 128 ^ i : Nat) : Int) ≤ 1000000000 by omega)]
              simp only [Bool.not_true, cond_false, Int.toNat_natCast, strI_size, wi, Option.bind_some]
              by_cases hl : (varB (n + c.toNat % 128 * 128 ^ i)).length = i + 1
              · rw [if_pos ⟨hv, hl⟩, hl]
                simp only [decide_true, Bool.not_true, cond_false, Option.bind_some, varFin]
                rw [wrap64 (by omega) (by omega)]
                simp [Int.add_assoc]
              · rw [if_neg (fun hh => hl hh.2)]
                rw [decide_eq_false (show ¬ (((varB (n + c.toNat % 128 * 128 ^ i)).length : Nat) : Int) = ((i + 1 : Nat) : Int) by omega)]
                rfl
            · rw [if_neg (show ¬ ((0 : Int) ≤ ((n + c.toNat % 128 * 128 ^ i : Nat) : Int) ∧ ((n + c.toNat % 128 * 128 ^ i : Nat) : Int) ≤ 1000000000) by omega), if_neg (fun hh => hv hh.1)]
              rfl
          · have e4 : decide (((c.toNat : Nat) : Int) < (128 : Int)) = false := by simp; omega
            simp only [e4, cond_false, if_neg hc1]
            rw [wrap_succ (by omega)]
            have := ih (i + 1) (n + c.toNat % 128 * 128 ^ i) (by omega) (by
              have : 128 ^ (i + 1) = 128 ^ i * 128 := Nat.pow_succ 128 i
              have h2 : c.toNat % 128 * 128 ^ i ≤ 127 * 128 ^ i := Nat.mul_le_mul (by omega) (Nat.le_refl _)
              omega) (by omega)
            exact this
        · have e2 : decide (((p + i : Nat) : Int) < (t.size : Int)) = false := by simp; omega
          have hd : t.data.toList.drop (p + i) = [] := List.drop_eq_nil_of_le (by simp; omega)
          rw [hd]
          simp only [e1, cond_true, w1, e2, Option.bind_some, cond_false, varGo]
          rfl
    exact L 5 0 0 rfl (by decide) (by omega)
  · rw [decide_eq_false h, if_neg h]; rfl

/-- Bytes' value as a number. -/
def varV : List UInt8 → Nat
  | [] => 0
  | b :: l => b.toNat % 128 + 128 * varV l

theorem varV_snoc (l : List UInt8) (b : UInt8) : varV (l ++ [b]) = varV l + b.toNat % 128 * 128 ^ l.length := by
  induction l with
  | nil => simp [varV]
  | cons x l ih =>
    simp only [List.cons_append, varV, ih, List.length_cons, Nat.pow_succ]
    rw [Nat.mul_add]
    have : 128 * (b.toNat % 128 * 128 ^ l.length) = b.toNat % 128 * (128 ^ l.length * 128) := by
      rw [Nat.mul_comm 128, Nat.mul_assoc]
    omega

theorem varB_of (l : List UInt8) (b : UInt8) (hl : ∀ x ∈ l, ¬ x.toNat < 128) (hb : b.toNat < 128) (h : (varB (varV (l ++ [b]))).length = l.length + 1) : varB (varV (l ++ [b])) = (l ++ [b]).map fun x => (x.toNat : Int) := by
  induction l with
  | nil =>
    have : varV ([] ++ [b]) = b.toNat := by simp [varV]; omega
    rw [this, varB_lt hb]; rfl
  | cons x l ih =>
    have hx : x.toNat < 256 := UInt8.toNat_lt x
    have hx2 := hl x (by simp)
    simp only [List.cons_append, varV] at h ⊢
    by_cases hs : x.toNat % 128 + 128 * varV (l ++ [b]) < 128
    · rw [varB_lt hs] at h
      simp at h
    · rw [varB_ge hs] at h ⊢
      have e1 : (x.toNat % 128 + 128 * varV (l ++ [b])) / 128 = varV (l ++ [b]) := by omega
      have e2 : (x.toNat % 128 + 128 * varV (l ++ [b])) % 128 + 128 = x.toNat := by omega
      rw [e1] at h ⊢
      rw [e2]
      simp only [List.length_cons, Nat.add_right_cancel_iff] at h
      rw [ih (fun y hy => hl y (by simp [hy])) h]
      rfl

theorem strI_map (l : List UInt8) : strI (l.map fun x => (x.toNat : Int)) = ⟨l.toArray⟩ := by
  unfold strI
  simp only [List.map_map]
  have : (l.map ((fun n => UInt8.ofNat n.toNat) ∘ fun b => (b.toNat : Int))) = l := by
    conv => rhs; rw [← List.map_id l]
    apply List.map_congr_left
    intro b _
    simp
  rw [this]

theorem extract_take (t : ByteArray) (a b : Nat) (h : b ≤ t.size) : t.extract a b = ⟨((t.data.toList.drop a).take (b - a)).toArray⟩ := by
  apply ByteArray.ext
  simp only [ByteArray.data_extract]
  apply Array.ext'
  simp [List.extract_eq_take_drop]

theorem le_dec {q : Nat} (h : q ≤ 1000000000) : decide ((q : Int) > (1000000000 : Int)) = false := by simp; omega
theorem gt_dec {q : Nat} (h : ¬ q ≤ 1000000000) : decide ((q : Int) > (1000000000 : Int)) = true := by simp; omega

theorem ReadVar_spec (t : ByteArray) (at_ : Int) (ht : t.size ≤ big40) : q_spec_ReadVar (t, at_) = some (readVar t at_) := by
  unfold big40 at ht
  rw [e_spec_ReadVar]; unfold X_spec_ReadVar readVar
  simp only [l01In_ok, isIn_eq, Option.bind_some]
  by_cases h : 0 ≤ at_ ∧ at_ ≤ t.size
  · obtain ⟨p, rfl⟩ : ∃ p : Nat, at_ = p := ⟨at_.toNat, by omega⟩
    have hp : p ≤ t.size := by omega
    rw [decide_eq_true h, if_pos h]
    have L : ∀ (f i : Nat), i + f = 5 → p + i ≤ t.size → (∀ x ∈ (t.data.toList.drop p).take i, ¬ x.toNat < 128) → varV ((t.data.toList.drop p).take i) < 128 ^ i →
        ((W_spec_ReadVar_6 (t, (p : Int), ((varV ((t.data.toList.drop p).take i) : Nat) : Int), ((128 ^ i : Nat) : Int), ((p + i : Nat) : Int))).bind fun r => match r with
        | .inl o => some ((0 : Int), (0 : Int), false)
        | .inr z => some z) = some (varFin p (varGo f i (varV ((t.data.toList.drop p).take i)) (t.data.toList.drop (p + i)))) := by
      intro f
      induction f with
      | zero =>
        intro i hi hpi hall hn
        have : i = 5 := by omega
        subst this
        rw [w_spec_ReadVar_6]; simp only [S_spec_ReadVar_6]
        have e1 : decide (((p + 5 : Nat) : Int) < IntKind.i64.wrap ((p : Int) + 5)) = false := by rw [wrap64 (by omega) (by omega)]; simp
        rw [e1]
        cases decide (((p + 5 : Nat) : Int) < (t.size : Int)) <;> rfl
      | succ f ih =>
        intro i hi hpi hall hn
        have hi5 : i < 5 := by omega
        have hpw := pow_le i (by omega)
        rw [w_spec_ReadVar_6]; simp only [S_spec_ReadVar_6]
        have e1 : decide (((p + i : Nat) : Int) < IntKind.i64.wrap ((p : Int) + 5)) = true := by rw [wrap64 (by omega) (by omega)]; simp; omega
        by_cases hlt : p + i < t.size
        · have hd : t.data.toList.drop (p + i) = (t.data.toList[p + i]'(by simpa using hlt)) :: t.data.toList.drop (p + i + 1) := List.drop_eq_getElem_cons (by simpa using hlt)
          have hb : (t.data.toList[p + i]'(by simpa using hlt)).toNat < 256 := UInt8.toNat_lt _
          have htk : (t.data.toList.drop p).take (i + 1) = (t.data.toList.drop p).take i ++ [t.data.toList[p + i]'(by simpa using hlt)] := by
            rw [List.take_succ_eq_append_getElem (by simp; omega)]
            simp
          have htl : ((t.data.toList.drop p).take i).length = i := by simp; omega
          have hvs := varV_snoc ((t.data.toList.drop p).take i) (t.data.toList[p + i]'(by simpa using hlt))
          rw [htl] at hvs
          rw [hd]
          generalize hc : (t.data.toList[p + i]'(by simpa using hlt)) = c at hb htk hvs
          generalize hn' : varV ((t.data.toList.drop p).take i) = n at hn hvs ⊢
          have e2 : decide (((p + i : Nat) : Int) < (t.size : Int)) = true := by simp; omega
          have t2 : Int.tmod ((c.toNat : Nat) : Int) (128 : Int) = ((c.toNat % 128 : Nat) : Int) := tmodN _ 128
          have hm : c.toNat % 128 * 128 ^ i ≤ 127 * 34359738368 := Nat.mul_le_mul (by omega) hpw
          have w2 : IntKind.i64.wrap (((c.toNat % 128 : Nat) : Int) * ((128 ^ i : Nat) : Int)) = ((c.toNat % 128 * 128 ^ i : Nat) : Int) := by
            rw [← Int.natCast_mul]; exact wrap_nat (by omega)
          have w3 : IntKind.i64.wrap ((n : Int) + ((c.toNat % 128 * 128 ^ i : Nat) : Int)) = ((n + c.toNat % 128 * 128 ^ i : Nat) : Int) := by
            rw [← Int.natCast_add]; exact wrap_nat (by omega)
          have wp : IntKind.i64.wrap (((p + i : Nat) : Int) + 1) = ((p + i + 1 : Nat) : Int) := wrap_succ (by omega)
          have ws : IntKind.i64.wrap (((128 ^ i : Nat) : Int) * 128) = ((128 ^ (i + 1) : Nat) : Int) := by
            rw [Nat.pow_succ, Int.natCast_mul]
            exact wrap64 (by omega) (by omega)
          simp only [e1, e2, cond_true, Option.bind_some, gIdx_nat hlt, Int.toNat_natCast, byte_get hlt, hc, wrap_nat (show c.toNat ≤ 4611686018427387904 by omega), t2, w2, w3, wp, ws, varGo]
          by_cases hc1 : c.toNat < 128
          · have e4 : decide (((c.toNat : Nat) : Int) < (128 : Int)) = true := by simp; omega
            simp only [e4, cond_true, if_pos hc1]
            by_cases hv : n + c.toNat % 128 * 128 ^ i ≤ 1000000000
            · have e5 : decide (((n + c.toNat % 128 * 128 ^ i : Nat) : Int) > (1000000000 : Int)) = false := le_dec hv
              have e6 : (decide (0 ≤ (p : Int)) && decide ((p : Int) ≤ ((p + i + 1 : Nat) : Int)) && decide (((p + i + 1 : Nat) : Int) ≤ (t.size : Int))) = true := by simp; omega
              simp only [e5, cond_false, l01Var_ok _ (show n + c.toNat % 128 * 128 ^ i ≤ 100000000000 by omega), Option.bind_some, e6, cond_true]
              have hx : t.extract p (p + i + 1) = ⟨((t.data.toList.drop p).take (i + 1)).toArray⟩ := by
                rw [extract_take t p (p + i + 1) (by omega)]
                have : p + i + 1 - p = i + 1 := by omega
                rw [this]
              rw [hx]
              have hv' : n + c.toNat % 128 * 128 ^ i = varV ((t.data.toList.drop p).take i ++ [c]) := hvs.symm
              by_cases hl : (varB (n + c.toNat % 128 * 128 ^ i)).length = i + 1
              · rw [if_pos ⟨hv, hl⟩]
                have key : varB (n + c.toNat % 128 * 128 ^ i) = ((t.data.toList.drop p).take (i + 1)).map fun x => (x.toNat : Int) := by
                  rw [hv', htk]
                  exact varB_of _ c hall hc1 (by rw [← hv', hl, htl])
                rw [key, strI_map, strEq_refl]
                simp only [Bool.not_true, cond_false, Option.bind_some, varFin]
                simp [Int.add_assoc]
              · rw [if_neg (fun hh => hl hh.2)]
                have hne : strEq (strI (varB (n + c.toNat % 128 * 128 ^ i))) ⟨((t.data.toList.drop p).take (i + 1)).toArray⟩ = false := by
                  rw [← Bool.not_eq_true, strEq_iff]
                  intro hh
                  have := congrArg ByteArray.size hh
                  rw [strI_size] at this
                  apply hl
                  rw [this]
                  show ((t.data.toList.drop p).take (i + 1)).toArray.size = _
                  simp; omega
                rw [hne]; rfl
            · have e5 : decide (((n + c.toNat % 128 * 128 ^ i : Nat) : Int) > (1000000000 : Int)) = true := gt_dec hv
              rw [if_neg (fun hh => hv hh.1), e5]; rfl
          · have e4 : decide (((c.toNat : Nat) : Int) < (128 : Int)) = false := by simp; omega
            simp only [e4, cond_false, if_neg hc1]
            have := ih (i + 1) (by omega) (by omega) (by
              rw [htk]
              intro x hx
              rcases List.mem_append.mp hx with hx | hx
              · exact hall x hx
              · simp at hx; rw [hx]; exact hc1) (by
              rw [htk, hvs]
              have : 128 ^ (i + 1) = 128 ^ i * 128 := Nat.pow_succ 128 i
              have h2 : c.toNat % 128 * 128 ^ i ≤ 127 * 128 ^ i := Nat.mul_le_mul (by omega) (Nat.le_refl _)
              omega)
            rw [htk, hvs] at this
            exact this
        · have e2 : decide (((p + i : Nat) : Int) < (t.size : Int)) = false := by simp; omega
          have hd : t.data.toList.drop (p + i) = [] := List.drop_eq_nil_of_le (by simp; omega)
          rw [hd]
          simp only [e2, Option.bind_some, cond_false, varGo]
          rfl
    exact L 5 0 rfl (by omega) (by simp) (by simp [varV])
  · rw [decide_eq_false h, if_neg h]; rfl

end Go.Proofs.Ytoafakkbmnnimaa.Ab
