import Derived.Test.YthhpkgegmfjdmaaAbVR
namespace Go.Proofs.Ythhpkgegmfjdmaa.Ab
open Go
set_option linter.unusedVariables false
set_option linter.unusedSimpArgs false
set_option linter.unnecessarySimpa false
set_option linter.unusedSimpArgs false
set_option linter.unusedVariables false

def putC (m : List YCell.den) (w : YWrite.den) : List YCell.den :=
  m.filter (fun c => strLt c.1 w.1) ++ (if w.2.2 then [] else [(w.1, w.2.1)]) ++ m.filter (fun c => !(strLt c.1 w.1 || strEq c.1 w.1))
def playOne (m : List YCell.den) (ws : List YWrite.den) : List YCell.den := ws.foldl putC m

theorem fold_filter {α : Type} (p : α → Bool) : ∀ (l a : List α), l.foldl (fun a x => if p x then a ++ [x] else a) a = a ++ l.filter p
  | [], a => by simp
  | x :: l, a => by
    simp only [List.foldl_cons, fold_filter p l, List.filter_cons]
    cases p x <;> simp

theorem filter2_len {α : Type} (p q : α → Bool) (h : ∀ x, p x = true → q x = true) : ∀ l : List α, (l.filter p).length + (l.filter (fun x => !q x)).length ≤ l.length
  | [] => by simp
  | x :: l => by
    have := filter2_len p q h l
    have hx := h x
    simp only [List.filter_cons]
    cases hp : p x <;> cases hq : q x
    · simp; omega
    · simp; omega
    · rw [hp, hq] at hx; exact absurd (hx rfl) (by simp)
    · simp; omega

theorem filter2_sum {α : Type} (f : α → Nat) (p q : α → Bool) (h : ∀ x, p x = true → q x = true) : ∀ l : List α, ((l.filter p).map f).sum + ((l.filter (fun x => !q x)).map f).sum ≤ (l.map f).sum
  | [] => by simp
  | x :: l => by
    have := filter2_sum f p q h l
    have hx := h x
    simp only [List.filter_cons]
    cases hp : p x <;> cases hq : q x
    · simp; omega
    · simp; omega
    · rw [hp, hq] at hx; exact absurd (hx rfl) (by simp)
    · simp; omega

theorem putC_len (m : List YCell.den) (w : YWrite.den) : (putC m w).length ≤ m.length + 1 := by
  have := filter2_len (fun c : YCell.den => strLt c.1 w.1) (fun c => strLt c.1 w.1 || strEq c.1 w.1) (fun x h => by simp [h]) m
  unfold putC
  simp only [List.length_append]
  split <;> simp only [List.length_nil, List.length_cons] <;> omega

theorem putC_wt (m : List YCell.den) (w : YWrite.den) : (Ty.sl YCell).wt (putC m w) ≤ (Ty.sl YCell).wt m + 1 + YWrite.wt w := by
  have h1 := putC_len m w
  have h2 := filter2_sum YCell.wt (fun c : YCell.den => strLt c.1 w.1) (fun c => strLt c.1 w.1 || strEq c.1 w.1) (fun x h => by simp [h]) m
  have e1 : (Ty.sl YCell).wt (putC m w) = (putC m w).length + ((putC m w).map YCell.wt).sum := rfl
  have e2 : (Ty.sl YCell).wt m = m.length + (m.map YCell.wt).sum := rfl
  have e3 : YWrite.wt w = w.1.size + (w.2.1.size + 0) := rfl
  have e4 : ((putC m w).map YCell.wt).sum ≤ (m.map YCell.wt).sum + (w.1.size + w.2.1.size) := by
    unfold putC
    simp only [List.map_append, List.sum_append]
    split
    · simp only [List.map_nil, List.sum_nil]; omega
    · have : ([(w.1, w.2.1)].map YCell.wt).sum = w.1.size + w.2.1.size := by simp [Ty.wt]
      rw [this]
      omega
  omega

theorem playOne_wt : ∀ (ws : List YWrite.den) (m : List YCell.den), (Ty.sl YCell).wt (playOne m ws) ≤ (Ty.sl YCell).wt m + (Ty.sl YWrite).wt ws
  | [], m => by simp [playOne]
  | w :: ws, m => by
    have h1 := putC_wt m w
    have h2 := playOne_wt ws (putC m w)
    have e : (Ty.sl YWrite).wt (w :: ws) = (ws.length + 1) + (YWrite.wt w + (ws.map YWrite.wt).sum) := rfl
    have e2 : (Ty.sl YWrite).wt ws = ws.length + (ws.map YWrite.wt).sum := rfl
    have e3 : playOne m (w :: ws) = playOne (putC m w) ws := rfl
    rw [e3]
    omega

theorem wt_len {t : Ty} {l : List t.den} : l.length ≤ (Ty.sl t).wt l := by
  have : (Ty.sl t).wt l = l.length + (l.map t.wt).sum := rfl
  omega

theorem low_len (a : List YCell.den) (w : YWrite.den) (h : a.length ≤ 1099511627775) : (a.filter (fun c => strLt c.1 w.1)).length + 1 ≤ 1099511627776 := by
  have : (a.filter (fun c => strLt c.1 w.1)).length ≤ a.length := List.length_filter_le _ _
  omega
theorem low_len2 (a : List YCell.den) (w : YWrite.den) (x : YCell.den) : (a.filter (fun c => strLt c.1 w.1) ++ [x]).length ≤ a.length + 1 - (a.filter (fun c => !(strLt c.1 w.1 || strEq c.1 w.1))).length := by
  have := filter2_len (fun c : YCell.den => strLt c.1 w.1) (fun c => strLt c.1 w.1 || strEq c.1 w.1) (fun x h => by simp [h]) a
  simp only [List.length_append, List.length_singleton]
  omega
theorem low_len3 (a : List YCell.den) (w : YWrite.den) : (a.filter (fun c => strLt c.1 w.1)).length ≤ a.length + 1 - (a.filter (fun c => !(strLt c.1 w.1 || strEq c.1 w.1))).length := by
  have := filter2_len (fun c : YCell.den => strLt c.1 w.1) (fun c => strLt c.1 w.1 || strEq c.1 w.1) (fun x h => by simp [h]) a
  omega

section
variable (t : YTxn.den) (w : YWrite.den) (m : List YCell.den) (hm : m.length ≤ 500000000000)
include hm

theorem low_spec (j : Int) : W_spec_PlayOne_8 (t, m, j, w, [], 0) = some (.inl (t, m, j, w, m.filter (fun c => strLt c.1 w.1))) := by
  have := W_pick W_spec_PlayOne_8 m (fun a i => (t, m, j, w, a, i)) (fun c => strLt c.1 w.1) (fun c => c) (fun a => .inl (t, m, j, w, a)) (by omega)
    (fun a _ => by rw [w_spec_PlayOne_8]; simp only [S_spec_PlayOne_8, lt_cast, Nat.lt_irrefl, decide_false, cond_false])
    (fun i hi a ha => by
      rw [w_spec_PlayOne_8]; simp only [S_spec_PlayOne_8, lt_cast, hi, decide_true, cond_true, gIdx_nat hi, Int.toNat_natCast, rdL_get hi, List.length_singleton, ble_cap (show a.length + 1 ≤ 1099511627776 by omega)]
      rw [wrap_succ (by omega)])
  rw [List.map_id'] at this
  exact this

theorem high_spec (j : Int) (a : List YCell.den) (ha : a.length ≤ m.length + 1 - (m.filter (fun c => !(strLt c.1 w.1 || strEq c.1 w.1))).length) : W_spec_PlayOne_15 (t, m, j, w, a, 0) = some (.inl (t, j, a ++ m.filter (fun c => !(strLt c.1 w.1 || strEq c.1 w.1)))) := by
  have := W_fold W_spec_PlayOne_15 m (fun a i => (t, m, j, w, a, i)) (fun a c => if !(strLt c.1 w.1 || strEq c.1 w.1) then a ++ [c] else a) (fun a => .inl (t, j, a)) (fun i a => a.length ≤ m.length + 1 + i)
    (fun a _ => by rw [w_spec_PlayOne_15]; simp only [S_spec_PlayOne_15, lt_cast, Nat.lt_irrefl, decide_false, cond_false])
    (fun i hi a ha => by
      rw [w_spec_PlayOne_15]; simp only [S_spec_PlayOne_15, lt_cast, hi, decide_true, cond_true, gIdx_nat hi, Int.toNat_natCast, rdL_get hi, List.length_singleton, ble_cap (show a.length + 1 ≤ 1099511627776 by omega)]
      rw [wrap_succ (by omega)]
      cases !(strLt m[i].1 w.1 || strEq m[i].1 w.1) with
      | true => simp only [cond_true, if_true]; refine ⟨by simp; omega, ?_⟩; simp only [ble_cap (show a.length + 1 ≤ 1099511627776 by omega), cond_true]
      | false => simp only [cond_false, Bool.false_eq_true, if_false]; refine ⟨by omega, ?_⟩; trivial) a (by omega)
  rw [fold_filter] at this
  exact this

theorem low_impl (l : List YWrite.den) (n j : Int) : W_impl_PlayOne_7 (m, w, [], l, n, j, m, (m.length : Int), 0) = some (.inl (m, w, m.filter (fun c => strLt c.1 w.1), l, n, j)) := by
  have := W_pick W_impl_PlayOne_7 m (fun a i => (m, w, a, l, n, j, m, (m.length : Int), i)) (fun c => strLt c.1 w.1) (fun c => c) (fun a => .inl (m, w, a, l, n, j)) (by omega)
    (fun a _ => by rw [w_impl_PlayOne_7]; simp only [S_impl_PlayOne_7, lt_cast, Nat.lt_irrefl, decide_false, cond_false])
    (fun i hi a ha => by
      rw [w_impl_PlayOne_7]; simp only [S_impl_PlayOne_7, lt_cast, hi, decide_true, cond_true, gIdx_nat hi, Int.toNat_natCast, rdL_get hi, List.length_singleton, ble_cap (show a.length + 1 ≤ 1099511627776 by omega)]
      rw [wrap_succ (by omega)])
  rw [List.map_id'] at this
  exact this

theorem high_impl (l : List YWrite.den) (n j : Int) (a : List YCell.den) (ha : a.length ≤ m.length + 1 - (m.filter (fun c => !(strLt c.1 w.1 || strEq c.1 w.1))).length) : W_impl_PlayOne_15 (w, a, l, n, j, m, (m.length : Int), 0) = some (.inl (a ++ m.filter (fun c => !(strLt c.1 w.1 || strEq c.1 w.1)), l, n, j)) := by
  have := W_fold W_impl_PlayOne_15 m (fun a i => (w, a, l, n, j, m, (m.length : Int), i)) (fun a c => if !(strLt c.1 w.1 || strEq c.1 w.1) then a ++ [c] else a) (fun a => .inl (a, l, n, j)) (fun i a => a.length ≤ m.length + 1 + i)
    (fun a _ => by rw [w_impl_PlayOne_15]; simp only [S_impl_PlayOne_15, lt_cast, Nat.lt_irrefl, decide_false, cond_false])
    (fun i hi a ha => by
      rw [w_impl_PlayOne_15]; simp only [S_impl_PlayOne_15, lt_cast, hi, decide_true, cond_true, gIdx_nat hi, Int.toNat_natCast, rdL_get hi, List.length_singleton, ble_cap (show a.length + 1 ≤ 1099511627776 by omega)]
      rw [wrap_succ (by omega)]
      cases !(strLt m[i].1 w.1 || strEq m[i].1 w.1) with
      | true => simp only [cond_true, if_true]; refine ⟨by simp; omega, ?_⟩; simp only [ble_cap (show a.length + 1 ≤ 1099511627776 by omega), cond_true]
      | false => simp only [cond_false, Bool.false_eq_true, if_false]; refine ⟨by omega, ?_⟩; trivial) a (by omega)
  rw [fold_filter] at this
  exact this
end

theorem parts_len (m : List YCell.den) (w : YWrite.den) : (m.filter (fun c => strLt c.1 w.1)).length + (m.filter (fun c => !(strLt c.1 w.1 || strEq c.1 w.1))).length ≤ m.length :=
  filter2_len (fun c : YCell.den => strLt c.1 w.1) (fun c => strLt c.1 w.1 || strEq c.1 w.1) (fun x h => by simp [h]) m

theorem PlayOne_spec (m : List YCell.den) (t : YTxn.den) (h : m.length + t.2.2.2.2.2.1.length ≤ 400000000000) : q_spec_PlayOne (m, t) = some (playOne m t.2.2.2.2.2.1) := by
  have L := W_fold W_spec_PlayOne_3 t.2.2.2.2.2.1 (fun a i => (t, a, i)) putC (fun a => .inl a) (fun i a => a.length ≤ m.length + i)
    (fun a _ => by rw [w_spec_PlayOne_3]; simp only [S_spec_PlayOne_3, lt_cast, Nat.lt_irrefl, decide_false, cond_false])
    (fun i hi a ha => by
      have hl := putC_len a t.2.2.2.2.2.1[i]
      have hp := parts_len a t.2.2.2.2.2.1[i]
      rw [w_spec_PlayOne_3]
      simp only [S_spec_PlayOne_3, lt_cast, hi, decide_true, cond_true, gIdx_nat hi, Int.toNat_natCast, rdL_get hi, low_spec t _ a (by omega), Option.bind_some, List.length_singleton, ble_cap (low_len a t.2.2.2.2.2.1[i] (by omega)),
        high_spec t t.2.2.2.2.2.1[i] a (by omega) (i : Int) (a.filter (fun c => strLt c.1 t.2.2.2.2.2.1[i].1) ++ [(t.2.2.2.2.2.1[i].1, t.2.2.2.2.2.1[i].2.1)]) (low_len2 ..), high_spec t t.2.2.2.2.2.1[i] a (by omega) (i : Int) (a.filter (fun c => strLt c.1 t.2.2.2.2.2.1[i].1)) (low_len3 ..)]
      rw [wrap_succ (by omega)]
      refine ⟨by omega, ?_⟩
      unfold putC
      cases t.2.2.2.2.2.1[i].2.2 <;> simp) m (by omega)
  rw [e_spec_PlayOne]; unfold X_spec_PlayOne
  have h0 : Nat.ble (([] : List YCell.den).length + m.length) cap40 = true := ble_cap (by simp; omega)
  simp only [h0, cond_true, List.nil_append, L, Option.bind_some]
  rfl

theorem PlayOne_impl (m : List YCell.den) (t : YTxn.den) (h : m.length + t.2.2.2.2.2.1.length ≤ 400000000000) : q_impl_PlayOne (m, t) = some (playOne m t.2.2.2.2.2.1) := by
  have L := W_fold W_impl_PlayOne_3 t.2.2.2.2.2.1 (fun a i => (a, t.2.2.2.2.2.1, (t.2.2.2.2.2.1.length : Int), i)) putC (fun a => .inl a) (fun i a => a.length ≤ m.length + i)
    (fun a _ => by rw [w_impl_PlayOne_3]; simp only [S_impl_PlayOne_3, lt_cast, Nat.lt_irrefl, decide_false, cond_false])
    (fun i hi a ha => by
      have hl := putC_len a t.2.2.2.2.2.1[i]
      have hp := parts_len a t.2.2.2.2.2.1[i]
      rw [w_impl_PlayOne_3]
      simp only [S_impl_PlayOne_3, lt_cast, hi, decide_true, cond_true, gIdx_nat hi, Int.toNat_natCast, rdL_get hi, low_impl _ a (by omega), Option.bind_some, List.length_singleton, ble_cap (low_len a t.2.2.2.2.2.1[i] (by omega)),
        high_impl t.2.2.2.2.2.1[i] a (by omega) t.2.2.2.2.2.1 (t.2.2.2.2.2.1.length : Int) (i : Int) (a.filter (fun c => strLt c.1 t.2.2.2.2.2.1[i].1) ++ [(t.2.2.2.2.2.1[i].1, t.2.2.2.2.2.1[i].2.1)]) (low_len2 ..), high_impl t.2.2.2.2.2.1[i] a (by omega) t.2.2.2.2.2.1 (t.2.2.2.2.2.1.length : Int) (i : Int) (a.filter (fun c => strLt c.1 t.2.2.2.2.2.1[i].1)) (low_len3 ..)]
      rw [wrap_succ (by omega)]
      refine ⟨by omega, ?_⟩
      unfold putC
      cases t.2.2.2.2.2.1[i].2.2 <;> simp) m (by omega)
  rw [e_impl_PlayOne]; unfold X_impl_PlayOne
  simp only [ble_cap (show m.length ≤ 1099511627776 by omega), cond_true, L, Option.bind_some]
  rfl


end Go.Proofs.Ythhpkgegmfjdmaa.Ab
