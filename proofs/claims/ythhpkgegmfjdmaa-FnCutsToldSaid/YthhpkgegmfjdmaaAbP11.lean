import Derived.Test.YthhpkgegmfjdmaaAbP7
namespace Go.Proofs.Ythhpkgegmfjdmaa.Ab
open Go
set_option linter.unusedVariables false
set_option linter.unusedSimpArgs false
set_option linter.unnecessarySimpa false
set_option linter.unusedSimpArgs false
set_option linter.unusedVariables false

/-! ### Disks written -/
theorem disk_wt (d : DiskT) : YDisk.wt d = (d.1.length + (d.1.map ByteArray.size).sum) + (d.2.length + (d.2.map fun p => 0 + p.2.size).sum) := rfl

theorem sum_all_le {α : Type} {l : List α} {f : α → Nat} {k : Nat} (h : ∀ x ∈ l, f x ≤ k) : (l.map f).sum ≤ l.length * k := by
  induction l with
  | nil => simp
  | cons x l ih =>
    have h1 := h x (List.mem_cons_self ..)
    have h2 := ih (fun y hy => h y (List.mem_cons_of_mem _ hy))
    simp only [List.map_cons, List.sum_cons, List.length_cons, Nat.succ_mul]
    omega

theorem diskOk_iff {d : DiskT} : diskOk d = true ↔ (1 ≤ d.1.length ∧ d.1.length ≤ 100) ∧ d.2.length ≤ 60 ∧ (∀ s ∈ d.1, s.size = 64) ∧ ∀ p ∈ d.2, (0 ≤ p.1 ∧ p.1 < (d.1.length : Int)) ∧ p.2.size = 64 := by
  unfold diskOk
  simp only [Bool.and_eq_true, decide_eq_true_eq, List.all_eq_true, isIn, and_assoc]
  constructor
  · rintro ⟨a, b, c, e, f⟩
    exact ⟨a, b, c, e, fun p hp => by obtain ⟨x, y, z⟩ := f p hp; exact ⟨x, by omega, z⟩⟩
  · rintro ⟨a, b, c, e, f⟩
    exact ⟨a, b, c, e, fun p hp => by obtain ⟨x, y, z⟩ := f p hp; exact ⟨x, by omega, z⟩⟩

theorem diskOk_wt {d : DiskT} (h : diskOk d = true) : YDisk.wt d ≤ 11000 := by
  obtain ⟨h1, h2, h3, h4⟩ := diskOk_iff.mp h
  have a1 := sum_all_le (l := d.1) (f := ByteArray.size) (k := 64) (fun s hs => by rw [h3 s hs]; exact Nat.le_refl _)
  have a2 := sum_all_le (l := d.2) (f := fun p => 0 + p.2.size) (k := 64) (fun p hp => by rw [(h4 p hp).2]; exact Nat.le_refl _)
  rw [disk_wt]
  omega

theorem wt_snoc (d : DiskT) (p : Int × ByteArray) : YDisk.wt (d.1, d.2 ++ [p]) = YDisk.wt d + 1 + p.2.size := by
  rw [disk_wt, disk_wt]
  simp
  omega

theorem Copy_spec (d : DiskT) (hd : YDisk.wt d ≤ big40) : q_spec_l03Copy d = some d := by
  have h1 : d.1.length ≤ big40 := Nat.le_trans disk_secs hd
  have h2 : d.2.length ≤ big40 := Nat.le_trans disk_puts hd
  unfold big40 at h1 h2
  rw [e_spec_l03Copy]; unfold X_spec_l03Copy
  have a1 : Nat.ble (([] : List ByteArray).length + d.1.length) cap40 = true := ble_cap (by simp; omega)
  have a2 : Nat.ble (([] : List Tpis.den).length + d.2.length) cap40 = true := ble_cap (by simp; omega)
  simp only [a1, a2, cond_true, List.nil_append]

theorem Copy_impl (d : DiskT) (hd : YDisk.wt d ≤ big40) : q_impl_copyDisk d = some d := by
  have h1 : d.1.length ≤ big40 := Nat.le_trans disk_secs hd
  have h2 : d.2.length ≤ big40 := Nat.le_trans disk_puts hd
  unfold big40 at h1 h2
  rw [e_impl_copyDisk]; unfold X_impl_copyDisk
  simp only [ble_cap h1, ble_cap h2, cond_true]

/-- A sector put among those that wait. -/
def writeSec (d : DiskT) (k : Int) (t : ByteArray) : Option DiskT := if diskOk (d.1, d.2 ++ [(k, t)]) then some (d.1, d.2 ++ [(k, t)]) else none
def orD (d : DiskT) : Option DiskT → DiskT × Bool
  | some x => (x, true)
  | none => (d, false)

theorem diskOk_snoc (d : DiskT) (k : Int) (t : ByteArray) : diskOk (d.1, d.2 ++ [(k, t)]) = (diskOk d && (isIn k 0 ((d.1.length : Int) - 1) && (decide (t.size = 64) && !decide (60 ≤ d.2.length)))) := by
  rw [Bool.eq_iff_iff]
  simp only [Bool.and_eq_true, Bool.not_eq_true', decide_eq_true_eq, decide_eq_false_iff_not]
  rw [diskOk_iff, diskOk_iff]
  simp only [List.length_append, List.length_singleton, List.mem_append, List.mem_singleton, isIn, Bool.and_eq_true, decide_eq_true_eq]
  constructor
  · rintro ⟨a, b, c, e⟩
    have := e (k, t) (.inr rfl)
    exact ⟨⟨a, by omega, c, fun p hp => e p (.inl hp)⟩, ⟨this.1.1, by have := this.1.2; omega⟩, this.2, by omega⟩
  · rintro ⟨⟨a, b, c, e⟩, ⟨f1, f2⟩, g, h⟩
    refine ⟨a, by omega, c, fun p hp => ?_⟩
    rcases hp with hp | rfl
    · exact e p hp
    · exact ⟨⟨f1, by show k < (d.1.length : Int); omega⟩, g⟩

theorem WriteSector_impl (d : DiskT) (k : Int) (t : ByteArray) (hd : YDisk.wt d ≤ 1073741824) (ht : t.size ≤ 1073741824) : q_impl_WriteSector (d, k, t) = some (orD d (writeSec d k t)) := by
  have h2 : d.2.length ≤ 1073741824 := Nat.le_trans disk_puts hd
  have a : Nat.ble (d.2.length + ([(k, t)] : List Tpis.den).length) cap40 = true := ble_cap (by simp; omega)
  have b := DiskOk_impl (d.1, d.2 ++ [(k, t)]) (by rw [wt_snoc]; unfold big40; simp only; omega)
  rw [e_impl_WriteSector]; unfold X_impl_WriteSector
  simp only [Copy_impl d (by unfold big40; omega), Option.bind_some, a, cond_true, b]
  unfold writeSec
  cases diskOk (d.1, d.2 ++ [(k, t)]) <;> rfl

theorem WriteSector_spec (d : DiskT) (k : Int) (t : ByteArray) (hd : YDisk.wt d ≤ 1073741824) (ht : t.size ≤ 1073741824) : q_spec_WriteSector (d, k, t) = some (orD d (writeSec d k t)) := by
  have h2 : d.2.length ≤ 1073741824 := Nat.le_trans disk_puts hd
  have h1 : d.1.length ≤ 1073741824 := Nat.le_trans disk_secs hd
  have a : Nat.ble (d.2.length + ([(k, t)] : List Tpis.den).length) cap40 = true := ble_cap (by simp; omega)
  have w : IntKind.i64.wrap ((d.1.length : Int) - 1) = (d.1.length : Int) - 1 := wrap64 (by omega) (by omega)
  have e1 : decide ((t.size : Int) = (64 : Int)) = decide (t.size = 64) := by simp only [decide_eq_decide]; omega
  have e2 : decide ((d.2.length : Int) ≥ (60 : Int)) = decide (60 ≤ d.2.length) := by simp only [decide_eq_decide]; omega
  rw [e_spec_WriteSector]; unfold X_spec_WriteSector
  simp only [Copy_spec d (by unfold big40; omega), DiskOk_spec d (by unfold big40; omega), Option.bind_some, a, cond_true, l01In_ok, w, e1, e2]
  unfold writeSec
  rw [diskOk_snoc]
  cases diskOk d <;> cases isIn k 0 ((d.1.length : Int) - 1) <;> cases decide (t.size = 64) <;> cases decide (60 ≤ d.2.length) <;> rfl

/-- Bytes written over sectors. -/
def wbGo : Nat → DiskT → Nat → Nat → ByteArray → Option DiskT
  | 0, d, _, _, _ => some d
  | f + 1, d, k, at_, t => if t.size = 0 then some d else
    if (readSec d (k : Int)).2 = true ∧ (readSec d (k : Int)).1.size = 64 then
      (writeSec d (k : Int) ((readSec d (k : Int)).1.extract 0 at_ ++ t.extract 0 (min t.size (64 - at_)) ++ (readSec d (k : Int)).1.extract (at_ + min t.size (64 - at_)) 64)).bind fun x =>
        wbGo f x (k + 1) 0 (t.extract (min t.size (64 - at_)) t.size)
    else none

theorem wbGo_nil (f : Nat) (d : DiskT) (k at_ : Nat) {t : ByteArray} (h : t.size = 0) : wbGo f d k at_ t = some d := by
  cases f with
  | zero => rfl
  | succ f => rw [wbGo, if_pos h]

theorem writeSec_ok {d x : DiskT} {k : Int} {t : ByteArray} (h : writeSec d k t = some x) : diskOk x = true ∧ x = (d.1, d.2 ++ [(k, t)]) := by
  unfold writeSec at h
  split at h
  · rename_i hk; cases h; exact ⟨hk, rfl⟩
  · cases h

theorem size_zero_eq {t : ByteArray} : strEq t ⟨#[]⟩ = decide (t.size = 0) := by
  rw [Bool.eq_iff_iff, strEq_iff, decide_eq_true_eq]
  constructor
  · rintro rfl; rfl
  · intro h
    have : t.data = #[] := by apply Array.eq_empty_of_size_eq_zero; exact h
    cases t; simp at this; rw [this]

theorem wb_impl : ∀ (f : Nat) (d0 out jk : DiskT) (k at_ : Nat) (t : ByteArray), t.size < f → t.size ≤ 1048576 → k ≤ 4000000000 - t.size → at_ < 64 → YDisk.wt d0 ≤ 1073741824 → YDisk.wt out ≤ 1073741824 →
    W_impl_WriteBytes_5 ((k : Int), (at_ : Int), t, d0, jk, out) = some (match wbGo f out k at_ t with
      | some x => .inl (jk, x)
      | none => .inr (d0, false))
  | 0, d0, out, jk, k, at_, t, h, _, _, _, _, _ => by omega
  | f + 1, d0, out, jk, k, at_, t, h, ht, hk, hat, h0, ho => by
    rw [w_impl_WriteBytes_5]
    simp only [S_impl_WriteBytes_5, size_zero_eq, ReadSector_impl out (k : Int) (by unfold big40; omega), Copy_impl d0 (by unfold big40; omega), Option.bind_some]
    rw [wbGo]
    by_cases hz : t.size = 0
    · simp only [hz, decide_true, Bool.not_true, cond_false, if_true]
    · simp only [hz, decide_false, Bool.not_false, cond_true, if_false]
      generalize readSec out (k : Int) = r
      obtain ⟨old, rok⟩ := r
      cases rok with
      | false => simp
      | true =>
        have e64 : decide ((old.size : Int) = (64 : Int)) = decide (old.size = 64) := by simp only [decide_eq_decide]; omega
        simp only [Bool.not_true, cond_false, Option.bind_some, e64]
        by_cases hs : old.size = 64
        · obtain ⟨n, hn⟩ : ∃ n, n = min t.size (64 - at_) := ⟨_, rfl⟩
          have w1 : IntKind.i64.wrap ((64 : Int) - (at_ : Int)) = ((64 - at_ : Nat) : Int) := by rw [wrap64 (by omega) (by omega)]; omega
          have im : imin (t.size : Int) ((64 - at_ : Nat) : Int) = (n : Int) := by
            unfold imin
            split <;> omega
          have w2 : IntKind.i64.wrap ((at_ : Int) + (n : Int)) = ((at_ + n : Nat) : Int) := by rw [wrap64 (by omega) (by omega)]; omega
          have w3 : IntKind.i64.wrap ((k : Int) + 1) = ((k + 1 : Nat) : Int) := wrap_succ (by omega)
          have z0 : ((0 : Int)).toNat = 0 := rfl
          have hnl : n ≤ t.size := by omega
          have hn64 : at_ + n ≤ 64 := by omega
          have c1 : (decide ((0 : Int) ≤ 0) && decide ((0 : Int) ≤ (at_ : Int)) && decide ((at_ : Int) ≤ (old.size : Int))) = true := by simp; omega
          have c2 : (decide ((0 : Int) ≤ 0) && decide ((0 : Int) ≤ (n : Int)) && decide ((n : Int) ≤ (t.size : Int))) = true := by simp; omega
          have c3 : decide ((old.extract 0 at_).size + (t.extract 0 n).size ≤ 140737488355328) = true := by simp only [ByteArray.size_extract, decide_eq_true_eq]; omega
          have c4 : (decide ((0 : Int) ≤ ((at_ + n : Nat) : Int)) && decide (((at_ + n : Nat) : Int) ≤ (old.size : Int)) && decide ((old.size : Int) ≤ (old.size : Int))) = true := by simp; omega
          have c5 : decide ((old.extract 0 at_ ++ t.extract 0 n).size + (old.extract (at_ + n) old.size).size ≤ 140737488355328) = true := by simp only [ByteArray.size_append, ByteArray.size_extract, decide_eq_true_eq]; omega
          have c6 : (decide ((0 : Int) ≤ (n : Int)) && decide ((n : Int) ≤ (t.size : Int)) && decide ((t.size : Int) ≤ (t.size : Int))) = true := by simp; omega
          have hw := WriteSector_impl out (k : Int) (old.extract 0 at_ ++ t.extract 0 n ++ old.extract (at_ + n) 64) ho (by simp only [ByteArray.size_append, ByteArray.size_extract]; omega)
          rw [hs] at c5
          simp only [hs, decide_true, Bool.not_true, cond_false, w1, im, w2, w3, z0, Int.toNat_natCast, c3, c5, and_self, if_true]
          rw [hs] at c1 c4
          have c1' : (decide ((0 : Int) ≤ 0) && decide ((0 : Int) ≤ (at_ : Int)) && decide ((at_ : Int) ≤ ((64 : Nat) : Int))) = true := c1
          have c4' : (decide ((0 : Int) ≤ ((at_ + n : Nat) : Int)) && decide (((at_ + n : Nat) : Int) ≤ ((64 : Nat) : Int)) && decide (((64 : Nat) : Int) ≤ ((64 : Nat) : Int))) = true := c4
          rw [c1', c2, c4', c6]
          simp only [cond_true, hw, Option.bind_some, ← hn]
          cases hx : writeSec out (k : Int) (old.extract 0 at_ ++ t.extract 0 n ++ old.extract (at_ + n) 64) with
          | none => simp [orD]
          | some x =>
            simp only [orD, Bool.not_true, cond_false, Option.bind_some]
            have hsz : (t.extract n t.size).size = t.size - n := by simp only [ByteArray.size_extract]; omega
            have := wb_impl f d0 x jk (k + 1) 0 (t.extract n t.size) (by omega) (by omega) (by omega) (by omega) h0 (Nat.le_trans (diskOk_wt (writeSec_ok hx).1) (by omega))
            exact this
        · simp [hs]

theorem wb_spec (d0 jk : DiskT) (sec at_ : Nat) (t : ByteArray) (hsec : sec ≤ 2000000000) (hat : at_ ≤ 6400) (ht : t.size ≤ 1048576) (h0 : YDisk.wt d0 ≤ 1073741824) : ∀ (f i : Nat) (out : DiskT), i ≤ t.size → t.size - i < f → YDisk.wt out ≤ 1073741824 →
    W_spec_WriteBytes_5 ((sec : Int), (at_ : Int), t, d0, jk, out, (i : Int)) = some (match wbGo f out (sec + (at_ + i) / 64) ((at_ + i) % 64) (t.extract i t.size) with
      | some x => .inl (jk, x)
      | none => .inr (d0, false))
  | 0, i, out, _, h, _ => by omega
  | f + 1, i, out, hi, hf, ho => by
    have hsz : (t.extract i t.size).size = t.size - i := by simp only [ByteArray.size_extract]; omega
    have w0 : IntKind.i64.wrap ((at_ : Int) + (i : Int)) = ((at_ + i : Nat) : Int) := by rw [wrap64 (by omega) (by omega)]; omega
    have t1 : Int.tdiv ((at_ + i : Nat) : Int) (64 : Int) = (((at_ + i) / 64 : Nat) : Int) := tdivN (at_ + i) 64
    have t2 : Int.tmod ((at_ + i : Nat) : Int) (64 : Int) = (((at_ + i) % 64 : Nat) : Int) := tmodN (at_ + i) 64
    obtain ⟨q, hq⟩ : ∃ q, q = (at_ + i) / 64 := ⟨_, rfl⟩
    obtain ⟨m, hm⟩ : ∃ m, m = (at_ + i) % 64 := ⟨_, rfl⟩
    have w1 : IntKind.i64.wrap ((q : Int)) = (q : Int) := wrap64 (by omega) (by omega)
    have w2 : IntKind.i64.wrap ((sec : Int) + (q : Int)) = ((sec + q : Nat) : Int) := by rw [wrap64 (by omega) (by omega)]; omega
    have w3 : IntKind.i64.wrap ((64 : Int) - (m : Int)) = ((64 - m : Nat) : Int) := by rw [wrap64 (by omega) (by omega)]; omega
    have w4 : IntKind.i64.wrap ((t.size : Int) - (i : Int)) = ((t.size - i : Nat) : Int) := by rw [wrap64 (by omega) (by omega)]; omega
    rw [w_spec_WriteBytes_5]
    simp only [S_spec_WriteBytes_5, w0, t1, t2, ← hq, ← hm, w1, w2, w3, w4, ReadSector_spec out ((sec + q : Nat) : Int) (by unfold big40; omega), Copy_spec d0 (by unfold big40; omega), Option.bind_some, lt_cast]
    rw [wbGo, hsz]
    by_cases hz : i < t.size
    · have hz' : ¬ t.size - i = 0 := by omega
      simp only [hz, decide_true, cond_true, hz', if_false]
      generalize readSec out ((sec + q : Nat) : Int) = r
      obtain ⟨old, rok⟩ := r
      cases rok with
      | false => simp
      | true =>
        have e64 : decide ((old.size : Int) = (64 : Int)) = decide (old.size = 64) := by simp only [decide_eq_decide]; omega
        simp only [Bool.not_true, cond_false, Option.bind_some, e64]
        by_cases hs : old.size = 64
        · obtain ⟨n, hn⟩ : ∃ n, n = min (t.size - i) (64 - m) := ⟨_, rfl⟩
          have z0 : ((0 : Int)).toNat = 0 := rfl
          have hm64 : m < 64 := by omega
          have body : ∀ N : Nat, N = n → IntKind.i64.wrap ((i : Int) + (N : Int)) = ((i + n : Nat) : Int) ∧ IntKind.i64.wrap ((m : Int) + (N : Int)) = ((m + n : Nat) : Int) := fun N hN => by
            subst hN
            exact ⟨by rw [wrap64 (by omega) (by omega)]; omega, by rw [wrap64 (by omega) (by omega)]; omega⟩
          have c1 : (decide ((0 : Int) ≤ 0) && decide ((0 : Int) ≤ (m : Int)) && decide ((m : Int) ≤ ((64 : Nat) : Int))) = true := by simp; omega
          have c2 : (decide ((0 : Int) ≤ (i : Int)) && decide ((i : Int) ≤ ((i + n : Nat) : Int)) && decide (((i + n : Nat) : Int) ≤ (t.size : Int))) = true := by simp; omega
          have c3 : decide ((old.extract 0 m).size + (t.extract i (i + n)).size ≤ 140737488355328) = true := by simp only [ByteArray.size_extract, decide_eq_true_eq]; omega
          have c4 : (decide ((0 : Int) ≤ ((m + n : Nat) : Int)) && decide (((m + n : Nat) : Int) ≤ ((64 : Nat) : Int)) && decide (((64 : Nat) : Int) ≤ ((64 : Nat) : Int))) = true := by simp; omega
          have c5 : decide ((old.extract 0 m ++ t.extract i (i + n)).size + (old.extract (m + n) 64).size ≤ 140737488355328) = true := by simp only [ByteArray.size_append, ByteArray.size_extract, decide_eq_true_eq]; omega
          have hx1 : (t.extract i t.size).extract 0 n = t.extract i (i + n) := by
            rw [ByteArray.extract_extract]; congr 1; omega
          have hx2 : (t.extract i t.size).extract n (t.size - i) = t.extract (i + n) t.size := by
            rw [ByteArray.extract_extract]; congr 1; omega
          have hw := WriteSector_spec out ((sec + q : Nat) : Int) (old.extract 0 m ++ t.extract i (i + n) ++ old.extract (m + n) 64) ho (by simp only [ByteArray.size_append, ByteArray.size_extract]; omega)
          have ih : ∀ x : DiskT, diskOk x = true → W_spec_WriteBytes_5 ((sec : Int), (at_ : Int), t, d0, jk, x, ((i + n : Nat) : Int)) = some (match wbGo f x (sec + q + 1) 0 (t.extract (i + n) t.size) with
              | some x => .inl (jk, x)
              | none => .inr (d0, false)) := fun x hx => by
            have := wb_spec d0 jk sec at_ t hsec hat ht h0 f (i + n) x (by omega) (by omega) (Nat.le_trans (diskOk_wt hx) (by omega))
            rw [this]
            by_cases he : i + n = t.size
            · have hsz2 : (t.extract (i + n) t.size).size = 0 := by simp only [ByteArray.size_extract]; omega
              rw [wbGo_nil _ _ _ _ hsz2, wbGo_nil _ _ _ _ hsz2]
            · have hn2 : n = 64 - m := by omega
              have e1 : sec + (at_ + (i + n)) / 64 = sec + q + 1 := by omega
              have e2 : (at_ + (i + n)) % 64 = 0 := by omega
              rw [e1, e2]
          rw [← hn, hx1, hx2]
          simp only [hs, decide_true, Bool.not_true, cond_false, and_self, if_true]
          by_cases hb : t.size - i < 64 - m
          · obtain ⟨b1, b2⟩ := body (t.size - i) (by omega)
            simp only [hb, decide_true, cond_true, b1, b2, Int.toNat_natCast, z0, c3, c5]
            rw [c1, c2, c4]
            simp only [cond_true, hw, Option.bind_some]
            cases hx : writeSec out ((sec + q : Nat) : Int) (old.extract 0 m ++ t.extract i (i + n) ++ old.extract (m + n) 64) with
            | none => simp [orD]
            | some x =>
              simp only [orD, Bool.not_true, cond_false, Option.bind_some]
              exact ih x (writeSec_ok hx).1
          · obtain ⟨b1, b2⟩ := body (64 - m) (by omega)
            simp only [hb, decide_false, cond_false, b1, b2, Int.toNat_natCast, z0, c3, c5]
            rw [c1, c2, c4]
            simp only [cond_true, hw, Option.bind_some]
            cases hx : writeSec out ((sec + q : Nat) : Int) (old.extract 0 m ++ t.extract i (i + n) ++ old.extract (m + n) 64) with
            | none => simp [orD]
            | some x =>
              simp only [orD, Bool.not_true, cond_false, Option.bind_some]
              exact ih x (writeSec_ok hx).1
        · simp [hs]
    · have hz' : t.size - i = 0 := by omega
      simp only [hz, decide_false, cond_false, hz', if_true]

/-- Bytes written from a place of a sector on. -/
def writeBytes (d : DiskT) (sector at_ : Int) (t : ByteArray) : Option DiskT :=
  if isIn at_ 0 6400 && isIn sector 0 ((d.1.length : Int) - 1) && diskOk d then wbGo (t.size + 1) d (sector.toNat + at_.toNat / 64) (at_.toNat % 64) t else none

theorem WriteBytes_spec (d : DiskT) (sector at_ : Int) (t : ByteArray) (hd : YDisk.wt d ≤ 1073741824) (ht : t.size ≤ 1048576) : q_spec_WriteBytes (d, sector, at_, t) = some (orD d (writeBytes d sector at_ t)) := by
  have h1 : d.1.length ≤ 1073741824 := Nat.le_trans disk_secs hd
  have w : IntKind.i64.wrap ((d.1.length : Int) - 1) = (d.1.length : Int) - 1 := wrap64 (by omega) (by omega)
  rw [e_spec_WriteBytes]; unfold X_spec_WriteBytes writeBytes
  simp only [Copy_spec d (by unfold big40; omega), DiskOk_spec d (by unfold big40; omega), Option.bind_some, l01In_ok, w]
  cases ha : isIn at_ 0 6400 with
  | false => rfl
  | true =>
    cases hs : isIn sector 0 ((d.1.length : Int) - 1) with
    | false => rfl
    | true =>
      cases hk : diskOk d with
      | false => rfl
      | true =>
        simp only [isIn, Bool.and_eq_true, decide_eq_true_eq] at ha hs
        obtain ⟨s, rfl⟩ : ∃ s : Nat, sector = (s : Int) := ⟨sector.toNat, by omega⟩
        obtain ⟨a, rfl⟩ : ∃ a : Nat, at_ = (a : Int) := ⟨at_.toNat, by omega⟩
        have L := wb_spec d ([], []) s a t (by omega) (by omega) ht hd (t.size + 1) 0 d (by omega) (by omega) hd
        have L : W_spec_WriteBytes_5 ((s : Int), (a : Int), t, d, ([], []), d, 0) = _ := L
        have e : t.extract 0 t.size = t := ByteArray.extract_zero_size
        simp only [Bool.not_true, cond_false, Option.bind_some, L, Bool.and_self, if_true, Int.toNat_natCast, Nat.add_zero, e]
        cases wbGo (t.size + 1) d (s + a / 64) (a % 64) t <;> rfl

theorem wbGo_bad {f : Nat} {d : DiskT} {k at_ : Nat} {t : ByteArray} (hk : diskOk d = false) (ht : t.size ≠ 0) : wbGo (f + 1) d k at_ t = none := by
  rw [wbGo, if_neg ht]
  split
  · have : ∀ s, writeSec d (k : Int) s = none := fun s => by
      unfold writeSec
      rw [diskOk_snoc, hk]
      rfl
    rw [this]
    rfl
  · rfl

theorem WriteBytes_impl (d : DiskT) (sector at_ : Int) (t : ByteArray) (hd : YDisk.wt d ≤ 1073741824) (ht : t.size ≤ 1048576) (hne : t.size ≠ 0) : q_impl_WriteBytes (d, sector, at_, t) = some (orD d (writeBytes d sector at_ t)) := by
  have h1 : d.1.length ≤ 1073741824 := Nat.le_trans disk_secs hd
  have w : IntKind.i64.wrap ((d.1.length : Int) - 1) = (d.1.length : Int) - 1 := wrap64 (by omega) (by omega)
  rw [e_impl_WriteBytes]; unfold X_impl_WriteBytes writeBytes
  simp only [Copy_impl d (by unfold big40; omega), Option.bind_some, within_ok, w]
  cases ha : isIn at_ 0 6400 with
  | false => rfl
  | true =>
    cases hs : isIn sector 0 ((d.1.length : Int) - 1) with
    | false => rfl
    | true =>
      simp only [isIn, Bool.and_eq_true, decide_eq_true_eq] at ha hs
      obtain ⟨s, rfl⟩ : ∃ s : Nat, sector = (s : Int) := ⟨sector.toNat, by omega⟩
      obtain ⟨a, rfl⟩ : ∃ a : Nat, at_ = (a : Int) := ⟨at_.toNat, by omega⟩
      have t1 : Int.tdiv (a : Int) (64 : Int) = ((a / 64 : Nat) : Int) := tdivN a 64
      have t2 : Int.tmod (a : Int) (64 : Int) = ((a % 64 : Nat) : Int) := tmodN a 64
      have w1 : IntKind.i64.wrap ((a / 64 : Nat) : Int) = ((a / 64 : Nat) : Int) := wrap64 (by omega) (by omega)
      have w2 : IntKind.i64.wrap ((s : Int) + ((a / 64 : Nat) : Int)) = ((s + a / 64 : Nat) : Int) := by rw [wrap64 (by omega) (by omega)]; omega
      have L := wb_impl (t.size + 1) d d ([], []) (s + a / 64) (a % 64) t (by omega) ht (by omega) (by omega) hd hd
      simp only [Bool.not_true, cond_false, Option.bind_some, t1, t2, w1, w2, L, Bool.true_and, Int.toNat_natCast]
      cases hk : diskOk d with
      | false =>
        rw [wbGo_bad hk hne]
        rfl
      | true =>
        simp only [if_true]
        cases wbGo (t.size + 1) d (s + a / 64) (a % 64) t <;> rfl

end Go.Proofs.Ythhpkgegmfjdmaa.Ab
namespace Go.Proofs.Ythhpkgegmfjdmaa.Ab
open Go
set_option linter.unusedVariables false
set_option linter.unusedSimpArgs false
set_option linter.unnecessarySimpa false
set_option linter.unusedSimpArgs false
set_option linter.unusedVariables false

/-! ### What waits, written through -/
def setPut (s : List ByteArray) (p : Int × ByteArray) : List ByteArray := s.set p.1.toNat p.2
def flush (d : DiskT) : DiskT := if diskOk d then (d.2.foldl setPut d.1, []) else d

theorem setPut_len (s : List ByteArray) (p : Int × ByteArray) : (setPut s p).length = s.length := by simp [setPut]
theorem foldPut_len : ∀ (c : List (Int × ByteArray)) (s : List ByteArray), (c.foldl setPut s).length = s.length
  | [], s => rfl
  | p :: c, s => by rw [List.foldl_cons, foldPut_len c, setPut_len]
theorem foldPut_64 : ∀ (c : List (Int × ByteArray)) (s : List ByteArray), (∀ p ∈ c, p.2.size = 64) → (∀ x ∈ s, x.size = 64) → ∀ x ∈ c.foldl setPut s, x.size = 64
  | [], s, _, h => h
  | p :: c, s, hc, h => by
    rw [List.foldl_cons]
    refine foldPut_64 c _ (fun q hq => hc q (List.mem_cons_of_mem _ hq)) (fun x hx => ?_)
    rcases List.mem_or_eq_of_mem_set hx with hx | rfl
    · exact h x hx
    · exact hc p (List.mem_cons_self ..)

theorem flush_ok {d : DiskT} (h : diskOk d = true) : diskOk (flush d) = true ∧ (flush d).2 = [] ∧ (flush d).1.length = d.1.length := by
  unfold flush
  rw [if_pos h]
  obtain ⟨h1, h2, h3, h4⟩ := diskOk_iff.mp h
  refine ⟨diskOk_iff.mpr ⟨by rw [foldPut_len]; exact h1, by simp, foldPut_64 _ _ (fun p hp => (h4 p hp).2) h3, fun p hp => by cases hp⟩, rfl, foldPut_len _ _⟩

theorem flush_wt (d : DiskT) (h : YDisk.wt d ≤ 1073741824) : YDisk.wt (flush d) ≤ 1073741824 := by
  cases hk : diskOk d with
  | true => exact Nat.le_trans (diskOk_wt (flush_ok hk).1) (by omega)
  | false => unfold flush; rw [hk, if_neg (by simp)]; exact h

theorem FlushDisk_spec (d : DiskT) (hd : YDisk.wt d ≤ 1073741824) : q_spec_FlushDisk d = some (flush d) := by
  have h1 : d.1.length ≤ 1073741824 := Nat.le_trans disk_secs hd
  have h2 : d.2.length ≤ 1073741824 := Nat.le_trans disk_puts hd
  rw [e_spec_FlushDisk]; unfold X_spec_FlushDisk flush
  simp only [Copy_spec d (by unfold big40; omega), DiskOk_spec d (by unfold big40; omega), Option.bind_some]
  cases hk : diskOk d with
  | false => rfl
  | true =>
    obtain ⟨k1, k2, k3, k4⟩ := diskOk_iff.mp hk
    have L := W_fold W_spec_FlushDisk_5 d.2 (fun s i => (d, ([], []), (s, d.2), i)) setPut (fun s => .inl (([], []), (s, d.2))) (fun _ s => s.length = d.1.length)
      (fun s _ => by rw [w_spec_FlushDisk_5]; simp only [S_spec_FlushDisk_5, lt_cast, Nat.lt_irrefl, decide_false, cond_false])
      (fun i hi s hs => by
        refine ⟨by rw [setPut_len]; exact hs, ?_⟩
        have hp := (k4 d.2[i] (List.getElem_mem hi)).1
        have hg : gIdx (d.2[i]).1 s.length = true := by simp [gIdx, hs, hp.1, hp.2]
        rw [w_spec_FlushDisk_5]; simp only [S_spec_FlushDisk_5, lt_cast, hi, decide_true, cond_true, gIdx_nat hi, Int.toNat_natCast, rdL_get (t := YPut) hi, hg]
        rw [wrap_succ (by omega)]
        rfl) d.1 rfl
    simp only [Bool.not_true, cond_false, L, Option.bind_some, if_true]

theorem FlushDisk_impl (d : DiskT) (hd : YDisk.wt d ≤ 1073741824) : q_impl_FlushDisk d = some (flush d) := by
  have h1 : d.1.length ≤ 1073741824 := Nat.le_trans disk_secs hd
  have h2 : d.2.length ≤ 1073741824 := Nat.le_trans disk_puts hd
  rw [e_impl_FlushDisk]; unfold X_impl_FlushDisk flush
  simp only [Copy_impl d (by unfold big40; omega), DiskOk_impl d (by unfold big40; omega), Option.bind_some]
  cases hk : diskOk d with
  | false => rfl
  | true =>
    obtain ⟨k1, k2, k3, k4⟩ := diskOk_iff.mp hk
    have L := W_fold W_impl_FlushDisk_4 d.2 (fun s i => (([], []), (s, d.2), d.2, (d.2.length : Int), i)) setPut (fun s => .inl (([], []), (s, d.2))) (fun _ s => s.length = d.1.length)
      (fun s _ => by rw [w_impl_FlushDisk_4]; simp only [S_impl_FlushDisk_4, lt_cast, Nat.lt_irrefl, decide_false, cond_false])
      (fun i hi s hs => by
        refine ⟨by rw [setPut_len]; exact hs, ?_⟩
        have hp := (k4 d.2[i] (List.getElem_mem hi)).1
        have hg : gIdx (d.2[i]).1 s.length = true := by simp [gIdx, hs, hp.1, hp.2]
        rw [w_impl_FlushDisk_4]; simp only [S_impl_FlushDisk_4, lt_cast, hi, decide_true, cond_true, gIdx_nat hi, Int.toNat_natCast, rdL_get (t := YPut) hi, hg]
        rw [wrap_succ (by omega)]
        rfl) d.1 rfl
    simp only [cond_true, L, Option.bind_some, if_true]

/-! ### A crash -/
/-- Whether a write that waits is kept. -/
def kept (keep : List Int) (i : Nat) : Bool := decide (i < keep.length) && !decide (Int.tmod (rdL (Ty.int .i64) keep i) 2 = 0)
def lastKept (keep : List Int) : Nat → Int
  | 0 => -1
  | n + 1 => if kept keep n then (n : Int) else lastKept keep n
def tearOf (tear : Int) : Nat := (if Int.tmod tear 65 < 0 then Int.tmod tear 65 + 65 else Int.tmod tear 65).toNat
def crashStep (d : DiskT) (keep : List Int) (last : Int) (n : Nat) (s : List ByteArray) (i : Nat) : List ByteArray :=
  if kept keep i then
    (if (i : Int) = last then setPut s ((rdL YPut d.2 i).1, (rdL YPut d.2 i).2.extract 0 n ++ (rdL Ty.str s (rdL YPut d.2 i).1.toNat).extract n (rdL Ty.str s (rdL YPut d.2 i).1.toNat).size)
     else setPut s (rdL YPut d.2 i))
  else s
def crash (d : DiskT) (keep : List Int) (tear : Int) : DiskT :=
  if diskOk d then ((List.range d.2.length).foldl (crashStep d keep (lastKept keep d.2.length) (tearOf tear)) d.1, []) else d

theorem tear_rng (tear : Int) : tearOf tear ≤ 64 ∧ ((tearOf tear : Nat) : Int) = (if Int.tmod tear 65 < 0 then Int.tmod tear 65 + 65 else Int.tmod tear 65) := by
  have h1 : Int.tmod tear 65 < 65 := Int.tmod_lt_of_pos _ (by omega)
  have h2 : -65 < Int.tmod tear 65 := by
    have := Int.lt_tmod_of_pos tear (show (0 : Int) < 65 by omega)
    exact this
  unfold tearOf
  split <;> omega

theorem lastKept_lt (keep : List Int) : ∀ n, lastKept keep n < (n : Int) ∧ -1 ≤ lastKept keep n
  | 0 => by simp [lastKept]
  | n + 1 => by
    have := lastKept_lt keep n
    unfold lastKept
    split <;> omega

theorem lastKept_max (keep : List Int) : ∀ n i, i < n → kept keep i = true → (i : Int) ≤ lastKept keep n
  | 0, i, h, _ => by omega
  | n + 1, i, h, hk => by
    unfold lastKept
    split
    · omega
    · rename_i hn
      have : i ≠ n := fun z => by subst z; exact hn hk
      exact lastKept_max keep n i (by omega) hk

theorem lastKept_kept (keep : List Int) : ∀ n (i : Nat), lastKept keep n = (i : Int) → kept keep i = true
  | 0, i, h => by simp [lastKept] at h
  | n + 1, i, h => by
    unfold lastKept at h
    split at h
    · rename_i hk
      have : n = i := by omega
      subst this; exact hk
    · exact lastKept_kept keep n i h

theorem lastKept_top (keep : List Int) (m : Nat) (hm : keep.length ≤ m) : ∀ n, m ≤ n → lastKept keep n = lastKept keep m := by
  intro n
  induction n with
  | zero => intro h; have : m = 0 := by omega
            rw [this]
  | succ n ih =>
    intro h
    by_cases e : m = n + 1
    · rw [e]
    · rw [← ih (by omega)]
      show (if kept keep n then (n : Int) else lastKept keep n) = _
      have : kept keep n = false := by
        unfold kept
        have : decide (n < keep.length) = false := by simp; omega
        rw [this]; rfl
      rw [this, if_neg (by simp)]

theorem range_snoc_fold {α : Type} (f : α → Nat → α) (a : α) (n : Nat) : (List.range (n + 1)).foldl f a = f ((List.range n).foldl f a) n := by
  rw [List.range_succ, List.foldl_append]; rfl

/-- A loop over numbers that keeps something. -/
theorem W_count {X R A : Type} (W : X → Option R) (n : Nat) (mk : A → Int → X) (v : Nat → A) (r : R) (hend : W (mk (v n) (n : Int)) = some r)
    (hstep : ∀ i, i < n → W (mk (v i) (i : Int)) = W (mk (v (i + 1)) ((i + 1 : Nat) : Int))) : W (mk (v 0) 0) = some r := by
  have := W_nat W n (fun (_ : Unit) i => mk (v i.toNat) i) (fun _ _ => r) (fun _ _ => True) (fun _ _ => by simpa using hend) (fun i a hi _ => .inr ⟨(), trivial, rfl, by
    have h := hstep i hi
    have e : ((i : Int) + 1).toNat = i + 1 := by omega
    simp only [Int.toNat_natCast]
    exact h⟩) 0 () (Nat.zero_le _) trivial
  simpa using this

section
variable {d : DiskT} (hk : diskOk d = true) (keep : List Int)

include hk in
theorem crashStep_inv {n : Nat} (hn : n ≤ 64) {last : Int} {s : List ByteArray} (hs : s.length = d.1.length ∧ ∀ x ∈ s, x.size = 64) {i : Nat} (hi : i < d.2.length) :
    (crashStep d keep last n s i).length = d.1.length ∧ ∀ x ∈ crashStep d keep last n s i, x.size = 64 := by
  obtain ⟨k1, k2, k3, k4⟩ := diskOk_iff.mp hk
  have hp := k4 d.2[i] (List.getElem_mem hi)
  have hat : (d.2[i]).1.toNat < s.length := by omega
  have hold : (rdL Ty.str s (d.2[i]).1.toNat).size = 64 := by
    have e : rdL Ty.str s (d.2[i]).1.toNat = s[(d.2[i]).1.toNat] := rdL_get (t := Ty.str) hat
    rw [e]
    exact hs.2 _ (List.getElem_mem hat)
  unfold crashStep
  rw [rdL_get (t := YPut) hi]
  split
  · split
    · refine ⟨by rw [setPut_len]; exact hs.1, fun x hx => ?_⟩
      rcases List.mem_or_eq_of_mem_set hx with hx | rfl
      · exact hs.2 x hx
      · simp only [ByteArray.size_append, ByteArray.size_extract]
        rw [hp.2, hold]
        omega
    · refine ⟨by rw [setPut_len]; exact hs.1, fun x hx => ?_⟩
      rcases List.mem_or_eq_of_mem_set hx with hx | rfl
      · exact hs.2 x hx
      · exact hp.2
  · exact hs

def crashS (d : DiskT) (keep : List Int) (last : Int) (n i : Nat) : List ByteArray := (List.range i).foldl (crashStep d keep last n) d.1
theorem crashS_succ {last : Int} {n i : Nat} : crashS d keep last n (i + 1) = crashStep d keep last n (crashS d keep last n i) i := range_snoc_fold _ _ _

include hk in
theorem crashS_inv {n : Nat} (hn : n ≤ 64) {last : Int} : ∀ i, i ≤ d.2.length → (crashS d keep last n i).length = d.1.length ∧ ∀ x ∈ crashS d keep last n i, x.size = 64
  | 0, _ => ⟨rfl, (diskOk_iff.mp hk).2.2.1⟩
  | i + 1, h => by
    rw [crashS_succ]
    exact crashStep_inv hk keep hn (crashS_inv hn i (by omega)) (by omega)

theorem crashS_top {last : Int} {n L N : Nat} (h : ∀ i, L ≤ i → i < N → kept keep i = false) : ∀ m, L ≤ m → m ≤ N → crashS d keep last n m = crashS d keep last n L := by
  intro m
  induction m with
  | zero => intro h _; have : L = 0 := by omega
            rw [this]
  | succ m ih =>
    intro hm hN
    by_cases e : L = m + 1
    · rw [e]
    · rw [crashS_succ, ih (by omega) (by omega)]
      unfold crashStep
      rw [h m (by omega) (by omega), if_neg (by simp)]

include hk

theorem crash_ok (tear : Int) : diskOk (crash d keep tear) = true ∧ (crash d keep tear).2 = [] ∧ (crash d keep tear).1.length = d.1.length := by
  unfold crash
  rw [if_pos hk]
  have := crashS_inv hk keep (tear_rng tear).1 (last := lastKept keep d.2.length) d.2.length (Nat.le_refl _)
  have k1 := (diskOk_iff.mp hk).1
  have hl : (crashS d keep (lastKept keep d.2.length) (tearOf tear) d.2.length).length = d.1.length := this.1
  show diskOk (crashS d keep (lastKept keep d.2.length) (tearOf tear) d.2.length, []) = true ∧ _
  exact ⟨diskOk_iff.mpr ⟨by simp only [hl]; exact k1, by simp, this.2, fun p hp => by cases hp⟩, rfl, hl⟩

theorem last_impl (tear : Int) (jk out : DiskT) : W_impl_CrashDisk_7 (keep, tear, d, jk, out, -1, (d.2.length : Int), 0) = some (.inl (keep, tear, d, jk, out, lastKept keep d.2.length)) := by
  have k2 := (diskOk_iff.mp hk).2.1
  refine W_count W_impl_CrashDisk_7 d.2.length (fun l i => (keep, tear, d, jk, out, l, (d.2.length : Int), i)) (lastKept keep) _ ?_ (fun i hi => ?_)
  · rw [w_impl_CrashDisk_7]; simp only [S_impl_CrashDisk_7, lt_cast, Nat.lt_irrefl, decide_false, cond_false]
  · rw [w_impl_CrashDisk_7]; simp only [S_impl_CrashDisk_7, lt_cast, hi, decide_true, cond_true, Int.toNat_natCast]
    rw [wrap_succ (by omega)]
    show _ = W_impl_CrashDisk_7 (keep, tear, d, jk, out, (if kept keep i then (i : Int) else lastKept keep i), (d.2.length : Int), ((i + 1 : Nat) : Int))
    unfold kept
    by_cases h : i < keep.length
    · simp only [h, decide_true, cond_true, gIdx_nat h, Bool.true_and, Option.bind_some]
      cases decide (Int.tmod (rdL (Ty.int .i64) keep i) 2 = 0) <;> rfl
    · simp only [h, decide_false, cond_false, Bool.false_and, Option.bind_some]
      rfl

theorem last_spec (tear : Int) (jk out : DiskT) : W_spec_CrashDisk_6 (keep, tear, d, jk, out, -1, 0) = some (.inl (keep, tear, d, jk, out, lastKept keep d.2.length)) := by
  have k2 := (diskOk_iff.mp hk).2.1
  obtain ⟨m, hm⟩ : ∃ m, m = min d.2.length keep.length := ⟨_, rfl⟩
  have htop : lastKept keep d.2.length = lastKept keep m := by
    by_cases h : keep.length ≤ d.2.length
    · exact lastKept_top keep m (by omega) d.2.length (by omega)
    · have : m = d.2.length := by omega
      rw [this]
  rw [htop]
  refine W_count W_spec_CrashDisk_6 m (fun l i => (keep, tear, d, jk, out, l, i)) (lastKept keep) _ ?_ (fun i hi => ?_)
  · rw [w_spec_CrashDisk_6]; simp only [S_spec_CrashDisk_6, lt_cast]
    by_cases h : m < d.2.length
    · have : ¬ m < keep.length := by omega
      simp only [h, this, decide_true, decide_false, cond_true, cond_false, Option.bind_some]
    · simp only [h, decide_false, cond_false, Option.bind_some]
  · have h1 : i < d.2.length := by omega
    have h2 : i < keep.length := by omega
    rw [w_spec_CrashDisk_6]; simp only [S_spec_CrashDisk_6, lt_cast, h1, h2, decide_true, cond_true, Option.bind_some, gIdx_nat h2, Int.toNat_natCast]
    rw [wrap_succ (by omega)]
    show _ = W_spec_CrashDisk_6 (keep, tear, d, jk, out, (if kept keep i then (i : Int) else lastKept keep i), ((i + 1 : Nat) : Int))
    unfold kept
    simp only [h2, decide_true, Bool.true_and]
    cases decide (Int.tmod (rdL (Ty.int .i64) keep i) 2 = 0) <;> rfl

theorem go_crash_impl {n : Nat} (hn : n ≤ 64) (jk : DiskT) : W_impl_CrashDisk_16 (keep, jk, (d.1, []), lastKept keep d.2.length, (n : Int), d.2, (d.2.length : Int), 0) = some (.inl (jk, (crashS d keep (lastKept keep d.2.length) n d.2.length, []))) := by
  obtain ⟨k1, k2, k3, k4⟩ := diskOk_iff.mp hk
  refine W_count W_impl_CrashDisk_16 d.2.length (fun s i => (keep, jk, (s, []), lastKept keep d.2.length, (n : Int), d.2, (d.2.length : Int), i)) (crashS d keep (lastKept keep d.2.length) n) _ ?_ (fun i hi => ?_)
  · rw [w_impl_CrashDisk_16]; simp only [S_impl_CrashDisk_16, lt_cast, Nat.lt_irrefl, decide_false, cond_false]
  · obtain ⟨i1, i2⟩ := crashS_inv hk keep hn (last := lastKept keep d.2.length) i (by omega)
    have hp := k4 d.2[i] (List.getElem_mem hi)
    rw [crashS_succ]
    generalize hS : crashS d keep (lastKept keep d.2.length) n i = S at *
    have hat : (d.2[i]).1.toNat < S.length := by omega
    have hg : gIdx (d.2[i]).1 S.length = true := by simp [gIdx, i1, hp.1.1, hp.1.2]
    have hold : (rdL Ty.str S (d.2[i]).1.toNat).size = 64 := by
      have e : rdL Ty.str S (d.2[i]).1.toNat = S[(d.2[i]).1.toNat] := rdL_get (t := Ty.str) hat
      rw [e]
      exact i2 _ (List.getElem_mem hat)
    have c1 : (decide ((0 : Int) ≤ 0) && decide ((0 : Int) ≤ (n : Int)) && decide ((n : Int) ≤ ((d.2[i]).2.size : Int))) = true := by simp; omega
    have c2 : (decide ((0 : Int) ≤ (n : Int)) && decide ((n : Int) ≤ ((rdL Ty.str S (d.2[i]).1.toNat).size : Int)) && decide (((rdL Ty.str S (d.2[i]).1.toNat).size : Int) ≤ ((rdL Ty.str S (d.2[i]).1.toNat).size : Int))) = true := by simp; omega
    have c3 : decide (((d.2[i]).2.extract 0 n).size + ((rdL Ty.str S (d.2[i]).1.toNat).extract n (rdL Ty.str S (d.2[i]).1.toNat).size).size ≤ 140737488355328) = true := by simp only [ByteArray.size_extract, decide_eq_true_eq]; omega
    have z0 : ((0 : Int)).toNat = 0 := rfl
    rw [w_impl_CrashDisk_16]; simp only [S_impl_CrashDisk_16, lt_cast, hi, decide_true, cond_true, gIdx_nat hi, Int.toNat_natCast, rdL_get (t := YPut) hi, hg, z0, c3]
    rw [wrap_succ (by omega), c1, c2]
    unfold crashStep
    rw [rdL_get (t := YPut) hi]
    by_cases hl : (i : Int) = lastKept keep d.2.length
    · have := lastKept_kept keep d.2.length i hl.symm
      rw [this]
      simp only [hl, decide_true, cond_true, if_true]
      rfl
    · simp only [hl, decide_false, cond_false, if_false]
      unfold kept
      by_cases h : i < keep.length
      · simp only [h, decide_true, cond_true, gIdx_nat h, Bool.true_and, Option.bind_some]
        cases decide (Int.tmod (rdL (Ty.int .i64) keep i) 2 = 0) <;> rfl
      · simp only [h, decide_false, cond_false, Bool.false_and, Option.bind_some]
        rfl

theorem go_crash_spec {n : Nat} (hn : n ≤ 64) (jk : DiskT) : W_spec_CrashDisk_14 (keep, d, jk, (d.1, d.2), lastKept keep d.2.length, (n : Int), 0) = some (.inl (jk, (crashS d keep (lastKept keep d.2.length) n d.2.length, d.2))) := by
  obtain ⟨k1, k2, k3, k4⟩ := diskOk_iff.mp hk
  obtain ⟨hl1, hl2⟩ := lastKept_lt keep d.2.length
  obtain ⟨L, hL⟩ : ∃ L : Nat, (L : Int) = lastKept keep d.2.length + 1 := ⟨(lastKept keep d.2.length + 1).toNat, by omega⟩
  have htop : crashS d keep (lastKept keep d.2.length) n d.2.length = crashS d keep (lastKept keep d.2.length) n L := crashS_top keep (N := d.2.length) (fun i hi hid => by
    cases q : kept keep i with
    | false => rfl
    | true =>
      have := lastKept_max keep d.2.length i hid q
      omega) _ (by omega) (Nat.le_refl _)
  rw [htop]
  refine W_count W_spec_CrashDisk_14 L (fun s i => (keep, d, jk, (s, d.2), lastKept keep d.2.length, (n : Int), i)) (crashS d keep (lastKept keep d.2.length) n) _ ?_ (fun i hi => ?_)
  · have : ¬ (L : Int) ≤ lastKept keep d.2.length := by omega
    rw [w_spec_CrashDisk_14]; simp only [S_spec_CrashDisk_14, this, decide_false, cond_false]
  · have hid : i < d.2.length := by omega
    have hle : (i : Int) ≤ lastKept keep d.2.length := by omega
    have hkk : i < keep.length := by
      obtain ⟨l, hl⟩ : ∃ l : Nat, lastKept keep d.2.length = (l : Int) := ⟨(lastKept keep d.2.length).toNat, by omega⟩
      have := lastKept_kept keep d.2.length l hl
      unfold kept at this
      simp only [Bool.and_eq_true, decide_eq_true_eq] at this
      omega
    obtain ⟨i1, i2⟩ := crashS_inv hk keep hn (last := lastKept keep d.2.length) i (by omega)
    have hp := k4 d.2[i] (List.getElem_mem hid)
    rw [crashS_succ]
    generalize hS : crashS d keep (lastKept keep d.2.length) n i = S at *
    have hat : (d.2[i]).1.toNat < S.length := by omega
    have hg : gIdx (d.2[i]).1 S.length = true := by simp [gIdx, i1, hp.1.1, hp.1.2]
    have hold : (rdL Ty.str S (d.2[i]).1.toNat).size = 64 := by
      have e : rdL Ty.str S (d.2[i]).1.toNat = S[(d.2[i]).1.toNat] := rdL_get (t := Ty.str) hat
      rw [e]
      exact i2 _ (List.getElem_mem hat)
    have c1 : (decide ((0 : Int) ≤ 0) && decide ((0 : Int) ≤ (n : Int)) && decide ((n : Int) ≤ ((d.2[i]).2.size : Int))) = true := by simp; omega
    have c2 : (decide ((0 : Int) ≤ (n : Int)) && decide ((n : Int) ≤ ((rdL Ty.str S (d.2[i]).1.toNat).size : Int)) && decide (((rdL Ty.str S (d.2[i]).1.toNat).size : Int) ≤ ((rdL Ty.str S (d.2[i]).1.toNat).size : Int))) = true := by simp; omega
    have c3 : decide (((d.2[i]).2.extract 0 n).size + ((rdL Ty.str S (d.2[i]).1.toNat).extract n (rdL Ty.str S (d.2[i]).1.toNat).size).size ≤ 140737488355328) = true := by simp only [ByteArray.size_extract, decide_eq_true_eq]; omega
    have z0 : ((0 : Int)).toNat = 0 := rfl
    rw [w_spec_CrashDisk_14]; simp only [S_spec_CrashDisk_14, hle, decide_true, cond_true, gIdx_nat hid, gIdx_nat hkk, Int.toNat_natCast, rdL_get (t := YPut) hid, hg, z0, c3]
    rw [wrap_succ (by omega), c1, c2]
    unfold crashStep kept
    rw [rdL_get (t := YPut) hid]
    simp only [hkk, decide_true, Bool.true_and]
    by_cases ho : Int.tmod (rdL (Ty.int .i64) keep i) 2 = 0
    · simp only [ho, decide_true, cond_true, Bool.not_true, Bool.false_eq_true, if_false]
    · simp only [ho, decide_false, cond_false, Bool.not_false, if_true]
      by_cases hl : (i : Int) = lastKept keep d.2.length
      · simp only [hl, decide_true, cond_true, if_true]
        rfl
      · simp only [hl, decide_false, cond_false, if_false]
        rfl
end

theorem CrashDisk_spec (d : DiskT) (keep : List Int) (tear : Int) (hd : YDisk.wt d ≤ 1073741824) : q_spec_CrashDisk (d, keep, tear) = some (crash d keep tear) := by
  rw [e_spec_CrashDisk]; unfold X_spec_CrashDisk crash
  simp only [Copy_spec d (by unfold big40; omega), DiskOk_spec d (by unfold big40; omega), Option.bind_some]
  cases hk : diskOk d with
  | false => rfl
  | true =>
    obtain ⟨t1, t2⟩ := tear_rng tear
    have L1 := last_spec hk keep tear ([], []) d
    have L2 := go_crash_spec hk keep t1 ([], [])
    rw [t2] at L2
    have hb : -65 < Int.tmod tear 65 := Int.lt_tmod_of_pos tear (show (0 : Int) < 65 by omega)
    simp only [Bool.not_true, cond_false, L1, Option.bind_some, if_true]
    by_cases h : Int.tmod tear 65 < 0
    · rw [if_pos h] at L2
      have w : IntKind.i64.wrap (IntKind.i64.wrap (Int.tmod tear 65 + 64) + 1) = Int.tmod tear 65 + 65 := by
        rw [wrap64 (n := Int.tmod tear 65 + 64) (by omega) (by omega), wrap64 (by omega) (by omega)]; omega
      simp only [h, decide_true, cond_true, w, L2, Option.bind_some]
      rfl
    · rw [if_neg h] at L2
      simp only [h, decide_false, cond_false, L2, Option.bind_some]
      rfl

theorem CrashDisk_impl (d : DiskT) (keep : List Int) (tear : Int) (hd : YDisk.wt d ≤ 1073741824) : q_impl_CrashDisk (d, keep, tear) = some (crash d keep tear) := by
  rw [e_impl_CrashDisk]; unfold X_impl_CrashDisk crash
  simp only [Copy_impl d (by unfold big40; omega), DiskOk_impl d (by unfold big40; omega), Option.bind_some]
  cases hk : diskOk d with
  | false => rfl
  | true =>
    obtain ⟨t1, t2⟩ := tear_rng tear
    have L1 := last_impl hk keep tear ([], []) (d.1, [])
    have L2 := go_crash_impl hk keep t1 ([], [])
    rw [t2] at L2
    have hb : -65 < Int.tmod tear 65 := Int.lt_tmod_of_pos tear (show (0 : Int) < 65 by omega)
    simp only [Bool.not_true, cond_false, L1, Option.bind_some, if_true]
    by_cases h : Int.tmod tear 65 < 0
    · rw [if_pos h] at L2
      have w : IntKind.i64.wrap (Int.tmod tear 65 + 65) = Int.tmod tear 65 + 65 := wrap64 (by omega) (by omega)
      simp only [h, decide_true, cond_true, w, L2, Option.bind_some]
      rfl
    · rw [if_neg h] at L2
      simp only [h, decide_false, cond_false, L2, Option.bind_some]
      rfl

theorem crash_wt (d : DiskT) (keep : List Int) (tear : Int) (h : YDisk.wt d ≤ 1073741824) : YDisk.wt (crash d keep tear) ≤ 1073741824 := by
  cases hk : diskOk d with
  | true => exact Nat.le_trans (diskOk_wt (crash_ok hk keep tear).1) (by omega)
  | false => unfold crash; rw [hk, if_neg (by simp)]; exact h

end Go.Proofs.Ythhpkgegmfjdmaa.Ab
namespace Go.Proofs.Ythhpkgegmfjdmaa.Ab
open Go
set_option linter.unusedVariables false
set_option linter.unusedSimpArgs false
set_option linter.unnecessarySimpa false
set_option linter.unusedSimpArgs false
set_option linter.unusedVariables false

/-! ### A record begun, counted -/
theorem areaGo_at (t : ByteArray) : ∀ (m : Nat) (at_ : Int) (acc : List ByteArray), 0 ≤ at_ ∧ at_ ≤ t.size → 0 ≤ (areaGo t m at_ acc).2.1 ∧ (areaGo t m at_ acc).2.1 ≤ t.size
  | 0, at_, acc, h => h
  | m + 1, at_, acc, h => by
    unfold areaGo
    split
    · rename_i hc
      simp only [Bool.and_eq_true] at hc
      exact areaGo_at t m _ _ (readShort_ok hc.1)
    · simp
theorem readArea_at (d : DiskT) (a : Int) : 0 ≤ (readArea d a).2.1 ∧ (readArea d a).2.1 ≤ (100 * YDisk.wt d : Nat) := by
  unfold readArea
  split
  · have h1 := areaGo_at (secText d (areaFirst a + 1) 47).1 (countIn d a).toNat 0 [] (by simp)
    have h2 := secText_size d (areaFirst a + 1) 47
    omega
  · simp only [Int.le_refl, true_and]
    omega

def shortOf (t : ByteArray) : ByteArray := strI (varB t.size) ++ t
theorem shortOf_size (t : ByteArray) : t.size ≤ (shortOf t).size ∧ (shortOf t).size ≤ 2 * t.size + 1 := by
  unfold shortOf
  rw [ByteArray.size_append, strI_size]
  have := varB_len t.size
  omega
theorem shortOf_pos (t : ByteArray) (h : t.size ≠ 0) : (shortOf t).size ≠ 0 := by
  have := shortOf_size t
  omega

def begin_ (d : DiskT) (a : Int) (t : ByteArray) : Option DiskT :=
  if (readArea d a).2.2 = false ∨ t.size = 0 ∨ 3008 < t.size ∨ 255 ≤ countIn d a ∨ 3008 < (readArea d a).2.1 + ((shortOf t).size : Int) then none
  else writeBytes d (areaFirst a + 1) (readArea d a).2.1 (shortOf t)

theorem l04Begin_ok (d : DiskT) (a : Int) (t : ByteArray) (hd : YDisk.wt d ≤ 10000000) (ht : t.size ≤ 1048576) : q_spec_l04Begin (d, a, t) = some (orD d (begin_ d a t)) := by
  have hr := readArea_at d a
  have hs := shortOf_size t
  have ha := areaFirst_le a
  rw [e_spec_l04Begin]; unfold X_spec_l04Begin begin_
  simp only [ReadArea_spec d a (by omega), Copy_spec d (by unfold big40; omega), CountIn_spec d a (by unfold big40; omega), l01Var_ok t.size (by omega), AreaFirst_spec, Option.bind_some, size_zero_eq]
  have e1 : decide ((t.size : Int) > (3008 : Int)) = decide (3008 < t.size) := by simp only [decide_eq_decide]; omega
  have w1 : IntKind.i64.wrap ((3008 : Int) - (readArea d a).2.1) = 3008 - (readArea d a).2.1 := wrap64 (by omega) (by omega)
  have w2 : IntKind.i64.wrap (areaFirst a + 1) = areaFirst a + 1 := wrap64 (by omega) (by omega)
  rw [e1]
  cases h1 : (readArea d a).2.2 with
  | false => simp [orD]
  | true =>
    by_cases h2 : t.size = 0
    · simp [h2, orD]
    · by_cases h3 : 3008 < t.size
      · simp [h2, h3, orD]
      · by_cases h4 : 255 ≤ countIn d a
        · have : decide (countIn d a ≥ 255) = true := by simpa using h4
          simp [h2, h3, h4, orD]
        · have e4 : decide (countIn d a ≥ 255) = false := by simp; omega
          have c : decide ((strI (varB t.size)).size + t.size ≤ 140737488355328) = true := by
            have h5 : (shortOf t).size = (strI (varB t.size)).size + t.size := by unfold shortOf; rw [ByteArray.size_append]
            simp; omega
          simp only [h2, h3, decide_false, Bool.not_true, cond_false, Option.bind_some, e4, c, cond_true, w1, w2]
          have hsz : strI (varB t.size) ++ t = shortOf t := rfl
          rw [hsz]
          by_cases h6 : 3008 < (readArea d a).2.1 + ((shortOf t).size : Int)
          · have : decide (((shortOf t).size : Int) > 3008 - (readArea d a).2.1) = true := by simp; omega
            simp [this, h6, orD]
          · have : decide (((shortOf t).size : Int) > 3008 - (readArea d a).2.1) = false := by simp; omega
            simp only [this, cond_false, WriteBytes_spec d (areaFirst a + 1) (readArea d a).2.1 (shortOf t) (by omega) (by omega), Option.bind_some]
            rw [if_neg (by simp [h2, h3, h6]; omega)]

theorem ShortText_ok (t : ByteArray) (ht : t.size ≤ 1048576) : q_impl_ShortText t = some (if 20000 < t.size then (emp, false) else (shortOf t, true)) := by
  rw [e_impl_ShortText]; unfold X_impl_ShortText
  have e1 : decide ((t.size : Int) > (20000 : Int)) = decide (20000 < t.size) := by simp only [decide_eq_decide]; omega
  rw [e1]
  by_cases h : 20000 < t.size
  · simp only [h, decide_true, cond_true, if_true]; rfl
  · have c : decide ((strI (varB t.size)).size + t.size ≤ 140737488355328) = true := by
      rw [strI_size]
      have := varB_len t.size
      simp; omega
    have hv : (0 : Int) ≤ (t.size : Int) ∧ (t.size : Int) ≤ 1000000000 := by omega
    simp only [h, decide_false, cond_false, VarText_impl, if_pos hv, Option.bind_some, Int.toNat_natCast, c, cond_true, if_false]
    rfl

theorem putText_ok (d : DiskT) (a : Int) (t : ByteArray) (hd : YDisk.wt d ≤ 10000000) (ht : t.size ≤ 1048576) : q_impl_putText (d, a, t) = some (orD d (if logOk d then begin_ d a t else none)) := by
  have hr := readArea_at d a
  have hs := shortOf_size t
  have ha := areaFirst_le a
  have hcl := countIn_le d a
  rw [e_impl_putText]; unfold X_impl_putText begin_
  simp only [ReadArea_impl d a (by omega), Copy_impl d (by unfold big40; omega), CountIn_impl d a (by unfold big40; omega), LogOk_impl d (by omega), ShortText_ok t ht, AreaFirst_impl, Option.bind_some, size_zero_eq]
  cases hl : logOk d with
  | false => simp [orD]
  | true =>
    cases h1 : (readArea d a).2.2 with
    | false => simp [orD]
    | true =>
      by_cases h0 : 20000 < t.size
      · have : 3008 < t.size := by omega
        simp [h0, this, orD]
      · by_cases h2 : t.size = 0
        · simp [h0, h2, orD]
        · have w1 : IntKind.i64.wrap ((readArea d a).2.1 + ((shortOf t).size : Int)) = (readArea d a).2.1 + ((shortOf t).size : Int) := wrap64 (by omega) (by omega)
          have w2 : IntKind.i64.wrap (areaFirst a + 1) = areaFirst a + 1 := wrap64 (by omega) (by omega)
          simp only [h0, h2, if_false, decide_false, Bool.not_true, cond_false, Option.bind_some, w1, w2, if_true]
          by_cases h6 : 3008 < (readArea d a).2.1 + ((shortOf t).size : Int)
          · have : decide ((readArea d a).2.1 + ((shortOf t).size : Int) > 3008) = true := by simpa using h6
            simp [this, h6, orD]
          · have e6 : decide ((readArea d a).2.1 + ((shortOf t).size : Int) > 3008) = false := by simp; omega
            have h3 : ¬ 3008 < t.size := by omega
            by_cases h4 : 255 ≤ countIn d a
            · have : decide (countIn d a = 255) = true := by simp; omega
              simp [e6, this, h4, orD]
            · have e4 : decide (countIn d a = 255) = false := by simp; omega
              simp only [e6, cond_false, e4, Option.bind_some, WriteBytes_impl d (areaFirst a + 1) (readArea d a).2.1 (shortOf t) (by omega) (by omega) (shortOf_pos t h2)]
              rw [if_neg (by simp [h2, h3, h6]; omega)]

def countB (n : Int) : ByteArray := strI [IntKind.u8.wrap n]
theorem countB_size (n : Int) : (countB n).size = 1 := by unfold countB; rw [strI_size]; rfl
def count_ (d : DiskT) (a n : Int) : Option DiskT := writeBytes d (areaFirst a) 0 (countB n)

theorem l04Count_ok (d : DiskT) (a n : Int) (hd : YDisk.wt d ≤ 1073741824) : q_spec_l04Count (d, a, n) = some (orD d (count_ d a n)) := by
  rw [e_spec_l04Count]; unfold X_spec_l04Count
  have h1 : q_spec_l04One n = some (countB n) := by rw [e_spec_l04One]; rfl
  simp only [AreaFirst_spec, h1, Option.bind_some, WriteBytes_spec d (areaFirst a) 0 (countB n) hd (by rw [countB_size]; omega)]
  rfl

theorem putCount_ok (d : DiskT) (a n : Int) (hd : YDisk.wt d ≤ 1073741824) : q_impl_putCount (d, a, n) = some (orD d (count_ d a n)).1 := by
  rw [e_impl_putCount]; unfold X_impl_putCount
  have h1 : strI [IntKind.u8.wrap n] = countB n := rfl
  simp only [AreaFirst_impl, h1, Option.bind_some, WriteBytes_impl d (areaFirst a) 0 (countB n) hd (by rw [countB_size]; omega) (by rw [countB_size]; omega)]
  rfl

/-! ### What a write leaves -/
theorem wbGo_ok : ∀ {f : Nat} {d x : DiskT} {k at_ : Nat} {t : ByteArray}, wbGo f d k at_ t = some x → (diskOk d = true → diskOk x = true) ∧ x.1 = d.1 ∧ (t.size ≠ 0 → 0 < f → diskOk x = true)
  | 0, d, x, k, at_, t, h => by cases h; exact ⟨id, rfl, fun _ h => by omega⟩
  | f + 1, d, x, k, at_, t, h => by
    rw [wbGo] at h
    split at h
    · rename_i hz
      cases h; exact ⟨id, rfl, fun hne => absurd hz hne⟩
    · split at h
      · cases hw : writeSec d (k : Int) ((readSec d (k : Int)).1.extract 0 at_ ++ t.extract 0 (min t.size (64 - at_)) ++ (readSec d (k : Int)).1.extract (at_ + min t.size (64 - at_)) 64) with
        | none => rw [hw] at h; cases h
        | some y =>
          rw [hw] at h
          simp only [Option.bind_some] at h
          obtain ⟨k1, k2⟩ := writeSec_ok hw
          obtain ⟨i1, i2, _⟩ := wbGo_ok h
          exact ⟨fun _ => i1 k1, by rw [i2, k2], fun _ _ => i1 k1⟩
      · cases h

theorem writeBytes_ok {d x : DiskT} {s at_ : Int} {t : ByteArray} (h : writeBytes d s at_ t = some x) : diskOk d = true ∧ diskOk x = true ∧ x.1 = d.1 := by
  unfold writeBytes at h
  split at h
  · rename_i hc
    simp only [Bool.and_eq_true] at hc
    obtain ⟨i1, i2, _⟩ := wbGo_ok h
    exact ⟨hc.2, i1 hc.2, i2⟩
  · cases h

theorem begin_ok {d x : DiskT} {a : Int} {t : ByteArray} (h : begin_ d a t = some x) : diskOk d = true ∧ diskOk x = true ∧ x.1 = d.1 ∧ (readArea d a).2.2 = true := by
  unfold begin_ at h
  split at h
  · cases h
  · rename_i hc
    have := writeBytes_ok h
    simp only [not_or] at hc
    exact ⟨this.1, this.2.1, this.2.2, by simpa using hc.1⟩

/-- One byte at the beginning of a sector of a right disk where nothing waits. -/
theorem oneByte {d : DiskT} (hk : diskOk d = true) (h2 : d.2 = []) {s : Int} (h0 : 0 ≤ s) (h1 : s < (d.1.length : Int)) {b : ByteArray} (hb : b.size = 1) :
    writeBytes d s 0 b = some (d.1, [(s, b ++ (rdL Ty.str d.1 s.toNat).extract 1 64)]) := by
  obtain ⟨k1, k2, k3, k4⟩ := diskOk_iff.mp hk
  have hlt : s.toNat < d.1.length := by omega
  have hold : (rdL Ty.str d.1 s.toNat).size = 64 := by
    have e : rdL Ty.str d.1 s.toNat = d.1[s.toNat] := rdL_get (t := Ty.str) hlt
    rw [e]
    exact k3 _ (List.getElem_mem hlt)
  have hs : ((s.toNat : Nat) : Int) = s := by omega
  have hrd : readSec d s = (rdL Ty.str d.1 s.toNat, true) := by
    unfold readSec
    rw [if_pos ⟨h0, h1⟩, h2]
    rfl
  have c : (isIn 0 0 6400 && isIn s 0 ((d.1.length : Int) - 1) && diskOk d) = true := by
    rw [hk]
    simp [isIn]
    omega
  have e1 : (rdL Ty.str d.1 s.toNat).extract 0 0 = ByteArray.empty := by
    apply ByteArray.ext
    simp
  have e2 : b.extract 0 1 = b := by rw [← hb]; exact ByteArray.extract_zero_size
  have hw : writeSec d s (b ++ (rdL Ty.str d.1 s.toNat).extract 1 64) = some (d.1, [(s, b ++ (rdL Ty.str d.1 s.toNat).extract 1 64)]) := by
    unfold writeSec
    rw [diskOk_snoc, hk, h2]
    have : isIn s 0 ((d.1.length : Int) - 1) = true := by simp [isIn]; omega
    rw [this]
    have hz : (b ++ (rdL Ty.str d.1 s.toNat).extract 1 64).size = 64 := by
      rw [ByteArray.size_append, ByteArray.size_extract, hb, hold]; omega
    simp [hz]
  unfold writeBytes
  rw [if_pos c]
  have z : (0 : Int).toNat = 0 := rfl
  simp only [z, Nat.zero_div, Nat.zero_mod, Nat.add_zero, hb]
  rw [wbGo, if_neg (by omega)]
  rw [hs, hrd]
  simp only [hold, and_self, if_true, hb]
  have m1 : min 1 (64 - 0) = 1 := by decide
  rw [m1, e1, e2]
  have e3 : ByteArray.empty ++ b ++ (rdL Ty.str d.1 s.toNat).extract (0 + 1) 64 = b ++ (rdL Ty.str d.1 s.toNat).extract 1 64 := by
    rw [ByteArray.empty_append]
  rw [e3, hw]
  simp only [Option.bind_some]
  exact wbGo_nil _ _ _ _ (by rw [ByteArray.size_extract, hb]; decide)

end Go.Proofs.Ythhpkgegmfjdmaa.Ab
namespace Go.Proofs.Ythhpkgegmfjdmaa.Ab
open Go
set_option linter.unusedVariables false
set_option linter.unusedSimpArgs false
set_option linter.unnecessarySimpa false
set_option linter.unusedSimpArgs false
set_option linter.unusedVariables false

/-! ### A record put -/
def count1 (d : DiskT) (a : Int) : Int := IntKind.i64.wrap (countIn d a + 1)
/-- What is written behind the record: the count, and all through. -/
def put_ (d : DiskT) (a : Int) (t : ByteArray) : Option DiskT := (begin_ d a t).map fun x => flush (orD (flush x) (count_ (flush x) a (count1 d a))).1

theorem begin_area {d x : DiskT} {a : Int} {t : ByteArray} (h : begin_ d a t = some x) : isAr a = true := by
  have := (begin_ok h).2.2.2
  unfold readArea at this
  split at this
  · rename_i hc
    simp only [Bool.and_eq_true] at hc
    exact hc.1
  · cases this

theorem areaFirst_in {a : Int} (n : Nat) (hn : n = 97) : 0 ≤ areaFirst a ∧ areaFirst a < (n : Int) := by
  have := areaFirst_le a
  omega

/-- The count goes through where a record went through. -/
theorem count_ok {d x : DiskT} {a n : Int} {t : ByteArray} (hlen : d.1.length = 97) (h : begin_ d a t = some x) : ∃ y, count_ (flush x) a n = some y ∧ diskOk y = true ∧ y.1.length = 97 := by
  obtain ⟨h1, h2, h3, _⟩ := begin_ok h
  obtain ⟨f1, f2, f3⟩ := flush_ok h2
  have hl : (flush x).1.length = 97 := by rw [f3, h3]; exact hlen
  have ha := areaFirst_le a
  have ho := oneByte (s := areaFirst a) f1 f2 (by omega) (by rw [hl]; omega) (countB_size n)
  have := writeBytes_ok ho
  exact ⟨_, ho, this.2.1, by rw [this.2.2]; exact hl⟩

theorem logOk_len {d : DiskT} (h : logOk d = true) : diskOk d = true ∧ d.1.length = 97 ∧ d.2 = [] ∧ (readArea d 0).2.2 = true ∧ (readArea d 1).2.2 = true := by
  unfold logOk at h
  simp only [Bool.and_eq_true, decide_eq_true_eq] at h
  obtain ⟨⟨⟨⟨a, b⟩, c⟩, e⟩, f⟩ := h
  exact ⟨a, b, List.length_eq_zero_iff.mp c, e, f⟩

theorem l04Put_ok (d : DiskT) (a : Int) (t : ByteArray) (hd : YDisk.wt d ≤ 10000000) (ht : t.size ≤ 1048576) (hlen : d.1.length = 97) : q_spec_l04Put (d, a, t) = some (orD d (put_ d a t)) := by
  rw [e_spec_l04Put]; unfold X_spec_l04Put put_
  simp only [l04Begin_ok d a t hd ht, Option.bind_some]
  cases hb : begin_ d a t with
  | none => rfl
  | some x =>
    have hx := diskOk_wt (begin_ok hb).2.1
    have hf := diskOk_wt (flush_ok (begin_ok hb).2.1).1
    obtain ⟨y, hy, hy2, _⟩ := count_ok (n := count1 d a) hlen hb
    have hyw := diskOk_wt hy2
    simp only [orD, Bool.not_true, cond_false, FlushDisk_spec x (by omega), CountIn_spec d a (by unfold big40; omega), Option.bind_some, l04Count_ok (flush x) a _ (by omega)]
    have hc : IntKind.i64.wrap (countIn d a + 1) = count1 d a := rfl
    rw [hc, hy]
    simp only [orD, FlushDisk_spec y (by omega), Option.bind_some, Option.map_some, hy]

theorem PutRecord_spec (d : DiskT) (a : Int) (t : ByteArray) (hd : YDisk.wt d ≤ 10000000) (ht : t.size ≤ 1048576) : q_spec_PutRecord (d, a, t) = some (orD d (if logOk d then put_ d a t else none)) := by
  rw [e_spec_PutRecord]; unfold X_spec_PutRecord
  simp only [LogOk_spec d (by omega), l01In_area, Copy_spec d (by unfold big40; omega), Option.bind_some]
  cases hl : logOk d with
  | false => simp [orD]
  | true =>
    cases ha : isAr a with
    | false =>
      have hn : put_ d a t = none := by
        unfold put_
        cases hb : begin_ d a t with
        | none => rfl
        | some x => rw [begin_area hb] at ha; cases ha
      simp [hn, orD]
    | true =>
      simp only [Bool.not_true, cond_false, Option.bind_some, l04Put_ok d a t hd ht (logOk_len hl).2.1, if_true]
      cases put_ d a t <;> simp [orD]

theorem PutRecord_impl (d : DiskT) (a : Int) (t : ByteArray) (hd : YDisk.wt d ≤ 10000000) (ht : t.size ≤ 1048576) : q_impl_PutRecord (d, a, t) = some (orD d (if logOk d then put_ d a t else none)) := by
  rw [e_impl_PutRecord]; unfold X_impl_PutRecord
  simp only [putText_ok d a t hd ht, Copy_impl d (by unfold big40; omega), Option.bind_some]
  cases hl : logOk d with
  | false => simp [orD]
  | true =>
    simp only [if_true]
    unfold put_
    cases hb : begin_ d a t with
    | none => simp [orD]
    | some x =>
      have hx := diskOk_wt (begin_ok hb).2.1
      have hf := diskOk_wt (flush_ok (begin_ok hb).2.1).1
      obtain ⟨y, hy, hy2, _⟩ := count_ok (n := count1 d a) (logOk_len hl).2.1 hb
      have hyw := diskOk_wt hy2
      simp only [orD, Bool.not_true, cond_false, FlushDisk_impl x (by omega), CountIn_impl d a (by unfold big40; omega), Option.bind_some, putCount_ok (flush x) a _ (by omega)]
      have hc : IntKind.i64.wrap (countIn d a + 1) = count1 d a := rfl
      rw [hc, hy]
      simp only [orD, FlushDisk_impl y (by omega), Option.bind_some, Option.map_some, hy]

def append_ (d : DiskT) (t : ByteArray) : Option DiskT := if logOk d then put_ d (activeOf d) t else none
theorem AppendLog_spec (d : DiskT) (t : ByteArray) (hd : YDisk.wt d ≤ 10000000) (ht : t.size ≤ 1048576) : q_spec_AppendLog (d, t) = some (orD d (append_ d t)) := by
  rw [e_spec_AppendLog]; unfold X_spec_AppendLog append_
  simp only [ActiveOf_spec d (by unfold big40; omega), Option.bind_some, PutRecord_spec d _ t hd ht]
theorem AppendLog_impl (d : DiskT) (t : ByteArray) (hd : YDisk.wt d ≤ 10000000) (ht : t.size ≤ 1048576) : q_impl_AppendLog (d, t) = some (orD d (append_ d t)) := by
  rw [e_impl_AppendLog]; unfold X_impl_AppendLog append_
  simp only [ActiveOf_impl d (by unfold big40; omega), Option.bind_some, PutRecord_impl d _ t hd ht]

theorem put_ok {d y : DiskT} {a : Int} {t : ByteArray} (hlen : d.1.length = 97) (h : put_ d a t = some y) : ∃ x, begin_ d a t = some x ∧ diskOk x = true ∧ diskOk y = true ∧ y.2 = [] ∧ y.1.length = 97 ∧ y = flush (orD (flush x) (count_ (flush x) a (count1 d a))).1 := by
  unfold put_ at h
  cases hb : begin_ d a t with
  | none => rw [hb] at h; cases h
  | some x =>
    rw [hb] at h
    simp only [Option.map_some, Option.some.injEq] at h
    obtain ⟨z, hz, hz2, hz3⟩ := count_ok (n := count1 d a) hlen hb
    rw [hz] at h
    simp only [orD] at h
    obtain ⟨f1, f2, f3⟩ := flush_ok hz2
    rw [← h]
    exact ⟨x, rfl, (begin_ok hb).2.1, f1, f2, by rw [f3]; exact hz3, by rw [hz]; rfl⟩

/-! ### What a cut leaves of what is appended -/
def cutAppend (d : DiskT) (t : ByteArray) (step : Int) (keep : List Int) (tear : Int) : DiskT :=
  match append_ d t with
  | none => d
  | some y =>
    if step = 0 then crash (orD d (begin_ d (activeOf d) t)).1 keep tear
    else if step = 1 then crash (orD (flush (orD d (begin_ d (activeOf d) t)).1) (count_ (flush (orD d (begin_ d (activeOf d) t)).1) (activeOf d) (count1 d (activeOf d)))).1 keep tear
    else y

section
variable {d : DiskT} {t : ByteArray} (hd : YDisk.wt d ≤ 10000000) (ht : t.size ≤ 1048576)
include hd ht

omit hd ht in
theorem append_steps {y : DiskT} (h : append_ d t = some y) : logOk d = true ∧ ∃ x z, begin_ d (activeOf d) t = some x ∧ diskOk x = true ∧ diskOk (flush x) = true ∧ count_ (flush x) (activeOf d) (count1 d (activeOf d)) = some z ∧ diskOk z = true ∧ diskOk y = true := by
  unfold append_ at h
  split at h
  · rename_i hl
    obtain ⟨x, h1, h2, h3, _⟩ := put_ok (logOk_len hl).2.1 h
    obtain ⟨z, hz, hz2, _⟩ := count_ok (n := count1 d (activeOf d)) (logOk_len hl).2.1 h1
    exact ⟨hl, x, z, h1, h2, (flush_ok h2).1, hz, hz2, h3⟩
  · cases h

theorem CutAppend_spec (step : Int) (keep : List Int) (tear : Int) : q_spec_CutAppend (d, t, step, keep, tear) = some (cutAppend d t step keep tear) := by
  rw [e_spec_CutAppend]; unfold X_spec_CutAppend cutAppend
  simp only [AppendLog_spec d t hd ht, Copy_spec d (by unfold big40; omega), ActiveOf_spec d (by unfold big40; omega), CountIn_spec d _ (by unfold big40; omega), Option.bind_some]
  cases ha : append_ d t with
  | none => rfl
  | some y =>
    obtain ⟨hl, x, z, hb, k1, k2, hz, k3, k4⟩ := append_steps ha
    have w1 := diskOk_wt k1
    have w2 := diskOk_wt k2
    have w3 := diskOk_wt k3
    have hc : IntKind.i64.wrap (countIn d (activeOf d) + 1) = count1 d (activeOf d) := rfl
    simp only [orD, Bool.not_true, cond_false, l04Begin_ok d _ t hd ht, hb, Option.bind_some, CrashDisk_spec x keep tear (by omega), FlushDisk_spec x (by omega), l04Count_ok (flush x) _ _ (by omega), hc, hz, CrashDisk_spec z keep tear (by omega)]
    by_cases h0 : step = 0
    · simp [h0]
    · by_cases h1 : step = 1
      · simp [h1]
      · simp [h0, h1]

theorem CutAppend_impl (step : Int) (keep : List Int) (tear : Int) : q_impl_CutAppend (d, t, step, keep, tear) = some (cutAppend d t step keep tear) := by
  rw [e_impl_CutAppend]; unfold X_impl_CutAppend cutAppend
  simp only [AppendLog_impl d t hd ht, Copy_impl d (by unfold big40; omega), ActiveOf_impl d (by unfold big40; omega), CountIn_impl d _ (by unfold big40; omega), Option.bind_some]
  cases ha : append_ d t with
  | none => rfl
  | some y =>
    obtain ⟨hl, x, z, hb, k1, k2, hz, k3, k4⟩ := append_steps ha
    have w1 := diskOk_wt k1
    have w2 := diskOk_wt k2
    have w3 := diskOk_wt k3
    have hc : IntKind.i64.wrap (countIn d (activeOf d) + 1) = count1 d (activeOf d) := rfl
    simp only [orD, Bool.not_true, cond_false, putText_ok d _ t hd ht, hl, if_true, hb, Option.bind_some, CrashDisk_impl x keep tear (by omega), FlushDisk_impl x (by omega), putCount_ok (flush x) _ _ (by omega), hc, hz, CrashDisk_impl z keep tear (by omega)]
    by_cases h0 : step = 0
    · simp [h0]
    · by_cases h1 : step = 1
      · simp [h1]
      · simp [h0, h1]

omit ht in
theorem cutAppend_wt (step : Int) (keep : List Int) (tear : Int) : YDisk.wt (cutAppend d t step keep tear) ≤ 10000000 := by
  unfold cutAppend
  cases ha : append_ d t with
  | none => exact hd
  | some y =>
    obtain ⟨hl, x, z, hb, k1, k2, hz, k3, k4⟩ := append_steps ha
    simp only [hb, orD, hz]
    split
    · have := diskOk_wt (crash_ok k1 keep tear).1; omega
    · split
      · have := diskOk_wt (crash_ok k3 keep tear).1; omega
      · have := diskOk_wt k4; omega
end

end Go.Proofs.Ythhpkgegmfjdmaa.Ab
