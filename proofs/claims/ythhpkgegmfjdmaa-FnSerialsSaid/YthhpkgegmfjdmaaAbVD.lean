import Derived.Test.YthhpkgegmfjdmaaAbVT
namespace Go.Proofs.Ythhpkgegmfjdmaa.Ab
open Go
set_option linter.unusedVariables false
set_option linter.unusedSimpArgs false
set_option linter.unnecessarySimpa false
set_option linter.unusedSimpArgs false
set_option linter.unusedVariables false

/-! ### Draws -/
abbrev Src := List Int × Int × Int
def Src.ok (s : Src) : Prop := s.1.length ≤ 1048576 ∧ 0 ≤ s.2.1 ∧ s.2.1 ≤ (s.1.length : Int)

/-- A draw answers, and what it draws is as told. -/
def Dr {T : Type} (F : Option (T × Src)) (p : T → Prop) : Prop := ∃ y s, F = some (y, s) ∧ s.ok ∧ p y

theorem byte_rng (v : BitVec IntKind.i64.bits) : 0 ≤ IntKind.i64.wrap ((v &&& BitVec.ofInt IntKind.i64.bits 255).toNat : Int) ∧ IntKind.i64.wrap ((v &&& BitVec.ofInt IntKind.i64.bits 255).toNat : Int) < 256 := by
  have h : (v &&& BitVec.ofInt IntKind.i64.bits 255).toNat ≤ 255 := by
    rw [BitVec.toNat_and]
    exact Nat.le_trans Nat.and_le_right (by decide)
  rw [wrap64 (by omega) (by omega)]
  omega

theorem Byte_dr {s : Src} (h : s.ok) : Dr (q_spec_l01Byte s) (fun y => 0 ≤ y ∧ y < 256) := by
  obtain ⟨l, p, z⟩ := s
  obtain ⟨h1, h2, h3⟩ := h
  simp only at h1 h2 h3
  rw [e_spec_l01Byte]; unfold X_spec_l01Byte
  simp only
  by_cases hp : p < (l.length : Int)
  · have hg : gIdx p l.length = true := by simp [gIdx, h2, hp]
    simp only [hp, decide_true, cond_true, hg]
    exact ⟨_, _, rfl, ⟨h1, by simp only; rw [wrap64 (by omega) (by omega)]; omega, by simp only; rw [wrap64 (by omega) (by omega)]; omega⟩, byte_rng _⟩
  · simp only [hp, decide_false, cond_false]
    exact ⟨_, _, rfl, ⟨h1, h2, h3⟩, byte_rng _⟩

theorem tmod_rng {a n : Int} (ha : 0 ≤ a) (hn : 0 < n) : 0 ≤ Int.tmod a n ∧ Int.tmod a n < n := ⟨Int.tmod_nonneg _ ha, Int.tmod_lt_of_pos _ hn⟩

theorem Below_dr {s : Src} (h : s.ok) {n : Int} (hn : 0 < n) : Dr (q_spec_l01Below (s, n)) (fun y => 0 ≤ y ∧ y < n) := by
  rw [e_spec_l01Below]; unfold X_spec_l01Below
  have h0 : decide (n ≤ 0) = false := by simp; omega
  have h0' : (!decide (n = 0)) = true := by simp; omega
  simp only [h0, cond_false, h0', cond_true]
  by_cases h1 : n ≤ 256
  · simp only [h1, decide_true, cond_true]
    obtain ⟨y, s1, e1, k1, r1⟩ := Byte_dr h
    simp only [e1, Option.bind_some]
    exact ⟨_, _, rfl, k1, tmod_rng r1.1 hn⟩
  · simp only [h1, decide_false, cond_false]
    obtain ⟨y1, s1, e1, k1, r1⟩ := Byte_dr h
    obtain ⟨y2, s2, e2, k2, r2⟩ := Byte_dr k1
    obtain ⟨y3, s3, e3, k3, r3⟩ := Byte_dr k2
    obtain ⟨y4, s4, e4, k4, r4⟩ := Byte_dr k3
    simp only [e1, e2, e3, e4, Option.bind_some]
    refine ⟨_, _, rfl, k4, tmod_rng ?_ hn⟩
    rw [wrap64 (n := y1 * 16777216) (by omega) (by omega), wrap64 (n := y2 * 65536) (by omega) (by omega), wrap64 (n := y3 * 256) (by omega) (by omega), wrap64 (n := y1 * 16777216 + y2 * 65536) (by omega) (by omega),
      wrap64 (n := y1 * 16777216 + y2 * 65536 + y3 * 256) (by omega) (by omega), wrap64 (n := y1 * 16777216 + y2 * 65536 + y3 * 256 + y4) (by omega) (by omega)]
    omega

theorem Once_dr {s : Src} (h : s.ok) {n : Int} (hn : 0 < n) : Dr (q_spec_l01Once (s, n)) (fun _ => True) := by
  rw [e_spec_l01Once]; unfold X_spec_l01Once
  obtain ⟨y, s1, e1, k1, r1⟩ := Below_dr h hn
  simp only [e1, Option.bind_some]
  exact ⟨_, _, rfl, k1, trivial⟩

theorem Pick_dr {s : Src} (h : s.ok) {l : List ByteArray} (hl : 0 < l.length) : Dr (q_spec_l01Pick (s, l)) (fun y => y ∈ l) := by
  rw [e_spec_l01Pick]; unfold X_spec_l01Pick
  obtain ⟨y, s1, e1, k1, r1⟩ := Below_dr h (n := (l.length : Int)) (by omega)
  obtain ⟨i, rfl⟩ : ∃ i : Nat, y = (i : Int) := ⟨y.toNat, by omega⟩
  have hi : i < l.length := by omega
  simp only [e1, Option.bind_some, gIdx_nat hi, cond_true, Int.toNat_natCast]
  exact ⟨_, _, rfl, k1, by show rdL Ty.str l i ∈ l; have h : rdL Ty.str l i = l[i] := rdL_get (t := Ty.str) (l := l) hi; rw [h]; exact List.getElem_mem hi⟩

theorem New_dr {l : List Int} (hl : l.length ≤ 1048576) : ∃ s : Src, q_spec_l01New l = some s ∧ s.ok := by
  have key : ∀ (d i : Nat) (z : Int), i ≤ l.length → l.length - i ≤ d → ∃ z', W_spec_l01New_3 (l, z, (i : Int)) = some (.inl (l, z')) := by
    intro d
    induction d with
    | zero =>
      intro i z hi hd
      have : i = l.length := by omega
      subst this
      rw [w_spec_l01New_3]
      simp only [S_spec_l01New_3, lt_cast, Nat.lt_irrefl, decide_false, cond_false, Option.bind_some]
      exact ⟨_, rfl⟩
    | succ d ih =>
      intro i z hi hd
      by_cases h : i < l.length
      · rw [w_spec_l01New_3]
        simp only [S_spec_l01New_3, lt_cast, h, decide_true, cond_true, Option.bind_some, gIdx_nat h]
        rw [wrap_succ (by omega)]
        cases decide ((i : Int) < 4000) with
        | false => exact ⟨_, rfl⟩
        | true => exact ih (i + 1) _ (by omega) (by omega)
      · have : i = l.length := by omega
        subst this
        rw [w_spec_l01New_3]
        simp only [S_spec_l01New_3, lt_cast, Nat.lt_irrefl, decide_false, cond_false, Option.bind_some]
        exact ⟨_, rfl⟩
  obtain ⟨z', hz⟩ := key l.length 0 (IntKind.i64.wrap (77601 + (l.length : Int))) (Nat.zero_le _) (by omega)
  rw [e_spec_l01New]; unfold X_spec_l01New
  have hz' : W_spec_l01New_3 (l, IntKind.i64.wrap (77601 + (l.length : Int)), 0) = _ := hz
  simp only [hz', Option.bind_some]
  exact ⟨_, rfl, hl, Int.le_refl _, by simp only; omega⟩

theorem Key_dr {s : Src} (h : s.ok) : Dr (q_spec_l05Key s) (fun y => y.size ≤ 2) := by
  rw [e_spec_l05Key]; unfold X_spec_l05Key
  obtain ⟨y, s1, e1, k1, r1⟩ := Pick_dr h (l := [(⟨#[97]⟩ : ByteArray), (⟨#[98]⟩ : ByteArray), (⟨#[99]⟩ : ByteArray), (⟨#[100]⟩ : ByteArray), (⟨#[97, 98]⟩ : ByteArray)]) (by decide)
  simp only [e1, Option.bind_some]
  refine ⟨_, _, rfl, k1, ?_⟩
  simp only [List.mem_cons, List.not_mem_nil, or_false] at r1
  rcases r1 with rfl | rfl | rfl | rfl | rfl <;> decide

theorem Range_dr {s : Src} (h : s.ok) : Dr (q_spec_l05Range s) (fun y => y.1.size ≤ 2 ∧ y.2.size ≤ 2) := by
  rw [e_spec_l05Range]; unfold X_spec_l05Range
  obtain ⟨y1, s1, e1, k1, r1⟩ := Key_dr h
  obtain ⟨y2, s2, e2, k2, r2⟩ := Once_dr k1 (n := 2) (by omega)
  obtain ⟨y3, s3, e3, k3, r3⟩ := Key_dr k2
  simp only [e1, e2, e3, Option.bind_some]
  cases y2 with
  | true => exact ⟨_, _, rfl, k2, r1, r1⟩
  | false =>
    simp only [cond_false]
    cases strLt y3 y1 with
    | true => exact ⟨_, _, rfl, k3, r3, r1⟩
    | false => exact ⟨_, _, rfl, k3, r1, r3⟩

theorem Ranges_dr {s : Src} (h : s.ok) : Dr (q_spec_l05Ranges s) (fun y => y.length ≤ 3 ∧ ∀ r ∈ y, r.1.size ≤ 2 ∧ r.2.size ≤ 2) := by
  have key : ∀ (d i : Nat) (s : Src) (a : List YRange.den), s.ok → a.length = i → 4 ≤ i + d → i ≤ 3 → (∀ r ∈ a, r.1.size ≤ 2 ∧ r.2.size ≤ 2) →
      ∃ (s' : Src) (a' : List YRange.den), W_spec_l05Ranges_3 (s, a, (i : Int)) = some (.inl (s', a')) ∧ s'.ok ∧ a'.length ≤ 3 ∧ ∀ r ∈ a', r.1.size ≤ 2 ∧ r.2.size ≤ 2 := by
    intro d
    induction d with
    | zero => intro i s a _ _ h1 h2; omega
    | succ d ih =>
      intro i s a hs ha hd hi hr
      obtain ⟨y, s1, e1, k1, r1⟩ := Below_dr hs (n := 4) (by omega)
      rw [w_spec_l05Ranges_3]
      simp only [S_spec_l05Ranges_3, e1, Option.bind_some]
      by_cases hy : (i : Int) < y
      · obtain ⟨y2, s2, e2, k2, r2⟩ := Range_dr k1
        have hc : Nat.ble (a.length + ([y2] : List YRange.den).length) cap40 = true := by
          rw [Nat.ble_eq, ha]; simp only [List.length_cons, List.length_nil, cap40]; omega
        simp only [hy, decide_true, cond_true, e2, Option.bind_some]
        rw [hc, wrap_succ (by omega)]
        exact ih (i + 1) s2 (a ++ [y2]) k2 (by simp [ha]) (by omega) (by omega) (fun r hm => by
          rcases List.mem_append.mp hm with q | q
          · exact hr r q
          · simp only [List.mem_cons, List.not_mem_nil, or_false] at q; subst q; exact r2)
      · simp only [hy, decide_false, cond_false]
        exact ⟨_, _, rfl, k1, by omega, hr⟩
  obtain ⟨s', a', e1, k1, r1, r2⟩ := key 4 0 s [] h rfl (by omega) (by omega) (fun r hr => by cases hr)
  rw [e_spec_l05Ranges]; unfold X_spec_l05Ranges
  have e1 : W_spec_l05Ranges_3 (s, [], 0) = _ := e1
  simp only [e1, Option.bind_some]
  exact ⟨_, _, rfl, k1, r1, r2⟩

theorem Write_dr {s : Src} (h : s.ok) : Dr (q_spec_l05Write s) (fun y => y.1.size ≤ 2 ∧ y.2.1.size ≤ 3) := by
  rw [e_spec_l05Write]; unfold X_spec_l05Write
  obtain ⟨y1, s1, e1, k1, r1⟩ := Key_dr h
  obtain ⟨y2, s2, e2, k2, r2⟩ := Pick_dr k1 (l := [(⟨#[111, 110, 101]⟩ : ByteArray), (⟨#[116, 119, 111]⟩ : ByteArray), (⟨#[]⟩ : ByteArray), (⟨#[120, 0]⟩ : ByteArray)]) (by decide)
  obtain ⟨y3, s3, e3, k3, r3⟩ := Once_dr k2 (n := 5) (by omega)
  simp only [e1, e2, e3, Option.bind_some]
  have hz : y2.size ≤ 3 := by
    simp only [List.mem_cons, List.not_mem_nil, or_false] at r2
    rcases r2 with rfl | rfl | rfl | rfl <;> decide
  cases y3 with
  | true => exact ⟨_, _, rfl, k3, r1, by show ByteArray.size ⟨#[]⟩ ≤ 3; decide⟩
  | false => exact ⟨_, _, rfl, k3, r1, hz⟩

/-- A write put among others. -/
def putW (l : List YWrite.den) (w : YWrite.den) : List YWrite.den := l.filter (fun x => strLt x.1 w.1) ++ [w] ++ l.filter (fun x => !(strLt x.1 w.1 || strEq x.1 w.1))

theorem PutWrite_spec (l : List YWrite.den) (w : YWrite.den) (hl : l.length ≤ 1048576) : q_spec_PutWrite (l, w) = some (putW l w) := by
  have L1 := W_pick W_spec_PutWrite_3 l (fun a i => (l, w, a, i)) (fun x => strLt x.1 w.1) (fun x => x) (fun a => .inl (l, w, a)) (by omega) (fun a ha => by
      rw [w_spec_PutWrite_3]; simp only [S_spec_PutWrite_3, lt_cast, Nat.lt_irrefl, decide_false, cond_false]) (fun i hi a ha => by
      have hc : Nat.ble (a.length + ([l[i]] : List YWrite.den).length) cap40 = true := by
        rw [Nat.ble_eq]; simp only [List.length_cons, List.length_nil, cap40]; omega
      rw [w_spec_PutWrite_3]; simp only [S_spec_PutWrite_3, lt_cast, hi, decide_true, cond_true, gIdx_nat hi, Int.toNat_natCast, rdL_get hi]
      rw [wrap_succ (by omega), hc]
      rfl)
  simp only [List.map_id'] at L1
  have L2 := W_fold W_spec_PutWrite_9 l (fun a i => (l, w, a, i)) (fun (a : List YWrite.den) x => if strLt x.1 w.1 || strEq x.1 w.1 then a else a ++ [x]) (fun a => .inl a) (fun i a => a.length ≤ 1048577 + i) (fun a ha => by
      rw [w_spec_PutWrite_9]; simp only [S_spec_PutWrite_9, lt_cast, Nat.lt_irrefl, decide_false, cond_false]) (fun i hi a ha => by
      have hc : Nat.ble (a.length + ([l[i]] : List YWrite.den).length) cap40 = true := by
        rw [Nat.ble_eq]; simp only [List.length_cons, List.length_nil, cap40]; omega
      rw [w_spec_PutWrite_9]; simp only [S_spec_PutWrite_9, lt_cast, hi, decide_true, cond_true, gIdx_nat hi, Int.toNat_natCast, rdL_get hi]
      rw [wrap_succ (by omega), hc]
      cases hq : strLt l[i].1 w.1 || strEq l[i].1 w.1 with
      | true => simp only [Bool.not_true, cond_false, if_true]; refine ⟨by omega, ?_⟩; trivial
      | false => simp only [Bool.not_false, cond_true, Bool.false_eq_true, if_false]; refine ⟨by simp; omega, ?_⟩; trivial)
  have key : ∀ (l : List YWrite.den) (a : List YWrite.den), l.foldl (fun (a : List YWrite.den) x => if strLt x.1 w.1 || strEq x.1 w.1 then a else a ++ [x]) a = a ++ l.filter (fun x => !(strLt x.1 w.1 || strEq x.1 w.1)) := by
    intro l
    induction l with
    | nil => intro a; simp
    | cons x l ih =>
      intro a
      simp only [List.foldl_cons, ih, List.filter_cons]
      cases hq : strLt x.1 w.1 || strEq x.1 w.1 <;> simp
  have hlen : (l.filter (fun x => strLt x.1 w.1)).length ≤ l.length := List.length_filter_le _ _
  have L2' := L2 (l.filter (fun x => strLt x.1 w.1) ++ [w]) (by simp; omega)
  rw [key] at L2'
  have hc : Nat.ble ((l.filter (fun x => strLt x.1 w.1)).length + ([w] : List YWrite.den).length) cap40 = true := by
    rw [Nat.ble_eq]; simp only [List.length_cons, List.length_nil, cap40]; omega
  rw [e_spec_PutWrite]; unfold X_spec_PutWrite
  simp only [L1, Option.bind_some]
  rw [hc]
  simp only [cond_true, L2', Option.bind_some]
  rfl

theorem putW_mem {l : List YWrite.den} {w x : YWrite.den} (h : x ∈ putW l w) : x ∈ l ∨ x = w := by
  unfold putW at h
  simp only [List.append_assoc, List.mem_append, List.mem_filter, List.mem_cons, List.not_mem_nil, or_false] at h
  rcases h with h | h | h
  · exact .inl h.1
  · exact .inr h
  · exact .inl h.1

theorem strLt_irrefl (a b : ByteArray) (h : strLt a b = true) : True := trivial

theorem putW_len (l : List YWrite.den) (w : YWrite.den) : (putW l w).length ≤ l.length + 1 := by
  have : ∀ l : List YWrite.den, (l.filter (fun x => strLt x.1 w.1)).length + (l.filter (fun x => !(strLt x.1 w.1 || strEq x.1 w.1))).length ≤ l.length := by
    intro l
    induction l with
    | nil => simp
    | cons x l ih =>
      simp only [List.filter_cons]
      cases strLt x.1 w.1 <;> cases strEq x.1 w.1 <;> simp only [Bool.or_true, Bool.or_false, Bool.not_true, Bool.not_false, if_true, if_false, Bool.false_eq_true, List.length_cons] <;> omega
  unfold putW
  have := this l
  simp only [List.length_append, List.length_cons, List.length_nil]
  omega

/-- No key twice. -/
def KD (l : List YWrite.den) : Prop := l.Pairwise fun a b => a.1 ≠ b.1

theorem putW_kd {l : List YWrite.den} {w : YWrite.den} (h : KD l) : KD (putW l w) := by
  unfold KD putW at *
  rw [List.append_assoc, List.pairwise_append]
  refine ⟨h.filter _, ?_, fun a ha b hb e => ?_⟩
  · rw [List.singleton_append, List.pairwise_cons]
    refine ⟨fun b hb e => ?_, h.filter _⟩
    have := (List.mem_filter.mp hb).2
    simp [strEq, e] at this
  · have h1 := (List.mem_filter.mp ha).2
    rw [List.singleton_append, List.mem_cons] at hb
    rcases hb with rfl | hb
    · rw [e, sLt_irr] at h1; cases h1
    · have h2 := (List.mem_filter.mp hb).2
      rw [← e, h1] at h2
      cases h2

theorem Writes_dr {s : Src} (h : s.ok) : Dr (q_spec_l05Writes s) (fun y => y.length ≤ 3 ∧ (∀ r ∈ y, r.1.size ≤ 2 ∧ r.2.1.size ≤ 3) ∧ KD y) := by
  have key : ∀ (d i : Nat) (s : Src) (a : List YWrite.den), s.ok → a.length ≤ i → 4 ≤ i + d → i ≤ 3 → (∀ r ∈ a, r.1.size ≤ 2 ∧ r.2.1.size ≤ 3) → KD a →
      ∃ (s' : Src) (a' : List YWrite.den), W_spec_l05Writes_3 (s, a, (i : Int)) = some (.inl (s', a')) ∧ s'.ok ∧ a'.length ≤ 3 ∧ (∀ r ∈ a', r.1.size ≤ 2 ∧ r.2.1.size ≤ 3) ∧ KD a' := by
    intro d
    induction d with
    | zero => intro i s a _ _ h1 h2; omega
    | succ d ih =>
      intro i s a hs ha hd hi hr hk
      obtain ⟨y, s1, e1, k1, r1⟩ := Below_dr hs (n := 4) (by omega)
      rw [w_spec_l05Writes_3]
      simp only [S_spec_l05Writes_3, e1, Option.bind_some]
      by_cases hy : (i : Int) < y
      · obtain ⟨y2, s2, e2, k2, r2⟩ := Write_dr k1
        simp only [hy, decide_true, cond_true, e2, Option.bind_some, PutWrite_spec a y2 (by omega)]
        rw [wrap_succ (by omega)]
        exact ih (i + 1) s2 (putW a y2) k2 (by have := putW_len a y2; omega) (by omega) (by omega) (fun r hm => by
          rcases putW_mem hm with q | q
          · exact hr r q
          · subst q; exact r2) (putW_kd hk)
      · simp only [hy, decide_false, cond_false]
        exact ⟨_, _, rfl, k1, by omega, hr, hk⟩
  obtain ⟨s', a', e1, k1, r1, r2⟩ := key 4 0 s [] h (by simp) (by omega) (by omega) (fun r hr => by cases hr) List.Pairwise.nil
  rw [e_spec_l05Writes]; unfold X_spec_l05Writes
  have e1 : W_spec_l05Writes_3 (s, [], 0) = _ := e1
  simp only [e1, Option.bind_some]
  exact ⟨_, _, rfl, k1, r1, r2⟩

/-- What is known of one that is drawn. -/
def smallTx (t : YTxn.den) : Prop := t.2.2.2.2.1.length ≤ 3 ∧ (∀ r ∈ t.2.2.2.2.1, r.1.size ≤ 2 ∧ r.2.size ≤ 2) ∧ t.2.2.2.2.2.1.length ≤ 3 ∧ (∀ r ∈ t.2.2.2.2.2.1, r.1.size ≤ 2 ∧ r.2.1.size ≤ 3) ∧ t.2.2.2.2.2.2.2.size ≤ 16

theorem sum_le {α : Type} {l : List α} {f : α → Nat} {k : Nat} (h : ∀ x ∈ l, f x ≤ k) : (l.map f).sum ≤ l.length * k := by
  induction l with
  | nil => simp
  | cons x l ih =>
    have h1 := h x (List.mem_cons_self ..)
    have h2 := ih (fun y hy => h y (List.mem_cons_of_mem _ hy))
    simp only [List.map_cons, List.sum_cons, List.length_cons, Nat.succ_mul]
    omega

theorem smallTx.wt {t : YTxn.den} (h : smallTx t) : YTxn.wt t ≤ big40 := by
  obtain ⟨h1, h2, h3, h4, h5⟩ := h
  have a1 := sum_le (l := t.2.2.2.2.1) (f := (Ty.pair .str .str).wt) (k := 4) (fun x hx => by have := h2 x hx; simp only [Ty.wt]; omega)
  have a2 := sum_le (l := t.2.2.2.2.2.1) (f := (Ty.pair .str (.pair .str .bool)).wt) (k := 5) (fun x hx => by have := h4 x hx; simp only [Ty.wt]; omega)
  have hw : YTxn.wt t = 0 + (0 + (0 + (0 + ((t.2.2.2.2.1.length + (t.2.2.2.2.1.map (Ty.pair .str .str).wt).sum) + ((t.2.2.2.2.2.1.length + (t.2.2.2.2.2.1.map (Ty.pair .str (.pair .str .bool)).wt).sum) + (0 + t.2.2.2.2.2.2.2.size)))))) := rfl
  rw [hw]
  unfold big40
  omega

/-- One that is done, as it is drawn. -/
def tId (t : YTxn.den) : Int := t.1
def tSt (t : YTxn.den) : Int := t.2.1
def tSnap (t : YTxn.den) : Int := t.2.2.1
def tCs (t : YTxn.den) : Int := t.2.2.2.1
def doneOk (t : YTxn.den) : Prop := tSt t = 3 ∧ tSnap t < tCs t ∧ KD t.2.2.2.2.2.1
def listOk (l : List YTxn.den) : Prop := (∀ t ∈ l, doneOk t) ∧ l.Pairwise fun a b => tId a ≠ tId b ∧ tCs a < tCs b

theorem listOk_snoc {l : List YTxn.den} {t : YTxn.den} (h : listOk l) (ht : doneOk t) (hq : ∀ x ∈ l, tId x ≠ tId t ∧ tCs x < tCs t) : listOk (l ++ [t]) := by
  refine ⟨fun x hx => ?_, ?_⟩
  · rcases List.mem_append.mp hx with q | q
    · exact h.1 x q
    · simp only [List.mem_cons, List.not_mem_nil, or_false] at q
      subst q; exact ht
  · rw [List.pairwise_append]
    refine ⟨h.2, List.pairwise_singleton _ _, fun a ha b hb => ?_⟩
    simp only [List.mem_cons, List.not_mem_nil, or_false] at hb
    subst hb
    exact hq a ha

theorem List14_dr {s : Src} (h : s.ok) : Dr (q_spec_l14List s) (fun y => y.length ≤ 5 ∧ (∀ t ∈ y, smallTx t) ∧ listOk y) := by
  have key : ∀ (d i : Nat) (s : Src) (a : List YTxn.den) (c : Int), s.ok → a.length = i → 6 ≤ i + d → i ≤ 5 → (∀ t ∈ a, smallTx t) → listOk a → (∀ t ∈ a, tId t ≤ (i : Int) ∧ tCs t ≤ c) → 0 ≤ c → c ≤ 3 * (i : Int) →
      ∃ (s' : Src) (a' : List YTxn.den), W_spec_l14List_4 (s, a, c, (i : Int)) = some (.inl (s', a')) ∧ s'.ok ∧ a'.length ≤ 5 ∧ (∀ t ∈ a', smallTx t) ∧ listOk a' := by
    intro d
    induction d with
    | zero => intro i s a c _ _ h1 h2; omega
    | succ d ih =>
      intro i s a c hs ha hd hi hr hk hq hc0 hc1
      obtain ⟨y, s1, e1, k1, r1⟩ := Below_dr hs (n := 6) (by omega)
      rw [w_spec_l14List_4]
      simp only [S_spec_l14List_4, e1, Option.bind_some]
      by_cases hy : (i : Int) < y
      · obtain ⟨y2, s2, e2, k2, r2⟩ := Ranges_dr k1
        obtain ⟨y3, s3, e3, k3, r3⟩ := Writes_dr k2
        obtain ⟨y4, s4, e4, k4, r4⟩ := Below_dr k3 (n := 2) (by omega)
        have w1 : IntKind.i64.wrap (IntKind.i64.wrap (c + 1) + y4) = c + 1 + y4 := by rw [wrap64 (n := c + 1) (by omega) (by omega), wrap64 (by omega) (by omega)]
        obtain ⟨y5, s5, e5, k5, r5⟩ := Below_dr k4 (n := c + 1 + y4) (by omega)
        have hc : ∀ y : YTxn.den, Nat.ble (a.length + ([y] : List YTxn.den).length) cap40 = true := fun y => by
          rw [Nat.ble_eq, ha]; simp only [List.length_cons, List.length_nil, cap40]; omega
        simp only [hy, decide_true, cond_true, e2, e3, e4, Option.bind_some, w1, e5]
        rw [hc, wrap_succ (by omega)]
        exact ih (i + 1) s5 _ _ k5 (by simp [ha]) (by omega) (by omega) (fun r hm => by
          rcases List.mem_append.mp hm with q | q
          · exact hr r q
          · simp only [List.mem_cons, List.not_mem_nil, or_false] at q
            subst q
            exact ⟨r2.1, r2.2, r3.1, r3.2.1, by show ByteArray.size ⟨#[]⟩ ≤ 16; decide⟩) (listOk_snoc hk ⟨rfl, by have := r5.2; simpa [tSnap, tCs] using this, r3.2.2⟩ (fun x hx => by
            have := hq x hx
            have e1 : IntKind.i64.wrap (1 + (i : Int)) = 1 + (i : Int) := wrap64 (by omega) (by omega)
            refine ⟨fun e => ?_, ?_⟩
            · have e : tId x = IntKind.i64.wrap (1 + (i : Int)) := e
              omega
            · show tCs x < c + 1 + y4
              omega)) (fun x hx => by
          have e1 : IntKind.i64.wrap (1 + (i : Int)) = 1 + (i : Int) := wrap64 (by omega) (by omega)
          rcases List.mem_append.mp hx with q | q
          · have := hq x q
            exact ⟨by omega, by omega⟩
          · simp only [List.mem_cons, List.not_mem_nil, or_false] at q
            subst q
            refine ⟨?_, ?_⟩
            · show IntKind.i64.wrap (1 + (i : Int)) ≤ _
              omega
            · show c + 1 + y4 ≤ c + 1 + y4
              omega) (by omega) (by omega)
      · simp only [hy, decide_false, cond_false]
        exact ⟨_, _, rfl, k1, by omega, hr, hk⟩
  obtain ⟨s', a', e1, k1, r1, r2⟩ := key 6 0 s [] 0 h rfl (by omega) (by omega) (fun r hr => by cases hr) ⟨(fun t ht => by cases ht), List.Pairwise.nil⟩ (fun t ht => by cases ht) (by omega) (by omega)
  rw [e_spec_l14List]; unfold X_spec_l14List
  have e1 : W_spec_l14List_4 (s, [], 0, 0) = _ := e1
  simp only [e1, Option.bind_some]
  exact ⟨_, _, rfl, k1, r1, r2⟩

theorem DrawDones_ok {l : List Int} (hl : l.length ≤ 1048576) : ∃ y, q_spec_DrawDones l = some y ∧ y.length ≤ 5 ∧ (∀ t ∈ y, smallTx t) ∧ listOk y := by
  rw [e_spec_DrawDones]; unfold X_spec_DrawDones
  obtain ⟨s, e1, k1⟩ := New_dr hl
  obtain ⟨y, s1, e2, k2, r⟩ := List14_dr k1
  simp only [e1, e2, Option.bind_some]
  exact ⟨y, rfl, r⟩

end Go.Proofs.Ythhpkgegmfjdmaa.Ab
