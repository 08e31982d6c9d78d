import Derived.Test.YthhpkgegmfjdmaaAbP11
namespace Go.Proofs.Ythhpkgegmfjdmaa.Ab
open Go
set_option linter.unusedVariables false
set_option linter.unusedSimpArgs false
set_option linter.unnecessarySimpa false
set_option linter.unusedSimpArgs false
set_option linter.unusedVariables false

/-! ### What a write does not reach -/
theorem writeSec_frame {d x : DiskT} {k : Int} {s : ByteArray} (h : writeSec d k s = some x) {j : Int} (hj : j ≠ k) : readSec x j = readSec d j := by
  have := (writeSec_ok h).2
  subst this
  have hne : ¬ k = j := fun z => hj z.symm
  unfold readSec
  simp only [lastPut_snoc, hne, if_false]

theorem wbGo_frame : ∀ {f : Nat} {d x : DiskT} {k at_ : Nat} {t : ByteArray}, wbGo f d k at_ t = some x → at_ < 64 → ∀ j : Nat, ¬ (k ≤ j ∧ j * 64 < k * 64 + at_ + t.size) → readSec x (j : Int) = readSec d (j : Int)
  | 0, d, x, k, at_, t, h, _, j, _ => by cases h; rfl
  | f + 1, d, x, k, at_, t, h, hat, j, hj => by
    rw [wbGo] at h
    split at h
    · cases h; rfl
    · rename_i hz
      split at h
      · cases hw : writeSec d (k : Int) ((readSec d (k : Int)).1.extract 0 at_ ++ t.extract 0 (min t.size (64 - at_)) ++ (readSec d (k : Int)).1.extract (at_ + min t.size (64 - at_)) 64) with
        | none => rw [hw] at h; cases h
        | some y =>
          rw [hw] at h
          simp only [Option.bind_some] at h
          have hne : j ≠ k := fun z => hj ⟨by omega, by omega⟩
          rw [← writeSec_frame hw (j := (j : Int)) (by omega)]
          refine wbGo_frame h (by omega) j (fun z => hj ?_)
          rw [ByteArray.size_extract] at z
          omega
      · cases h

theorem setPut_rd {s : List ByteArray} {p : Int × ByteArray} {j : Int} (hp : 0 ≤ p.1) (hj0 : 0 ≤ j) (hj : j.toNat < s.length) : rdL Ty.str (setPut s p) j.toNat = if p.1 = j then p.2 else rdL Ty.str s j.toNat := by
  have h' : j.toNat < (s.set p.1.toNat p.2).length := by rw [List.length_set]; exact hj
  have e1 : rdL Ty.str (s.set p.1.toNat p.2) j.toNat = (s.set p.1.toNat p.2)[j.toNat] := rdL_get (t := Ty.str) h'
  have e2 : rdL Ty.str s j.toNat = s[j.toNat] := rdL_get (t := Ty.str) hj
  show rdL Ty.str (s.set p.1.toNat p.2) j.toNat = _
  rw [e1, e2, List.getElem_set]
  by_cases e : p.1 = j
  · rw [if_pos (by rw [e]), if_pos e]
  · rw [if_neg (by omega), if_neg e]

theorem foldPut_rd {j : Int} (hj0 : 0 ≤ j) (z : ByteArray) : ∀ (c : List (Int × ByteArray)) (s : List ByteArray) (t : Option ByteArray), (∀ p ∈ c, 0 ≤ p.1) → j.toNat < s.length → rdL Ty.str s j.toNat = t.getD z →
    rdL Ty.str (c.foldl setPut s) j.toNat = (c.foldl (fun t p => if p.1 = j then some p.2 else t) t).getD z
  | [], s, t, _, _, h => h
  | p :: c, s, t, hc, hl, h => by
    rw [List.foldl_cons, List.foldl_cons]
    refine foldPut_rd hj0 z c _ _ (fun q hq => hc q (List.mem_cons_of_mem _ hq)) (by rw [setPut_len]; exact hl) ?_
    rw [setPut_rd (hc p (List.mem_cons_self ..)) hj0 hl]
    split
    · rfl
    · exact h

theorem flush_frame {d : DiskT} (hk : diskOk d = true) (j : Int) : readSec (flush d) j = readSec d j := by
  obtain ⟨_, f2, f3⟩ := flush_ok hk
  obtain ⟨k1, k2, k3, k4⟩ := diskOk_iff.mp hk
  unfold readSec
  rw [f3]
  split
  · rename_i hj
    have e1 : lastPut (flush d).2 j = none := by rw [f2]; rfl
    rw [e1]
    have e2 : (flush d).1 = d.2.foldl setPut d.1 := by unfold flush; rw [if_pos hk]
    rw [e2]
    have := foldPut_rd hj.1 (rdL Ty.str d.1 j.toNat) d.2 d.1 none (fun p hp => (k4 p hp).1.1) (by omega) rfl
    show (rdL Ty.str (d.2.foldl setPut d.1) j.toNat, true) = _
    rw [this]
    rfl
  · rfl

theorem secGo_congr {d d' : DiskT} {from_ : Int} : ∀ (m i : Nat) (acc : ByteArray), (∀ q : Nat, i ≤ q → q < i + m → readSec d' (from_ + (q : Int)) = readSec d (from_ + (q : Int))) → secGo d' from_ m i acc = secGo d from_ m i acc
  | 0, i, acc, h => rfl
  | m + 1, i, acc, h => by
    unfold secGo
    rw [h i (by omega) (by omega)]
    split
    · exact secGo_congr m (i + 1) _ (fun q h1 h2 => h q (by omega) (by omega))
    · rfl

theorem readArea_congr {d d' : DiskT} {o : Int} (h : ∀ q : Nat, q < 48 → readSec d' (areaFirst o + (q : Int)) = readSec d (areaFirst o + (q : Int))) : readArea d' o = readArea d o := by
  have h1 : secText d' (areaFirst o + 1) 47 = secText d (areaFirst o + 1) 47 := by
    unfold secText
    rw [if_pos (by omega), if_pos (by omega)]
    refine secGo_congr _ _ _ (fun q _ hq => ?_)
    have := h (q + 1) (by simp at hq; omega)
    rw [show areaFirst o + 1 + (q : Int) = areaFirst o + ((q + 1 : Nat) : Int) by omega]
    exact this
  have h2 : countIn d' o = countIn d o := by
    unfold countIn fstByte
    have := h 0 (by omega)
    rw [show areaFirst o + ((0 : Nat) : Int) = areaFirst o by omega] at this
    rw [this]
  unfold readArea
  rw [h1, h2]

/-- Nothing but area a is changed. -/
def OnlyArea (a : Int) (d d' : DiskT) : Prop := ∀ j : Nat, ¬ (areaFirst a ≤ (j : Int) ∧ (j : Int) < areaFirst a + 48) → readSec d' (j : Int) = readSec d (j : Int)

theorem OnlyArea.other {a o : Int} {d d' : DiskT} (h : OnlyArea a d d') (ha : a = 0 ∨ a = 1) (ho : o = 1 - a) : readArea d' o = readArea d o := by
  refine readArea_congr (fun q hq => ?_)
  have hf : areaFirst o = 1 + o * 48 := by unfold areaFirst; rw [if_pos (isAr_iff.mpr (by omega))]
  have hfa : areaFirst a = 1 + a * 48 := by unfold areaFirst; rw [if_pos (isAr_iff.mpr ha)]
  obtain ⟨j, hj⟩ : ∃ j : Nat, areaFirst o + (q : Int) = (j : Int) := ⟨(areaFirst o + (q : Int)).toNat, by rcases ha with rfl | rfl <;> omega⟩
  rw [hj]
  exact h j (by rcases ha with rfl | rfl <;> omega)

theorem OnlyArea.trans {a : Int} {d d' e : DiskT} (h1 : OnlyArea a d d') (h2 : OnlyArea a d' e) : OnlyArea a d e := fun j hj => (h2 j hj).trans (h1 j hj)
theorem OnlyArea.flush {a : Int} {d d' : DiskT} (h : OnlyArea a d d') (hk : diskOk d' = true) : OnlyArea a d (flush d') := fun j hj => (flush_frame hk _).trans (h j hj)

theorem writeBytes_frame {d x : DiskT} {s at_ : Int} {t : ByteArray} (h : writeBytes d s at_ t = some x) {j : Nat} (hj : ¬ (s ≤ (j : Int) ∧ (j : Int) * 64 < s * 64 + at_ + (t.size : Int))) : readSec x (j : Int) = readSec d (j : Int) := by
  unfold writeBytes at h
  split at h
  · rename_i hc
    simp only [Bool.and_eq_true, isIn, decide_eq_true_eq] at hc
    refine wbGo_frame h (Nat.mod_lt _ (by omega)) j (fun z => hj ?_)
    omega
  · cases h

theorem begin_only {d x : DiskT} {a : Int} {t : ByteArray} (h : begin_ d a t = some x) : OnlyArea a d x := by
  have h0 := h
  unfold begin_ at h
  split at h
  · cases h
  · rename_i hc
    simp only [not_or] at hc
    intro j hj
    refine writeBytes_frame h (fun z => hj ?_)
    omega

theorem count_only {d x : DiskT} {a n : Int} (h : count_ d a n = some x) : OnlyArea a d x := by
  intro j hj
  refine writeBytes_frame h (fun z => hj ?_)
  rw [countB_size] at z
  omega

theorem put_only {d y : DiskT} {a : Int} {t : ByteArray} (hlen : d.1.length = 97) (h : put_ d a t = some y) : OnlyArea a d y := by
  unfold put_ at h
  cases hb : begin_ d a t with
  | none => rw [hb] at h; cases h
  | some x =>
    rw [hb] at h
    simp only [Option.map_some, Option.some.injEq] at h
    obtain ⟨z, hz, hz2, hz3⟩ := count_ok (n := count1 d a) hlen hb
    rw [hz] at h
    subst h
    exact (((begin_only hb).flush (begin_ok hb).2.1).trans (count_only hz)).flush hz2

/-! ### The other area filled -/
/-- A disk between records of a filling: all but the filled area is as it should be. -/
structure Mid (o : Int) (x : DiskT) : Prop where
  ok : diskOk x = true
  len : x.1.length = 97
  nil : x.2 = []
  other : (readArea x o).2.2 = true

theorem Mid.isLog {a o : Int} {x : DiskT} (h : Mid o x) (ha : a = 0 ∨ a = 1) (ho : o = 1 - a) : logOk x = (readArea x a).2.2 := by
  unfold logOk
  have hl : decide (x.2.length = 0) = true := by rw [h.nil]; rfl
  rw [h.ok, hl]
  have hlen : decide (x.1.length = 97) = true := by rw [h.len]; rfl
  rw [hlen]
  have hot := h.other
  rcases ha with rfl | rfl
  · have : o = 1 := by omega
    subst this
    rw [hot]; simp
  · have : o = 0 := by omega
    subst this
    rw [hot]; simp

theorem Mid.put {a o : Int} {x y : DiskT} {t : ByteArray} (h : Mid o x) (ha : a = 0 ∨ a = 1) (ho : o = 1 - a) (hp : put_ x a t = some y) : Mid o y := by
  obtain ⟨_, _, _, p1, p2, p3, _⟩ := put_ok h.len hp
  exact ⟨p1, p3, p2, by rw [(put_only h.len hp).other ha ho]; exact h.other⟩

theorem Mid.record {a o : Int} {x : DiskT} {t : ByteArray} (h : Mid o x) (ha : a = 0 ∨ a = 1) (ho : o = 1 - a) : (if logOk x then put_ x a t else none) = put_ x a t := by
  rw [h.isLog ha ho]
  cases hr : (readArea x a).2.2 with
  | true => simp
  | false =>
    have : put_ x a t = none := by
      unfold put_
      cases hb : begin_ x a t with
      | none => rfl
      | some z => rw [(begin_ok hb).2.2.2] at hr; cases hr
    simp [this]

def fillGo (a : Int) : List ByteArray → DiskT → Option DiskT
  | [], x => some x
  | t :: l, x => (put_ x a t).bind (fillGo a l)

theorem fillGo_mid {a o : Int} (ha : a = 0 ∨ a = 1) (ho : o = 1 - a) : ∀ {l : List ByteArray} {x y : DiskT}, Mid o x → fillGo a l x = some y → Mid o y
  | [], x, y, h, hy => by cases hy; exact h
  | t :: l, x, y, h, hy => by
    unfold fillGo at hy
    cases hp : put_ x a t with
    | none => rw [hp] at hy; cases hy
    | some z =>
      rw [hp] at hy
      exact fillGo_mid ha ho (h.put ha ho hp) hy

theorem fill_impl {a o : Int} (ha : a = 0 ∨ a = 1) (ho : o = 1 - a) (d jk : DiskT) (hd : YDisk.wt d ≤ 10000000) (list : List ByteArray) (hl : list.length ≤ 1048576) (hs : ∀ t ∈ list, t.size ≤ 1048576) : ∀ (r i : Nat) (x : DiskT), i + r = list.length → Mid o x →
    W_impl_fillOther_6 (d, jk, a, x, list, (list.length : Int), (i : Int)) = some (match fillGo a (list.drop i) x with
      | some y => .inl (jk, y)
      | none => .inr (d, false))
  | 0, i, x, hi, hm => by
    have : i = list.length := by omega
    subst this
    rw [w_impl_fillOther_6]
    simp only [S_impl_fillOther_6, lt_cast, Nat.lt_irrefl, decide_false, cond_false, List.drop_length, fillGo]
  | r + 1, i, x, hi, hm => by
    have h : i < list.length := by omega
    have hw := diskOk_wt hm.ok
    have hts := hs list[i] (List.getElem_mem h)
    have hr : rdL Ty.str list i = list[i] := rdL_get (t := Ty.str) h
    rw [w_impl_fillOther_6, List.drop_eq_getElem_cons h]
    simp only [S_impl_fillOther_6, lt_cast, h, decide_true, cond_true, gIdx_nat h, Int.toNat_natCast, hr, PutRecord_impl x a list[i] (by omega) hts, hm.record ha ho, Copy_impl d (by unfold big40; omega), Option.bind_some, fillGo]
    rw [wrap_succ (by omega)]
    cases hp : put_ x a list[i] with
    | none => simp [orD]
    | some y =>
      simp only [orD, Bool.not_true, cond_false, Option.bind_some]
      exact fill_impl ha ho d jk hd list hl hs r (i + 1) y (by omega) (hm.put ha ho hp)

theorem fill_spec {a o : Int} (ha : a = 0 ∨ a = 1) (ho : o = 1 - a) (jk : DiskT) (list : List ByteArray) (hl : list.length ≤ 1048576) (hs : ∀ t ∈ list, t.size ≤ 1048576) : ∀ (r i : Nat) (x : DiskT), i + r = list.length → Mid o x →
    ∃ q, W_spec_l04Fill_5 (list, jk, a, x, true, (i : Int)) = some (.inl (jk, q)) ∧ (match fillGo a (list.drop i) x with
      | some y => q = (y, true)
      | none => q.2 = false)
  | 0, i, x, hi, hm => by
    have : i = list.length := by omega
    subst this
    rw [w_spec_l04Fill_5]
    simp only [S_spec_l04Fill_5, lt_cast, Nat.lt_irrefl, decide_false, cond_false, List.drop_length, fillGo, Option.bind_some]
    exact ⟨_, rfl, rfl⟩
  | r + 1, i, x, hi, hm => by
    have h : i < list.length := by omega
    have hw := diskOk_wt hm.ok
    have hts := hs list[i] (List.getElem_mem h)
    have hr : rdL Ty.str list i = list[i] := rdL_get (t := Ty.str) h
    rw [w_spec_l04Fill_5, List.drop_eq_getElem_cons h]
    simp only [S_spec_l04Fill_5, lt_cast, h, decide_true, cond_true, gIdx_nat h, Int.toNat_natCast, hr, l04Put_ok x a list[i] (by omega) hts hm.len, Option.bind_some, fillGo]
    rw [wrap_succ (by omega)]
    cases hp : put_ x a list[i] with
    | none =>
      simp only [orD, Option.bind_none]
      rw [w_spec_l04Fill_5]
      simp only [S_spec_l04Fill_5, lt_cast]
      cases decide (i + 1 < list.length) <;> exact ⟨_, rfl, rfl⟩
    | some y =>
      simp only [orD, Option.bind_some]
      exact fill_spec ha ho jk list hl hs r (i + 1) y (by omega) (hm.put ha ho hp)

end Go.Proofs.Ythhpkgegmfjdmaa.Ab
namespace Go.Proofs.Ythhpkgegmfjdmaa.Ab
open Go
set_option linter.unusedVariables false
set_option linter.unusedSimpArgs false
set_option linter.unnecessarySimpa false
set_option linter.unusedSimpArgs false
set_option linter.unusedVariables false

/-! ### A switch -/
def otherOf (d : DiskT) : Int := 1 - activeOf d
theorem otherOf_01 (d : DiskT) : (otherOf d = 0 ∨ otherOf d = 1) ∧ activeOf d = 1 - otherOf d := by
  unfold otherOf
  have := activeOf_01 d
  omega

/-- The other area begun anew. -/
def fill0 (d : DiskT) : DiskT := flush (orD d (count_ d (otherOf d) 0)).1
def fill_ (d : DiskT) (l : List ByteArray) : Option DiskT := if logOk d then fillGo (otherOf d) l (fill0 d) else none
def turn_ (x : DiskT) : Option DiskT := writeBytes x 0 0 (countB (IntKind.i64.wrap (fstByte x 0 + 1)))
def switch_ (d : DiskT) (l : List ByteArray) : Option DiskT := (fill_ d l).map fun x => flush (orD x (turn_ x)).1

theorem count0_ok {d : DiskT} (hl : logOk d = true) (a n : Int) : ∃ z, count_ d a n = some z ∧ diskOk z = true ∧ z.1.length = 97 := by
  obtain ⟨h1, h2, h3, _⟩ := logOk_len hl
  have ha := areaFirst_le a
  have ho := oneByte (s := areaFirst a) h1 h3 (by omega) (by omega) (countB_size n)
  have := writeBytes_ok ho
  exact ⟨_, ho, this.2.1, by rw [this.2.2]; exact h2⟩

theorem fill0_mid {d : DiskT} (hl : logOk d = true) : Mid (activeOf d) (fill0 d) := by
  obtain ⟨z, hz, hz2, hz3⟩ := count0_ok hl (otherOf d) 0
  obtain ⟨a1, a2⟩ := otherOf_01 d
  obtain ⟨h1, h2, h3, h4, h5⟩ := logOk_len hl
  obtain ⟨f1, f2, f3⟩ := flush_ok hz2
  have e : fill0 d = flush z := by unfold fill0; rw [hz]; rfl
  have hr : (readArea d (activeOf d)).2.2 = true := by
    rcases activeOf_01 d with h | h <;> rw [h] <;> assumption
  rw [e]
  exact ⟨f1, by rw [f3]; exact hz3, f2, by rw [((count_only hz).flush hz2).other a1 a2]; exact hr⟩

theorem turn_ok {x : DiskT} {o : Int} (h : Mid o x) : ∃ y, turn_ x = some y ∧ diskOk y = true := by
  have ho := oneByte (s := 0) h.ok h.nil (by omega) (by rw [h.len]; omega) (countB_size (IntKind.i64.wrap (fstByte x 0 + 1)))
  exact ⟨_, ho, (writeBytes_ok ho).2.1⟩

section
variable {d : DiskT} {l : List ByteArray} (hd : YDisk.wt d ≤ 10000000) (hl : l.length ≤ 1048576) (hs : ∀ t ∈ l, t.size ≤ 1048576)
include hd hl hs

omit hd hl hs in
theorem w_other : IntKind.i64.wrap ((1 : Int) - activeOf d) = otherOf d := by
  unfold otherOf
  have := activeOf_01 d
  rw [wrap64 (by omega) (by omega)]

omit hd hl hs in
theorem fill_some {x : DiskT} (h : fill_ d l = some x) : logOk d = true ∧ Mid (activeOf d) x := by
  unfold fill_ at h
  split at h
  · rename_i hlo
    obtain ⟨a1, a2⟩ := otherOf_01 d
    exact ⟨hlo, fillGo_mid a1 a2 (fill0_mid hlo) h⟩
  · cases h

theorem fillOther_impl : q_impl_fillOther (d, l) = some (orD d (fill_ d l)) := by
  rw [e_impl_fillOther]; unfold X_impl_fillOther fill_
  simp only [LogOk_impl d (by omega), Copy_impl d (by unfold big40; omega), ActiveOf_impl d (by unfold big40; omega), w_other (d := d), putCount_ok d _ _ (by omega), Option.bind_some]
  cases hlo : logOk d with
  | false => simp [orD]
  | true =>
    obtain ⟨z, hz, hz2, hz3⟩ := count0_ok hlo (otherOf d) 0
    have hzw := diskOk_wt hz2
    obtain ⟨a1, a2⟩ := otherOf_01 d
    have e : flush z = fill0 d := by unfold fill0; rw [hz]; rfl
    have L := fill_impl a1 a2 d ([], []) hd l hl hs l.length 0 (fill0 d) (by omega) (fill0_mid hlo)
    have L : W_impl_fillOther_6 (d, ([], []), otherOf d, fill0 d, l, (l.length : Int), 0) = _ := L
    simp only [Bool.not_true, cond_false, hz, orD, FlushDisk_impl z (by omega), Option.bind_some, e, L, List.drop_zero, if_true]
    cases fillGo (otherOf d) l (fill0 d) <;> rfl

theorem l04Fill_spec (hlo : logOk d = true) : ∃ q, q_spec_l04Fill (d, l) = some q ∧ (match fill_ d l with
    | some y => q = (y, true)
    | none => q.2 = false) := by
  obtain ⟨z, hz, hz2, hz3⟩ := count0_ok hlo (otherOf d) 0
  have hzw := diskOk_wt hz2
  obtain ⟨a1, a2⟩ := otherOf_01 d
  have e : flush z = fill0 d := by unfold fill0; rw [hz]; rfl
  obtain ⟨q, L, hq⟩ := fill_spec a1 a2 ([], []) l hl hs l.length 0 (fill0 d) (by omega) (fill0_mid hlo)
  have L : W_spec_l04Fill_5 (l, ([], []), otherOf d, fill0 d, true, 0) = _ := L
  rw [List.drop_zero] at hq
  refine ⟨q, ?_, by unfold fill_; rw [hlo, if_pos rfl]; exact hq⟩
  rw [e_spec_l04Fill]; unfold X_spec_l04Fill
  simp only [ActiveOf_spec d (by unfold big40; omega), w_other (d := d), l04Count_ok d _ _ (by omega), Option.bind_some, hz, orD, FlushDisk_spec z (by omega), e, L]

omit hd hl hs in
theorem turnFirst_ok (x : DiskT) (hx : YDisk.wt x ≤ 10000000) : q_impl_turnFirst x = some (orD x (turn_ x)).1 := by
  rw [e_impl_turnFirst]; unfold X_impl_turnFirst
  have h1 : strI [IntKind.u8.wrap (IntKind.i64.wrap (fstByte x 0 + 1))] = countB (IntKind.i64.wrap (fstByte x 0 + 1)) := rfl
  simp only [firstByte_impl x 0 (by unfold big40; omega), Option.bind_some, h1, WriteBytes_impl x 0 0 (countB (IntKind.i64.wrap (fstByte x 0 + 1))) (by omega) (by rw [countB_size]; omega) (by rw [countB_size]; omega)]
  rfl
omit hd hl hs in
theorem l04Turn_ok (x : DiskT) (hx : YDisk.wt x ≤ 10000000) : q_spec_l04Turn x = some (orD x (turn_ x)) := by
  rw [e_spec_l04Turn]; unfold X_spec_l04Turn
  have h1 : ∀ n, q_spec_l04One n = some (countB n) := fun n => by rw [e_spec_l04One]; rfl
  simp only [l04Byte_spec x 0 (by unfold big40; omega), h1, Option.bind_some, WriteBytes_spec x 0 0 (countB (IntKind.i64.wrap (fstByte x 0 + 1))) (by omega) (by rw [countB_size]; omega)]
  rfl

theorem SwitchLog_impl : q_impl_SwitchLog (d, l) = some (orD d (switch_ d l)) := by
  rw [e_impl_SwitchLog]; unfold X_impl_SwitchLog switch_
  simp only [fillOther_impl hd hl hs, Option.bind_some]
  cases hf : fill_ d l with
  | none => rfl
  | some x =>
    obtain ⟨hlo, hm⟩ := fill_some hf
    have hx := diskOk_wt hm.ok
    obtain ⟨y, hy, hy2⟩ := turn_ok hm
    have hyw := diskOk_wt hy2
    simp only [orD, Bool.not_true, cond_false, turnFirst_ok x (by omega), hy, Option.bind_some, FlushDisk_impl y (by omega), Option.map_some]

theorem SwitchLog_spec : q_spec_SwitchLog (d, l) = some (orD d (switch_ d l)) := by
  rw [e_spec_SwitchLog]; unfold X_spec_SwitchLog switch_
  simp only [LogOk_spec d (by omega), Copy_spec d (by unfold big40; omega), Option.bind_some]
  cases hlo : logOk d with
  | false =>
    have : fill_ d l = none := by unfold fill_; rw [hlo]; rfl
    rw [this]
    rfl
  | true =>
    obtain ⟨q, hq, hq2⟩ := l04Fill_spec hd hl hs hlo
    simp only [Bool.not_true, cond_false, hq, Option.bind_some]
    cases hf : fill_ d l with
    | none =>
      rw [hf] at hq2
      simp only at hq2
      simp only [hq2, Bool.not_false, cond_true]
      rfl
    | some x =>
      rw [hf] at hq2
      simp only at hq2
      subst hq2
      obtain ⟨_, hm⟩ := fill_some hf
      have hx := diskOk_wt hm.ok
      obtain ⟨y, hy, hy2⟩ := turn_ok hm
      have hyw := diskOk_wt hy2
      simp only [orD, Bool.not_true, cond_false, l04Turn_ok x (by omega), hy, Option.bind_some, FlushDisk_spec y (by omega), Option.map_some]

def cutSwitch (d : DiskT) (l : List ByteArray) (step : Int) (keep : List Int) (tear : Int) : DiskT :=
  match fill_ d l with
  | none => d
  | some x =>
    if step = 0 then crash (orD d (count_ d (otherOf d) 0)).1 keep tear
    else if step = 1 then x
    else if step = 2 then crash (orD x (turn_ x)).1 keep tear
    else flush (orD x (turn_ x)).1

theorem CutSwitch_impl (step : Int) (keep : List Int) (tear : Int) : q_impl_CutSwitch (d, l, step, keep, tear) = some (cutSwitch d l step keep tear) := by
  rw [e_impl_CutSwitch]; unfold X_impl_CutSwitch cutSwitch
  simp only [SwitchLog_impl hd hl hs, Copy_impl d (by unfold big40; omega), ActiveOf_impl d (by unfold big40; omega), w_other (d := d), fillOther_impl hd hl hs, Option.bind_some]
  unfold switch_
  cases hf : fill_ d l with
  | none => rfl
  | some x =>
    obtain ⟨hlo, hm⟩ := fill_some hf
    have hx := diskOk_wt hm.ok
    obtain ⟨y, hy, hy2⟩ := turn_ok hm
    have hyw := diskOk_wt hy2
    obtain ⟨z, hz, hz2, _⟩ := count0_ok hlo (otherOf d) 0
    have hzw := diskOk_wt hz2
    simp only [orD, Option.map_some, Bool.not_true, cond_false, putCount_ok d _ _ (show YDisk.wt d ≤ 1073741824 by omega), hz, Option.bind_some, CrashDisk_impl z keep tear (by omega), turnFirst_ok x (by omega), hy, CrashDisk_impl y keep tear (by omega)]
    by_cases h0 : step = 0
    · simp [h0]
    · by_cases h1 : step = 1
      · simp [h1]
      · by_cases h2 : step = 2
        · simp [h2]
        · simp [h0, h1, h2]

theorem CutSwitch_spec (step : Int) (keep : List Int) (tear : Int) : q_spec_CutSwitch (d, l, step, keep, tear) = some (cutSwitch d l step keep tear) := by
  rw [e_spec_CutSwitch]; unfold X_spec_CutSwitch cutSwitch
  simp only [SwitchLog_spec hd hl hs, Copy_spec d (by unfold big40; omega), ActiveOf_spec d (by unfold big40; omega), w_other (d := d), Option.bind_some]
  unfold switch_
  cases hf : fill_ d l with
  | none => rfl
  | some x =>
    obtain ⟨hlo, hm⟩ := fill_some hf
    obtain ⟨q, hq, hq2⟩ := l04Fill_spec hd hl hs hlo
    rw [hf] at hq2
    simp only at hq2
    subst hq2
    have hx := diskOk_wt hm.ok
    obtain ⟨y, hy, hy2⟩ := turn_ok hm
    have hyw := diskOk_wt hy2
    obtain ⟨z, hz, hz2, _⟩ := count0_ok hlo (otherOf d) 0
    have hzw := diskOk_wt hz2
    simp only [orD, Option.map_some, Bool.not_true, cond_false, hq, l04Count_ok d _ _ (show YDisk.wt d ≤ 1073741824 by omega), hz, Option.bind_some, CrashDisk_spec z keep tear (by omega), l04Turn_ok x (by omega), hy, CrashDisk_spec y keep tear (by omega)]
    by_cases h0 : step = 0
    · simp [h0]
    · by_cases h1 : step = 1
      · simp [h1]
      · by_cases h2 : step = 2
        · simp [h2]
        · simp [h0, h1, h2]

omit hl hs in
theorem cutSwitch_wt (step : Int) (keep : List Int) (tear : Int) : YDisk.wt (cutSwitch d l step keep tear) ≤ 10000000 := by
  unfold cutSwitch
  cases hf : fill_ d l with
  | none => exact hd
  | some x =>
    obtain ⟨hlo, hm⟩ := fill_some hf
    obtain ⟨y, hy, hy2⟩ := turn_ok hm
    obtain ⟨z, hz, hz2, _⟩ := count0_ok hlo (otherOf d) 0
    simp only [orD, hz, hy]
    split
    · have := diskOk_wt (crash_ok hz2 keep tear).1; omega
    · split
      · have := diskOk_wt hm.ok; omega
      · split
        · have := diskOk_wt (crash_ok hy2 keep tear).1; omega
        · have := diskOk_wt (flush_ok hy2).1; omega
end

end Go.Proofs.Ythhpkgegmfjdmaa.Ab
namespace Go.Proofs.Ythhpkgegmfjdmaa.Ab
open Go
set_option linter.unusedVariables false
set_option linter.unusedSimpArgs false
set_option linter.unnecessarySimpa false
set_option linter.unusedSimpArgs false
set_option linter.unusedVariables false

/-! ### Bytes of sectors -/
def getB (s : ByteArray) (i : Nat) : UInt8 := s.data.toList.getD i 0

theorem getB_append (a b : ByteArray) (i : Nat) : getB (a ++ b) i = if i < a.size then getB a i else getB b (i - a.size) := by
  unfold getB
  have hs : a.size = a.data.toList.length := by simp only [Array.length_toList]; rfl
  rw [ByteArray.data_append, Array.toList_append, List.getD_eq_getElem?_getD, hs]
  split
  · rename_i h
    rw [List.getElem?_append_left h, List.getD_eq_getElem?_getD]
  · rename_i h
    rw [List.getElem?_append_right (Nat.le_of_not_lt h), List.getD_eq_getElem?_getD]

theorem getB_extract (a : ByteArray) (b e i : Nat) : getB (a.extract b e) i = if i < min e a.size - b then getB a (b + i) else 0 := by
  unfold getB
  have hd : (a.extract b e).data.toList = (a.data.toList.drop b).take (min e a.size - b) := by
    have hs : a.size = a.data.toList.length := by simp only [Array.length_toList]; rfl
    rw [ByteArray.data_extract]
    rw [Array.toList_extract, List.extract_eq_take_drop]
    apply List.ext_getElem?
    intro n
    rw [List.getElem?_take, List.getElem?_take, List.getElem?_drop]
    split <;> split <;> first | rfl | skip
    · rename_i h1 h2
      rw [List.getElem?_eq_none (by omega)]
    · rename_i h1 h2
      rw [List.getElem?_eq_none (by omega)]
  rw [hd, List.getD_eq_getElem?_getD, List.getElem?_take]
  split
  · rw [List.getElem?_drop, List.getD_eq_getElem?_getD]
  · rfl

theorem getB_ext {a b : ByteArray} (hs : a.size = b.size) (h : ∀ i, i < a.size → getB a i = getB b i) : a = b := by
  have ha : a.size = a.data.toList.length := by simp only [Array.length_toList]; rfl
  have hb : b.size = b.data.toList.length := by simp only [Array.length_toList]; rfl
  have : a.data.toList = b.data.toList := by
    apply List.ext_getElem (by omega)
    intro i h1 h2
    have := h i (by omega)
    unfold getB at this
    rw [List.getD_eq_getElem?_getD, List.getD_eq_getElem?_getD, List.getElem?_eq_getElem h1, List.getElem?_eq_getElem h2] at this
    exact this
  apply ByteArray.ext
  apply Array.ext'
  exact this

/-- What a sector holds, behind a write at the bytes from S on. -/
theorem writeSec_read {d x : DiskT} {k : Int} {s : ByteArray} (h : writeSec d k s = some x) : readSec x k = (s, true) := by
  obtain ⟨h1, h2⟩ := writeSec_ok h
  obtain ⟨_, _, _, h4⟩ := diskOk_iff.mp h1
  subst h2
  have := (h4 (k, s) (by simp)).1
  have hk : 0 ≤ k ∧ k < (d.1.length : Int) := this
  unfold readSec
  simp only [lastPut_snoc]
  rw [if_pos hk]
  simp

theorem wbGo_bytes : ∀ {f : Nat} {d x : DiskT} {k at_ : Nat} {t : ByteArray}, wbGo f d k at_ t = some x → t.size < f → at_ < 64 → ∀ (j i : Nat), i < 64 → j < d.1.length →
    getB (readSec x (j : Int)).1 i = if k * 64 + at_ ≤ j * 64 + i ∧ j * 64 + i < k * 64 + at_ + t.size then getB t (j * 64 + i - (k * 64 + at_)) else getB (readSec d (j : Int)).1 i
  | 0, d, x, k, at_, t, h, hf, _, j, i, _, _ => by omega
  | f + 1, d, x, k, at_, t, h, hf, hat, j, i, hi, hj => by
    rw [wbGo] at h
    split at h
    · rename_i hz
      cases h
      rw [if_neg (by omega)]
    · rename_i hz
      split at h
      · rename_i hrd
        cases hw : writeSec d (k : Int) ((readSec d (k : Int)).1.extract 0 at_ ++ t.extract 0 (min t.size (64 - at_)) ++ (readSec d (k : Int)).1.extract (at_ + min t.size (64 - at_)) 64) with
        | none => rw [hw] at h; cases h
        | some y =>
          rw [hw] at h
          simp only [Option.bind_some] at h
          obtain ⟨n, hn⟩ : ∃ n, n = min t.size (64 - at_) := ⟨_, rfl⟩
          rw [← hn] at h hw
          have hyl : y.1.length = d.1.length := by rw [(writeSec_ok hw).2]
          have hsz : (t.extract n t.size).size = t.size - n := by rw [ByteArray.size_extract]; omega
          have ih := wbGo_bytes h (by omega) (by omega) j i hi (by omega)
          rw [ih, hsz]
          by_cases hjk : j = k
          · subst hjk
            rw [if_neg (by omega), writeSec_read hw]
            simp only
            rw [getB_append, getB_append, getB_extract, getB_extract, getB_extract]
            simp only [ByteArray.size_append, ByteArray.size_extract, hrd.2]
            by_cases h1 : i < at_
            · have e1 : i < min at_ 64 - 0 := by omega
              rw [if_pos (by omega), if_pos e1, if_pos e1, if_neg (by omega), Nat.zero_add]
            · by_cases h2 : i < at_ + n
              · rw [if_pos (by omega), if_neg (by omega), if_pos (by omega), if_pos (by omega)]
                congr 1
                omega
              · rw [if_neg (by omega), if_pos (by omega), if_neg (by omega)]
                congr 1
                omega
          · have hfr : readSec y (j : Int) = readSec d (j : Int) := writeSec_frame hw (by omega)
            rw [hfr]
            by_cases h1 : (k + 1) * 64 + 0 ≤ j * 64 + i ∧ j * 64 + i < (k + 1) * 64 + 0 + (t.size - n)
            · rw [if_pos h1, if_pos (by omega), getB_extract, if_pos (by omega)]
              congr 1
              omega
            · rw [if_neg h1, if_neg (by omega)]
      · cases h

end Go.Proofs.Ythhpkgegmfjdmaa.Ab
namespace Go.Proofs.Ythhpkgegmfjdmaa.Ab
open Go
set_option linter.unusedVariables false
set_option linter.unusedSimpArgs false
set_option linter.unnecessarySimpa false
set_option linter.unusedSimpArgs false
set_option linter.unusedVariables false

/-! ### What is read depends on what stands ahead of its end -/
theorem size_list (a : ByteArray) : a.size = a.data.toList.length := by simp only [Array.length_toList]; rfl
theorem getB_some {a : ByteArray} {i : Nat} (h : i < a.size) : a.data.toList[i]? = some (getB a i) := by
  unfold getB
  rw [size_list] at h
  rw [List.getD_eq_getElem?_getD, List.getElem?_eq_getElem h]
  rfl

theorem varGo_local : ∀ {f i n : Nat} {l l' : List UInt8} {v k : Nat}, varGo f i n l = some (v, k) → (∀ q, q < k - i → l'[q]? = l[q]?) → varGo f i n l' = some (v, k)
  | 0, _, _, _, _, _, _, h, _ => by cases h
  | _ + 1, _, _, [], _, _, _, h, _ => by cases h
  | f + 1, i, n, b :: l, l', v, k, h, hl => by
    have hk := (varGo_ok _ _ _ _ _ _ h).2.2
    have h0 := hl 0 (by omega)
    cases l' with
    | nil => simp at h0
    | cons b' l' =>
      simp only [List.getElem?_cons_zero, Option.some.injEq] at h0
      subst h0
      simp only [varGo] at h ⊢
      split at h
      · rename_i h1
        rw [if_pos h1]
        exact h
      · rename_i h1
        rw [if_neg h1]
        exact varGo_local h (fun q hq => by have := hl (q + 1) (by omega); simpa using this)

theorem readVar_local {T T' : ByteArray} {at_ : Int} (h : (readVar T at_).2.2 = true) (hs : T'.size = T.size) (hb : ∀ q : Nat, (q : Int) < (readVar T at_).2.1 → getB T' q = getB T q) : readVar T' at_ = readVar T at_ := by
  have hok := readVar_ok h
  unfold readVar at h hb hok ⊢
  split at h
  · rename_i hc
    rw [if_pos hc] at hb hok
    rw [if_pos (by rw [hs]; exact hc), if_pos hc]
    cases hv : varGo 5 0 0 (T.data.toList.drop at_.toNat) with
    | none => rw [hv] at h; cases h
    | some r =>
      obtain ⟨v, k⟩ := r
      rw [hv] at hb hok
      simp only [varFin] at hb hok
      rw [varGo_local hv (fun q hq => by
        have hlt : at_.toNat + q < T.size := by omega
        rw [List.getElem?_drop, List.getElem?_drop, getB_some (by omega), getB_some hlt, hb (at_.toNat + q) (by omega)])]
  · cases h

theorem readShort_next {T : ByteArray} {at_ : Int} (h : (readShort T at_).2.2 = true) : 0 ≤ at_ ∧ at_ < (readShort T at_).2.1 ∧ (readShort T at_).2.1 ≤ T.size := by
  have h2 := readShort_ok h
  unfold readShort at h h2 ⊢
  split at h
  · rename_i hc
    rw [if_pos hc] at h2
    rw [if_pos hc]
    have := readVar_ok hc.1
    simp only at h2 ⊢
    omega
  · cases h

theorem readShort_local {T T' : ByteArray} {at_ : Int} (h : (readShort T at_).2.2 = true) (hs : T'.size = T.size) (hb : ∀ q : Nat, (q : Int) < (readShort T at_).2.1 → getB T' q = getB T q) : readShort T' at_ = readShort T at_ := by
  have hn := readShort_next h
  unfold readShort at h hb hn ⊢
  split at h
  · rename_i hc
    rw [if_pos hc] at hb hn
    simp only at hb hn
    have hok := readVar_ok hc.1
    have e : readVar T' at_ = readVar T at_ := readVar_local hc.1 hs (fun q hq => hb q (by omega))
    rw [e, if_pos (by rw [hs]; exact hc), if_pos hc]
    congr 1
    apply getB_ext
    · rw [ByteArray.size_extract, ByteArray.size_extract, hs]
    · intro i hi
      rw [ByteArray.size_extract] at hi
      rw [getB_extract, getB_extract, hs]
      split
      · exact hb _ (by omega)
      · rfl
  · cases h

theorem areaGo_end {T : ByteArray} : ∀ {m : Nat} {at_ : Int} {acc l : List ByteArray} {E : Int}, areaGo T m at_ acc = (l, E, true) → at_ ≤ E
  | 0, at_, acc, l, E, h => by unfold areaGo at h; cases h; exact Int.le_refl _
  | m + 1, at_, acc, l, E, h => by
    unfold areaGo at h
    split at h
    · rename_i hc
      simp only [Bool.and_eq_true] at hc
      have h1 := (readShort_next hc.1).2.1
      have h2 := areaGo_end h
      omega
    · cases h

theorem areaGo_local {T T' : ByteArray} (hs : T'.size = T.size) : ∀ {m : Nat} {at_ : Int} {acc l : List ByteArray} {E : Int}, areaGo T m at_ acc = (l, E, true) → (∀ q : Nat, (q : Int) < E → getB T' q = getB T q) → areaGo T' m at_ acc = (l, E, true)
  | 0, at_, acc, l, E, h, _ => by unfold areaGo at h ⊢; exact h
  | m + 1, at_, acc, l, E, h, hb => by
    unfold areaGo at h ⊢
    split at h
    · rename_i hc
      have hc' := hc
      simp only [Bool.and_eq_true] at hc'
      have h2 := areaGo_end h
      rw [readShort_local hc'.1 hs (fun q hq => hb q (by omega)), if_pos hc]
      exact areaGo_local hs h hb
    · cases h

theorem areaGo_snoc {T : ByteArray} {s : ByteArray} {nx : Int} : ∀ {m : Nat} {at_ : Int} {acc l : List ByteArray} {E : Int}, areaGo T m at_ acc = (l, E, true) → readShort T E = (s, nx, true) → s.size ≠ 0 → areaGo T (m + 1) at_ acc = (l ++ [s], nx, true)
  | 0, at_, acc, l, E, h, hr, hne => by
    unfold areaGo at h
    cases h
    unfold areaGo
    have : strEq s emp = false := by
      have := size_zero_eq (t := s)
      rw [emp_eq] at this
      rw [this]
      simpa using hne
    rw [hr]
    simp only [this, Bool.not_false, Bool.and_self, if_true]
    rfl
  | m + 1, at_, acc, l, E, h, hr, hne => by
    unfold areaGo at h
    split at h
    · rename_i hc
      unfold areaGo
      rw [if_pos hc]
      exact areaGo_snoc h hr hne
    · cases h

/-! ### A number written, and read -/
def u8s (l : List Int) : List UInt8 := l.map fun n => UInt8.ofNat n.toNat

theorem varGo_varB : ∀ (f i acc n N : Nat) (r : List UInt8), 0 < f → n < 128 ^ f → acc + n * 128 ^ i = N → N ≤ 1000000000 → (varB N).length = i + (varB n).length → varGo f i acc (u8s (varB n) ++ r) = some (N, i + (varB n).length)
  | 0, i, acc, n, N, r, hf, _, _, _, _ => by omega
  | f + 1, i, acc, n, N, r, _, hn, hN, hb, hl => by
    by_cases h : n < 128
    · rw [varB_lt h] at hl ⊢
      have e : (UInt8.ofNat ((n : Int)).toNat).toNat = n := by
        rw [Int.toNat_natCast, UInt8.toNat_ofNat']
        omega
      simp only [u8s, List.map_cons, List.map_nil, List.cons_append, List.nil_append, varGo, e, h, if_true, List.length_singleton] at hl ⊢
      rw [Nat.mod_eq_of_lt h, hN, if_pos ⟨hb, hl⟩]
    · rw [varB_ge h] at hl ⊢
      have e : (UInt8.ofNat (((n % 128 + 128 : Nat) : Int)).toNat).toNat = n % 128 + 128 := by
        rw [Int.toNat_natCast, UInt8.toNat_ofNat']
        omega
      have hh : ¬ n % 128 + 128 < 128 := by omega
      simp only [u8s, List.map_cons, List.cons_append, varGo, e, hh, if_false, List.length_cons] at hl ⊢
      have e2 : (n % 128 + 128) % 128 = n % 128 := by omega
      rw [e2]
      have := varGo_varB f (i + 1) (acc + n % 128 * 128 ^ i) (n / 128) N r (by rcases f with _ | f <;> simp at hn ⊢; omega) (by rw [Nat.pow_succ] at hn; omega) (by
        rw [← hN, Nat.pow_succ]
        have : n = n % 128 + 128 * (n / 128) := by omega
        conv => rhs; rw [this]
        rw [Nat.add_mul]
        have : n / 128 * (128 ^ i * 128) = 128 * (n / 128) * 128 ^ i := by rw [Nat.mul_comm (128 ^ i) 128, ← Nat.mul_assoc, Nat.mul_comm (n / 128) 128]
        omega) hb (by omega)
      show varGo f (i + 1) (acc + n % 128 * 128 ^ i) (u8s (varB (n / 128)) ++ r) = _
      rw [this]
      congr 2
      omega

end Go.Proofs.Ythhpkgegmfjdmaa.Ab
namespace Go.Proofs.Ythhpkgegmfjdmaa.Ab
open Go
set_option linter.unusedVariables false
set_option linter.unusedSimpArgs false
set_option linter.unnecessarySimpa false
set_option linter.unusedSimpArgs false
set_option linter.unusedVariables false

theorem strI_list (l : List Int) : (strI l).data.toList = u8s l := by
  unfold strI u8s
  simp

theorem readShort_written {T t : ByteArray} {E : Nat} (h0 : t.size ≠ 0) (h1 : t.size ≤ 3008) (hE : E + (shortOf t).size ≤ T.size) (hb : ∀ q, q < (shortOf t).size → getB T (E + q) = getB (shortOf t) q) :
    readShort T (E : Int) = (t, ((E + (shortOf t).size : Nat) : Int), true) := by
  have hsz : (shortOf t).size = (varB t.size).length + t.size := by unfold shortOf; rw [ByteArray.size_append, strI_size]
  have hlist : (shortOf t).data.toList = u8s (varB t.size) ++ t.data.toList := by
    unfold shortOf
    rw [ByteArray.data_append, Array.toList_append, strI_list]
  have hdrop : ∃ r, T.data.toList.drop E = u8s (varB t.size) ++ r := by
    refine ⟨(T.data.toList.drop E).drop (u8s (varB t.size)).length, ?_⟩
    have : (T.data.toList.drop E).take (u8s (varB t.size)).length = u8s (varB t.size) := by
      apply List.ext_getElem?
      intro q
      rw [List.getElem?_take]
      split
      · rename_i hq
        have hq' : q < (varB t.size).length := by simpa [u8s] using hq
        rw [List.getElem?_drop, getB_some (by omega), hb q (by omega), ← getB_some (by omega), hlist, List.getElem?_append_left hq]
      · rename_i hq
        rw [List.getElem?_eq_none (Nat.le_of_not_lt hq)]
    conv => lhs; rw [← List.take_append_drop (u8s (varB t.size)).length (T.data.toList.drop E)]
    rw [this]
  obtain ⟨r, hr⟩ := hdrop
  have hv := varGo_varB 5 0 0 t.size t.size r (by omega) (by omega) (by simp) (by omega) (by omega)
  have hread : readVar T (E : Int) = ((t.size : Int), (E : Int) + ((varB t.size).length : Int), true) := by
    unfold readVar
    rw [if_pos (by omega), Int.toNat_natCast, hr, hv]
    simp [varFin]
  unfold readShort
  rw [hread]
  simp only
  rw [if_pos (by simp only [true_and]; omega)]
  have e1 : ((E : Int) + ((varB t.size).length : Int)).toNat = E + (varB t.size).length := by omega
  have e2 : ((E : Int) + ((varB t.size).length : Int) + (t.size : Int)).toNat = E + (varB t.size).length + t.size := by omega
  rw [e1, e2]
  have et : T.extract (E + (varB t.size).length) (E + (varB t.size).length + t.size) = t := by
    apply getB_ext
    · rw [ByteArray.size_extract]; omega
    · intro i hi
      rw [ByteArray.size_extract] at hi
      rw [getB_extract, if_pos (by omega)]
      have := hb ((varB t.size).length + i) (by omega)
      rw [show E + (varB t.size).length + i = E + ((varB t.size).length + i) by omega, this]
      unfold shortOf
      rw [getB_append, if_neg (by rw [strI_size]; omega), strI_size]
      congr 1
      omega
  rw [et]
  congr 2
  rw [hsz]
  omega

/-! ### An area's text -/
/-- All sectors are there and have their size. -/
def Full (d : DiskT) : Prop := ∀ k : Nat, k < 97 → (readSec d (k : Int)).2 = true ∧ (readSec d (k : Int)).1.size = 64

theorem full_of {d : DiskT} (hk : diskOk d = true) (hl : d.1.length = 97) : Full d := by
  intro k hlt
  obtain ⟨k1, k2, k3, k4⟩ := diskOk_iff.mp hk
  have hc : (0 : Int) ≤ (k : Int) ∧ (k : Int) < (d.1.length : Int) := by omega
  unfold readSec
  rw [if_pos hc]
  refine ⟨rfl, ?_⟩
  cases hp : lastPut d.2 (k : Int) with
  | none =>
    have hlt' : k < d.1.length := by omega
    have e : rdL Ty.str d.1 k = d.1[k] := rdL_get (t := Ty.str) hlt'
    simp only [Option.getD_none, Int.toNat_natCast]
    rw [e]
    exact k3 _ (List.getElem_mem hlt')
  | some s =>
    obtain ⟨p, hp1, hp2⟩ := lastPut_mem hp
    simp only [Option.getD_some]
    rw [← hp2]
    exact (k4 p hp1).2

theorem secGo_bytes {d : DiskT} {F : Nat} (h : ∀ q : Nat, q < 47 → (readSec d ((F + q : Nat) : Int)).2 = true ∧ (readSec d ((F + q : Nat) : Int)).1.size = 64) : ∀ (m i : Nat) (acc : ByteArray), i + m ≤ 47 →
    ∃ T, secGo d (F : Int) m i acc = (T, true) ∧ T.size = acc.size + 64 * m ∧ ∀ j, j < T.size → getB T j = if j < acc.size then getB acc j else getB (readSec d ((F + i + (j - acc.size) / 64 : Nat) : Int)).1 ((j - acc.size) % 64)
  | 0, i, acc, _ => ⟨acc, rfl, by omega, fun j hj => by rw [if_pos hj]⟩
  | m + 1, i, acc, hm => by
    have hq := h i (by omega)
    have e : (F : Int) + (i : Int) = ((F + i : Nat) : Int) := by omega
    obtain ⟨T, t1, t2, t3⟩ := secGo_bytes h m (i + 1) (acc ++ (readSec d ((F + i : Nat) : Int)).1) (by omega)
    refine ⟨T, ?_, ?_, fun j hj => ?_⟩
    · unfold secGo
      rw [e, if_pos hq.1]
      exact t1
    · rw [t2, ByteArray.size_append, hq.2]; omega
    · rw [t3 j hj, ByteArray.size_append, hq.2, getB_append]
      by_cases h1 : j < acc.size
      · rw [if_pos (by omega), if_pos h1, if_pos h1]
      · rw [if_neg h1, if_neg h1]
        by_cases h2 : j < acc.size + 64
        · rw [if_pos h2]
          have z1 : (j - acc.size) / 64 = 0 := by omega
          have z2 : (j - acc.size) % 64 = j - acc.size := by omega
          rw [z1, z2, Nat.add_zero]
        · rw [if_neg h2]
          have z1 : F + (i + 1) + (j - (acc.size + 64)) / 64 = F + i + (j - acc.size) / 64 := by omega
          have z2 : (j - (acc.size + 64)) % 64 = (j - acc.size) % 64 := by omega
          rw [z1, z2]

def firstN (a : Int) : Nat := (areaFirst a + 1).toNat
def areaT (d : DiskT) (a : Int) : ByteArray := (secText d (areaFirst a + 1) 47).1

theorem area_bytes {d : DiskT} (hf : Full d) {a : Int} (ha : a = 0 ∨ a = 1) : secText d (areaFirst a + 1) 47 = (areaT d a, true) ∧ (areaT d a).size = 3008 ∧ ∀ j, j < 3008 → getB (areaT d a) j = getB (readSec d ((firstN a + j / 64 : Nat) : Int)).1 (j % 64) := by
  have hfa : areaFirst a = 1 + a * 48 := by unfold areaFirst; rw [if_pos (isAr_iff.mpr ha)]
  have hF : (areaFirst a + 1 : Int) = ((firstN a : Nat) : Int) := by unfold firstN; rcases ha with rfl | rfl <;> omega
  have hb : firstN a + 47 ≤ 97 := by unfold firstN; rcases ha with rfl | rfl <;> omega
  obtain ⟨T, t1, t2, t3⟩ := secGo_bytes (d := d) (F := firstN a) (fun q hq => hf (firstN a + q) (by omega)) 47 0 emp (by omega)
  have he : emp.size = 0 := rfl
  have hs : secText d (areaFirst a + 1) 47 = (T, true) := by
    unfold secText
    rw [if_pos (by omega), hF]
    exact t1
  have hT : areaT d a = T := by unfold areaT; rw [hs]
  rw [hT]
  rw [he] at t2 t3
  refine ⟨hs, by omega, fun j hj => ?_⟩
  rw [t3 j (by omega), if_neg (by omega), Nat.add_zero, Nat.sub_zero]

theorem readArea_eq {d : DiskT} (hf : Full d) {a : Int} (ha : a = 0 ∨ a = 1) : readArea d a = areaGo (areaT d a) (countIn d a).toNat 0 [] := by
  have h := (area_bytes hf ha).1
  have hi : isAr a = true := isAr_iff.mpr ha
  unfold readArea
  rw [h, hi]
  rfl

end Go.Proofs.Ythhpkgegmfjdmaa.Ab
