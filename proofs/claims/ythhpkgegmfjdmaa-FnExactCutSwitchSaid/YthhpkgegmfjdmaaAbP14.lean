import Derived.Test.YthhpkgegmfjdmaaAbP12
namespace Go.Proofs.Ythhpkgegmfjdmaa.Ab
open Go
set_option linter.unusedVariables false
set_option linter.unusedSimpArgs false
set_option linter.unnecessarySimpa false
set_option linter.unusedSimpArgs false
set_option linter.unusedVariables false

/-! ### What a write does not reach -/
theorem writeSec_frame {d x : DiskT} {k : Int} {s : ByteArray} (h : writeSec d k s = some x) {j : Int} (hj : j ≠ k) : readSec x j = readSec d j := by
  have := (writeSec_ok h).2
  subst this
  have hne : ¬ k = j := fun z => hj z.symm
  unfold readSec
  simp only [lastPut_snoc, hne, if_false]

theorem wbGo_frame : ∀ {f : Nat} {d x : DiskT} {k at_ : Nat} {t : ByteArray}, wbGo f d k at_ t = some x → at_ < 64 → ∀ j : Nat, ¬ (k ≤ j ∧ j * 64 < k * 64 + at_ + t.size) → readSec x (j : Int) = readSec d (j : Int)
  | 0, d, x, k, at_, t, h, _, j, _ => by cases h; rfl
  | f + 1, d, x, k, at_, t, h, hat, j, hj => by
    rw [wbGo] at h
    split at h
    · cases h; rfl
    · rename_i hz
      split at h
      · cases hw : writeSec d (k : Int) ((readSec d (k : Int)).1.extract 0 at_ ++ t.extract 0 (min t.size (64 - at_)) ++ (readSec d (k : Int)).1.extract (at_ + min t.size (64 - at_)) 64) with
        | none => rw [hw] at h; cases h
        | some y =>
          rw [hw] at h
          simp only [Option.bind_some] at h
          have hne : j ≠ k := fun z => hj ⟨by omega, by omega⟩
          rw [← writeSec_frame hw (j := (j : Int)) (by omega)]
          refine wbGo_frame h (by omega) j (fun z => hj ?_)
          rw [ByteArray.size_extract] at z
          omega
      · cases h

theorem setPut_rd {s : List ByteArray} {p : Int × ByteArray} {j : Int} (hp : 0 ≤ p.1) (hj0 : 0 ≤ j) (hj : j.toNat < s.length) : rdL Ty.str (setPut s p) j.toNat = if p.1 = j then p.2 else rdL Ty.str s j.toNat := by
  have h' : j.toNat < (s.set p.1.toNat p.2).length := by rw [List.length_set]; exact hj
  have e1 : rdL Ty.str (s.set p.1.toNat p.2) j.toNat = (s.set p.1.toNat p.2)[j.toNat] := rdL_get (t := Ty.str) h'
  have e2 : rdL Ty.str s j.toNat = s[j.toNat] := rdL_get (t := Ty.str) hj
  show rdL Ty.str (s.set p.1.toNat p.2) j.toNat = _
  rw [e1, e2, List.getElem_set]
  by_cases e : p.1 = j
  · rw [if_pos (by rw [e]), if_pos e]
  · rw [if_neg (by omega), if_neg e]

theorem foldPut_rd {j : Int} (hj0 : 0 ≤ j) (z : ByteArray) : ∀ (c : List (Int × ByteArray)) (s : List ByteArray) (t : Option ByteArray), (∀ p ∈ c, 0 ≤ p.1) → j.toNat < s.length → rdL Ty.str s j.toNat = t.getD z →
    rdL Ty.str (c.foldl setPut s) j.toNat = (c.foldl (fun t p => if p.1 = j then some p.2 else t) t).getD z
  | [], s, t, _, _, h => h
  | p :: c, s, t, hc, hl, h => by
    rw [List.foldl_cons, List.foldl_cons]
    refine foldPut_rd hj0 z c _ _ (fun q hq => hc q (List.mem_cons_of_mem _ hq)) (by rw [setPut_len]; exact hl) ?_
    rw [setPut_rd (hc p (List.mem_cons_self ..)) hj0 hl]
    split
    · rfl
    · exact h

theorem flush_frame {d : DiskT} (hk : diskOk d = true) (j : Int) : readSec (flush d) j = readSec d j := by
  obtain ⟨_, f2, f3⟩ := flush_ok hk
  obtain ⟨k1, k2, k3, k4⟩ := diskOk_iff.mp hk
  unfold readSec
  rw [f3]
  split
  · rename_i hj
    have e1 : lastPut (flush d).2 j = none := by rw [f2]; rfl
    rw [e1]
    have e2 : (flush d).1 = d.2.foldl setPut d.1 := by unfold flush; rw [if_pos hk]
    rw [e2]
    have := foldPut_rd hj.1 (rdL Ty.str d.1 j.toNat) d.2 d.1 none (fun p hp => (k4 p hp).1.1) (by omega) rfl
    show (rdL Ty.str (d.2.foldl setPut d.1) j.toNat, true) = _
    rw [this]
    rfl
  · rfl

theorem secGo_congr {d d' : DiskT} {from_ : Int} : ∀ (m i : Nat) (acc : ByteArray), (∀ q : Nat, i ≤ q → q < i + m → readSec d' (from_ + (q : Int)) = readSec d (from_ + (q : Int))) → secGo d' from_ m i acc = secGo d from_ m i acc
  | 0, i, acc, h => rfl
  | m + 1, i, acc, h => by
    unfold secGo
    rw [h i (by omega) (by omega)]
    split
    · exact secGo_congr m (i + 1) _ (fun q h1 h2 => h q (by omega) (by omega))
    · rfl

theorem readArea_congr {d d' : DiskT} {o : Int} (h : ∀ q : Nat, q < 48 → readSec d' (areaFirst o + (q : Int)) = readSec d (areaFirst o + (q : Int))) : readArea d' o = readArea d o := by
  have h1 : secText d' (areaFirst o + 1) 47 = secText d (areaFirst o + 1) 47 := by
    unfold secText
    rw [if_pos (by omega), if_pos (by omega)]
    refine secGo_congr _ _ _ (fun q _ hq => ?_)
    have := h (q + 1) (by simp at hq; omega)
    rw [show areaFirst o + 1 + (q : Int) = areaFirst o + ((q + 1 : Nat) : Int) by omega]
    exact this
  have h2 : countIn d' o = countIn d o := by
    unfold countIn fstByte
    have := h 0 (by omega)
    rw [show areaFirst o + ((0 : Nat) : Int) = areaFirst o by omega] at this
    rw [this]
  unfold readArea
  rw [h1, h2]

/-- Nothing but area a is changed. -/
def OnlyArea (a : Int) (d d' : DiskT) : Prop := ∀ j : Nat, ¬ (areaFirst a ≤ (j : Int) ∧ (j : Int) < areaFirst a + 48) → readSec d' (j : Int) = readSec d (j : Int)

theorem OnlyArea.other {a o : Int} {d d' : DiskT} (h : OnlyArea a d d') (ha : a = 0 ∨ a = 1) (ho : o = 1 - a) : readArea d' o = readArea d o := by
  refine readArea_congr (fun q hq => ?_)
  have hf : areaFirst o = 1 + o * 48 := by unfold areaFirst; rw [if_pos (isAr_iff.mpr (by omega))]
  have hfa : areaFirst a = 1 + a * 48 := by unfold areaFirst; rw [if_pos (isAr_iff.mpr ha)]
  obtain ⟨j, hj⟩ : ∃ j : Nat, areaFirst o + (q : Int) = (j : Int) := ⟨(areaFirst o + (q : Int)).toNat, by rcases ha with rfl | rfl <;> omega⟩
  rw [hj]
  exact h j (by rcases ha with rfl | rfl <;> omega)

theorem OnlyArea.trans {a : Int} {d d' e : DiskT} (h1 : OnlyArea a d d') (h2 : OnlyArea a d' e) : OnlyArea a d e := fun j hj => (h2 j hj).trans (h1 j hj)
theorem OnlyArea.flush {a : Int} {d d' : DiskT} (h : OnlyArea a d d') (hk : diskOk d' = true) : OnlyArea a d (flush d') := fun j hj => (flush_frame hk _).trans (h j hj)

theorem writeBytes_frame {d x : DiskT} {s at_ : Int} {t : ByteArray} (h : writeBytes d s at_ t = some x) {j : Nat} (hj : ¬ (s ≤ (j : Int) ∧ (j : Int) * 64 < s * 64 + at_ + (t.size : Int))) : readSec x (j : Int) = readSec d (j : Int) := by
  unfold writeBytes at h
  split at h
  · rename_i hc
    simp only [Bool.and_eq_true, isIn, decide_eq_true_eq] at hc
    refine wbGo_frame h (Nat.mod_lt _ (by omega)) j (fun z => hj ?_)
    omega
  · cases h

theorem begin_only {d x : DiskT} {a : Int} {t : ByteArray} (h : begin_ d a t = some x) : OnlyArea a d x := by
  have h0 := h
  unfold begin_ at h
  split at h
  · cases h
  · rename_i hc
    simp only [not_or] at hc
    intro j hj
    refine writeBytes_frame h (fun z => hj ?_)
    omega

theorem count_only {d x : DiskT} {a n : Int} (h : count_ d a n = some x) : OnlyArea a d x := by
  intro j hj
  refine writeBytes_frame h (fun z => hj ?_)
  rw [countB_size] at z
  omega

theorem put_only {d y : DiskT} {a : Int} {t : ByteArray} (hlen : d.1.length = 97) (h : put_ d a t = some y) : OnlyArea a d y := by
  unfold put_ at h
  cases hb : begin_ d a t with
  | none => rw [hb] at h; cases h
  | some x =>
    rw [hb] at h
    simp only [Option.map_some, Option.some.injEq] at h
    obtain ⟨z, hz, hz2, hz3⟩ := count_ok (n := count1 d a) hlen hb
    rw [hz] at h
    subst h
    exact (((begin_only hb).flush (begin_ok hb).2.1).trans (count_only hz)).flush hz2

/-! ### The other area filled -/
/-- A disk between records of a filling: all but the filled area is as it should be. -/
structure Mid (o : Int) (x : DiskT) : Prop where
  ok : diskOk x = true
  len : x.1.length = 97
  nil : x.2 = []
  other : (readArea x o).2.2 = true

theorem Mid.isLog {a o : Int} {x : DiskT} (h : Mid o x) (ha : a = 0 ∨ a = 1) (ho : o = 1 - a) : logOk x = (readArea x a).2.2 := by
  unfold logOk
  have hl : decide (x.2.length = 0) = true := by rw [h.nil]; rfl
  rw [h.ok, hl]
  have hlen : decide (x.1.length = 97) = true := by rw [h.len]; rfl
  rw [hlen]
  have hot := h.other
  rcases ha with rfl | rfl
  · have : o = 1 := by omega
    subst this
    rw [hot]; simp
  · have : o = 0 := by omega
    subst this
    rw [hot]; simp

theorem Mid.put {a o : Int} {x y : DiskT} {t : ByteArray} (h : Mid o x) (ha : a = 0 ∨ a = 1) (ho : o = 1 - a) (hp : put_ x a t = some y) : Mid o y := by
  obtain ⟨_, _, _, p1, p2, p3, _⟩ := put_ok h.len hp
  exact ⟨p1, p3, p2, by rw [(put_only h.len hp).other ha ho]; exact h.other⟩

theorem Mid.record {a o : Int} {x : DiskT} {t : ByteArray} (h : Mid o x) (ha : a = 0 ∨ a = 1) (ho : o = 1 - a) : (if logOk x then put_ x a t else none) = put_ x a t := by
  rw [h.isLog ha ho]
  cases hr : (readArea x a).2.2 with
  | true => simp
  | false =>
    have : put_ x a t = none := by
      unfold put_
      cases hb : begin_ x a t with
      | none => rfl
      | some z => rw [(begin_ok hb).2.2.2] at hr; cases hr
    simp [this]

def fillGo (a : Int) : List ByteArray → DiskT → Option DiskT
  | [], x => some x
  | t :: l, x => (put_ x a t).bind (fillGo a l)

theorem fillGo_mid {a o : Int} (ha : a = 0 ∨ a = 1) (ho : o = 1 - a) : ∀ {l : List ByteArray} {x y : DiskT}, Mid o x → fillGo a l x = some y → Mid o y
  | [], x, y, h, hy => by cases hy; exact h
  | t :: l, x, y, h, hy => by
    unfold fillGo at hy
    cases hp : put_ x a t with
    | none => rw [hp] at hy; cases hy
    | some z =>
      rw [hp] at hy
      exact fillGo_mid ha ho (h.put ha ho hp) hy

theorem fill_impl {a o : Int} (ha : a = 0 ∨ a = 1) (ho : o = 1 - a) (d jk : DiskT) (hd : YDisk.wt d ≤ 10000000) (list : List ByteArray) (hl : list.length ≤ 1048576) (hs : ∀ t ∈ list, t.size ≤ 1048576) : ∀ (r i : Nat) (x : DiskT), i + r = list.length → Mid o x →
    W_impl_fillOther_6 (d, jk, a, x, list, (list.length : Int), (i : Int)) = some (match fillGo a (list.drop i) x with
      | some y => .inl (jk, y)
      | none => .inr (d, false))
  | 0, i, x, hi, hm => by
    have : i = list.length := by omega
    subst this
    rw [w_impl_fillOther_6]
    simp only [S_impl_fillOther_6, lt_cast, Nat.lt_irrefl, decide_false, cond_false, List.drop_length, fillGo]
  | r + 1, i, x, hi, hm => by
    have h : i < list.length := by omega
    have hw := diskOk_wt hm.ok
    have hts := hs list[i] (List.getElem_mem h)
    have hr : rdL Ty.str list i = list[i] := rdL_get (t := Ty.str) h
    rw [w_impl_fillOther_6, List.drop_eq_getElem_cons h]
    simp only [S_impl_fillOther_6, lt_cast, h, decide_true, cond_true, gIdx_nat h, Int.toNat_natCast, hr, PutRecord_impl x a list[i] (by omega) hts, hm.record ha ho, Copy_impl d (by unfold big40; omega), Option.bind_some, fillGo]
    rw [wrap_succ (by omega)]
    cases hp : put_ x a list[i] with
    | none => simp [orD]
    | some y =>
      simp only [orD, Bool.not_true, cond_false, Option.bind_some]
      exact fill_impl ha ho d jk hd list hl hs r (i + 1) y (by omega) (hm.put ha ho hp)

theorem fill_spec {a o : Int} (ha : a = 0 ∨ a = 1) (ho : o = 1 - a) (jk : DiskT) (list : List ByteArray) (hl : list.length ≤ 1048576) (hs : ∀ t ∈ list, t.size ≤ 1048576) : ∀ (r i : Nat) (x : DiskT), i + r = list.length → Mid o x →
    ∃ q, W_spec_l04Fill_5 (list, jk, a, x, true, (i : Int)) = some (.inl (jk, q)) ∧ (match fillGo a (list.drop i) x with
      | some y => q = (y, true)
      | none => q.2 = false)
  | 0, i, x, hi, hm => by
    have : i = list.length := by omega
    subst this
    rw [w_spec_l04Fill_5]
    simp only [S_spec_l04Fill_5, lt_cast, Nat.lt_irrefl, decide_false, cond_false, List.drop_length, fillGo, Option.bind_some]
    exact ⟨_, rfl, rfl⟩
  | r + 1, i, x, hi, hm => by
    have h : i < list.length := by omega
    have hw := diskOk_wt hm.ok
    have hts := hs list[i] (List.getElem_mem h)
    have hr : rdL Ty.str list i = list[i] := rdL_get (t := Ty.str) h
    rw [w_spec_l04Fill_5, List.drop_eq_getElem_cons h]
    simp only [S_spec_l04Fill_5, lt_cast, h, decide_true, cond_true, gIdx_nat h, Int.toNat_natCast, hr, l04Put_ok x a list[i] (by omega) hts hm.len, Option.bind_some, fillGo]
    rw [wrap_succ (by omega)]
    cases hp : put_ x a list[i] with
    | none =>
      simp only [orD, Option.bind_none]
      rw [w_spec_l04Fill_5]
      simp only [S_spec_l04Fill_5, lt_cast]
      cases decide (i + 1 < list.length) <;> exact ⟨_, rfl, rfl⟩
    | some y =>
      simp only [orD, Option.bind_some]
      exact fill_spec ha ho jk list hl hs r (i + 1) y (by omega) (hm.put ha ho hp)

end Go.Proofs.Ythhpkgegmfjdmaa.Ab
namespace Go.Proofs.Ythhpkgegmfjdmaa.Ab
open Go
set_option linter.unusedVariables false
set_option linter.unusedSimpArgs false
set_option linter.unnecessarySimpa false
set_option linter.unusedSimpArgs false
set_option linter.unusedVariables false

/-! ### A switch -/
def otherOf (d : DiskT) : Int := 1 - activeOf d
theorem otherOf_01 (d : DiskT) : (otherOf d = 0 ∨ otherOf d = 1) ∧ activeOf d = 1 - otherOf d := by
  unfold otherOf
  have := activeOf_01 d
  omega

/-- The other area begun anew. -/
def fill0 (d : DiskT) : DiskT := flush (orD d (count_ d (otherOf d) 0)).1
def fill_ (d : DiskT) (l : List ByteArray) : Option DiskT := if logOk d then fillGo (otherOf d) l (fill0 d) else none
def turn_ (x : DiskT) : Option DiskT := writeBytes x 0 0 (countB (IntKind.i64.wrap (fstByte x 0 + 1)))
def switch_ (d : DiskT) (l : List ByteArray) : Option DiskT := (fill_ d l).map fun x => flush (orD x (turn_ x)).1

theorem count0_ok {d : DiskT} (hl : logOk d = true) (a n : Int) : ∃ z, count_ d a n = some z ∧ diskOk z = true ∧ z.1.length = 97 := by
  obtain ⟨h1, h2, h3, _⟩ := logOk_len hl
  have ha := areaFirst_le a
  have ho := oneByte (s := areaFirst a) h1 h3 (by omega) (by omega) (countB_size n)
  have := writeBytes_ok ho
  exact ⟨_, ho, this.2.1, by rw [this.2.2]; exact h2⟩

theorem fill0_mid {d : DiskT} (hl : logOk d = true) : Mid (activeOf d) (fill0 d) := by
  obtain ⟨z, hz, hz2, hz3⟩ := count0_ok hl (otherOf d) 0
  obtain ⟨a1, a2⟩ := otherOf_01 d
  obtain ⟨h1, h2, h3, h4, h5⟩ := logOk_len hl
  obtain ⟨f1, f2, f3⟩ := flush_ok hz2
  have e : fill0 d = flush z := by unfold fill0; rw [hz]; rfl
  have hr : (readArea d (activeOf d)).2.2 = true := by
    rcases activeOf_01 d with h | h <;> rw [h] <;> assumption
  rw [e]
  exact ⟨f1, by rw [f3]; exact hz3, f2, by rw [((count_only hz).flush hz2).other a1 a2]; exact hr⟩

theorem turn_ok {x : DiskT} {o : Int} (h : Mid o x) : ∃ y, turn_ x = some y ∧ diskOk y = true := by
  have ho := oneByte (s := 0) h.ok h.nil (by omega) (by rw [h.len]; omega) (countB_size (IntKind.i64.wrap (fstByte x 0 + 1)))
  exact ⟨_, ho, (writeBytes_ok ho).2.1⟩

section
variable {d : DiskT} {l : List ByteArray} (hd : YDisk.wt d ≤ 10000000) (hl : l.length ≤ 1048576) (hs : ∀ t ∈ l, t.size ≤ 1048576)
include hd hl hs

omit hd hl hs in
theorem w_other : IntKind.i64.wrap ((1 : Int) - activeOf d) = otherOf d := by
  unfold otherOf
  have := activeOf_01 d
  rw [wrap64 (by omega) (by omega)]

omit hd hl hs in
theorem fill_some {x : DiskT} (h : fill_ d l = some x) : logOk d = true ∧ Mid (activeOf d) x := by
  unfold fill_ at h
  split at h
  · rename_i hlo
    obtain ⟨a1, a2⟩ := otherOf_01 d
    exact ⟨hlo, fillGo_mid a1 a2 (fill0_mid hlo) h⟩
  · cases h

theorem fillOther_impl : q_impl_fillOther (d, l) = some (orD d (fill_ d l)) := by
  rw [e_impl_fillOther]; unfold X_impl_fillOther fill_
  simp only [LogOk_impl d (by omega), Copy_impl d (by unfold big40; omega), ActiveOf_impl d (by unfold big40; omega), w_other (d := d), putCount_ok d _ _ (by omega), Option.bind_some]
  cases hlo : logOk d with
  | false => simp [orD]
  | true =>
    obtain ⟨z, hz, hz2, hz3⟩ := count0_ok hlo (otherOf d) 0
    have hzw := diskOk_wt hz2
    obtain ⟨a1, a2⟩ := otherOf_01 d
    have e : flush z = fill0 d := by unfold fill0; rw [hz]; rfl
    have L := fill_impl a1 a2 d ([], []) hd l hl hs l.length 0 (fill0 d) (by omega) (fill0_mid hlo)
    have L : W_impl_fillOther_6 (d, ([], []), otherOf d, fill0 d, l, (l.length : Int), 0) = _ := L
    simp only [Bool.not_true, cond_false, hz, orD, FlushDisk_impl z (by omega), Option.bind_some, e, L, List.drop_zero, if_true]
    cases fillGo (otherOf d) l (fill0 d) <;> rfl

theorem l04Fill_spec (hlo : logOk d = true) : ∃ q, q_spec_l04Fill (d, l) = some q ∧ (match fill_ d l with
    | some y => q = (y, true)
    | none => q.2 = false) := by
  obtain ⟨z, hz, hz2, hz3⟩ := count0_ok hlo (otherOf d) 0
  have hzw := diskOk_wt hz2
  obtain ⟨a1, a2⟩ := otherOf_01 d
  have e : flush z = fill0 d := by unfold fill0; rw [hz]; rfl
  obtain ⟨q, L, hq⟩ := fill_spec a1 a2 ([], []) l hl hs l.length 0 (fill0 d) (by omega) (fill0_mid hlo)
  have L : W_spec_l04Fill_5 (l, ([], []), otherOf d, fill0 d, true, 0) = _ := L
  rw [List.drop_zero] at hq
  refine ⟨q, ?_, by unfold fill_; rw [hlo, if_pos rfl]; exact hq⟩
  rw [e_spec_l04Fill]; unfold X_spec_l04Fill
  simp only [ActiveOf_spec d (by unfold big40; omega), w_other (d := d), l04Count_ok d _ _ (by omega), Option.bind_some, hz, orD, FlushDisk_spec z (by omega), e, L]

omit hd hl hs in
theorem turnFirst_ok (x : DiskT) (hx : YDisk.wt x ≤ 10000000) : q_impl_turnFirst x = some (orD x (turn_ x)).1 := by
  rw [e_impl_turnFirst]; unfold X_impl_turnFirst
  have h1 : strI [IntKind.u8.wrap (IntKind.i64.wrap (fstByte x 0 + 1))] = countB (IntKind.i64.wrap (fstByte x 0 + 1)) := rfl
  simp only [firstByte_impl x 0 (by unfold big40; omega), Option.bind_some, h1, WriteBytes_impl x 0 0 (countB (IntKind.i64.wrap (fstByte x 0 + 1))) (by omega) (by rw [countB_size]; omega) (by rw [countB_size]; omega)]
  rfl
omit hd hl hs in
theorem l04Turn_ok (x : DiskT) (hx : YDisk.wt x ≤ 10000000) : q_spec_l04Turn x = some (orD x (turn_ x)) := by
  rw [e_spec_l04Turn]; unfold X_spec_l04Turn
  have h1 : ∀ n, q_spec_l04One n = some (countB n) := fun n => by rw [e_spec_l04One]; rfl
  simp only [l04Byte_spec x 0 (by unfold big40; omega), h1, Option.bind_some, WriteBytes_spec x 0 0 (countB (IntKind.i64.wrap (fstByte x 0 + 1))) (by omega) (by rw [countB_size]; omega)]
  rfl

theorem SwitchLog_impl : q_impl_SwitchLog (d, l) = some (orD d (switch_ d l)) := by
  rw [e_impl_SwitchLog]; unfold X_impl_SwitchLog switch_
  simp only [fillOther_impl hd hl hs, Option.bind_some]
  cases hf : fill_ d l with
  | none => rfl
  | some x =>
    obtain ⟨hlo, hm⟩ := fill_some hf
    have hx := diskOk_wt hm.ok
    obtain ⟨y, hy, hy2⟩ := turn_ok hm
    have hyw := diskOk_wt hy2
    simp only [orD, Bool.not_true, cond_false, turnFirst_ok x (by omega), hy, Option.bind_some, FlushDisk_impl y (by omega), Option.map_some]

theorem SwitchLog_spec : q_spec_SwitchLog (d, l) = some (orD d (switch_ d l)) := by
  rw [e_spec_SwitchLog]; unfold X_spec_SwitchLog switch_
  simp only [LogOk_spec d (by omega), Copy_spec d (by unfold big40; omega), Option.bind_some]
  cases hlo : logOk d with
  | false =>
    have : fill_ d l = none := by unfold fill_; rw [hlo]; rfl
    rw [this]
    rfl
  | true =>
    obtain ⟨q, hq, hq2⟩ := l04Fill_spec hd hl hs hlo
    simp only [Bool.not_true, cond_false, hq, Option.bind_some]
    cases hf : fill_ d l with
    | none =>
      rw [hf] at hq2
      simp only at hq2
      simp only [hq2, Bool.not_false, cond_true]
      rfl
    | some x =>
      rw [hf] at hq2
      simp only at hq2
      subst hq2
      obtain ⟨_, hm⟩ := fill_some hf
      have hx := diskOk_wt hm.ok
      obtain ⟨y, hy, hy2⟩ := turn_ok hm
      have hyw := diskOk_wt hy2
      simp only [orD, Bool.not_true, cond_false, l04Turn_ok x (by omega), hy, Option.bind_some, FlushDisk_spec y (by omega), Option.map_some]

def cutSwitch (d : DiskT) (l : List ByteArray) (step : Int) (keep : List Int) (tear : Int) : DiskT :=
  match fill_ d l with
  | none => d
  | some x =>
    if step = 0 then crash (orD d (count_ d (otherOf d) 0)).1 keep tear
    else if step = 1 then x
    else if step = 2 then crash (orD x (turn_ x)).1 keep tear
    else flush (orD x (turn_ x)).1

theorem CutSwitch_impl (step : Int) (keep : List Int) (tear : Int) : q_impl_CutSwitch (d, l, step, keep, tear) = some (cutSwitch d l step keep tear) := by
  rw [e_impl_CutSwitch]; unfold X_impl_CutSwitch cutSwitch
  simp only [SwitchLog_impl hd hl hs, Copy_impl d (by unfold big40; omega), ActiveOf_impl d (by unfold big40; omega), w_other (d := d), fillOther_impl hd hl hs, Option.bind_some]
  unfold switch_
  cases hf : fill_ d l with
  | none => rfl
  | some x =>
    obtain ⟨hlo, hm⟩ := fill_some hf
    have hx := diskOk_wt hm.ok
    obtain ⟨y, hy, hy2⟩ := turn_ok hm
    have hyw := diskOk_wt hy2
    obtain ⟨z, hz, hz2, _⟩ := count0_ok hlo (otherOf d) 0
    have hzw := diskOk_wt hz2
    simp only [orD, Option.map_some, Bool.not_true, cond_false, putCount_ok d _ _ (show YDisk.wt d ≤ 1073741824 by omega), hz, Option.bind_some, CrashDisk_impl z keep tear (by omega), turnFirst_ok x (by omega), hy, CrashDisk_impl y keep tear (by omega)]
    by_cases h0 : step = 0
    · simp [h0]
    · by_cases h1 : step = 1
      · simp [h1]
      · by_cases h2 : step = 2
        · simp [h2]
        · simp [h0, h1, h2]

theorem CutSwitch_spec (step : Int) (keep : List Int) (tear : Int) : q_spec_CutSwitch (d, l, step, keep, tear) = some (cutSwitch d l step keep tear) := by
  rw [e_spec_CutSwitch]; unfold X_spec_CutSwitch cutSwitch
  simp only [SwitchLog_spec hd hl hs, Copy_spec d (by unfold big40; omega), ActiveOf_spec d (by unfold big40; omega), w_other (d := d), Option.bind_some]
  unfold switch_
  cases hf : fill_ d l with
  | none => rfl
  | some x =>
    obtain ⟨hlo, hm⟩ := fill_some hf
    obtain ⟨q, hq, hq2⟩ := l04Fill_spec hd hl hs hlo
    rw [hf] at hq2
    simp only at hq2
    subst hq2
    have hx := diskOk_wt hm.ok
    obtain ⟨y, hy, hy2⟩ := turn_ok hm
    have hyw := diskOk_wt hy2
    obtain ⟨z, hz, hz2, _⟩ := count0_ok hlo (otherOf d) 0
    have hzw := diskOk_wt hz2
    simp only [orD, Option.map_some, Bool.not_true, cond_false, hq, l04Count_ok d _ _ (show YDisk.wt d ≤ 1073741824 by omega), hz, Option.bind_some, CrashDisk_spec z keep tear (by omega), l04Turn_ok x (by omega), hy, CrashDisk_spec y keep tear (by omega)]
    by_cases h0 : step = 0
    · simp [h0]
    · by_cases h1 : step = 1
      · simp [h1]
      · by_cases h2 : step = 2
        · simp [h2]
        · simp [h0, h1, h2]

omit hl hs in
theorem cutSwitch_wt (step : Int) (keep : List Int) (tear : Int) : YDisk.wt (cutSwitch d l step keep tear) ≤ 10000000 := by
  unfold cutSwitch
  cases hf : fill_ d l with
  | none => exact hd
  | some x =>
    obtain ⟨hlo, hm⟩ := fill_some hf
    obtain ⟨y, hy, hy2⟩ := turn_ok hm
    obtain ⟨z, hz, hz2, _⟩ := count0_ok hlo (otherOf d) 0
    simp only [orD, hz, hy]
    split
    · have := diskOk_wt (crash_ok hz2 keep tear).1; omega
    · split
      · have := diskOk_wt hm.ok; omega
      · split
        · have := diskOk_wt (crash_ok hy2 keep tear).1; omega
        · have := diskOk_wt (flush_ok hy2).1; omega
end

end Go.Proofs.Ythhpkgegmfjdmaa.Ab
