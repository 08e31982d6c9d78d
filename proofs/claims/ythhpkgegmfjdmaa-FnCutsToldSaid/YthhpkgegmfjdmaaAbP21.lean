import Derived.Test.YthhpkgegmfjdmaaAbP20
namespace Go.Proofs.Ythhpkgegmfjdmaa.Ab
open Go
set_option linter.unusedVariables false
set_option linter.unusedSimpArgs false
set_option linter.unnecessarySimpa false
set_option linter.unusedSimpArgs false
set_option linter.unusedVariables false

/-! ### Where there is room, it is written -/
theorem read_full {d : DiskT} (hk : diskOk d = true) {k : Nat} (hlt : k < d.1.length) : (readSec d (k : Int)).2 = true ∧ (readSec d (k : Int)).1.size = 64 := by
  obtain ⟨k1, k2, k3, k4⟩ := diskOk_iff.mp hk
  have hc : (0 : Int) ≤ (k : Int) ∧ (k : Int) < (d.1.length : Int) := by omega
  unfold readSec
  rw [if_pos hc]
  refine ⟨rfl, ?_⟩
  cases hp : lastPut d.2 (k : Int) with
  | none =>
    have e : rdL Ty.str d.1 k = d.1[k] := rdL_get (t := Ty.str) hlt
    simp only [Option.getD_none, Int.toNat_natCast]
    rw [e]
    exact k3 _ (List.getElem_mem hlt)
  | some s =>
    obtain ⟨p, hp1, hp2⟩ := lastPut_mem hp
    simp only [Option.getD_some]
    rw [← hp2]
    exact (k4 p hp1).2

theorem wbGo_some : ∀ (f : Nat) {d : DiskT} {k at_ : Nat} {t : ByteArray}, diskOk d = true → at_ < 64 → k * 64 + at_ + t.size ≤ d.1.length * 64 → d.2.length + (at_ + t.size + 63) / 64 ≤ 60 → ∃ x, wbGo f d k at_ t = some x
  | 0, d, k, at_, t, _, _, _, _ => ⟨d, rfl⟩
  | f + 1, d, k, at_, t, hk, hat, h1, h2 => by
    rw [wbGo]
    by_cases hz : t.size = 0
    · exact ⟨d, by rw [if_pos hz]⟩
    · have hr := read_full hk (k := k) (by omega)
      rw [if_neg hz, if_pos hr]
      have hsz : ((readSec d (k : Int)).1.extract 0 at_ ++ t.extract 0 (min t.size (64 - at_)) ++ (readSec d (k : Int)).1.extract (at_ + min t.size (64 - at_)) 64).size = 64 := by
        simp only [ByteArray.size_append, ByteArray.size_extract, hr.2]; omega
      have hin : isIn (k : Int) 0 ((d.1.length : Int) - 1) = true := by simp [isIn]; omega
      have hok : diskOk (d.1, d.2 ++ [((k : Int), (readSec d (k : Int)).1.extract 0 at_ ++ t.extract 0 (min t.size (64 - at_)) ++ (readSec d (k : Int)).1.extract (at_ + min t.size (64 - at_)) 64)]) = true := by
        rw [diskOk_snoc, hk, hin, hsz]
        simp; omega
      have hw : writeSec d (k : Int) ((readSec d (k : Int)).1.extract 0 at_ ++ t.extract 0 (min t.size (64 - at_)) ++ (readSec d (k : Int)).1.extract (at_ + min t.size (64 - at_)) 64) = some (d.1, d.2 ++ [((k : Int), (readSec d (k : Int)).1.extract 0 at_ ++ t.extract 0 (min t.size (64 - at_)) ++ (readSec d (k : Int)).1.extract (at_ + min t.size (64 - at_)) 64)]) := by
        unfold writeSec
        rw [if_pos hok]
      rw [hw]
      simp only [Option.bind_some]
      have hs2 : (t.extract (min t.size (64 - at_)) t.size).size = t.size - min t.size (64 - at_) := by rw [ByteArray.size_extract]; omega
      refine wbGo_some f hok (by omega) ?_ ?_
      · rw [hs2]; show _ ≤ d.1.length * 64; omega
      · rw [hs2]; simp only [List.length_append, List.length_singleton]; omega

theorem begin_some {d : DiskT} {a : Int} {t : ByteArray} (hl : logOk d = true) (ha : a = 0 ∨ a = 1) (h0 : t.size ≠ 0) (h1 : t.size ≤ 3008) (h2 : countIn d a < 255) (h3 : (readArea d a).2.1 + ((shortOf t).size : Int) ≤ 3008) : ∃ x, begin_ d a t = some x := by
  obtain ⟨d1, d2, d3, d4, d5⟩ := logOk_len hl
  obtain ⟨f1, f2⟩ := firstN_eq ha
  have hat := readArea_at d a
  have hok : (readArea d a).2.2 = true := by rcases ha with rfl | rfl <;> assumption
  have hsp := shortOf_size t
  unfold begin_
  rw [if_neg (by rw [hok]; simp only [Bool.true_eq_false, false_or]; omega)]
  unfold writeBytes
  have hc : (isIn (readArea d a).2.1 0 6400 && isIn (areaFirst a + 1) 0 ((d.1.length : Int) - 1) && diskOk d) = true := by
    rw [d1, d2]
    simp only [isIn, Bool.and_eq_true, decide_eq_true_eq, and_true]
    rcases ha with rfl | rfl <;> omega
  rw [if_pos hc]
  refine wbGo_some _ d1 (Nat.mod_lt _ (by omega)) ?_ ?_
  · rw [d2]
    rcases ha with rfl | rfl <;> omega
  · rw [d3]
    simp only [List.length_nil]
    omega

theorem put_some {d : DiskT} {a : Int} {t : ByteArray} (hl : logOk d = true) (ha : a = 0 ∨ a = 1) (h0 : t.size ≠ 0) (h1 : t.size ≤ 3008) (h2 : countIn d a < 255) (h3 : (readArea d a).2.1 + ((shortOf t).size : Int) ≤ 3008) : ∃ y, put_ d a t = some y := by
  obtain ⟨x, hx⟩ := begin_some hl ha h0 h1 h2 h3
  unfold put_
  rw [hx]
  exact ⟨_, rfl⟩

def sizes (l : List ByteArray) : Nat := (l.map fun t => (shortOf t).size).sum

theorem fillGo_ok {a : Int} (ha : a = 0 ∨ a = 1) : ∀ {l : List ByteArray} {x : DiskT}, logOk x = true → countIn x a + (l.length : Int) ≤ 255 → (readArea x a).2.1 + (sizes l : Int) ≤ 3008 → (∀ t ∈ l, t.size ≠ 0 ∧ t.size ≤ 3008) →
    ∃ y, fillGo a l x = some y ∧ logOk y = true ∧ activeOf y = activeOf x ∧ readArea y (1 - a) = readArea x (1 - a) ∧ (readArea y a).1 = (readArea x a).1 ++ l
  | [], x, hl, _, _, _ => ⟨x, rfl, hl, rfl, rfl, by simp⟩
  | t :: l, x, hl, hc, hr, ht => by
    have h0 := ht t (List.mem_cons_self ..)
    have hs : sizes (t :: l) = (shortOf t).size + sizes l := by simp [sizes]
    simp only [List.length_cons] at hc
    obtain ⟨y, hy⟩ := put_some hl ha h0.1 h0.2 (by omega) (by omega)
    obtain ⟨p1, p2, p3, p4, p5⟩ := put_log hl ha hy
    obtain ⟨z, z1, z2, z3, z4, z5⟩ := fillGo_ok ha (l := l) p1 (by omega) (by rw [p5]; simp only; omega) (fun t h => ht t (List.mem_cons_of_mem _ h))
    refine ⟨z, ?_, z2, z3.trans p2, z4.trans p3, ?_⟩
    · unfold fillGo; rw [hy]; exact z1
    · rw [z5, p5]; simp

/-- A count written through on a right log. -/
theorem count_read {d : DiskT} (hl : logOk d = true) {a n : Int} (ha : a = 0 ∨ a = 1) : ∃ z r, count_ d a n = some z ∧ diskOk z = true ∧ z.1 = d.1 ∧ z.2 = [(areaFirst a, countB n ++ r)] ∧ ∀ j : Int, readSec (flush z) j = if j = areaFirst a then (countB n ++ r, true) else readSec d j := by
  obtain ⟨d1, d2, d3, d4, d5⟩ := logOk_len hl
  obtain ⟨f1, f2⟩ := firstN_eq ha
  have hob := oneByte (s := areaFirst a) d1 d3 (by omega) (by rw [d2]; rcases ha with rfl | rfl <;> omega) (countB_size n)
  have hz1 := (writeBytes_ok hob).2.1
  refine ⟨_, _, hob, hz1, rfl, rfl, fun j => ?_⟩
  rw [flush_frame hz1]
  by_cases e : j = areaFirst a
  · rw [if_pos e, e]
    unfold readSec
    rw [if_pos (by show _ ∧ _ < (d.1.length : Int); rw [d2]; rcases ha with rfl | rfl <;> omega)]
    simp [lastPut]
  · rw [if_neg e]
    have hne : ¬ areaFirst a = j := fun z => e z.symm
    unfold readSec
    simp only [lastPut, List.foldl_cons, List.foldl_nil, hne, if_false, d3]

/-- The other area begun anew: nothing is in it, all else is as it was. -/
theorem fill0_log {d : DiskT} (hl : logOk d = true) : logOk (fill0 d) = true ∧ activeOf (fill0 d) = activeOf d ∧ readArea (fill0 d) (activeOf d) = readArea d (activeOf d) ∧ readArea (fill0 d) (otherOf d) = ([], 0, true) ∧ countIn (fill0 d) (otherOf d) = 0 := by
  obtain ⟨a1, a2⟩ := otherOf_01 d
  obtain ⟨z, r, hz, hz1, hz2, hz3, hrd⟩ := count_read hl (n := 0) a1
  obtain ⟨d1, d2, d3, d4, d5⟩ := logOk_len hl
  have e : fill0 d = flush z := by unfold fill0; rw [hz]; rfl
  obtain ⟨c1, c2, c3⟩ := flush_ok hz1
  have hlen : (flush z).1.length = 97 := by rw [c3, hz2]; exact d2
  obtain ⟨f1, f2⟩ := firstN_eq a1
  rw [e]
  have hcnt : countIn (flush z) (otherOf d) = 0 := by
    unfold countIn fstByte
    rw [isAr_iff.mpr a1, if_pos rfl, hrd, if_pos rfl]
    exact countB_byte 0 r (by omega) (by omega)
  have ho : readArea (flush z) (otherOf d) = ([], 0, true) := by
    rw [readArea_eq (full_of c1 hlen) a1, hcnt]
    rfl
  have hother : readArea (flush z) (1 - otherOf d) = readArea d (1 - otherOf d) := by
    refine readArea_congr (fun q hq => ?_)
    have ho := (firstN_eq (a := 1 - otherOf d) (by omega)).1
    rw [hrd, if_neg (by omega)]
  rw [← a2] at hother
  have hact : activeOf (flush z) = activeOf d := activeOf_congr (by rw [hrd, if_neg (by omega)])
  have hok : (readArea d (activeOf d)).2.2 = true := by rcases activeOf_01 d with q | q <;> rw [q] <;> assumption
  refine ⟨logOk_of c1 hlen c2 ?_ ?_, hact, hother, ho, hcnt⟩
  · rcases a1 with q | q
    · rw [q] at ho; rw [ho]
    · have q2 : activeOf d = 0 := by omega
      rw [q2] at hother hok
      rw [hother]; exact hok
  · rcases a1 with q | q
    · have q2 : activeOf d = 1 := by omega
      rw [q2] at hother hok
      rw [hother]; exact hok
    · rw [q] at ho; rw [ho]

end Go.Proofs.Ythhpkgegmfjdmaa.Ab
