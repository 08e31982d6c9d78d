import Derived.Test.YthhpkgegmfjdmaaAbP19
namespace Go.Proofs.Ythhpkgegmfjdmaa.Ab
open Go
set_option linter.unusedVariables false
set_option linter.unusedSimpArgs false
set_option linter.unnecessarySimpa false
set_option linter.unusedSimpArgs false
set_option linter.unusedVariables false

/-! ### A record through, and its count -/
theorem flush_begin {d x : DiskT} {a : Int} {t : ByteArray} (hl : logOk d = true) (ha : a = 0 ∨ a = 1) (h : begin_ d a t = some x) :
    SameLog d (flush x) ∧ ∀ E : Nat, (readArea d a).2.1 = (E : Int) → ∀ q, q < (shortOf t).size → getB (areaT (flush x) a) (E + q) = getB (shortOf t) q := by
  obtain ⟨d1, d2, d3, d4, d5⟩ := logOk_len hl
  obtain ⟨_, x1, x2, _⟩ := begin_ok h
  obtain ⟨E, e1, e2, e3, _⟩ := begin_go h
  obtain ⟨c1, c2, c3⟩ := flush_ok x1
  have hxl : x.1.length = 97 := by rw [x2]; exact d2
  have hcl : (flush x).1.length = 97 := by rw [c3]; exact hxl
  obtain ⟨f1, f2⟩ := firstN_eq ha
  have fd := full_of d1 d2
  have fe := full_of c1 hcl
  have hb97 : firstN a + 47 ≤ 97 := by rcases ha with rfl | rfl <;> omega
  have hbytes := fun j i (hi : i < 64) (hj : j < 97) => wbGo_bytes e3 (by omega) (Nat.mod_lt _ (by omega)) j i hi (by omega)
  refine ⟨keepLog hl ha c1 hcl c2 (fun k hk hn => ?_) (fun j hj hj2 => ?_), fun E' hE' q hq => ?_⟩
  · rw [flush_frame x1]
    exact wbGo_frame e3 (Nat.mod_lt _ (by omega)) k (fun z => hn ⟨by omega, by omega⟩)
  · rw [(area_bytes fe ha).2.2 j hj2, (area_bytes fd ha).2.2 j hj2, flush_frame x1, hbytes _ _ (Nat.mod_lt _ (by omega)) (by omega), if_neg (by omega)]
  · have hEE : E' = E := by omega
    subst hEE
    rw [(area_bytes fe ha).2.2 (E' + q) (by omega), flush_frame x1, hbytes _ _ (Nat.mod_lt _ (by omega)) (by omega), if_pos (by omega)]
    congr 1
    omega

theorem byte0_getB (t : ByteArray) : byte0 t = ((getB t 0).toNat : Int) := rfl

theorem countB_byte (n : Int) (r : ByteArray) (h0 : 0 ≤ n) (h1 : n < 256) : byte0 (countB n ++ r) = n := by
  rw [byte0_getB, getB_append, if_pos (by rw [countB_size]; omega)]
  unfold countB getB
  rw [strI_list]
  have w : IntKind.u8.wrap n = n := by rw [wrap_u8]; omega
  rw [w]
  simp only [u8s, List.map_cons, List.map_nil, List.getD_cons_zero]
  rw [UInt8.toNat_ofNat']
  omega

theorem put_log {d y : DiskT} {a : Int} {t : ByteArray} (hl : logOk d = true) (ha : a = 0 ∨ a = 1) (h : put_ d a t = some y) :
    logOk y = true ∧ activeOf y = activeOf d ∧ readArea y (1 - a) = readArea d (1 - a) ∧ countIn y a = countIn d a + 1 ∧ readArea y a = ((readArea d a).1 ++ [t], (readArea d a).2.1 + ((shortOf t).size : Int), true) := by
  obtain ⟨d1, d2, d3, d4, d5⟩ := logOk_len hl
  obtain ⟨x, hx, x1, y1, y2, y3, hy⟩ := put_ok d2 h
  obtain ⟨s1, s2⟩ := flush_begin hl ha hx
  obtain ⟨E, e1, e2, e3, e4, e5, e6⟩ := begin_go hx
  obtain ⟨c1, c2, c3⟩ := flush_ok x1
  have hxl : (flush x).1.length = 97 := (logOk_len s1.1).2.1
  obtain ⟨f1, f2⟩ := firstN_eq ha
  have hcl := countIn_le d a
  have hc1 : count1 d a = countIn d a + 1 := by unfold count1; exact wrap64 (by omega) (by omega)
  have hob := oneByte (s := areaFirst a) c1 c2 (by omega) (by rw [hxl]; rcases ha with rfl | rfl <;> omega) (countB_size (count1 d a))
  have hcz : count_ (flush x) a (count1 d a) = some ((flush x).1, [(areaFirst a, countB (count1 d a) ++ (rdL Ty.str (flush x).1 (areaFirst a).toNat).extract 1 64)]) := hob
  have hz1 := (writeBytes_ok hob).2.1
  rw [hcz] at hy
  simp only [orD] at hy
  have hrd : ∀ j : Int, readSec y j = if j = areaFirst a then (countB (count1 d a) ++ (rdL Ty.str (flush x).1 (areaFirst a).toNat).extract 1 64, true) else readSec (flush x) j := fun j => by
    rw [hy, flush_frame hz1]
    by_cases e : j = areaFirst a
    · rw [if_pos e, e]
      unfold readSec
      rw [if_pos (by show _ ∧ _ < ((flush x).1.length : Int); rw [hxl]; rcases ha with rfl | rfl <;> omega)]
      simp [lastPut]
    · rw [if_neg e]
      have hne : ¬ areaFirst a = j := fun z => e z.symm
      unfold readSec
      simp only [lastPut, List.foldl_cons, List.foldl_nil, hne, if_false, c2]
  have fy := full_of y1 y3
  have fx := full_of c1 hxl
  have fd := full_of d1 d2
  have hcnt : countIn y a = countIn d a + 1 := by
    unfold countIn at hc1 ⊢
    rw [isAr_iff.mpr ha, if_pos rfl] at *
    unfold fstByte at *
    rw [hrd, if_pos rfl]
    simp only
    have : countIn d a = byte0 (readSec d (areaFirst a)).1 := by unfold countIn fstByte; rw [isAr_iff.mpr ha, if_pos rfl]
    rw [hc1]
    exact countB_byte _ _ (by omega) (by omega)
  have hareaT : ∀ j, j < 3008 → getB (areaT y a) j = getB (areaT (flush x) a) j := fun j hj => by
    rw [(area_bytes fy ha).2.2 j hj, (area_bytes fx ha).2.2 j hj, hrd, if_neg (by rcases ha with rfl | rfl <;> omega)]
  have hother : readArea y (1 - a) = readArea (flush x) (1 - a) := by
    refine readArea_congr (fun q hq => ?_)
    have ho := (firstN_eq (a := 1 - a) (by omega)).1
    rw [hrd, if_neg (by rcases ha with rfl | rfl <;> omega)]
  have hother2 : readArea (flush x) (1 - a) = readArea d (1 - a) := by
    rcases ha with rfl | rfl
    · exact s1.2.2.2
    · exact s1.2.2.1
  have hact : activeOf y = activeOf d := by
    rw [← s1.2.1]
    exact activeOf_congr (by rw [hrd, if_neg (by rcases ha with rfl | rfl <;> omega)])
  have hok : (readArea d a).2.2 = true := by rcases ha with rfl | rfl <;> assumption
  have hda : areaGo (areaT d a) (countIn d a).toNat 0 [] = ((readArea d a).1, (E : Int), true) := by
    rw [← readArea_eq fd ha, ← e1, ← hok]
  have hfx : areaGo (areaT (flush x) a) (countIn (flush x) a).toNat 0 [] = ((readArea d a).1, (E : Int), true) := by
    have : readArea (flush x) a = readArea d a := by
      rcases ha with rfl | rfl
      · exact s1.2.2.1
      · exact s1.2.2.2
    rw [← readArea_eq fx ha, this, ← e1, ← hok]
  have hcx : countIn (flush x) a = countIn d a := by
    unfold countIn fstByte
    have hk : areaFirst a = (((areaFirst a).toNat : Nat) : Int) := by rcases ha with rfl | rfl <;> omega
    have h2 := wbGo_frame e3 (Nat.mod_lt _ (by omega)) (areaFirst a).toNat (by rcases ha with rfl | rfl <;> omega)
    rw [← hk] at h2
    rw [flush_frame x1, h2]
  have hsz : (areaT y a).size = (areaT (flush x) a).size := by rw [(area_bytes fy ha).2.1, (area_bytes fx ha).2.1]
  have hra : readArea y a = ((readArea d a).1 ++ [t], (readArea d a).2.1 + ((shortOf t).size : Int), true) := by
    rw [readArea_eq fy ha, hcnt, e1]
    have hm : (countIn d a + 1).toNat = (countIn d a).toNat + 1 := by omega
    rw [hm]
    have hloc := areaGo_local hsz hfx (fun q hq => hareaT q (by omega))
    rw [hcx] at hloc
    have hrs := readShort_written (T := areaT y a) (E := E) e4 e5 (by rw [(area_bytes fy ha).2.1]; exact e2) (fun q hq => by rw [hareaT _ (by omega)]; exact s2 E e1 q hq)
    have := areaGo_snoc hloc hrs e4
    rw [this]
    congr 2
  have hlog : logOk y = true := by
    rw [hother2] at hother
    refine logOk_of y1 y3 y2 ?_ ?_
    · rcases ha with rfl | rfl
      · rw [hra]
      · have : readArea y 0 = readArea d 0 := by simpa using hother
        rw [this]; exact d4
    · rcases ha with rfl | rfl
      · have : readArea y 1 = readArea d 1 := by simpa using hother
        rw [this]; exact d5
      · rw [hra]
  exact ⟨hlog, hact, hother.trans hother2, hcnt, hra⟩

end Go.Proofs.Ythhpkgegmfjdmaa.Ab
