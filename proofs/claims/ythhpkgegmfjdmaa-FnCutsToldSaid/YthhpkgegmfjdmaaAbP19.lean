import Derived.Test.YthhpkgegmfjdmaaAbP18
namespace Go.Proofs.Ythhpkgegmfjdmaa.Ab
open Go
set_option linter.unusedVariables false
set_option linter.unusedSimpArgs false
set_option linter.unnecessarySimpa false
set_option linter.unusedSimpArgs false
set_option linter.unusedVariables false

/-! ### The same log -/
def SameLog (d e : DiskT) : Prop := logOk e = true ∧ activeOf e = activeOf d ∧ readArea e 0 = readArea d 0 ∧ readArea e 1 = readArea d 1

theorem firstN_eq {a : Int} (ha : a = 0 ∨ a = 1) : areaFirst a = 1 + a * 48 ∧ (firstN a : Int) = 2 + a * 48 := by
  have hfa : areaFirst a = 1 + a * 48 := by unfold areaFirst; rw [if_pos (isAr_iff.mpr ha)]
  refine ⟨hfa, ?_⟩
  unfold firstN
  rcases ha with rfl | rfl <;> omega

theorem logOk_of {e : DiskT} (h1 : diskOk e = true) (h2 : e.1.length = 97) (h3 : e.2 = []) (h4 : (readArea e 0).2.2 = true) (h5 : (readArea e 1).2.2 = true) : logOk e = true := by
  unfold logOk
  rw [h1, h4, h5]
  simp [h2, h3]

theorem activeOf_congr {d e : DiskT} (h : readSec e 0 = readSec d 0) : activeOf e = activeOf d := by
  unfold activeOf fstByte
  rw [h]

/-- A disk that is as d but for an area's bytes behind its records. -/
theorem keepLog {d e : DiskT} (hl : logOk d = true) {a : Int} (ha : a = 0 ∨ a = 1) (h1 : diskOk e = true) (h2 : e.1.length = 97) (h3 : e.2 = [])
    (h4 : ∀ k : Nat, k < 97 → ¬ (firstN a ≤ k ∧ k < firstN a + 47) → readSec e (k : Int) = readSec d (k : Int))
    (h5 : ∀ j : Nat, (j : Int) < (readArea d a).2.1 → j < 3008 → getB (areaT e a) j = getB (areaT d a) j) : SameLog d e := by
  obtain ⟨d1, d2, d3, d4, d5⟩ := logOk_len hl
  have fd := full_of d1 d2
  have fe := full_of h1 h2
  obtain ⟨f1, f2⟩ := firstN_eq ha
  have hact : activeOf e = activeOf d := activeOf_congr (h4 0 (by omega) (by omega))
  have hcnt : countIn e a = countIn d a := by
    unfold countIn fstByte
    have hk : areaFirst a = (((areaFirst a).toNat : Nat) : Int) := by rcases ha with rfl | rfl <;> omega
    have := h4 (areaFirst a).toNat (by rcases ha with rfl | rfl <;> omega) (by rcases ha with rfl | rfl <;> omega)
    rw [← hk] at this
    rw [this]
  have hra : readArea e a = readArea d a := by
    have hda := readArea_eq fd ha
    have hok : (readArea d a).2.2 = true := by rcases ha with rfl | rfl <;> assumption
    rw [readArea_eq fe ha, hcnt]
    obtain ⟨l, E, r⟩ : ∃ l E, readArea d a = (l, E, true) := ⟨_, _, by rw [← hok]⟩
    rw [r] at h5 ⊢
    rw [r] at hda
    have hsz : (areaT e a).size = (areaT d a).size := by rw [(area_bytes fe ha).2.1, (area_bytes fd ha).2.1]
    have hat := areaGo_at (areaT d a) (countIn d a).toNat 0 [] (by simp)
    rw [← hda] at hat
    refine areaGo_local hsz hda.symm (fun q hq => h5 q hq ?_)
    have := (area_bytes fd ha).2.1
    simp only at hat
    omega
  have hro : readArea e (1 - a) = readArea d (1 - a) := by
    refine readArea_congr (fun q hq => ?_)
    have ho := (firstN_eq (a := 1 - a) (by omega)).1
    obtain ⟨j, hj⟩ : ∃ j : Nat, areaFirst (1 - a) + (q : Int) = (j : Int) := ⟨(areaFirst (1 - a) + (q : Int)).toNat, by rcases ha with rfl | rfl <;> omega⟩
    rw [hj]
    exact h4 j (by rcases ha with rfl | rfl <;> omega) (by rcases ha with rfl | rfl <;> omega)
  have both : readArea e 0 = readArea d 0 ∧ readArea e 1 = readArea d 1 := by
    rcases ha with rfl | rfl
    · exact ⟨hra, by simpa using hro⟩
    · exact ⟨by simpa using hro, hra⟩
  exact ⟨logOk_of h1 h2 h3 (by rw [both.1]; exact d4) (by rw [both.2]; exact d5), hact, both.1, both.2⟩

theorem begin_go {d x : DiskT} {a : Int} {t : ByteArray} (h : begin_ d a t = some x) : ∃ E : Nat, (readArea d a).2.1 = (E : Int) ∧ E + (shortOf t).size ≤ 3008 ∧ wbGo ((shortOf t).size + 1) d (firstN a + E / 64) (E % 64) (shortOf t) = some x ∧ t.size ≠ 0 ∧ t.size ≤ 3008 ∧ countIn d a < 255 := by
  have hat := readArea_at d a
  unfold begin_ at h
  split at h
  · cases h
  · rename_i hc
    simp only [not_or] at hc
    unfold writeBytes at h
    split at h
    · exact ⟨(readArea d a).2.1.toNat, by omega, by omega, h, hc.2.1, by omega, by omega⟩
    · cases h

theorem readSec_nil {d : DiskT} (h : d.2 = []) {k : Nat} (hk : k < d.1.length) : readSec d (k : Int) = (rdL Ty.str d.1 k, true) := by
  unfold readSec
  rw [if_pos (by omega), h, Int.toNat_natCast]
  rfl

/-- What a crash leaves of a record that is begun: the log as it was. -/
theorem crash_begin {d x : DiskT} {a : Int} {t : ByteArray} (hl : logOk d = true) (ha : a = 0 ∨ a = 1) (h : begin_ d a t = some x) (keep : List Int) (tear : Int) : SameLog d (crash x keep tear) := by
  obtain ⟨d1, d2, d3, d4, d5⟩ := logOk_len hl
  obtain ⟨_, x1, x2, _⟩ := begin_ok h
  obtain ⟨E, e1, e2, e3, _⟩ := begin_go h
  obtain ⟨c1, c2, c3⟩ := crash_ok x1 keep tear
  have hxl : x.1.length = 97 := by rw [x2]; exact d2
  have hcl : (crash x keep tear).1.length = 97 := by rw [c3]; exact hxl
  obtain ⟨f1, f2⟩ := firstN_eq ha
  have fd := full_of d1 d2
  have fe := full_of c1 hcl
  have puts := fun p hp => (wbGo_puts e3 (Nat.mod_lt _ (by omega)) p hp).resolve_left (by rw [d3]; intro z; cases z)
  have byte : ∀ k i : Nat, k < 97 → i < 64 → (k * 64 + i < firstN a * 64 + E ∨ ¬ (firstN a ≤ k ∧ k < firstN a + 47)) → getB (readSec (crash x keep tear) (k : Int)).1 i = getB (readSec d (k : Int)).1 i := fun k i hk hi hc => by
    rw [readSec_nil c2 (by omega), readSec_nil d3 (by omega)]
    simp only
    refine crash_byte x1 keep tear (by omega) hi (by rw [x2]) (fun p hp hpk => ?_)
    obtain ⟨j, j1, j2, j3, j4⟩ := puts p hp
    have hjk : j = k := by omega
    subst hjk
    rcases hc with hc | hc
    · rw [j4 i hi (by omega), readSec_nil d3 (by omega)]
    · exfalso
      exact hc ⟨by omega, by omega⟩
  refine keepLog hl ha c1 hcl c2 (fun k hk hn => ?_) (fun j hj hj2 => ?_)
  · have q1 := fe k hk
    have q2 := fd k hk
    apply Prod.ext
    · exact getB_ext (by rw [q1.2, q2.2]) (fun i hi => byte k i hk (by omega) (.inr hn))
    · rw [q1.1, q2.1]
  · rw [(area_bytes fe ha).2.2 j hj2, (area_bytes fd ha).2.2 j hj2]
    have hj' : j < E := by omega
    refine byte _ _ ?_ (Nat.mod_lt _ (by omega)) (.inl (by omega))
    rcases ha with rfl | rfl <;> omega

theorem SameLog.tx {d e : DiskT} (h : SameLog d e) : logTexts e = logTexts d := by
  obtain ⟨_, h2, h3, h4⟩ := h
  unfold logTexts
  rw [h2]
  rcases activeOf_01 d with q | q <;> rw [q]
  · rw [h3]
  · rw [h4]

theorem SameLog.refl {d : DiskT} (h : logOk d = true) : SameLog d d := ⟨h, rfl, rfl, rfl⟩
theorem SameLog.trans {d e f : DiskT} (h1 : SameLog d e) (h2 : SameLog e f) : SameLog d f := ⟨h2.1, h2.2.1.trans h1.2.1, h2.2.2.1.trans h1.2.2.1, h2.2.2.2.trans h1.2.2.2⟩

end Go.Proofs.Ythhpkgegmfjdmaa.Ab
