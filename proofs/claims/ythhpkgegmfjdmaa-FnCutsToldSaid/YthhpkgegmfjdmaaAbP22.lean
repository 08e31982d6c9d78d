import Derived.Test.YthhpkgegmfjdmaaAbP21
namespace Go.Proofs.Ythhpkgegmfjdmaa.Ab
open Go
set_option linter.unusedVariables false
set_option linter.unusedSimpArgs false
set_option linter.unnecessarySimpa false
set_option linter.unusedSimpArgs false
set_option linter.unusedVariables false

/-! ### One byte, and a crash -/
theorem crash_one {z : DiskT} {s : Int} {b : ByteArray} (hk : diskOk z = true) (hz : z.2 = [(s, b ++ (rdL Ty.str z.1 s.toNat).extract 1 64)]) (hb : b.size = 1) (keep : List Int) (tear : Int) :
    (kept keep 0 = false → crash z keep tear = (z.1, [])) ∧ (kept keep 0 = true → 1 ≤ tearOf tear → crash z keep tear = flush z) ∧ (crash z keep tear = (z.1, []) ∨ crash z keep tear = flush z) := by
  obtain ⟨k1, k2, k3, k4⟩ := diskOk_iff.mp hk
  have hs := (k4 (s, b ++ (rdL Ty.str z.1 s.toNat).extract 1 64) (by rw [hz]; simp)).1
  have hlt : s.toNat < z.1.length := by
    have h1 : 0 ≤ s := hs.1
    have h2 : s < (z.1.length : Int) := hs.2
    omega
  have ht := (tear_rng tear).1
  have eo : rdL Ty.str z.1 s.toNat = z.1[s.toNat] := rdL_get (t := Ty.str) hlt
  have hold : (rdL Ty.str z.1 s.toNat).size = 64 := by rw [eo]; exact k3 _ (List.getElem_mem hlt)
  have hlen : z.2.length = 1 := by rw [hz]; rfl
  have h0 : rdL YPut z.2 0 = (s, b ++ (rdL Ty.str z.1 s.toNat).extract 1 64) := by rw [hz]; rfl
  have hc : crash z keep tear = (crashStep z keep (lastKept keep 1) (tearOf tear) z.1 0, []) := by
    unfold crash
    rw [if_pos hk, hlen]
    rfl
  have hfl : flush z = (setPut z.1 (s, b ++ (rdL Ty.str z.1 s.toNat).extract 1 64), []) := by
    unfold flush
    rw [if_pos hk, hz]
    rfl
  have hno : kept keep 0 = false → crash z keep tear = (z.1, []) := fun h => by
    rw [hc]
    unfold crashStep
    rw [h, if_neg (by simp)]
  have hyes : kept keep 0 = true → crash z keep tear = (setPut z.1 (s, (b ++ (rdL Ty.str z.1 s.toNat).extract 1 64).extract 0 (tearOf tear) ++ (rdL Ty.str z.1 s.toNat).extract (tearOf tear) 64), []) := fun h => by
    have hlast : lastKept keep 1 = 0 := by
      show (if kept keep 0 then ((0 : Nat) : Int) else lastKept keep 0) = 0
      rw [if_pos h]; rfl
    rw [hc]
    unfold crashStep
    rw [h, if_pos rfl, hlast, if_pos (by rfl), h0]
    simp only [hold]
  have hfull : kept keep 0 = true → 1 ≤ tearOf tear → crash z keep tear = flush z := fun h h1 => by
    rw [hyes h, hfl]
    congr 2
    congr 1
    apply getB_ext
    · simp only [ByteArray.size_append, ByteArray.size_extract, hold, hb]; omega
    · intro i hi
      simp only [ByteArray.size_append, ByteArray.size_extract, hold, hb] at hi
      rw [getB_append, getB_extract, getB_extract]
      simp only [ByteArray.size_append, ByteArray.size_extract, hold, hb]
      by_cases h2 : i < tearOf tear
      · rw [if_pos (by omega), if_pos (by omega), Nat.zero_add]
      · rw [if_neg (by omega), if_pos (by omega), getB_append, if_neg (by omega), getB_extract, hb, hold, if_pos (by omega)]
        congr 1
        omega
  refine ⟨hno, hfull, ?_⟩
  cases h : kept keep 0 with
  | false => exact .inl (hno h)
  | true =>
    by_cases h1 : 1 ≤ tearOf tear
    · exact .inr (hfull h h1)
    · left
      have ht0 : tearOf tear = 0 := by omega
      rw [hyes h, ht0]
      congr 1
      have e1 : (b ++ (rdL Ty.str z.1 s.toNat).extract 1 64).extract 0 0 ++ (rdL Ty.str z.1 s.toNat).extract 0 64 = rdL Ty.str z.1 s.toNat := by
        apply getB_ext
        · simp only [ByteArray.size_append, ByteArray.size_extract, hold, hb]; omega
        · intro i hi
          simp only [ByteArray.size_append, ByteArray.size_extract, hold, hb] at hi
          rw [getB_append, if_neg (by rw [ByteArray.size_extract]; omega), getB_extract, hold, if_pos (by rw [ByteArray.size_extract]; omega)]
          congr 1
          rw [ByteArray.size_extract]
          omega
      rw [e1]
      unfold setPut
      show z.1.set s.toNat (rdL Ty.str z.1 s.toNat) = z.1
      rw [eo]
      exact List.set_getElem_self hlt

/-- The crash of a count that is written on a right log. -/
theorem crash_count {d : DiskT} (hl : logOk d = true) {a n : Int} (ha : a = 0 ∨ a = 1) (keep : List Int) (tear : Int) : ∃ z, count_ d a n = some z ∧
    (kept keep 0 = false → crash z keep tear = d) ∧ (kept keep 0 = true → 1 ≤ tearOf tear → crash z keep tear = flush z) ∧ (crash z keep tear = d ∨ crash z keep tear = flush z) := by
  obtain ⟨d1, d2, d3, d4, d5⟩ := logOk_len hl
  obtain ⟨f1, f2⟩ := firstN_eq ha
  have hob := oneByte (s := areaFirst a) d1 d3 (by omega) (by rw [d2]; rcases ha with rfl | rfl <;> omega) (countB_size n)
  have hz1 := (writeBytes_ok hob).2.1
  have hd : (d.1, ([] : List (Int × ByteArray))) = d := by rw [← d3]
  obtain ⟨c1, c2, c3⟩ := crash_one hz1 rfl (countB_size n) keep tear
  rw [hd] at c1 c3
  exact ⟨_, hob, c1, c2, c3⟩

theorem crash_turn {x : DiskT} (hl : logOk x = true) (keep : List Int) (tear : Int) : ∃ z, turn_ x = some z ∧ diskOk z = true ∧ (∀ j : Int, readSec (flush z) j = if j = 0 then (countB (IntKind.i64.wrap (fstByte x 0 + 1)) ++ (rdL Ty.str x.1 0).extract 1 64, true) else readSec x j) ∧ (flush z).1.length = 97 ∧
    (kept keep 0 = false → crash z keep tear = x) ∧ (kept keep 0 = true → 1 ≤ tearOf tear → crash z keep tear = flush z) ∧ (crash z keep tear = x ∨ crash z keep tear = flush z) := by
  obtain ⟨d1, d2, d3, d4, d5⟩ := logOk_len hl
  have hob := oneByte (s := 0) d1 d3 (by omega) (by rw [d2]; omega) (countB_size (IntKind.i64.wrap (fstByte x 0 + 1)))
  have hz1 := (writeBytes_ok hob).2.1
  have hd : (x.1, ([] : List (Int × ByteArray))) = x := by rw [← d3]
  obtain ⟨c1, c2, c3⟩ := crash_one hz1 rfl (countB_size (IntKind.i64.wrap (fstByte x 0 + 1))) keep tear
  rw [hd] at c1 c3
  refine ⟨_, hob, hz1, fun j => ?_, by rw [(flush_ok hz1).2.2]; exact d2, c1, c2, c3⟩
  rw [flush_frame hz1]
  by_cases e : j = 0
  · rw [if_pos e, e]
    unfold readSec
    rw [if_pos (by show _ ∧ _ < (x.1.length : Int); rw [d2]; omega)]
    simp [lastPut]
  · rw [if_neg e]
    have hne : ¬ (0 : Int) = j := fun z => e z.symm
    unfold readSec
    simp only [lastPut, List.foldl_cons, List.foldl_nil, hne, if_false, d3]

/-- The first byte turned: the other area counts. -/
theorem turn_log {x z : DiskT} (hl : logOk x = true) (hz1 : diskOk z = true) (hlen : (flush z).1.length = 97) (hrd : ∀ j : Int, readSec (flush z) j = if j = 0 then (countB (IntKind.i64.wrap (fstByte x 0 + 1)) ++ (rdL Ty.str x.1 0).extract 1 64, true) else readSec x j) :
    logOk (flush z) = true ∧ activeOf (flush z) = 1 - activeOf x ∧ readArea (flush z) 0 = readArea x 0 ∧ readArea (flush z) 1 = readArea x 1 := by
  obtain ⟨d1, d2, d3, d4, d5⟩ := logOk_len hl
  obtain ⟨c1, c2, c3⟩ := flush_ok hz1
  have r0 : readArea (flush z) 0 = readArea x 0 := readArea_congr (fun q hq => by
    have := (firstN_eq (a := 0) (.inl rfl)).1
    rw [hrd, if_neg (by omega)])
  have r1 : readArea (flush z) 1 = readArea x 1 := readArea_congr (fun q hq => by
    have := (firstN_eq (a := 1) (.inr rfl)).1
    rw [hrd, if_neg (by omega)])
  have hb := byte0_le (readSec x 0).1
  refine ⟨logOk_of c1 hlen c2 (by rw [r0]; exact d4) (by rw [r1]; exact d5), ?_, r0, r1⟩
  unfold activeOf fstByte
  rw [hrd, if_pos rfl]
  have w : IntKind.i64.wrap (fstByte x 0 + 1) = fstByte x 0 + 1 := by unfold fstByte; exact wrap64 (by omega) (by omega)
  have e : byte0 (countB (IntKind.i64.wrap (fstByte x 0 + 1)) ++ (rdL Ty.str x.1 0).extract 1 64) = (fstByte x 0 + 1) % 256 := by
    rw [w, byte0_getB, getB_append, if_pos (by rw [countB_size]; omega)]
    unfold countB getB
    rw [strI_list, wrap_u8]
    simp only [u8s, List.map_cons, List.map_nil, List.getD_cons_zero]
    rw [UInt8.toNat_ofNat']
    omega
  show Int.tmod (byte0 _) 2 = _
  rw [e]
  have hf : fstByte x 0 = byte0 (readSec x 0).1 := rfl
  rw [hf]
  generalize byte0 (readSec x 0).1 = n at *
  obtain ⟨m, rfl⟩ : ∃ m : Nat, n = (m : Int) := ⟨n.toNat, by omega⟩
  have t1 : Int.tmod (m : Int) 2 = ((m % 2 : Nat) : Int) := tmodN m 2
  have t2 : Int.tmod (((m : Int) + 1) % 256) 2 = ((((m + 1) % 256) % 2 : Nat) : Int) := by
    have : ((m : Int) + 1) % 256 = (((m + 1) % 256 : Nat) : Int) := by omega
    rw [this]
    exact tmodN ((m + 1) % 256) 2
  rw [t1, t2]
  omega

end Go.Proofs.Ythhpkgegmfjdmaa.Ab
