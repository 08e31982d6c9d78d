import Derived.Test.YthhpkgegmfjdmaaAbP17
namespace Go.Proofs.Ythhpkgegmfjdmaa.Ab
open Go
set_option linter.unusedVariables false
set_option linter.unusedSimpArgs false
set_option linter.unnecessarySimpa false
set_option linter.unusedSimpArgs false
set_option linter.unusedVariables false

/-! ### What a crash can not change -/
theorem setPut_byte {s : List ByteArray} {p : Int × ByteArray} {k i : Nat} {b : UInt8} (hk : k < s.length) (hp0 : 0 ≤ p.1) (h1 : getB (rdL Ty.str s k) i = b) (h2 : p.1 = (k : Int) → getB p.2 i = b) : getB (rdL Ty.str (setPut s p) k) i = b := by
  have := setPut_rd (s := s) (p := p) (j := (k : Int)) hp0 (by omega) (by simpa using hk)
  rw [Int.toNat_natCast] at this
  rw [this]
  split
  · rename_i e; exact h2 e
  · exact h1

theorem crash_byte {x : DiskT} (hk : diskOk x = true) (keep : List Int) (tear : Int) {k i : Nat} (hkl : k < x.1.length) (hi : i < 64) {b : UInt8} (h1 : getB (rdL Ty.str x.1 k) i = b) (h2 : ∀ p ∈ x.2, p.1 = (k : Int) → getB p.2 i = b) :
    getB (rdL Ty.str (crash x keep tear).1 k) i = b := by
  obtain ⟨k1, k2, k3, k4⟩ := diskOk_iff.mp hk
  have ht := (tear_rng tear).1
  have e : (crash x keep tear).1 = crashS x keep (lastKept keep x.2.length) (tearOf tear) x.2.length := by unfold crash; rw [if_pos hk]; rfl
  rw [e]
  have key : ∀ n, n ≤ x.2.length → getB (rdL Ty.str (crashS x keep (lastKept keep x.2.length) (tearOf tear) n) k) i = b := by
    intro n
    induction n with
    | zero => intro _; exact h1
    | succ n ih =>
      intro hn
      have ih := ih (by omega)
      obtain ⟨i1, i2⟩ := crashS_inv hk keep ht (last := lastKept keep x.2.length) n (by omega)
      have hp := k4 x.2[n] (List.getElem_mem (by omega))
      have hpb := h2 x.2[n] (List.getElem_mem (by omega))
      rw [crashS_succ]
      generalize hS : crashS x keep (lastKept keep x.2.length) (tearOf tear) n = S at *
      unfold crashStep
      rw [rdL_get (t := YPut) (show n < x.2.length by omega)]
      split
      · split
        · refine setPut_byte (by omega) hp.1.1 ih (fun z => ?_)
          have z : (x.2[n]).1 = (k : Int) := z
          have hold : rdL Ty.str S (x.2[n]).1.toNat = rdL Ty.str S k := by rw [z, Int.toNat_natCast]
          have h64 : (rdL Ty.str S k).size = 64 := by
            have e : rdL Ty.str S k = S[k]'(by omega) := rdL_get (t := Ty.str) (by omega)
            rw [e]
            exact i2 _ (List.getElem_mem _)
          simp only [hold]
          rw [getB_append, getB_extract, getB_extract, ByteArray.size_extract, hp.2, h64]
          split
          · rw [Nat.zero_add]
            exact hpb z
          · rw [if_pos (by omega)]
            rw [show tearOf tear + (i - (min (tearOf tear) 64 - 0)) = i by omega]
            exact ih
        · exact setPut_byte (by omega) hp.1.1 ih hpb
      · exact ih
  exact key _ (Nat.le_refl _)

/-- Puts of a write share what stands ahead of its beginning. -/
theorem wbGo_puts : ∀ {f : Nat} {d x : DiskT} {k at_ : Nat} {t : ByteArray}, wbGo f d k at_ t = some x → at_ < 64 → ∀ p ∈ x.2, p ∈ d.2 ∨ ∃ j : Nat, p.1 = (j : Int) ∧ k ≤ j ∧ j * 64 < k * 64 + at_ + t.size ∧ ∀ i, i < 64 → j * 64 + i < k * 64 + at_ → getB p.2 i = getB (readSec d (j : Int)).1 i
  | 0, d, x, k, at_, t, h, _, p, hp => by cases h; exact .inl hp
  | f + 1, d, x, k, at_, t, h, hat, p, hp => by
    rw [wbGo] at h
    split at h
    · cases h; exact .inl hp
    · rename_i hz
      split at h
      · rename_i hrd
        cases hw : writeSec d (k : Int) ((readSec d (k : Int)).1.extract 0 at_ ++ t.extract 0 (min t.size (64 - at_)) ++ (readSec d (k : Int)).1.extract (at_ + min t.size (64 - at_)) 64) with
        | none => rw [hw] at h; cases h
        | some y =>
          rw [hw] at h
          simp only [Option.bind_some] at h
          rcases wbGo_puts h (by omega) p hp with q | ⟨j, h1, h2, h3, h4⟩
          · rw [(writeSec_ok hw).2] at q
            simp only [List.mem_append, List.mem_singleton] at q
            rcases q with q | q
            · exact .inl q
            · refine .inr ⟨k, by rw [q], Nat.le_refl _, by omega, fun i hi hlt => ?_⟩
              rw [q]
              simp only
              rw [getB_append, getB_append, getB_extract]
              simp only [ByteArray.size_append, ByteArray.size_extract, hrd.2]
              rw [if_pos (by omega), if_pos (by omega), if_pos (by omega), Nat.zero_add]
          · refine .inr ⟨j, h1, by omega, ?_, fun i hi hlt => by omega⟩
            rw [ByteArray.size_extract] at h3
            omega
      · cases h

end Go.Proofs.Ythhpkgegmfjdmaa.Ab
