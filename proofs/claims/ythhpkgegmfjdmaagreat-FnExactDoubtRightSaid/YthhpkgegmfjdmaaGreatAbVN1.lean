import Derived.Test.YthhpkgegmfjdmaaGreatAbVM5
namespace Go.Proofs.YthhpkgegmfjdmaaGreat.Ab
open Go
set_option linter.unusedVariables false
set_option linter.unusedSimpArgs false
set_option linter.unnecessarySimpa false
set_option linter.unusedSimpArgs false
set_option linter.unusedVariables false

def smallB (b : BaseT) : Prop := b.1.length ≤ 1048576 ∧ (b.2.1.length ≤ 1048576 ∧ ∀ t ∈ b.2.1, fewT t) ∧ b.2.2.1.length ≤ 1048576 ∧ ∀ t ∈ b.2.2.1, fewT t

theorem smallB.few {b : BaseT} (h : smallB b) : fewB b := ⟨by have := h.1; omega, ⟨by have := h.2.1.1; omega, h.2.1.2⟩, ⟨by have := h.2.2.1; omega, h.2.2.2⟩⟩

theorem throughI_few {b : BaseT} {t : YTxn.den} (h : smallB b) (ht : fewT t) : fewB (throughI b t) := by
  have hd : fewT (doneOf b t) := ht
  refine ⟨?_, ⟨?_, fun x hx => ?_⟩, ⟨?_, fun x hx => ?_⟩⟩
  · have e : (throughI b t).1.length = b.1.length + t.2.2.2.2.2.1.length := putVs_len _ _ _
    have := h.1; have := ht.2
    omega
  · have e : (throughI b t).2.1.length = b.2.1.length + 1 := by simp [throughI]
    have := h.2.1.1
    omega
  · have hx : x ∈ b.2.1 ++ [doneOf b t] := hx
    rcases List.mem_append.mp hx with q | q
    · exact h.2.1.2 x q
    · simp only [List.mem_singleton] at q
      subst q; exact hd
  · have e : (throughI b t).2.2.1.length ≤ b.2.2.1.length := by
      simp only [throughI, List.length_map]
      exact filter_le _ _
    have := h.2.2.1
    omega
  · have hx : x ∈ (b.2.2.1.filter fun x => !decide (x.1 = t.1)).map (flag (doneOf b t)) := hx
    obtain ⟨y, hy, rfl⟩ := List.mem_map.mp hx
    exact h.2.2.2 y (List.mem_filter.mp hy).1

theorem throughS_few {b : BaseT} {t : YTxn.den} (h : smallB b) (ht : fewT t) : fewB (throughS b t) := throughI_few h ht

end Go.Proofs.YthhpkgegmfjdmaaGreat.Ab
