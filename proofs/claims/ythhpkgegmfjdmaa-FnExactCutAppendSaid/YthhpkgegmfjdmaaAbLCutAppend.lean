import Derived.Test.YthhpkgegmfjdmaaAbP12
namespace Go.Proofs.Ythhpkgegmfjdmaa.Ab
open Go
set_option linter.unusedVariables false
set_option linter.unusedSimpArgs false
set_option linter.unnecessarySimpa false
set_option linter.unusedSimpArgs false
set_option linter.unusedVariables false

theorem intS_wt (l : List Int) (h : l.length ≤ 1048576) : (Ty.sl (Ty.int .i64)).wt l ≤ 1099511627776 := by
  have e : (Ty.sl (Ty.int .i64)).wt l = l.length + (l.map fun _ => 0).sum := rfl
  have h0 : (l.map fun _ => 0).sum = 0 := by
    clear h e
    induction l with
    | nil => rfl
    | cons x l ih => simpa using ih
  rw [e, h0]
  omega

theorem law_FnExactCutAppend (x : DiskT × ByteArray × Int × List Int × Int) (hx : YDisk.fine x.1 ∧ Ty.str.fine x.2.1 ∧ (Ty.int .i64).fine x.2.2.1 ∧ (Ty.sl (Ty.int .i64)).fine x.2.2.2.1 ∧ (Ty.int .i64).fine x.2.2.2.2) : q_laws_FnExactCutAppend x = some true := by
  obtain ⟨d, t, step, keep, tear⟩ := x
  obtain ⟨hd, _⟩ := hx
  rw [e_laws_FnExactCutAppend]; unfold X_laws_FnExactCutAppend; simp only
  by_cases h1 : (t.size : Int) > 1048576
  · simp only [h1, decide_true, cond_true]
  · by_cases h2 : (keep.length : Int) > 1048576
    · simp only [h1, h2, decide_true, decide_false, cond_true, cond_false]
    · simp only [h1, h2, decide_false, cond_false]
      refine szr_law (sz_Disk d _ hd (by omega) (by omega)) (fun c1 => ?_)
      have wd : YDisk.wt d ≤ 1099511627776 := by omega
      have wk := intS_wt keep (by omega)
      have w7 : YDisk.wt d ≤ 10000000 := by omega
      have ht : t.size ≤ 1048576 := by omega
      have wr := cutAppend_wt (t := t) w7 step keep tear
      have wr' : YDisk.wt (cutAppend d t step keep tear) ≤ 1099511627776 := by omega
      have l1 : d.1.length ≤ YDisk.wt d := disk_secs
      have l2 : d.2.length ≤ YDisk.wt d := disk_puts
      have l3 : (cutAppend d t step keep tear).1.length ≤ YDisk.wt (cutAppend d t step keep tear) := disk_secs
      have l4 : (cutAppend d t step keep tear).2.length ≤ YDisk.wt (cutAppend d t step keep tear) := disk_puts
      obtain ⟨k', hmk⟩ := markIntS_ok keep (1 + (d.1.length : Int) + 2 * (d.2.length : Int)) (by omega) (by omega)
      have hk1 : decide (1 + (d.1.length : Int) + 2 * (d.2.length : Int) + (keep.length : Int) < 0) = false := by simp; omega
      have hk2 : decide (1 + ((cutAppend d t step keep tear).1.length : Int) + 2 * ((cutAppend d t step keep tear).2.length : Int) < 0) = false := by simp; omega
      simp only [to_Disk d wd, to_IntS keep wk, CutAppend_spec w7 ht, CutAppend_impl w7 ht, eq_Disk _ wr', eq_Disk d wd, eq_IntS keep wk, markDisk_ok d 1 (by omega) (by omega), hmk, markDisk_ok (cutAppend d t step keep tear) 1 (by omega) (by omega),
        heldDisk_ok (cutAppend d t step keep tear).1.length (cutAppend d t step keep tear).2.length 1 (by omega) (by omega), hk1, hk2, Option.bind_some, decide_true, Bool.not_true, cond_false]

end Go.Proofs.Ythhpkgegmfjdmaa.Ab
