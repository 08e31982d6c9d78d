import Derived.Test.YthhpkgegmfjdmaaAbP14
namespace Go.Proofs.Ythhpkgegmfjdmaa.Ab
open Go
set_option linter.unusedVariables false
set_option linter.unusedSimpArgs false
set_option linter.unnecessarySimpa false
set_option linter.unusedSimpArgs false
set_option linter.unusedVariables false

theorem intS_wt2 (l : List Int) (h : l.length ≤ 1048576) : (Ty.sl (Ty.int .i64)).wt l ≤ 1099511627776 := by
  have e : (Ty.sl (Ty.int .i64)).wt l = l.length + (l.map fun _ => 0).sum := rfl
  have h0 : (l.map fun _ => 0).sum = 0 := by
    clear h e
    induction l with
    | nil => rfl
    | cons x l ih => simpa using ih
  rw [e, h0]
  omega

theorem strS_size {l : List ByteArray} {t : ByteArray} (h : t ∈ l) : t.size ≤ (Ty.sl Ty.str).wt l := by
  have e : (Ty.sl Ty.str).wt l = l.length + (l.map ByteArray.size).sum := rfl
  have : t.size ≤ (l.map ByteArray.size).sum := by
    clear e
    induction l with
    | nil => cases h
    | cons x l ih =>
      simp only [List.map_cons, List.sum_cons]
      rcases List.mem_cons.mp h with rfl | h
      · omega
      · have := ih h; omega
  omega

theorem law_FnExactCutSwitch (x : DiskT × List ByteArray × Int × List Int × Int) (hx : YDisk.fine x.1 ∧ (Ty.sl Ty.str).fine x.2.1 ∧ (Ty.int .i64).fine x.2.2.1 ∧ (Ty.sl (Ty.int .i64)).fine x.2.2.2.1 ∧ (Ty.int .i64).fine x.2.2.2.2) : q_laws_FnExactCutSwitch x = some true := by
  obtain ⟨d, l, step, keep, tear⟩ := x
  obtain ⟨hd, hl, _⟩ := hx
  rw [e_laws_FnExactCutSwitch]; unfold X_laws_FnExactCutSwitch; simp only
  by_cases h2 : (keep.length : Int) > 1048576
  · simp only [h2, decide_true, cond_true]
  · simp only [h2, decide_false, cond_false]
    refine szr_law (sz_Disk d _ hd (by omega) (by omega)) (fun c1 => ?_)
    refine szr_law (sz_StringS l _ hl (by omega) (by omega)) (fun c2 => ?_)
    have wd : YDisk.wt d ≤ 1099511627776 := by omega
    have wl : (Ty.sl Ty.str).wt l ≤ 1099511627776 := by omega
    have wk := intS_wt2 keep (by omega)
    have w7 : YDisk.wt d ≤ 10000000 := by omega
    have el : (Ty.sl Ty.str).wt l = l.length + (l.map ByteArray.size).sum := rfl
    have ll : l.length ≤ 1048576 := by omega
    have ls : ∀ t ∈ l, t.size ≤ 1048576 := fun t ht => by have := strS_size ht; omega
    have wr := cutSwitch_wt (l := l) w7 step keep tear
    have wr' : YDisk.wt (cutSwitch d l step keep tear) ≤ 1099511627776 := by omega
    have l1 : d.1.length ≤ YDisk.wt d := disk_secs
    have l2 : d.2.length ≤ YDisk.wt d := disk_puts
    have l3 : (cutSwitch d l step keep tear).1.length ≤ YDisk.wt (cutSwitch d l step keep tear) := disk_secs
    have l4 : (cutSwitch d l step keep tear).2.length ≤ YDisk.wt (cutSwitch d l step keep tear) := disk_puts
    obtain ⟨k', hmk⟩ := markIntS_ok keep (1 + (d.1.length : Int) + 2 * (d.2.length : Int) + (l.length : Int)) (by omega) (by omega)
    have hk1 : decide (1 + (d.1.length : Int) + 2 * (d.2.length : Int) + (l.length : Int) + (keep.length : Int) < 0) = false := by simp; omega
    have hk2 : decide (1 + ((cutSwitch d l step keep tear).1.length : Int) + 2 * ((cutSwitch d l step keep tear).2.length : Int) < 0) = false := by simp; omega
    simp only [to_Disk d wd, to_StringS l wl, to_IntS keep wk, CutSwitch_spec w7 ll ls, CutSwitch_impl w7 ll ls, eq_Disk _ wr', eq_Disk d wd, eq_StringS l wl, eq_IntS keep wk, markDisk_ok d 1 (by omega) (by omega), markStringS_ok l (1 + (d.1.length : Int) + 2 * (d.2.length : Int)) (by omega) (by omega), hmk, markDisk_ok (cutSwitch d l step keep tear) 1 (by omega) (by omega),
      heldDisk_ok (cutSwitch d l step keep tear).1.length (cutSwitch d l step keep tear).2.length 1 (by omega) (by omega), hk1, hk2, Option.bind_some, decide_true, Bool.not_true, cond_false]

end Go.Proofs.Ythhpkgegmfjdmaa.Ab
