import Derived.Test.YtoafakkbmnnimaaAbP6
namespace Go.Proofs.Ytoafakkbmnnimaa.Ab
open Go
set_option linter.unusedVariables false
set_option linter.unusedSimpArgs false
set_option linter.unnecessarySimpa false
set_option linter.unusedSimpArgs false
set_option linter.unusedVariables false

/-! ### Right disks, right logs -/
def diskOk (d : DiskT) : Bool := decide (1 ≤ d.1.length ∧ d.1.length ≤ 100) && decide (d.2.length ≤ 60) && d.1.all (fun s => decide (s.size = 64)) && d.2.all (fun p => isIn p.1 0 ((d.1.length : Int) - 1) && decide (p.2.size = 64))

theorem any_not {α : Type} (l : List α) (p : α → Bool) : l.any (fun x => !p x) = !l.all p := by
  induction l with
  | nil => rfl
  | cons x l ih => simp only [List.any_cons, List.all_cons, ih, Bool.not_and]

theorem DiskOk_spec (d : DiskT) (hd : YDisk.wt d ≤ big40) : q_spec_DiskOk d = some (diskOk d) := by
  have h1 : d.1.length ≤ big40 := Nat.le_trans disk_secs hd
  have h2 : d.2.length ≤ big40 := Nat.le_trans disk_puts hd
  unfold big40 at h1 h2
  have L1 := W_any W_spec_DiskOk_4 d.1 (fun i => (d, i)) (fun s => !decide (s.size = 64)) (.inr false) (.inl d)
    (by rw [w_spec_DiskOk_4]; simp only [S_spec_DiskOk_4, lt_cast, Nat.lt_irrefl, decide_false, cond_false])
    (fun i hi => by
      rw [w_spec_DiskOk_4]; simp only [S_spec_DiskOk_4, lt_cast, hi, decide_true, cond_true, gIdx_nat hi, Int.toNat_natCast, rdL_get (t := Ty.str) hi]
      rw [wrap_succ (by omega)]
      have : decide (((d.1[i]).size : Int) = (64 : Int)) = decide ((d.1[i]).size = 64) := by simp only [decide_eq_decide]; omega
      rw [this])
  have L2 := W_any W_spec_DiskOk_9 d.2 (fun i => (d, i)) (fun p => !(isIn p.1 0 ((d.1.length : Int) - 1) && decide (p.2.size = 64))) (.inr false) (.inl ())
    (by rw [w_spec_DiskOk_9]; simp only [S_spec_DiskOk_9, lt_cast, Nat.lt_irrefl, decide_false, cond_false])
    (fun i hi => by
      rw [w_spec_DiskOk_9]; simp only [S_spec_DiskOk_9, lt_cast, hi, decide_true, cond_true, gIdx_nat hi, Int.toNat_natCast, rdL_get (t := YPut) hi, l01In_ok, Option.bind_some]
      rw [wrap_succ (by omega), wrap64 (n := (d.1.length : Int) - 1) (by omega) (by omega)]
      have : decide (((d.2[i]).2.size : Int) = (64 : Int)) = decide ((d.2[i]).2.size = 64) := by simp only [decide_eq_decide]; omega
      rw [this]
      cases isIn (d.2[i]).1 0 ((d.1.length : Int) - 1) <;> rfl)
  rw [e_spec_DiskOk]; unfold X_spec_DiskOk diskOk
  simp only [l01In_ok, isIn_eq (a := (d.1.length : Int)), L1, Option.bind_some]
  have e1 : decide ((1 : Int) ≤ (d.1.length : Int) ∧ (d.1.length : Int) ≤ 100) = decide (1 ≤ d.1.length ∧ d.1.length ≤ 100) := by simp only [decide_eq_decide]; omega
  have e2 : decide ((d.2.length : Int) > 60) = !decide (d.2.length ≤ 60) := by
    rw [← decide_not, decide_eq_decide]; omega
  rw [e1, e2, any_not]
  cases decide (1 ≤ d.1.length ∧ d.1.length ≤ 100) with
  | false => rfl
  | true =>
    cases decide (d.2.length ≤ 60) with
    | false => rfl
    | true =>
      cases d.1.all (fun s => decide (s.size = 64)) with
      | false => rfl
      | true =>
        simp only [Bool.not_true, cond_false, Option.bind_some, L2, any_not]
        cases d.2.all _ <;> rfl

theorem DiskOk_impl (d : DiskT) (hd : YDisk.wt d ≤ big40) : q_impl_DiskOk d = some (diskOk d) := by
  have h1 : d.1.length ≤ big40 := Nat.le_trans disk_secs hd
  have h2 : d.2.length ≤ big40 := Nat.le_trans disk_puts hd
  unfold big40 at h1 h2
  have L1 := W_any W_impl_DiskOk_2 d.1 (fun i => (d, d.1, (d.1.length : Int), i)) (fun s => !decide (s.size = 64)) (.inr false) (.inl d)
    (by rw [w_impl_DiskOk_2]; simp only [S_impl_DiskOk_2, lt_cast, Nat.lt_irrefl, decide_false, cond_false])
    (fun i hi => by
      rw [w_impl_DiskOk_2]; simp only [S_impl_DiskOk_2, lt_cast, hi, decide_true, cond_true, gIdx_nat hi, Int.toNat_natCast, rdL_get (t := Ty.str) hi]
      rw [wrap_succ (by omega)]
      have : decide (((d.1[i]).size : Int) = (64 : Int)) = decide ((d.1[i]).size = 64) := by simp only [decide_eq_decide]; omega
      rw [this])
  have L2 := W_any W_impl_DiskOk_8 d.2 (fun i => (d, d.2, (d.2.length : Int), i)) (fun p => !(isIn p.1 0 ((d.1.length : Int) - 1) && decide (p.2.size = 64))) (.inr false) (.inl d)
    (by rw [w_impl_DiskOk_8]; simp only [S_impl_DiskOk_8, lt_cast, Nat.lt_irrefl, decide_false, cond_false])
    (fun i hi => by
      rw [w_impl_DiskOk_8]; simp only [S_impl_DiskOk_8, lt_cast, hi, decide_true, cond_true, gIdx_nat hi, Int.toNat_natCast, rdL_get (t := YPut) hi, within_ok, Option.bind_some]
      rw [wrap_succ (by omega), wrap64 (n := (d.1.length : Int) - 1) (by omega) (by omega)]
      have : decide (((d.2[i]).2.size : Int) = (64 : Int)) = decide ((d.2[i]).2.size = 64) := by simp only [decide_eq_decide]; omega
      rw [this]
      cases isIn (d.2[i]).1 0 ((d.1.length : Int) - 1) <;> rfl)
  rw [e_impl_DiskOk]; unfold X_impl_DiskOk diskOk
  simp only [L1, Option.bind_some]
  have e1 : decide ((1 : Int) ≤ (d.1.length : Int) ∧ (d.1.length : Int) ≤ 100) = decide (1 ≤ d.1.length ∧ d.1.length ≤ 100) := by simp only [decide_eq_decide]; omega
  have e2 : decide ((d.2.length : Int) ≤ 60) = decide (d.2.length ≤ 60) := by rw [decide_eq_decide]; omega
  rw [any_not]
  cases d.1.all (fun s => decide (s.size = 64)) with
  | false => simp
  | true =>
    simp only [Bool.not_true, cond_false, Option.bind_some, L2, any_not]
    cases d.2.all (fun p => isIn p.1 0 ((d.1.length : Int) - 1) && decide (p.2.size = 64)) with
    | false => simp
    | true =>
      simp only [Bool.not_true, cond_false, Option.bind_some, within_ok, isIn_eq (a := (d.1.length : Int)), e1, e2]
      cases decide (1 ≤ d.1.length ∧ d.1.length ≤ 100) <;> cases decide (d.2.length ≤ 60) <;> rfl

def logOk (d : DiskT) : Bool := diskOk d && decide (d.1.length = 97) && decide (d.2.length = 0) && (readArea d 0).2.2 && (readArea d 1).2.2

theorem LogOk_spec (d : DiskT) (hd : YDisk.wt d ≤ 1073741824) : q_spec_LogOk d = some (logOk d) := by
  have hb : YDisk.wt d ≤ big40 := by unfold big40; omega
  rw [e_spec_LogOk]; unfold X_spec_LogOk logOk
  have hs : q_spec_l04Sectors () = some 97 := by rw [e_spec_l04Sectors]; rfl
  simp only [DiskOk_spec d hb, hs, ReadArea_spec d _ hd, Option.bind_some]
  have e1 : decide ((d.1.length : Int) = 97) = decide (d.1.length = 97) := by rw [decide_eq_decide]; omega
  have e2 : decide ((d.2.length : Int) > 0) = !decide (d.2.length = 0) := by rw [← decide_not, decide_eq_decide]; omega
  rw [e1, e2]
  cases diskOk d <;> cases decide (d.1.length = 97) <;> cases decide (d.2.length = 0) <;> cases (readArea d 0).2.2 <;> cases (readArea d 1).2.2 <;> rfl

theorem LogOk_impl (d : DiskT) (hd : YDisk.wt d ≤ 1073741824) : q_impl_LogOk d = some (logOk d) := by
  have hb : YDisk.wt d ≤ big40 := by unfold big40; omega
  rw [e_impl_LogOk]; unfold X_impl_LogOk logOk
  simp only [DiskOk_impl d hb, ReadArea_impl d _ hd, Option.bind_some]
  have e1 : decide ((d.1.length : Int) = 97) = decide (d.1.length = 97) := by rw [decide_eq_decide]; omega
  have e2 : decide ((d.2.length : Int) = 0) = decide (d.2.length = 0) := by rw [decide_eq_decide]; omega
  rw [e1, e2]
  cases diskOk d <;> cases decide (d.1.length = 97) <;> cases decide (d.2.length = 0) <;> cases (readArea d 0).2.2 <;> cases (readArea d 1).2.2 <;> rfl

def cutRight (a b c : DiskT) : Bool := logOk c && (sameTx c a || sameTx c b)
theorem CutRight_impl (a b c : DiskT) (ha : YDisk.wt a ≤ 1073741824) (hb : YDisk.wt b ≤ 1073741824) (hc : YDisk.wt c ≤ 1073741824) : q_impl_CutRight (a, b, c) = some (cutRight a b c) := by
  rw [e_impl_CutRight]; unfold X_impl_CutRight cutRight
  simp only [LogOk_impl c hc, SameTexts_impl c a hc ha, SameTexts_impl c b hc hb, Option.bind_some]
  cases logOk c <;> cases sameTx c a <;> cases sameTx c b <;> rfl
theorem CutRight_spec (a b c : DiskT) (ha : YDisk.wt a ≤ 1073741824) (hb : YDisk.wt b ≤ 1073741824) (hc : YDisk.wt c ≤ 1073741824) : q_spec_CutRight (a, b, c) = some (cutRight a b c) := by
  rw [e_spec_CutRight]; unfold X_spec_CutRight cutRight
  simp only [LogOk_spec c hc, SameTexts_spec c a hc ha, SameTexts_spec c b hc hb, Option.bind_some]
  cases logOk c <;> cases sameTx c a <;> cases sameTx c b <;> rfl

end Go.Proofs.Ytoafakkbmnnimaa.Ab
