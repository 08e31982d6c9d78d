import Derived.Test.YtoafakkbmnnimaaAbP3
namespace Go.Proofs.Ytoafakkbmnnimaa.Ab
open Go
set_option linter.unusedVariables false
set_option linter.unusedSimpArgs false
set_option linter.unnecessarySimpa false
set_option linter.unusedSimpArgs false
set_option linter.unusedVariables false

abbrev DiskT := List ByteArray × List (Int × ByteArray)
def emp : ByteArray := ⟨#[]⟩
theorem emp_eq : (⟨#[]⟩ : ByteArray) = emp := rfl

def isIn (a b c : Int) : Bool := decide (b ≤ a) && decide (a ≤ c)
theorem within_ok (a b c : Int) : q_impl_within (a, b, c) = some (isIn a b c) := by
  rw [e_impl_within]; unfold X_impl_within isIn
  simp only [ge_iff_le]
  cases decide (b ≤ a) <;> rfl
theorem l01In_ok (a b c : Int) : q_spec_l01In (a, b, c) = some (isIn a b c) := by
  rw [e_spec_l01In]; unfold X_spec_l01In isIn
  simp only [ge_iff_le]
  cases decide (b ≤ a) <;> rfl

/-! ### Disks: sizes -/
theorem disk_secs {d : DiskT} : d.1.length ≤ YDisk.wt d := by simp only [Ty.wt]; omega
theorem disk_puts {d : DiskT} : d.2.length ≤ YDisk.wt d := by simp only [Ty.wt]; omega
theorem sec_size {d : DiskT} {s : ByteArray} (h : s ∈ d.1) : s.size ≤ YDisk.wt d := by
  have h1 : YDisk.wt d = (d.1.length + (d.1.map Ty.str.wt).sum) + (d.2.length + (d.2.map YPut.wt).sum) := rfl
  have h2 := wt_mem (f := Ty.str.wt) h
  have h3 : Ty.str.wt s = s.size := rfl
  omega
theorem put_size {d : DiskT} {p : Int × ByteArray} (h : p ∈ d.2) : p.2.size ≤ YDisk.wt d := by
  have h1 : YDisk.wt d = (d.1.length + (d.1.map Ty.str.wt).sum) + (d.2.length + (d.2.map YPut.wt).sum) := rfl
  have h2 := wt_mem (f := YPut.wt) h
  have h3 : YPut.wt p = 0 + p.2.size := rfl
  omega

/-! ### A sector -/
def lastPut (c : List (Int × ByteArray)) (at_ : Int) : Option ByteArray := c.foldl (fun t p => if p.1 = at_ then some p.2 else t) none
def readSec (d : DiskT) (at_ : Int) : ByteArray × Bool := if 0 ≤ at_ ∧ at_ < d.1.length then ((lastPut d.2 at_).getD (rdL Ty.str d.1 at_.toNat), true) else (emp, false)

theorem lastPut_snoc (c : List (Int × ByteArray)) (p : Int × ByteArray) (at_ : Int) : lastPut (c ++ [p]) at_ = if p.1 = at_ then some p.2 else lastPut c at_ := by
  simp [lastPut, List.foldl_append]

theorem lastPut_mem {c : List (Int × ByteArray)} {at_ : Int} {s : ByteArray} (h : lastPut c at_ = some s) : ∃ p ∈ c, p.2 = s := by
  have key : ∀ (c : List (Int × ByteArray)) (z : Option ByteArray), c.foldl (fun t p => if p.1 = at_ then some p.2 else t) z = some s → z = some s ∨ ∃ p ∈ c, p.2 = s := by
    intro c
    induction c with
    | nil => intro z h; exact .inl h
    | cons p c ih =>
      intro z h
      rw [List.foldl_cons] at h
      rcases ih _ h with h | ⟨q, hq, h⟩
      · split at h
        · exact .inr ⟨p, by simp, by simpa using h⟩
        · exact .inl h
      · exact .inr ⟨q, by simp [hq], h⟩
  rcases key c none h with h | h
  · cases h
  · exact h

theorem readSec_size (d : DiskT) (at_ : Int) : (readSec d at_).1.size ≤ YDisk.wt d := by
  unfold readSec
  split
  · rename_i h
    cases hl : lastPut d.2 at_ with
    | none =>
      simp only [Option.getD_none]
      have hi : at_.toNat < d.1.length := by omega
      rw [rdL_get (t := Ty.str) hi]
      exact sec_size (List.getElem_mem hi)
    | some s =>
      simp only [Option.getD_some]
      obtain ⟨p, hp, rfl⟩ := lastPut_mem hl
      exact put_size hp
  · show 0 ≤ _; omega

theorem foldl_last (c : List (Int × ByteArray)) (at_ : Int) (z : ByteArray) : c.foldl (fun t p => if p.1 = at_ then p.2 else t) z = (lastPut c at_).getD z := by
  have key : ∀ (c : List (Int × ByteArray)) (o : Option ByteArray) (z : ByteArray), c.foldl (fun t p => if p.1 = at_ then p.2 else t) (o.getD z) = (c.foldl (fun t p => if p.1 = at_ then some p.2 else t) o).getD z := by
    intro c
    induction c with
    | nil => intro o z; rfl
    | cons p c ih =>
      intro o z
      simp only [List.foldl_cons]
      by_cases h : p.1 = at_
      · simp only [h, if_true]; exact ih (some p.2) z
      · simp only [h, if_false]; exact ih o z
  exact key c none z

theorem isIn_sec (d : DiskT) (at_ : Int) (hd : d.1.length ≤ big40) : isIn at_ 0 (IntKind.i64.wrap ((d.1.length : Int) - 1)) = decide (0 ≤ at_ ∧ at_ < d.1.length) := by
  unfold big40 at hd
  rw [wrap64 (by omega) (by omega)]
  unfold isIn
  by_cases h : 0 ≤ at_ ∧ at_ < d.1.length
  · rw [decide_eq_true h, decide_eq_true h.1, decide_eq_true (by omega)]; rfl
  · rw [decide_eq_false h]
    by_cases h0 : 0 ≤ at_
    · rw [decide_eq_true h0, decide_eq_false (by omega)]; rfl
    · rw [decide_eq_false h0]; rfl

theorem ReadSector_impl (d : DiskT) (at_ : Int) (hd : YDisk.wt d ≤ big40) : q_impl_ReadSector (d, at_) = some (readSec d at_) := by
  have h1 : d.1.length ≤ big40 := Nat.le_trans disk_secs hd
  have h2 : d.2.length ≤ big40 := Nat.le_trans disk_puts hd
  rw [e_impl_ReadSector]; unfold X_impl_ReadSector
  simp only [within_ok, isIn_sec d at_ h1, Option.bind_some]
  unfold readSec
  unfold big40 at h1 h2
  by_cases h : 0 ≤ at_ ∧ at_ < d.1.length
  · have hg : gIdx at_ d.1.length = true := by simp [gIdx, h]
    have L := W_fold W_impl_ReadSector_5 d.2 (fun t i => (at_, t, d.2, (d.2.length : Int), i)) (fun t p => if p.1 = at_ then p.2 else t) (fun t => .inl t) (fun _ _ => True)
      (fun a _ => by rw [w_impl_ReadSector_5]; simp only [S_impl_ReadSector_5, lt_cast, Nat.lt_irrefl, decide_false, cond_false])
      (fun i hi a _ => ⟨trivial, by
        rw [w_impl_ReadSector_5]; simp only [S_impl_ReadSector_5, lt_cast, hi, decide_true, cond_true, gIdx_nat hi, Int.toNat_natCast, rdL_get (t := YPut) hi]
        rw [wrap_succ (by omega)]
        by_cases hp : (d.2[i]).1 = at_
        · simp only [hp, decide_true, cond_true, if_true]
        · simp only [hp, decide_false, cond_false, if_false]⟩) (rdL Ty.str d.1 at_.toNat) trivial
    simp only [h, and_self, decide_true, Bool.not_true, cond_false, hg, cond_true, L, Option.bind_some, if_true, foldl_last]
  · simp only [h, decide_false, Bool.not_false, cond_true, if_false]; rfl

theorem ReadSector_spec (d : DiskT) (at_ : Int) (hd : YDisk.wt d ≤ big40) : q_spec_ReadSector (d, at_) = some (readSec d at_) := by
  have h1 : d.1.length ≤ big40 := Nat.le_trans disk_secs hd
  have h2 : d.2.length ≤ big40 := Nat.le_trans disk_puts hd
  rw [e_spec_ReadSector]; unfold X_spec_ReadSector
  simp only [l01In_ok, isIn_sec d at_ h1, Option.bind_some]
  unfold readSec
  unfold big40 at h1 h2
  by_cases h : 0 ≤ at_ ∧ at_ < d.1.length
  · have hg : gIdx at_ d.1.length = true := by simp [gIdx, h]
    have L : ∀ n : Nat, n ≤ d.2.length → W_spec_ReadSector_4 (at_, d, (n : Int) - 1) = some (match lastPut (d.2.take n) at_ with
        | some s => .inr (s, true)
        | none => .inl (at_, d)) := by
      intro n
      induction n with
      | zero =>
        intro _
        rw [w_spec_ReadSector_4]; simp only [S_spec_ReadSector_4]
        rfl
      | succ n ih =>
        intro hn
        have hlt : n < d.2.length := by omega
        rw [w_spec_ReadSector_4]; simp only [S_spec_ReadSector_4]
        have e0 : ((n + 1 : Nat) : Int) - 1 = (n : Int) := by simp
        have e1 : decide ((n : Int) ≥ 0) = true := by simp
        simp only [e0, e1, cond_true, gIdx_nat hlt, Int.toNat_natCast, rdL_get (t := YPut) hlt]
        rw [List.take_succ_eq_append_getElem hlt, lastPut_snoc]
        by_cases hp : (d.2[n]).1 = at_
        · simp only [hp, decide_true, cond_true, if_true]
        · simp only [hp, decide_false, cond_false, if_false]
          rw [wrap64 (by omega) (by omega)]
          exact ih (by omega)
    have L := L d.2.length (Nat.le_refl _)
    rw [List.take_length] at L
    have wl : IntKind.i64.wrap ((d.2.length : Int) - 1) = (d.2.length : Int) - 1 := wrap64 (by omega) (by omega)
    simp only [h, and_self, decide_true, Bool.not_true, cond_false, if_true]
    rw [wl, L]
    cases lastPut d.2 at_ with
    | none => simp only [Option.bind_some, hg, cond_true, Option.getD_none]
    | some s => rfl
  · simp only [h, decide_false, Bool.not_false, cond_true, if_false]; rfl

/-! ### Sectors, one behind the other -/
def secGo (d : DiskT) (from_ : Int) : Nat → Nat → ByteArray → ByteArray × Bool
  | 0, _, acc => (acc, true)
  | m + 1, i, acc => if (readSec d (from_ + (i : Int))).2 then secGo d from_ m (i + 1) (acc ++ (readSec d (from_ + (i : Int))).1) else (emp, false)
def secText (d : DiskT) (from_ n : Int) : ByteArray × Bool := if 0 ≤ n ∧ n ≤ 100 then secGo d from_ n.toNat 0 emp else (emp, false)

theorem bytesI_len (s : ByteArray) : (bytesI s).length = s.size := by simp [bytesI]
theorem bytesI_app (a b : ByteArray) : bytesI (a ++ b) = bytesI a ++ bytesI b := by simp [bytesI, ByteArray.data_append]
theorem strI_bytesI (s : ByteArray) : strI (bytesI s) = s := by
  cases s with
  | mk d =>
    unfold strI bytesI
    simp only [List.map_map]
    have : (d.toList.map ((fun n => UInt8.ofNat n.toNat) ∘ fun b => (b.toNat : Int))) = d.toList := by
      conv => rhs; rw [← List.map_id d.toList]
      apply List.map_congr_left
      intro b _
      simp
    rw [this]

theorem isIn_eq {a b c : Int} : isIn a b c = decide (b ≤ a ∧ a ≤ c) := by
  unfold isIn
  by_cases h : b ≤ a <;> by_cases g : a ≤ c <;> simp [h, g]

theorem SectorText_impl (d : DiskT) (from_ n : Int) (hd : YDisk.wt d ≤ 1073741824) (h1 : -4611686018427387904 ≤ from_) (h2 : from_ ≤ 4611686018427387904) : q_impl_SectorText (d, from_, n) = some (secText d from_ n) := by
  have hb : YDisk.wt d ≤ big40 := by unfold big40; omega
  rw [e_impl_SectorText]; unfold X_impl_SectorText secText
  simp only [within_ok, isIn_eq, Option.bind_some]
  by_cases h : 0 ≤ n ∧ n ≤ 100
  · obtain ⟨m, rfl⟩ : ∃ m : Nat, n = m := ⟨n.toNat, by omega⟩
    have L := W_nat (fun x => (W_impl_SectorText_5 x).bind fun r => match r with
        | .inl o => some (strI o, true)
        | .inr z => some z) m (fun (a : ByteArray) i => (from_, (m : Int), d, bytesI a, i)) (fun i a => secGo d from_ (m - i) i a) (fun i a => a.size ≤ i * 1073741824)
      (fun a _ => by
        rw [w_impl_SectorText_5]; simp only [S_impl_SectorText_5, lt_cast, Nat.lt_irrefl, decide_false, cond_false, Option.bind_some, strI_bytesI, Nat.sub_self, secGo])
      (fun i a hi ha => by
        have e : m - i = (m - (i + 1)) + 1 := by omega
        have hs := readSec_size d (from_ + (i : Int))
        rw [w_impl_SectorText_5]; simp only [S_impl_SectorText_5, lt_cast, hi, decide_true, cond_true]
        rw [wrap64 (n := from_ + (i : Int)) (by omega) (by omega), ReadSector_impl d _ hb, e]
        simp only [Option.bind_some, secGo]
        cases hr : (readSec d (from_ + (i : Int))).2 with
        | false => left; rfl
        | true =>
          right
          refine ⟨a ++ (readSec d (from_ + (i : Int))).1, by rw [ByteArray.size_append]; omega, by simp, ?_⟩
          simp only [Bool.not_true, cond_false, bytesI_len, ble_cap (show a.size + (readSec d (from_ + (i : Int))).1.size ≤ 1099511627776 by omega), cond_true, bytesI_app]
          rw [wrap_succ (by omega)]) 0 emp (by omega) (by show 0 ≤ _; omega)
    rw [decide_eq_true h, if_pos h, Bool.not_true, cond_false]
    exact L
  · rw [decide_eq_false h, if_neg h]; rfl

theorem SectorText_spec (d : DiskT) (from_ n : Int) (hd : YDisk.wt d ≤ 1073741824) (h1 : -4611686018427387904 ≤ from_) (h2 : from_ ≤ 4611686018427387904) : q_spec_SectorText (d, from_, n) = some (secText d from_ n) := by
  have hb : YDisk.wt d ≤ big40 := by unfold big40; omega
  rw [e_spec_SectorText]; unfold X_spec_SectorText secText
  simp only [l01In_ok, isIn_eq, Option.bind_some]
  by_cases h : 0 ≤ n ∧ n ≤ 100
  · obtain ⟨m, rfl⟩ : ∃ m : Nat, n = m := ⟨n.toNat, by omega⟩
    have L := W_nat (fun x => (W_spec_SectorText_5 x).bind fun r => match r with
        | .inl o => some (o, true)
        | .inr z => some z) m (fun (a : ByteArray) i => (from_, (m : Int), d, a, i)) (fun i a => secGo d from_ (m - i) i a) (fun i a => a.size ≤ i * 1073741824 ∧ (i = 0 ∨ 0 ≤ from_))
      (fun a _ => by
        rw [w_spec_SectorText_5]; simp only [S_spec_SectorText_5, lt_cast, Nat.lt_irrefl, decide_false, cond_false, Option.bind_some, Nat.sub_self, secGo])
      (fun i a hi ha => by
        have e : m - i = (m - (i + 1)) + 1 := by omega
        have hs := readSec_size d (from_ + (i : Int))
        rw [w_spec_SectorText_5]; simp only [S_spec_SectorText_5, lt_cast, hi, decide_true, cond_true]
        rw [e]
        simp only [secGo]
        by_cases hf : from_ < 0 ∨ from_ > (d.1.length : Int)
        · left
          have hno : (readSec d (from_ + (i : Int))).2 = false := by
            unfold readSec
            rw [if_neg (by omega)]
          rw [hno]
          by_cases hf1 : from_ < 0
          · rw [decide_eq_true hf1]; rfl
          · have hf2 : from_ > (d.1.length : Int) := by omega
            rw [decide_eq_false hf1, decide_eq_true hf2]; rfl
        · have hf1 : ¬ from_ < 0 := by omega
          have hf2 : ¬ from_ > (d.1.length : Int) := by omega
          rw [decide_eq_false hf1, decide_eq_false hf2]
          simp only [cond_false, Option.bind_some]
          rw [wrap64 (n := from_ + (i : Int)) (by omega) (by omega), ReadSector_spec d _ hb]
          simp only [Option.bind_some]
          cases hr : (readSec d (from_ + (i : Int))).2 with
          | false => left; rfl
          | true =>
            right
            refine ⟨a ++ (readSec d (from_ + (i : Int))).1, ⟨by rw [ByteArray.size_append]; omega, by omega⟩, by simp, ?_⟩
            simp only [Bool.not_true, cond_false, decide_eq_true (show a.size + (readSec d (from_ + (i : Int))).1.size ≤ 140737488355328 by omega), cond_true]
            rw [wrap_succ (by omega)]) 0 emp (by omega) ⟨by show 0 ≤ _; omega, .inl rfl⟩
    rw [decide_eq_true h, if_pos h, Bool.not_true, cond_false]
    exact L
  · rw [decide_eq_false h, if_neg h]; rfl

end Go.Proofs.Ytoafakkbmnnimaa.Ab
