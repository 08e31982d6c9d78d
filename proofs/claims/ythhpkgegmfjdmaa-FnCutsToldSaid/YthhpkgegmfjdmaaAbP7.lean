import Derived.Test.YthhpkgegmfjdmaaAbH1
namespace Go.Proofs.Ythhpkgegmfjdmaa.Ab
open Go
set_option linter.unusedVariables false
set_option linter.unusedSimpArgs false
set_option linter.unnecessarySimpa false
set_option linter.unusedSimpArgs false
set_option linter.unusedVariables false

theorem ble_cap {n : Nat} (h : n ≤ 1099511627776) : Nat.ble n cap40 = true := Nat.ble_eq_true_of_le h
theorem strI_size (l : List Int) : (strI l).size = l.length := by
  simp [strI, ByteArray.size]
theorem byte_get {s : ByteArray} {i : Nat} (h : i < s.size) : s.data.toList.getD i 0 = s.data.toList[i]'(by simpa using h) := by
  rw [List.getD_eq_getElem?_getD, List.getElem?_eq_getElem (by simpa using h)]
  rfl

theorem tdivN (n m : Nat) : Int.tdiv (n : Int) (m : Int) = ((n / m : Nat) : Int) := (Int.ofNat_tdiv n m).symm
theorem tmodN (n m : Nat) : Int.tmod (n : Int) (m : Int) = ((n % m : Nat) : Int) := (Int.ofNat_tmod n m).symm
theorem wrap8 {n : Nat} (h : n < 256) : IntKind.u8.wrap (n : Int) = (n : Int) := by
  simp [IntKind.wrap, IntKind.bits, IntKind.signed]
  omega


end Go.Proofs.Ythhpkgegmfjdmaa.Ab
namespace Go.Proofs.Ythhpkgegmfjdmaa.Ab
open Go
set_option linter.unusedVariables false
set_option linter.unusedSimpArgs false
set_option linter.unnecessarySimpa false
set_option linter.unusedSimpArgs false
set_option linter.unusedVariables false

abbrev DiskT := List ByteArray × List (Int × ByteArray)
def emp : ByteArray := ⟨#[]⟩
theorem emp_eq : (⟨#[]⟩ : ByteArray) = emp := rfl

def isIn (a b c : Int) : Bool := decide (b ≤ a) && decide (a ≤ c)
theorem within_ok (a b c : Int) : q_impl_within (a, b, c) = some (isIn a b c) := by
  rw [e_impl_within]; unfold X_impl_within isIn
  simp only [ge_iff_le]
  cases decide (b ≤ a) <;> rfl
theorem l01In_ok (a b c : Int) : q_spec_l01In (a, b, c) = some (isIn a b c) := by
  rw [e_spec_l01In]; unfold X_spec_l01In isIn
  simp only [ge_iff_le]
  cases decide (b ≤ a) <;> rfl

/-! ### Disks: sizes -/
theorem disk_secs {d : DiskT} : d.1.length ≤ YDisk.wt d := by simp only [Ty.wt]; omega
theorem disk_puts {d : DiskT} : d.2.length ≤ YDisk.wt d := by simp only [Ty.wt]; omega
theorem sec_size {d : DiskT} {s : ByteArray} (h : s ∈ d.1) : s.size ≤ YDisk.wt d := by
  have h1 : YDisk.wt d = (d.1.length + (d.1.map Ty.str.wt).sum) + (d.2.length + (d.2.map YPut.wt).sum) := rfl
  have h2 := wt_mem (f := Ty.str.wt) h
  have h3 : Ty.str.wt s = s.size := rfl
  omega
theorem put_size {d : DiskT} {p : Int × ByteArray} (h : p ∈ d.2) : p.2.size ≤ YDisk.wt d := by
  have h1 : YDisk.wt d = (d.1.length + (d.1.map Ty.str.wt).sum) + (d.2.length + (d.2.map YPut.wt).sum) := rfl
  have h2 := wt_mem (f := YPut.wt) h
  have h3 : YPut.wt p = 0 + p.2.size := rfl
  omega

/-! ### A sector -/
def lastPut (c : List (Int × ByteArray)) (at_ : Int) : Option ByteArray := c.foldl (fun t p => if p.1 = at_ then some p.2 else t) none
def readSec (d : DiskT) (at_ : Int) : ByteArray × Bool := if 0 ≤ at_ ∧ at_ < d.1.length then ((lastPut d.2 at_).getD (rdL Ty.str d.1 at_.toNat), true) else (emp, false)

theorem lastPut_snoc (c : List (Int × ByteArray)) (p : Int × ByteArray) (at_ : Int) : lastPut (c ++ [p]) at_ = if p.1 = at_ then some p.2 else lastPut c at_ := by
  simp [lastPut, List.foldl_append]

theorem lastPut_mem {c : List (Int × ByteArray)} {at_ : Int} {s : ByteArray} (h : lastPut c at_ = some s) : ∃ p ∈ c, p.2 = s := by
  have key : ∀ (c : List (Int × ByteArray)) (z : Option ByteArray), c.foldl (fun t p => if p.1 = at_ then some p.2 else t) z = some s → z = some s ∨ ∃ p ∈ c, p.2 = s := by
    intro c
    induction c with
    | nil => intro z h; exact .inl h
    | cons p c ih =>
      intro z h
      rw [List.foldl_cons] at h
      rcases ih _ h with h | ⟨q, hq, h⟩
      · split at h
        · exact .inr ⟨p, by simp, by simpa using h⟩
        · exact .inl h
      · exact .inr ⟨q, by simp [hq], h⟩
  rcases key c none h with h | h
  · cases h
  · exact h

theorem readSec_size (d : DiskT) (at_ : Int) : (readSec d at_).1.size ≤ YDisk.wt d := by
  unfold readSec
  split
  · rename_i h
    cases hl : lastPut d.2 at_ with
    | none =>
      simp only [Option.getD_none]
      have hi : at_.toNat < d.1.length := by omega
      rw [rdL_get (t := Ty.str) hi]
      exact sec_size (List.getElem_mem hi)
    | some s =>
      simp only [Option.getD_some]
      obtain ⟨p, hp, rfl⟩ := lastPut_mem hl
      exact put_size hp
  · show 0 ≤ _; omega

theorem foldl_last (c : List (Int × ByteArray)) (at_ : Int) (z : ByteArray) : c.foldl (fun t p => if p.1 = at_ then p.2 else t) z = (lastPut c at_).getD z := by
  have key : ∀ (c : List (Int × ByteArray)) (o : Option ByteArray) (z : ByteArray), c.foldl (fun t p => if p.1 = at_ then p.2 else t) (o.getD z) = (c.foldl (fun t p => if p.1 = at_ then some p.2 else t) o).getD z := by
    intro c
    induction c with
    | nil => intro o z; rfl
    | cons p c ih =>
      intro o z
      simp only [List.foldl_cons]
      by_cases h : p.1 = at_
      · simp only [h, if_true]; exact ih (some p.2) z
      · simp only [h, if_false]; exact ih o z
  exact key c none z

theorem isIn_sec (d : DiskT) (at_ : Int) (hd : d.1.length ≤ big40) : isIn at_ 0 (IntKind.i64.wrap ((d.1.length : Int) - 1)) = decide (0 ≤ at_ ∧ at_ < d.1.length) := by
  unfold big40 at hd
  rw [wrap64 (by omega) (by omega)]
  unfold isIn
  by_cases h : 0 ≤ at_ ∧ at_ < d.1.length
  · rw [decide_eq_true h, decide_eq_true h.1, decide_eq_true (by omega)]; rfl
  · rw [decide_eq_false h]
    by_cases h0 : 0 ≤ at_
    · rw [decide_eq_true h0, decide_eq_false (by omega)]; rfl
    · rw [decide_eq_false h0]; rfl

theorem ReadSector_impl (d : DiskT) (at_ : Int) (hd : YDisk.wt d ≤ big40) : q_impl_ReadSector (d, at_) = some (readSec d at_) := by
  have h1 : d.1.length ≤ big40 := Nat.le_trans disk_secs hd
  have h2 : d.2.length ≤ big40 := Nat.le_trans disk_puts hd
  rw [e_impl_ReadSector]; unfold X_impl_ReadSector
  simp only [within_ok, isIn_sec d at_ h1, Option.bind_some]
  unfold readSec
  unfold big40 at h1 h2
  by_cases h : 0 ≤ at_ ∧ at_ < d.1.length
  · have hg : gIdx at_ d.1.length = true := by simp [gIdx, h]
    have L := W_fold W_impl_ReadSector_5 d.2 (fun t i => (at_, t, d.2, (d.2.length : Int), i)) (fun t p => if p.1 = at_ then p.2 else t) (fun t => .inl t) (fun _ _ => True)
      (fun a _ => by rw [w_impl_ReadSector_5]; simp only [S_impl_ReadSector_5, lt_cast, Nat.lt_irrefl, decide_false, cond_false])
      (fun i hi a _ => ⟨trivial, by
        rw [w_impl_ReadSector_5]; simp only [S_impl_ReadSector_5, lt_cast, hi, decide_true, cond_true, gIdx_nat hi, Int.toNat_natCast, rdL_get (t := YPut) hi]
        rw [wrap_succ (by omega)]
        by_cases hp : (d.2[i]).1 = at_
        · simp only [hp, decide_true, cond_true, if_true]
        · simp only [hp, decide_false, cond_false, if_false]⟩) (rdL Ty.str d.1 at_.toNat) trivial
    simp only [h, and_self, decide_true, Bool.not_true, cond_false, hg, cond_true, L, Option.bind_some, if_true, foldl_last]
  · simp only [h, decide_false, Bool.not_false, cond_true, if_false]; rfl

theorem ReadSector_spec (d : DiskT) (at_ : Int) (hd : YDisk.wt d ≤ big40) : q_spec_ReadSector (d, at_) = some (readSec d at_) := by
  have h1 : d.1.length ≤ big40 := Nat.le_trans disk_secs hd
  have h2 : d.2.length ≤ big40 := Nat.le_trans disk_puts hd
  rw [e_spec_ReadSector]; unfold X_spec_ReadSector
  simp only [l01In_ok, isIn_sec d at_ h1, Option.bind_some]
  unfold readSec
  unfold big40 at h1 h2
  by_cases h : 0 ≤ at_ ∧ at_ < d.1.length
  · have hg : gIdx at_ d.1.length = true := by simp [gIdx, h]
    have L : ∀ n : Nat, n ≤ d.2.length → W_spec_ReadSector_4 (at_, d, (n : Int) - 1) = some (match lastPut (d.2.take n) at_ with
        | some s => .inr (s, true)
        | none => .inl (at_, d)) := by
      intro n
      induction n with
      | zero =>
        intro _
        rw [w_spec_ReadSector_4]; simp only [S_spec_ReadSector_4]
        rfl
      | succ n ih =>
        intro hn
        have hlt : n < d.2.length := by omega
        rw [w_spec_ReadSector_4]; simp only [S_spec_ReadSector_4]
        have e0 : ((n + 1 : Nat) : Int) - 1 = (n : Int) := by simp
        have e1 : decide ((n : Int) ≥ 0) = true := by simp
        simp only [e0, e1, cond_true, gIdx_nat hlt, Int.toNat_natCast, rdL_get (t := YPut) hlt]
        rw [List.take_succ_eq_append_getElem hlt, lastPut_snoc]
        by_cases hp : (d.2[n]).1 = at_
        · simp only [hp, decide_true, cond_true, if_true]
        · simp only [hp, decide_false, cond_false, if_false]
          rw [wrap64 (by omega) (by omega)]
          exact ih (by omega)
    have L := L d.2.length (Nat.le_refl _)
    rw [List.take_length] at L
    have wl : IntKind.i64.wrap ((d.2.length : Int) - 1) = (d.2.length : Int) - 1 := wrap64 (by omega) (by omega)
    simp only [h, and_self, decide_true, Bool.not_true, cond_false, if_true]
    rw [wl, L]
    cases lastPut d.2 at_ with
    | none => simp only [Option.bind_some, hg, cond_true, Option.getD_none]
    | some s => rfl
  · simp only [h, decide_false, Bool.not_false, cond_true, if_false]; rfl

/-! ### Sectors, one behind the other -/
def secGo (d : DiskT) (from_ : Int) : Nat → Nat → ByteArray → ByteArray × Bool
  | 0, _, acc => (acc, true)
  | m + 1, i, acc => if (readSec d (from_ + (i : Int))).2 then secGo d from_ m (i + 1) (acc ++ (readSec d (from_ + (i : Int))).1) else (emp, false)
def secText (d : DiskT) (from_ n : Int) : ByteArray × Bool := if 0 ≤ n ∧ n ≤ 100 then secGo d from_ n.toNat 0 emp else (emp, false)

theorem bytesI_len (s : ByteArray) : (bytesI s).length = s.size := by simp [bytesI]
theorem bytesI_app (a b : ByteArray) : bytesI (a ++ b) = bytesI a ++ bytesI b := by simp [bytesI, ByteArray.data_append]
theorem strI_bytesI (s : ByteArray) : strI (bytesI s) = s := by
  cases s with
  | mk d =>
    unfold strI bytesI
    simp only [List.map_map]
    have : (d.toList.map ((fun n => UInt8.ofNat n.toNat) ∘ fun b => (b.toNat : Int))) = d.toList := by
      conv => rhs; rw [← List.map_id d.toList]
      apply List.map_congr_left
      intro b _
      simp
    rw [this]

theorem isIn_eq {a b c : Int} : isIn a b c = decide (b ≤ a ∧ a ≤ c) := by
  unfold isIn
  by_cases h : b ≤ a <;> by_cases g : a ≤ c <;> simp [h, g]

theorem SectorText_impl (d : DiskT) (from_ n : Int) (hd : YDisk.wt d ≤ 1073741824) (h1 : -4611686018427387904 ≤ from_) (h2 : from_ ≤ 4611686018427387904) : q_impl_SectorText (d, from_, n) = some (secText d from_ n) := by
  have hb : YDisk.wt d ≤ big40 := by unfold big40; omega
  rw [e_impl_SectorText]; unfold X_impl_SectorText secText
  simp only [within_ok, isIn_eq, Option.bind_some]
  by_cases h : 0 ≤ n ∧ n ≤ 100
  · obtain ⟨m, rfl⟩ : ∃ m : Nat, n = m := ⟨n.toNat, by omega⟩
    have L := W_nat (fun x => (W_impl_SectorText_5 x).bind fun r => match r with
        | .inl o => some (strI o, true)
        | .inr z => some z) m (fun (a : ByteArray) i => (from_, (m : Int), d, bytesI a, i)) (fun i a => secGo d from_ (m - i) i a) (fun i a => a.size ≤ i * 1073741824)
      (fun a _ => by
        rw [w_impl_SectorText_5]; simp only [S_impl_SectorText_5, lt_cast, Nat.lt_irrefl, decide_false, cond_false, Option.bind_some, strI_bytesI, Nat.sub_self, secGo])
      (fun i a hi ha => by
        have e : m - i = (m - (i + 1)) + 1 := by omega
        have hs := readSec_size d (from_ + (i : Int))
        rw [w_impl_SectorText_5]; simp only [S_impl_SectorText_5, lt_cast, hi, decide_true, cond_true]
        rw [wrap64 (n := from_ + (i : Int)) (by omega) (by omega), ReadSector_impl d _ hb, e]
        simp only [Option.bind_some, secGo]
        cases hr : (readSec d (from_ + (i : Int))).2 with
        | false => left; rfl
        | true =>
          right
          refine ⟨a ++ (readSec d (from_ + (i : Int))).1, by rw [ByteArray.size_append]; omega, by simp, ?_⟩
          simp only [Bool.not_true, cond_false, bytesI_len, ble_cap (show a.size + (readSec d (from_ + (i : Int))).1.size ≤ 1099511627776 by omega), cond_true, bytesI_app]
          rw [wrap_succ (by omega)]) 0 emp (by omega) (by show 0 ≤ _; omega)
    rw [decide_eq_true h, if_pos h, Bool.not_true, cond_false]
    exact L
  · rw [decide_eq_false h, if_neg h]; rfl

theorem SectorText_spec (d : DiskT) (from_ n : Int) (hd : YDisk.wt d ≤ 1073741824) (h1 : -4611686018427387904 ≤ from_) (h2 : from_ ≤ 4611686018427387904) : q_spec_SectorText (d, from_, n) = some (secText d from_ n) := by
  have hb : YDisk.wt d ≤ big40 := by unfold big40; omega
  rw [e_spec_SectorText]; unfold X_spec_SectorText secText
  simp only [l01In_ok, isIn_eq, Option.bind_some]
  by_cases h : 0 ≤ n ∧ n ≤ 100
  · obtain ⟨m, rfl⟩ : ∃ m : Nat, n = m := ⟨n.toNat, by omega⟩
    have L := W_nat (fun x => (W_spec_SectorText_5 x).bind fun r => match r with
        | .inl o => some (o, true)
        | .inr z => some z) m (fun (a : ByteArray) i => (from_, (m : Int), d, a, i)) (fun i a => secGo d from_ (m - i) i a) (fun i a => a.size ≤ i * 1073741824 ∧ (i = 0 ∨ 0 ≤ from_))
      (fun a _ => by
        rw [w_spec_SectorText_5]; simp only [S_spec_SectorText_5, lt_cast, Nat.lt_irrefl, decide_false, cond_false, Option.bind_some, Nat.sub_self, secGo])
      (fun i a hi ha => by
        have e : m - i = (m - (i + 1)) + 1 := by omega
        have hs := readSec_size d (from_ + (i : Int))
        rw [w_spec_SectorText_5]; simp only [S_spec_SectorText_5, lt_cast, hi, decide_true, cond_true]
        rw [e]
        simp only [secGo]
        by_cases hf : from_ < 0 ∨ from_ > (d.1.length : Int)
        · left
          have hno : (readSec d (from_ + (i : Int))).2 = false := by
            unfold readSec
            rw [if_neg (by omega)]
          rw [hno]
          by_cases hf1 : from_ < 0
          · rw [decide_eq_true hf1]; rfl
          · have hf2 : from_ > (d.1.length : Int) := by omega
            rw [decide_eq_false hf1, decide_eq_true hf2]; rfl
        · have hf1 : ¬ from_ < 0 := by omega
          have hf2 : ¬ from_ > (d.1.length : Int) := by omega
          rw [decide_eq_false hf1, decide_eq_false hf2]
          simp only [cond_false, Option.bind_some]
          rw [wrap64 (n := from_ + (i : Int)) (by omega) (by omega), ReadSector_spec d _ hb]
          simp only [Option.bind_some]
          cases hr : (readSec d (from_ + (i : Int))).2 with
          | false => left; rfl
          | true =>
            right
            refine ⟨a ++ (readSec d (from_ + (i : Int))).1, ⟨by rw [ByteArray.size_append]; omega, by omega⟩, by simp, ?_⟩
            simp only [Bool.not_true, cond_false, decide_eq_true (show a.size + (readSec d (from_ + (i : Int))).1.size ≤ 140737488355328 by omega), cond_true]
            rw [wrap_succ (by omega)]) 0 emp (by omega) ⟨by show 0 ≤ _; omega, .inl rfl⟩
    rw [decide_eq_true h, if_pos h, Bool.not_true, cond_false]
    exact L
  · rw [decide_eq_false h, if_neg h]; rfl

end Go.Proofs.Ythhpkgegmfjdmaa.Ab
namespace Go.Proofs.Ythhpkgegmfjdmaa.Ab
open Go
set_option linter.unusedVariables false
set_option linter.unusedSimpArgs false
set_option linter.unnecessarySimpa false
set_option linter.unusedSimpArgs false
set_option linter.unusedVariables false

/-! ### Numbers in bytes -/
def varB (n : Nat) : List Int := if h : n < 128 then [(n : Int)] else ((n % 128 + 128 : Nat) : Int) :: varB (n / 128)
termination_by n
decreasing_by omega

theorem varB_lt {n : Nat} (h : n < 128) : varB n = [(n : Int)] := by rw [varB, dif_pos h]
theorem varB_ge {n : Nat} (h : ¬ n < 128) : varB n = ((n % 128 + 128 : Nat) : Int) :: varB (n / 128) := by rw [varB, dif_neg h]
theorem varB_len (n : Nat) : (varB n).length ≤ n + 1 := by
  induction n using Nat.strongRecOn with
  | _ n ih =>
    by_cases h : n < 128
    · rw [varB_lt h]; simp
    · rw [varB_ge h]
      have := ih (n / 128) (by omega)
      simp only [List.length_cons]; omega

theorem var_loop {S : Type} {W : Int × List Int → Option ((Int × List Int) ⊕ S)}
    (hW : ∀ x, W x = (bif (decide (x.1 > (127 : Int))) then (bif (Nat.ble (x.2.length + ([(IntKind.u8.wrap (IntKind.i64.wrap ((Int.tmod x.1 (128 : Int)) + (128 : Int))))] : List Int).length) cap40) then
      (W ((IntKind.i64.wrap (Int.tdiv x.1 (128 : Int))), (x.2 ++ ([(IntKind.u8.wrap (IntKind.i64.wrap ((Int.tmod x.1 (128 : Int)) + (128 : Int))))] : List Int)))) else none) else (some (.inl x)))) :
    ∀ (n : Nat) (acc : List Int), acc.length + n ≤ 1000000000000 → ∃ m : Nat, ∃ acc' : List Int, W ((n : Int), acc) = some (.inl ((m : Int), acc')) ∧ m < 128 ∧ acc' ++ [(m : Int)] = acc ++ varB n ∧ acc'.length ≤ acc.length + n := by
  intro n
  induction n using Nat.strongRecOn with
  | _ n ih =>
    intro acc hn
    rw [hW]
    by_cases h : n < 128
    · have : decide ((n : Int) > (127 : Int)) = false := by simp; omega
      simp only [this, cond_false]
      exact ⟨n, acc, rfl, h, by rw [varB_lt h], by omega⟩
    · have h1 : decide ((n : Int) > (127 : Int)) = true := by simp; omega
      have h2 : Int.tmod (n : Int) (128 : Int) = ((n % 128 : Nat) : Int) := tmodN n 128
      have h3 : Int.tdiv (n : Int) (128 : Int) = ((n / 128 : Nat) : Int) := tdivN n 128
      have h4 : IntKind.u8.wrap (IntKind.i64.wrap (((n % 128 : Nat) : Int) + (128 : Int))) = ((n % 128 + 128 : Nat) : Int) := by
        rw [wrap64 (by omega) (by omega)]
        have : ((n % 128 : Nat) : Int) + 128 = ((n % 128 + 128 : Nat) : Int) := by simp
        rw [this, wrap8 (by omega)]
      simp only [h1, h2, h3, h4, cond_true, List.length_singleton, ble_cap (show acc.length + 1 ≤ 1099511627776 by omega)]
      rw [wrap_nat (by omega)]
      obtain ⟨m, acc', e1, e2, e3, e4⟩ := ih (n / 128) (by omega) (acc ++ [((n % 128 + 128 : Nat) : Int)]) (by simp; omega)
      refine ⟨m, acc', e1, e2, ?_, ?_⟩
      · rw [e3, varB_ge h, List.append_assoc]; rfl
      · have : (acc ++ [((n % 128 + 128 : Nat) : Int)]).length = acc.length + 1 := by simp
        omega

theorem l01Var_ok (n : Nat) (hn : n ≤ 100000000000) : q_spec_l01Var (n : Int) = some (strI (varB n)) := by
  rw [e_spec_l01Var]; unfold X_spec_l01Var
  obtain ⟨m, acc', e1, e2, e3, e4⟩ := var_loop (W := W_spec_l01Var_2) (fun x => w_spec_l01Var_2 x) n [] (by simp; omega)
  have e4 : acc'.length ≤ n := by simpa using e4
  simp only [e1, Option.bind_some, List.length_singleton, ble_cap (show acc'.length + 1 ≤ 1099511627776 by omega), cond_true]
  rw [wrap8 (by omega), e3]; rfl

theorem VarText_impl (n : Int) : q_impl_VarText n = some (if 0 ≤ n ∧ n ≤ 1000000000 then (strI (varB n.toNat), true) else (emp, false)) := by
  rw [e_impl_VarText]; unfold X_impl_VarText
  simp only [within_ok, isIn_eq, Option.bind_some]
  by_cases h : 0 ≤ n ∧ n ≤ 1000000000
  · obtain ⟨m, rfl⟩ : ∃ m : Nat, n = m := ⟨n.toNat, by omega⟩
    obtain ⟨k, acc', e1, e2, e3, e4⟩ := var_loop (W := W_impl_VarText_4) (fun x => w_impl_VarText_4 x) m [] (by simp; omega)
    have e4 : acc'.length ≤ m := by simpa using e4
    rw [decide_eq_true h, if_pos h]
    simp only [e1, Option.bind_some, Bool.not_true, cond_false, List.length_singleton, ble_cap (show acc'.length + 1 ≤ 1099511627776 by omega), cond_true]
    rw [wrap8 (by omega), e3]; rfl
  · rw [decide_eq_false h, if_neg h]; rfl

theorem strI_size' (l : List Int) : (strI l).size = l.length := strI_size l

/-- A number read from bytes: so many more bytes may come, so many were, their value. -/
def varGo : Nat → Nat → Nat → List UInt8 → Option (Nat × Nat)
  | 0, _, _, _ => none
  | _ + 1, _, _, [] => none
  | f + 1, i, n, b :: l =>
    if b.toNat < 128 then (if n + b.toNat % 128 * 128 ^ i ≤ 1000000000 ∧ (varB (n + b.toNat % 128 * 128 ^ i)).length = i + 1 then some (n + b.toNat % 128 * 128 ^ i, i + 1) else none)
    else varGo f (i + 1) (n + b.toNat % 128 * 128 ^ i) l

def varFin (at_ : Int) (r : Option (Nat × Nat)) : Int × Int × Bool := match r with
  | some (n, k) => ((n : Int), at_ + (k : Int), true)
  | none => (0, 0, false)

def readVar (t : ByteArray) (at_ : Int) : Int × Int × Bool := if 0 ≤ at_ ∧ at_ ≤ t.size then varFin at_ (varGo 5 0 0 (t.data.toList.drop at_.toNat)) else (0, 0, false)

theorem varGo_ok : ∀ (f i n : Nat) (l : List UInt8) (v k : Nat), varGo f i n l = some (v, k) → v ≤ 1000000000 ∧ k ≤ i + l.length ∧ i < k
  | 0, _, _, _, _, _, h => by cases h
  | _ + 1, _, _, [], _, _, h => by cases h
  | f + 1, i, n, b :: l, v, k, h => by
    simp only [varGo] at h
    split at h
    · split at h
      · rename_i h2
        simp only [Option.some.injEq, Prod.mk.injEq] at h
        obtain ⟨rfl, rfl⟩ := h
        exact ⟨h2.1, by simp, by omega⟩
      · cases h
    · have := varGo_ok f (i + 1) _ l v k h
      simp only [List.length_cons]
      omega

theorem readVar_ok {t : ByteArray} {at_ : Int} (h : (readVar t at_).2.2 = true) : 0 ≤ (readVar t at_).1 ∧ (readVar t at_).1 ≤ 1000000000 ∧ 0 ≤ at_ ∧ at_ < (readVar t at_).2.1 ∧ (readVar t at_).2.1 ≤ t.size := by
  unfold readVar at h ⊢
  split at h
  · rename_i hc
    rw [if_pos hc]
    cases hv : varGo 5 0 0 (t.data.toList.drop at_.toNat) with
    | none => rw [hv] at h; cases h
    | some r =>
      obtain ⟨v, k⟩ := r
      have := varGo_ok 5 0 0 _ v k hv
      have hl : (t.data.toList.drop at_.toNat).length = t.size - at_.toNat := by simp
      simp only [varFin]
      omega
  · cases h

theorem pow128 (i : Nat) (h : i < 5) : (2 : Int) ^ (min (IntKind.i64.wrap (7 * (i : Int))).toNat IntKind.i64.bits) = ((128 ^ i : Nat) : Int) := by
  rcases i with _ | _ | _ | _ | _ | i
  all_goals first | rfl | omega

theorem pow_le (i : Nat) (h : i ≤ 5) : 128 ^ i ≤ 34359738368 := by
  rcases i with _ | _ | _ | _ | _ | _ | i
  all_goals first | decide | omega

theorem ReadVar_impl (t : ByteArray) (at_ : Int) (ht : t.size ≤ big40) : q_impl_ReadVar (t, at_) = some (readVar t at_) := by
  unfold big40 at ht
  rw [e_impl_ReadVar]; unfold X_impl_ReadVar readVar
  simp only [within_ok, isIn_eq, Option.bind_some]
  by_cases h : 0 ≤ at_ ∧ at_ ≤ t.size
  · obtain ⟨p, rfl⟩ : ∃ p : Nat, at_ = p := ⟨at_.toNat, by omega⟩
    have hp : p ≤ t.size := by omega
    rw [decide_eq_true h, if_pos h]
    have L : ∀ (f i n : Nat), i + f = 5 → n < 128 ^ i → p + i ≤ t.size → ((W_impl_ReadVar_5 (t, (p : Int), (n : Int), (i : Int))).bind fun r => match r with
        | .inl o => some ((0 : Int), (0 : Int), false)
        | .inr z => some z) = some (varFin p (varGo f i n (t.data.toList.drop (p + i)))) := by
      intro f
      induction f with
      | zero =>
        intro i n hi hn hpi
        have : i = 5 := by omega
        subst this
        rw [w_impl_ReadVar_5]; simp only [S_impl_ReadVar_5]
        rfl
      | succ f ih =>
        intro i n hi hn hpi
        have hi5 : i < 5 := by omega
        have hpw := pow_le i (by omega)
        rw [w_impl_ReadVar_5]; simp only [S_impl_ReadVar_5]
        have w1 : IntKind.i64.wrap ((p : Int) + (i : Int)) = ((p + i : Nat) : Int) := by rw [wrap64 (by omega) (by omega)]; simp
        have e1 : decide ((i : Int) < (5 : Int)) = true := by simp; omega
        by_cases hlt : p + i < t.size
        · have hd : t.data.toList.drop (p + i) = (t.data.toList[p + i]'(by simpa using hlt)) :: t.data.toList.drop (p + i + 1) := List.drop_eq_getElem_cons (by simpa using hlt)
          have hb : (t.data.toList[p + i]'(by simpa using hlt)).toNat < 256 := UInt8.toNat_lt _
          rw [hd]
          generalize hc : (t.data.toList[p + i]'(by simpa using hlt)) = c at hb
          have e2 : decide (((p + i : Nat) : Int) < (t.size : Int)) = true := by simp; omega
          have e3 : decide (0 ≤ IntKind.i64.wrap (7 * (i : Int))) = true := by rw [wrap64 (by omega) (by omega)]; simp; omega
          have t2 : Int.tmod ((c.toNat : Nat) : Int) (128 : Int) = ((c.toNat % 128 : Nat) : Int) := tmodN _ 128
          have hm : c.toNat % 128 * 128 ^ i ≤ 127 * 34359738368 := Nat.mul_le_mul (by omega) hpw
          have w2 : IntKind.i64.wrap (((c.toNat % 128 : Nat) : Int) * ((128 ^ i : Nat) : Int)) = ((c.toNat % 128 * 128 ^ i : Nat) : Int) := by
            rw [← Int.natCast_mul]; exact wrap_nat (by omega)
          have w3 : IntKind.i64.wrap ((n : Int) + ((c.toNat % 128 * 128 ^ i : Nat) : Int)) = ((n + c.toNat % 128 * 128 ^ i : Nat) : Int) := by
            rw [← Int.natCast_add]; exact wrap_nat (by omega)
          simp only [e1, cond_true, Option.bind_some, w1, e2, gIdx_nat hlt, e3, Int.toNat_natCast, byte_get hlt, hc, wrap_nat (show c.toNat ≤ 4611686018427387904 by omega), t2, pow128 i hi5, w2, w3, varGo]
          by_cases hc1 : c.toNat < 128
          · have e4 : decide (((c.toNat : Nat) : Int) < (128 : Int)) = true := by simp; omega
            simp only [e4, cond_true, if_pos hc1, VarText_impl, Option.bind_some]
            have wi : IntKind.i64.wrap ((i : Int) + 1) = ((i + 1 : Nat) : Int) := wrap_succ (by omega)
            by_cases hv : n + c.toNat % 128 * 128 ^ i ≤ 1000000000
            · rw [if_pos (show (0 : Int) ≤ ((n + c.toNat % 128 * 128 ^ i : Nat) : Int) ∧ ((n + c.toNat % 128 * 128 ^ i : Nat) : Int) ≤ 1000000000 by omega)]
              simp only [Bool.not_true, cond_false, Int.toNat_natCast, strI_size, wi, Option.bind_some]
              by_cases hl : (varB (n + c.toNat % 128 * 128 ^ i)).length = i + 1
              · rw [if_pos ⟨hv, hl⟩, hl]
                simp only [decide_true, Bool.not_true, cond_false, Option.bind_some, varFin]
                rw [wrap64 (by omega) (by omega)]
                simp [Int.add_assoc]
              · rw [if_neg (fun hh => hl hh.2)]
                rw [decide_eq_false (show ¬ (((varB (n + c.toNat % 128 * 128 ^ i)).length : Nat) : Int) = ((i + 1 : Nat) : Int) by omega)]
                rfl
            · rw [if_neg (show ¬ ((0 : Int) ≤ ((n + c.toNat % 128 * 128 ^ i : Nat) : Int) ∧ ((n + c.toNat % 128 * 128 ^ i : Nat) : Int) ≤ 1000000000) by omega), if_neg (fun hh => hv hh.1)]
              rfl
          · have e4 : decide (((c.toNat : Nat) : Int) < (128 : Int)) = false := by simp; omega
            simp only [e4, cond_false, if_neg hc1]
            rw [wrap_succ (by omega)]
            have := ih (i + 1) (n + c.toNat % 128 * 128 ^ i) (by omega) (by
              have : 128 ^ (i + 1) = 128 ^ i * 128 := Nat.pow_succ 128 i
              have h2 : c.toNat % 128 * 128 ^ i ≤ 127 * 128 ^ i := Nat.mul_le_mul (by omega) (Nat.le_refl _)
              omega) (by omega)
            exact this
        · have e2 : decide (((p + i : Nat) : Int) < (t.size : Int)) = false := by simp; omega
          have hd : t.data.toList.drop (p + i) = [] := List.drop_eq_nil_of_le (by simp; omega)
          rw [hd]
          simp only [e1, cond_true, w1, e2, Option.bind_some, cond_false, varGo]
          rfl
    exact L 5 0 0 rfl (by decide) (by omega)
  · rw [decide_eq_false h, if_neg h]; rfl

/-- Bytes' value as a number. -/
def varV : List UInt8 → Nat
  | [] => 0
  | b :: l => b.toNat % 128 + 128 * varV l

theorem varV_snoc (l : List UInt8) (b : UInt8) : varV (l ++ [b]) = varV l + b.toNat % 128 * 128 ^ l.length := by
  induction l with
  | nil => simp [varV]
  | cons x l ih =>
    simp only [List.cons_append, varV, ih, List.length_cons, Nat.pow_succ]
    rw [Nat.mul_add]
    have : 128 * (b.toNat % 128 * 128 ^ l.length) = b.toNat % 128 * (128 ^ l.length * 128) := by
      rw [Nat.mul_comm 128, Nat.mul_assoc]
    omega

theorem varB_of (l : List UInt8) (b : UInt8) (hl : ∀ x ∈ l, ¬ x.toNat < 128) (hb : b.toNat < 128) (h : (varB (varV (l ++ [b]))).length = l.length + 1) : varB (varV (l ++ [b])) = (l ++ [b]).map fun x => (x.toNat : Int) := by
  induction l with
  | nil =>
    have : varV ([] ++ [b]) = b.toNat := by simp [varV]; omega
    rw [this, varB_lt hb]; rfl
  | cons x l ih =>
    have hx : x.toNat < 256 := UInt8.toNat_lt x
    have hx2 := hl x (by simp)
    simp only [List.cons_append, varV] at h ⊢
    by_cases hs : x.toNat % 128 + 128 * varV (l ++ [b]) < 128
    · rw [varB_lt hs] at h
      simp at h
    · rw [varB_ge hs] at h ⊢
      have e1 : (x.toNat % 128 + 128 * varV (l ++ [b])) / 128 = varV (l ++ [b]) := by omega
      have e2 : (x.toNat % 128 + 128 * varV (l ++ [b])) % 128 + 128 = x.toNat := by omega
      rw [e1] at h ⊢
      rw [e2]
      simp only [List.length_cons, Nat.add_right_cancel_iff] at h
      rw [ih (fun y hy => hl y (by simp [hy])) h]
      rfl

theorem strI_map (l : List UInt8) : strI (l.map fun x => (x.toNat : Int)) = ⟨l.toArray⟩ := by
  unfold strI
  simp only [List.map_map]
  have : (l.map ((fun n => UInt8.ofNat n.toNat) ∘ fun b => (b.toNat : Int))) = l := by
    conv => rhs; rw [← List.map_id l]
    apply List.map_congr_left
    intro b _
    simp
  rw [this]

theorem extract_take (t : ByteArray) (a b : Nat) (h : b ≤ t.size) : t.extract a b = ⟨((t.data.toList.drop a).take (b - a)).toArray⟩ := by
  apply ByteArray.ext
  simp only [ByteArray.data_extract]
  apply Array.ext'
  simp [List.extract_eq_take_drop]

theorem le_dec {q : Nat} (h : q ≤ 1000000000) : decide ((q : Int) > (1000000000 : Int)) = false := by simp; omega
theorem gt_dec {q : Nat} (h : ¬ q ≤ 1000000000) : decide ((q : Int) > (1000000000 : Int)) = true := by simp; omega

theorem ReadVar_spec (t : ByteArray) (at_ : Int) (ht : t.size ≤ big40) : q_spec_ReadVar (t, at_) = some (readVar t at_) := by
  unfold big40 at ht
  rw [e_spec_ReadVar]; unfold X_spec_ReadVar readVar
  simp only [l01In_ok, isIn_eq, Option.bind_some]
  by_cases h : 0 ≤ at_ ∧ at_ ≤ t.size
  · obtain ⟨p, rfl⟩ : ∃ p : Nat, at_ = p := ⟨at_.toNat, by omega⟩
    have hp : p ≤ t.size := by omega
    rw [decide_eq_true h, if_pos h]
    have L : ∀ (f i : Nat), i + f = 5 → p + i ≤ t.size → (∀ x ∈ (t.data.toList.drop p).take i, ¬ x.toNat < 128) → varV ((t.data.toList.drop p).take i) < 128 ^ i →
        ((W_spec_ReadVar_6 (t, (p : Int), ((varV ((t.data.toList.drop p).take i) : Nat) : Int), ((128 ^ i : Nat) : Int), ((p + i : Nat) : Int))).bind fun r => match r with
        | .inl o => some ((0 : Int), (0 : Int), false)
        | .inr z => some z) = some (varFin p (varGo f i (varV ((t.data.toList.drop p).take i)) (t.data.toList.drop (p + i)))) := by
      intro f
      induction f with
      | zero =>
        intro i hi hpi hall hn
        have : i = 5 := by omega
        subst this
        rw [w_spec_ReadVar_6]; simp only [S_spec_ReadVar_6]
        have e1 : decide (((p + 5 : Nat) : Int) < IntKind.i64.wrap ((p : Int) + 5)) = false := by rw [wrap64 (by omega) (by omega)]; simp
        rw [e1]
        cases decide (((p + 5 : Nat) : Int) < (t.size : Int)) <;> rfl
      | succ f ih =>
        intro i hi hpi hall hn
        have hi5 : i < 5 := by omega
        have hpw := pow_le i (by omega)
        rw [w_spec_ReadVar_6]; simp only [S_spec_ReadVar_6]
        have e1 : decide (((p + i : Nat) : Int) < IntKind.i64.wrap ((p : Int) + 5)) = true := by rw [wrap64 (by omega) (by omega)]; simp; omega
        by_cases hlt : p + i < t.size
        · have hd : t.data.toList.drop (p + i) = (t.data.toList[p + i]'(by simpa using hlt)) :: t.data.toList.drop (p + i + 1) := List.drop_eq_getElem_cons (by simpa using hlt)
          have hb : (t.data.toList[p + i]'(by simpa using hlt)).toNat < 256 := UInt8.toNat_lt _
          have htk : (t.data.toList.drop p).take (i + 1) = (t.data.toList.drop p).take i ++ [t.data.toList[p + i]'(by simpa using hlt)] := by
            rw [List.take_succ_eq_append_getElem (by simp; omega)]
            simp
          have htl : ((t.data.toList.drop p).take i).length = i := by simp; omega
          have hvs := varV_snoc ((t.data.toList.drop p).take i) (t.data.toList[p + i]'(by simpa using hlt))
          rw [htl] at hvs
          rw [hd]
          generalize hc : (t.data.toList[p + i]'(by simpa using hlt)) = c at hb htk hvs
          generalize hn' : varV ((t.data.toList.drop p).take i) = n at hn hvs ⊢
          have e2 : decide (((p + i : Nat) : Int) < (t.size : Int)) = true := by simp; omega
          have t2 : Int.tmod ((c.toNat : Nat) : Int) (128 : Int) = ((c.toNat % 128 : Nat) : Int) := tmodN _ 128
          have hm : c.toNat % 128 * 128 ^ i ≤ 127 * 34359738368 := Nat.mul_le_mul (by omega) hpw
          have w2 : IntKind.i64.wrap (((c.toNat % 128 : Nat) : Int) * ((128 ^ i : Nat) : Int)) = ((c.toNat % 128 * 128 ^ i : Nat) : Int) := by
            rw [← Int.natCast_mul]; exact wrap_nat (by omega)
          have w3 : IntKind.i64.wrap ((n : Int) + ((c.toNat % 128 * 128 ^ i : Nat) : Int)) = ((n + c.toNat % 128 * 128 ^ i : Nat) : Int) := by
            rw [← Int.natCast_add]; exact wrap_nat (by omega)
          have wp : IntKind.i64.wrap (((p + i : Nat) : Int) + 1) = ((p + i + 1 : Nat) : Int) := wrap_succ (by omega)
          have ws : IntKind.i64.wrap (((128 ^ i : Nat) : Int) * 128) = ((128 ^ (i + 1) : Nat) : Int) := by
            rw [Nat.pow_succ, Int.natCast_mul]
            exact wrap64 (by omega) (by omega)
          simp only [e1, e2, cond_true, Option.bind_some, gIdx_nat hlt, Int.toNat_natCast, byte_get hlt, hc, wrap_nat (show c.toNat ≤ 4611686018427387904 by omega), t2, w2, w3, wp, ws, varGo]
          by_cases hc1 : c.toNat < 128
          · have e4 : decide (((c.toNat : Nat) : Int) < (128 : Int)) = true := by simp; omega
            simp only [e4, cond_true, if_pos hc1]
            by_cases hv : n + c.toNat % 128 * 128 ^ i ≤ 1000000000
            · have e5 : decide (((n + c.toNat % 128 * 128 ^ i : Nat) : Int) > (1000000000 : Int)) = false := le_dec hv
              have e6 : (decide (0 ≤ (p : Int)) && decide ((p : Int) ≤ ((p + i + 1 : Nat) : Int)) && decide (((p + i + 1 : Nat) : Int) ≤ (t.size : Int))) = true := by simp; omega
              simp only [e5, cond_false, l01Var_ok _ (show n + c.toNat % 128 * 128 ^ i ≤ 100000000000 by omega), Option.bind_some, e6, cond_true]
              have hx : t.extract p (p + i + 1) = ⟨((t.data.toList.drop p).take (i + 1)).toArray⟩ := by
                rw [extract_take t p (p + i + 1) (by omega)]
                have : p + i + 1 - p = i + 1 := by omega
                rw [this]
              rw [hx]
              have hv' : n + c.toNat % 128 * 128 ^ i = varV ((t.data.toList.drop p).take i ++ [c]) := hvs.symm
              by_cases hl : (varB (n + c.toNat % 128 * 128 ^ i)).length = i + 1
              · rw [if_pos ⟨hv, hl⟩]
                have key : varB (n + c.toNat % 128 * 128 ^ i) = ((t.data.toList.drop p).take (i + 1)).map fun x => (x.toNat : Int) := by
                  rw [hv', htk]
                  exact varB_of _ c hall hc1 (by rw [← hv', hl, htl])
                rw [key, strI_map, strEq_refl]
                simp only [Bool.not_true, cond_false, Option.bind_some, varFin]
                simp [Int.add_assoc]
              · rw [if_neg (fun hh => hl hh.2)]
                have hne : strEq (strI (varB (n + c.toNat % 128 * 128 ^ i))) ⟨((t.data.toList.drop p).take (i + 1)).toArray⟩ = false := by
                  rw [← Bool.not_eq_true, strEq_iff]
                  intro hh
                  have := congrArg ByteArray.size hh
                  rw [strI_size] at this
                  apply hl
                  rw [this]
                  show ((t.data.toList.drop p).take (i + 1)).toArray.size = _
                  simp; omega
                rw [hne]; rfl
            · have e5 : decide (((n + c.toNat % 128 * 128 ^ i : Nat) : Int) > (1000000000 : Int)) = true := gt_dec hv
              rw [if_neg (fun hh => hv hh.1), e5]; rfl
          · have e4 : decide (((c.toNat : Nat) : Int) < (128 : Int)) = false := by simp; omega
            simp only [e4, cond_false, if_neg hc1]
            have := ih (i + 1) (by omega) (by omega) (by
              rw [htk]
              intro x hx
              rcases List.mem_append.mp hx with hx | hx
              · exact hall x hx
              · simp at hx; rw [hx]; exact hc1) (by
              rw [htk, hvs]
              have : 128 ^ (i + 1) = 128 ^ i * 128 := Nat.pow_succ 128 i
              have h2 : c.toNat % 128 * 128 ^ i ≤ 127 * 128 ^ i := Nat.mul_le_mul (by omega) (Nat.le_refl _)
              omega)
            rw [htk, hvs] at this
            exact this
        · have e2 : decide (((p + i : Nat) : Int) < (t.size : Int)) = false := by simp; omega
          have hd : t.data.toList.drop (p + i) = [] := List.drop_eq_nil_of_le (by simp; omega)
          rw [hd]
          simp only [e2, Option.bind_some, cond_false, varGo]
          rfl
    exact L 5 0 rfl (by omega) (by simp) (by simp [varV])
  · rw [decide_eq_false h, if_neg h]; rfl

end Go.Proofs.Ythhpkgegmfjdmaa.Ab
namespace Go.Proofs.Ythhpkgegmfjdmaa.Ab
open Go
set_option linter.unusedVariables false
set_option linter.unusedSimpArgs false
set_option linter.unnecessarySimpa false
set_option linter.unusedSimpArgs false
set_option linter.unusedVariables false

/-! ### Short texts, areas, logs -/
def readShort (t : ByteArray) (at_ : Int) : ByteArray × Int × Bool :=
  if (readVar t at_).2.2 = true ∧ (readVar t at_).1 ≤ 20000 ∧ (readVar t at_).1 ≤ (t.size : Int) - (readVar t at_).2.1 then
    (t.extract (readVar t at_).2.1.toNat ((readVar t at_).2.1 + (readVar t at_).1).toNat, (readVar t at_).2.1 + (readVar t at_).1, true)
  else (emp, 0, false)

theorem readShort_ok {t : ByteArray} {at_ : Int} (h : (readShort t at_).2.2 = true) : 0 ≤ (readShort t at_).2.1 ∧ (readShort t at_).2.1 ≤ t.size := by
  unfold readShort at h ⊢
  split at h
  · rename_i hc
    rw [if_pos hc]
    have := readVar_ok hc.1
    simp only
    omega
  · cases h

theorem short_body (t : ByteArray) (at_ : Int) (ht : t.size ≤ big40) :
    (((bif (!(readVar t at_).2.2) then (some true) else (bif (decide ((readVar t at_).1 > (20000 : Int))) then (some true) else (some (decide ((readVar t at_).1 > (IntKind.i64.wrap ((t.size : Int) - (readVar t at_).2.1))))))) : Option Bool).bind fun j2 =>
      (bif j2 then (some ((⟨#[]⟩ : ByteArray), ((0 : Int), false))) else (bif (decide (0 ≤ (readVar t at_).2.1) && decide ((readVar t at_).2.1 ≤ (IntKind.i64.wrap ((readVar t at_).2.1 + (readVar t at_).1))) && decide ((IntKind.i64.wrap ((readVar t at_).2.1 + (readVar t at_).1)) ≤ (t.size : Int))) then
        (some ((t.extract ((readVar t at_).2.1).toNat ((IntKind.i64.wrap ((readVar t at_).2.1 + (readVar t at_).1))).toNat), ((IntKind.i64.wrap ((readVar t at_).2.1 + (readVar t at_).1)), true))) else none))) = some (readShort t at_) := by
  unfold big40 at ht
  unfold readShort
  cases ho : (readVar t at_).2.2 with
  | false => rfl
  | true =>
    have hk := readVar_ok ho
    rw [wrap64 (n := (t.size : Int) - (readVar t at_).2.1) (by omega) (by omega), wrap64 (n := (readVar t at_).2.1 + (readVar t at_).1) (by omega) (by omega)]
    by_cases h1 : (readVar t at_).1 > 20000
    · rw [if_neg (by omega), decide_eq_true h1]; rfl
    · rw [decide_eq_false h1]
      by_cases h2 : (readVar t at_).1 > (t.size : Int) - (readVar t at_).2.1
      · rw [if_neg (by omega), decide_eq_true h2]; rfl
      · rw [if_pos ⟨rfl, by omega, by omega⟩, decide_eq_false h2]
        simp only [Bool.not_true, cond_false, Option.bind_some]
        rw [decide_eq_true (show 0 ≤ (readVar t at_).2.1 by omega), decide_eq_true (show (readVar t at_).2.1 ≤ (readVar t at_).2.1 + (readVar t at_).1 by omega), decide_eq_true (show (readVar t at_).2.1 + (readVar t at_).1 ≤ (t.size : Int) by omega)]
        rfl

theorem ReadShort_spec (t : ByteArray) (at_ : Int) (ht : t.size ≤ big40) : q_spec_ReadShort (t, at_) = some (readShort t at_) := by
  rw [e_spec_ReadShort]; unfold X_spec_ReadShort
  simp only [ReadVar_spec t at_ ht, Option.bind_some]
  exact short_body t at_ ht
theorem ReadShort_impl (t : ByteArray) (at_ : Int) (ht : t.size ≤ big40) : q_impl_ReadShort (t, at_) = some (readShort t at_) := by
  rw [e_impl_ReadShort]; unfold X_impl_ReadShort
  simp only [ReadVar_impl t at_ ht, Option.bind_some]
  exact short_body t at_ ht

/-- A text's first byte; 0 without one. -/
def byte0 (t : ByteArray) : Int := ((t.data.toList.getD 0 0).toNat : Int)
theorem byte0_le (t : ByteArray) : 0 ≤ byte0 t ∧ byte0 t < 256 := by
  unfold byte0
  have : (t.data.toList.getD 0 0).toNat < 256 := UInt8.toNat_lt _
  omega
theorem byte0_emp : byte0 emp = 0 := rfl

def fstByte (d : DiskT) (s : Int) : Int := byte0 (readSec d s).1
theorem readSec_no {d : DiskT} {s : Int} (h : (readSec d s).2 = false) : (readSec d s).1 = emp := by
  unfold readSec at h ⊢
  split at h
  · cases h
  · rename_i hc; rw [if_neg hc]

theorem first_body (r : ByteArray × Bool) (h : r.2 = false → r.1 = emp) :
    (((bif (!r.2) then (some true) else (some (strEq r.1 (⟨#[]⟩ : ByteArray)))) : Option Bool).bind fun j2 => (bif j2 then (some (0 : Int)) else (bif (gIdx (0 : Int) r.1.size) then (some (IntKind.i64.wrap ((r.1.data.toList.getD ((0 : Int)).toNat 0).toNat : Int))) else none))) = some (byte0 r.1) := by
  obtain ⟨t, o⟩ := r
  cases o with
  | false =>
    have : t = emp := h rfl
    subst this; rfl
  | true =>
    simp only [Bool.not_true, cond_false, Option.bind_some]
    by_cases he : t = emp
    · subst he
      have : strEq emp (⟨#[]⟩ : ByteArray) = true := strEq_refl emp
      simp only [this, cond_true]; rfl
    · have h1 : strEq t (⟨#[]⟩ : ByteArray) = false := by
        rw [← Bool.not_eq_true, strEq_iff]; exact he
      have h2 : t.size ≠ 0 := by
        intro hz
        apply he
        apply ByteArray.ext
        apply Array.eq_empty_of_size_eq_zero
        exact hz
      have h3 : gIdx (0 : Int) t.size = true := by simp [gIdx]; omega
      have hb : (t.data.toList.getD 0 0).toNat < 256 := UInt8.toNat_lt _
      simp only [h1, cond_false, h3, cond_true, Int.toNat_zero]
      rw [wrap_nat (by omega)]; rfl

theorem firstByte_impl (d : DiskT) (s : Int) (hd : YDisk.wt d ≤ big40) : q_impl_firstByte (d, s) = some (fstByte d s) := by
  rw [e_impl_firstByte]; unfold X_impl_firstByte
  simp only [ReadSector_impl d s hd, Option.bind_some]
  exact first_body _ (fun h => readSec_no h)
theorem l04Byte_spec (d : DiskT) (s : Int) (hd : YDisk.wt d ≤ big40) : q_spec_l04Byte (d, s) = some (fstByte d s) := by
  rw [e_spec_l04Byte]; unfold X_spec_l04Byte
  simp only [ReadSector_spec d s hd, Option.bind_some]
  exact first_body _ (fun h => readSec_no h)

def activeOf (d : DiskT) : Int := Int.tmod (fstByte d 0) 2
theorem activeOf_01 (d : DiskT) : activeOf d = 0 ∨ activeOf d = 1 := by
  have := byte0_le (readSec d 0).1
  unfold activeOf fstByte
  have e := Int.tmod_eq_emod_of_nonneg (b := 2) this.1
  rw [e]; omega

theorem ActiveOf_impl (d : DiskT) (hd : YDisk.wt d ≤ big40) : q_impl_ActiveOf d = some (activeOf d) := by
  rw [e_impl_ActiveOf]; unfold X_impl_ActiveOf
  simp only [firstByte_impl d 0 hd, Option.bind_some]; rfl
theorem ActiveOf_spec (d : DiskT) (hd : YDisk.wt d ≤ big40) : q_spec_ActiveOf d = some (activeOf d) := by
  rw [e_spec_ActiveOf]; unfold X_spec_ActiveOf
  simp only [l04Byte_spec d 0 hd, Option.bind_some]; rfl

def isAr (a : Int) : Bool := decide (a = 0) || decide (a = 1)
def areaFirst (a : Int) : Int := if isAr a then 1 + a * 48 else 0
theorem isAr_iff {a : Int} : isAr a = true ↔ a = 0 ∨ a = 1 := by simp [isAr]
theorem isAr_no {a : Int} : isAr a = false ↔ ¬ (a = 0 ∨ a = 1) := by simp [isAr]
theorem areaFirst_le (a : Int) : 0 ≤ areaFirst a ∧ areaFirst a ≤ 49 := by
  unfold areaFirst
  split
  · rename_i h; have := isAr_iff.mp h; omega
  · omega

theorem isArea_impl (a : Int) : q_impl_isArea a = some (isAr a) := by
  rw [e_impl_isArea]; unfold X_impl_isArea isAr
  cases decide (a = 0) <;> rfl
theorem l01In_area (a : Int) : q_spec_l01In (a, 0, 1) = some (isAr a) := by
  rw [l01In_ok, isIn_eq]
  congr 1
  rw [Bool.eq_iff_iff, isAr_iff, decide_eq_true_iff]; omega

theorem AreaFirst_impl (a : Int) : q_impl_AreaFirst a = some (areaFirst a) := by
  rw [e_impl_AreaFirst]; unfold X_impl_AreaFirst areaFirst
  simp only [isArea_impl, Option.bind_some]
  cases h : isAr a with
  | false => rfl
  | true =>
    have := isAr_iff.mp h
    simp only [Bool.not_true, cond_false, if_true]
    rw [wrap64 (n := a * 48) (by omega) (by omega), wrap64 (by omega) (by omega)]
theorem AreaFirst_spec (a : Int) : q_spec_AreaFirst a = some (areaFirst a) := by
  rw [e_spec_AreaFirst]; unfold X_spec_AreaFirst areaFirst
  simp only [l01In_area, Option.bind_some]
  cases h : isAr a with
  | false => rfl
  | true =>
    have := isAr_iff.mp h
    simp only [Bool.not_true, cond_false, if_true]
    rw [wrap64 (n := a * 48) (by omega) (by omega), wrap64 (by omega) (by omega)]

def countIn (d : DiskT) (a : Int) : Int := if isAr a then fstByte d (areaFirst a) else 0
theorem countIn_le (d : DiskT) (a : Int) : 0 ≤ countIn d a ∧ countIn d a < 256 := by
  unfold countIn
  split
  · exact byte0_le _
  · omega
theorem CountIn_impl (d : DiskT) (a : Int) (hd : YDisk.wt d ≤ big40) : q_impl_CountIn (d, a) = some (countIn d a) := by
  rw [e_impl_CountIn]; unfold X_impl_CountIn countIn
  simp only [isArea_impl, AreaFirst_impl, firstByte_impl d _ hd, Option.bind_some]
  cases isAr a <;> rfl
theorem CountIn_spec (d : DiskT) (a : Int) (hd : YDisk.wt d ≤ big40) : q_spec_CountIn (d, a) = some (countIn d a) := by
  rw [e_spec_CountIn]; unfold X_spec_CountIn countIn
  simp only [l01In_area, AreaFirst_spec, l04Byte_spec d _ hd, Option.bind_some]
  cases isAr a <;> rfl

def areaGo (t : ByteArray) : Nat → Int → List ByteArray → List ByteArray × Int × Bool
  | 0, at_, acc => (acc, at_, true)
  | m + 1, at_, acc => if (readShort t at_).2.2 && !strEq (readShort t at_).1 emp then areaGo t m (readShort t at_).2.1 (acc ++ [(readShort t at_).1]) else ([], 0, false)
def readArea (d : DiskT) (a : Int) : List ByteArray × Int × Bool :=
  if isAr a && (secText d (areaFirst a + 1) 47).2 then areaGo (secText d (areaFirst a + 1) 47).1 (countIn d a).toNat 0 [] else ([], 0, false)

theorem secGo_size (d : DiskT) (from_ : Int) : ∀ (m i : Nat) (acc : ByteArray), (secGo d from_ m i acc).1.size ≤ acc.size + m * YDisk.wt d
  | 0, i, acc => by simp [secGo]
  | m + 1, i, acc => by
    unfold secGo
    split
    · have h1 := secGo_size d from_ m (i + 1) (acc ++ (readSec d (from_ + (i : Int))).1)
      have h2 := readSec_size d (from_ + (i : Int))
      rw [ByteArray.size_append] at h1
      have : (m + 1) * YDisk.wt d = m * YDisk.wt d + YDisk.wt d := Nat.succ_mul _ _
      omega
    · show 0 ≤ _; omega
theorem secText_size (d : DiskT) (from_ n : Int) : (secText d from_ n).1.size ≤ 100 * YDisk.wt d := by
  unfold secText
  split
  · have h := secGo_size d from_ n.toNat 0 emp
    have h2 : emp.size = 0 := rfl
    have h3 : n.toNat * YDisk.wt d ≤ 100 * YDisk.wt d := Nat.mul_le_mul (by omega) (Nat.le_refl _)
    omega
  · show 0 ≤ _; omega

theorem ReadArea_impl (d : DiskT) (a : Int) (hd : YDisk.wt d ≤ 1073741824) : q_impl_ReadArea (d, a) = some (readArea d a) := by
  have hb : YDisk.wt d ≤ big40 := by unfold big40; omega
  have hf := areaFirst_le a
  have hz : (secText d (areaFirst a + 1) 47).1.size ≤ big40 := by have := secText_size d (areaFirst a + 1) 47; unfold big40; omega
  have hc := countIn_le d a
  rw [e_impl_ReadArea]; unfold X_impl_ReadArea readArea
  simp only [AreaFirst_impl, Option.bind_some]
  rw [wrap64 (n := areaFirst a + 1) (by omega) (by omega)]
  simp only [SectorText_impl d (areaFirst a + 1) 47 hd (by omega) (by omega), isArea_impl, Option.bind_some]
  generalize secText d (areaFirst a + 1) 47 = s at hz
  cases hs : s.2 with
  | false => cases isAr a <;> rfl
  | true =>
    cases ha : isAr a with
    | false => rfl
    | true =>
      have L := W_nat (fun x => (W_impl_ReadArea_7 x).bind fun r => match r with
          | .inl o => some (o.1, o.2, true)
          | .inr z => some z) (countIn d a).toNat (fun (p : List ByteArray × Int) i => (a, d, s.1, p.1, p.2, i)) (fun i p => areaGo s.1 ((countIn d a).toNat - i) p.2 p.1) (fun i p => p.1.length ≤ i)
        (fun p _ => by
          rw [w_impl_ReadArea_7]; simp only [S_impl_ReadArea_7, CountIn_impl d a hb, Option.bind_some]
          rw [decide_eq_false (by omega)]
          simp only [cond_false, Option.bind_some, Nat.sub_self, areaGo])
        (fun i p hi hp => by
          have e : (countIn d a).toNat - i = ((countIn d a).toNat - (i + 1)) + 1 := by omega
          rw [w_impl_ReadArea_7]; simp only [S_impl_ReadArea_7, CountIn_impl d a hb, Option.bind_some]
          rw [decide_eq_true (by omega), e]
          simp only [cond_true, ReadShort_impl s.1 p.2 hz, Option.bind_some, areaGo, emp_eq]
          cases hr : (readShort s.1 p.2).2.2 with
          | false => left; rfl
          | true =>
            cases hq : strEq (readShort s.1 p.2).1 emp with
            | true => left; rfl
            | false =>
              right
              refine ⟨(p.1 ++ [(readShort s.1 p.2).1], (readShort s.1 p.2).2.1), by simp; omega, by simp, ?_⟩
              simp only [Bool.not_true, cond_false, Option.bind_some, List.length_singleton, ble_cap (show p.1.length + 1 ≤ 1099511627776 by omega), cond_true]
              rw [wrap_succ (by omega)]) 0 ([], 0) (by omega) (by simp)
      simp only [Bool.not_true, cond_false, Option.bind_some, Bool.and_self, if_true]
      exact L

theorem ReadArea_spec (d : DiskT) (a : Int) (hd : YDisk.wt d ≤ 1073741824) : q_spec_ReadArea (d, a) = some (readArea d a) := by
  have hb : YDisk.wt d ≤ big40 := by unfold big40; omega
  have hf := areaFirst_le a
  have hz : (secText d (areaFirst a + 1) 47).1.size ≤ big40 := by have := secText_size d (areaFirst a + 1) 47; unfold big40; omega
  have hc := countIn_le d a
  rw [e_spec_ReadArea]; unfold X_spec_ReadArea readArea
  simp only [l01In_area, AreaFirst_spec, Option.bind_some]
  rw [wrap64 (n := areaFirst a + 1) (by omega) (by omega)]
  simp only [SectorText_spec d (areaFirst a + 1) 47 hd (by omega) (by omega), Option.bind_some]
  generalize secText d (areaFirst a + 1) 47 = s at hz
  cases hs : s.2 with
  | false => cases isAr a <;> rfl
  | true =>
    cases ha : isAr a with
    | false => rfl
    | true =>
      have L := W_nat (fun x => (W_spec_ReadArea_10 x).bind fun r => match r with
          | .inl o => some (o.1, o.2, true)
          | .inr z => some z) (countIn d a).toNat (fun (p : List ByteArray × Int) i => (a, d, [], s.1, p.1, p.2, i)) (fun i p => areaGo s.1 ((countIn d a).toNat - i) p.2 p.1) (fun i p => p.1.length ≤ i)
        (fun p _ => by
          rw [w_spec_ReadArea_10]; simp only [S_spec_ReadArea_10, CountIn_spec d a hb, Option.bind_some]
          rw [decide_eq_false (by omega)]
          simp only [cond_false, Option.bind_some, Nat.sub_self, areaGo])
        (fun i p hi hp => by
          have e : (countIn d a).toNat - i = ((countIn d a).toNat - (i + 1)) + 1 := by omega
          rw [w_spec_ReadArea_10]; simp only [S_spec_ReadArea_10, CountIn_spec d a hb, Option.bind_some]
          rw [decide_eq_true (by omega), e]
          simp only [cond_true, ReadShort_spec s.1 p.2 hz, Option.bind_some, areaGo, emp_eq]
          cases hr : (readShort s.1 p.2).2.2 with
          | false => left; rfl
          | true =>
            cases hq : strEq (readShort s.1 p.2).1 emp with
            | true => left; rfl
            | false =>
              right
              refine ⟨(p.1 ++ [(readShort s.1 p.2).1], (readShort s.1 p.2).2.1), by simp; omega, by simp, ?_⟩
              simp only [Bool.not_true, cond_false, Option.bind_some, List.length_singleton, ble_cap (show p.1.length + 1 ≤ 1099511627776 by omega), cond_true]
              rw [wrap_succ (by omega)]) 0 ([], 0) (by omega) (by simp)
      simp only [Bool.not_true, cond_false, Option.bind_some, Bool.and_self, if_true]
      exact L

def logTexts (d : DiskT) : List ByteArray := (readArea d (activeOf d)).1
theorem LogTexts_impl (d : DiskT) (hd : YDisk.wt d ≤ 1073741824) : q_impl_LogTexts d = some (logTexts d) := by
  rw [e_impl_LogTexts]; unfold X_impl_LogTexts
  simp only [ActiveOf_impl d (show YDisk.wt d ≤ big40 by unfold big40; omega), ReadArea_impl d _ hd, Option.bind_some]; rfl

theorem areaGo_len (t : ByteArray) : ∀ (m : Nat) (at_ : Int) (acc : List ByteArray), (areaGo t m at_ acc).1.length ≤ acc.length + m
  | 0, at_, acc => by simp [areaGo]
  | m + 1, at_, acc => by
    unfold areaGo
    split
    · have := areaGo_len t m (readShort t at_).2.1 (acc ++ [(readShort t at_).1])
      simp at this; omega
    · simp
theorem readArea_len (d : DiskT) (a : Int) : (readArea d a).1.length < 256 := by
  unfold readArea
  split
  · have h := areaGo_len (secText d (areaFirst a + 1) 47).1 (countIn d a).toNat 0 []
    have := countIn_le d a
    simp at h; omega
  · simp

/-! ### Texts, compared -/
def sameL (a b : List ByteArray) : Bool := decide (a = b)

theorem sameL_loop {a b : List ByteArray} (h : a.length = b.length) : (bif (a.zip b).any (fun p => !strEq p.1 p.2) then false else true) = decide (a = b) := by
  induction a generalizing b with
  | nil =>
    cases b with
    | nil => rfl
    | cons y b => simp at h
  | cons x a ih =>
    cases b with
    | nil => simp at h
    | cons y b =>
      have h' : a.length = b.length := by simpa using h
      have := ih h'
      simp only [List.zip_cons_cons, List.any_cons, List.cons.injEq]
      by_cases e : x = y
      · subst e
        simp only [strEq_refl, Bool.not_true, Bool.false_or, true_and]
        exact this
      · have : strEq x y = false := by rw [← Bool.not_eq_true, strEq_iff]; exact e
        simp [this, e]

theorem Equal_str (a b : List ByteArray) (ha : a.length ≤ big40) : q_slices_Equal_string_string (a, b) = some (sameL a b) := by
  unfold big40 at ha
  rw [e_slices_Equal_string_string]; unfold X_slices_Equal_string_string sameL
  simp only
  by_cases h : a.length = b.length
  · have hz : (a.zip b).length = a.length := by simp [h]
    have L := W_any W_slices_Equal_string_string_4 (a.zip b) (fun i => (a, b, (a.length : Int), i)) (fun p => !strEq p.1 p.2) (.inr false) (.inl ())
      (by rw [w_slices_Equal_string_string_4, hz]; simp only [S_slices_Equal_string_string_4, lt_cast, Nat.lt_irrefl, decide_false, cond_false])
      (fun i hi => by
        have hi1 : i < a.length := by omega
        have hi2 : i < b.length := by omega
        rw [w_slices_Equal_string_string_4]; simp only [S_slices_Equal_string_string_4, lt_cast, hi1, decide_true, cond_true, gIdx_nat hi1, gIdx_nat hi2, Int.toNat_natCast, rdL_get (t := Ty.str) hi1, rdL_get (t := Ty.str) hi2, List.getElem_zip]
        rw [wrap_succ (by omega)])
    have e1 : decide ((a.length : Int) = (b.length : Int)) = true := by simp [h]
    simp only [e1, Bool.not_true, cond_false, L, Option.bind_some]
    rw [← sameL_loop h]
    cases (a.zip b).any fun p => !strEq p.1 p.2 <;> rfl
  · have e1 : decide ((a.length : Int) = (b.length : Int)) = false := by simp; omega
    have e2 : decide (a = b) = false := by
      rw [decide_eq_false_iff_not]; intro e; exact h (by rw [e])
    rw [e1, e2]; rfl

def sameTx (a b : DiskT) : Bool := sameL (logTexts a) (logTexts b)

theorem SameTexts_impl (a b : DiskT) (ha : YDisk.wt a ≤ 1073741824) (hb : YDisk.wt b ≤ 1073741824) : q_impl_SameTexts (a, b) = some (sameTx a b) := by
  rw [e_impl_SameTexts]; unfold X_impl_SameTexts
  have h1 : (logTexts a).length ≤ big40 := by have := readArea_len a (activeOf a); unfold logTexts big40; omega
  simp only [LogTexts_impl a ha, LogTexts_impl b hb, Equal_str _ _ h1, Option.bind_some]; rfl


end Go.Proofs.Ythhpkgegmfjdmaa.Ab
namespace Go.Proofs.Ythhpkgegmfjdmaa.Ab
open Go
set_option linter.unusedVariables false
set_option linter.unusedSimpArgs false
set_option linter.unnecessarySimpa false
set_option linter.unusedSimpArgs false
set_option linter.unusedVariables false

/-! ### Right disks, right logs -/
def diskOk (d : DiskT) : Bool := decide (1 ≤ d.1.length ∧ d.1.length ≤ 100) && decide (d.2.length ≤ 60) && d.1.all (fun s => decide (s.size = 64)) && d.2.all (fun p => isIn p.1 0 ((d.1.length : Int) - 1) && decide (p.2.size = 64))

theorem any_not {α : Type} (l : List α) (p : α → Bool) : l.any (fun x => !p x) = !l.all p := by
  induction l with
  | nil => rfl
  | cons x l ih => simp only [List.any_cons, List.all_cons, ih, Bool.not_and]

theorem DiskOk_spec (d : DiskT) (hd : YDisk.wt d ≤ big40) : q_spec_DiskOk d = some (diskOk d) := by
  have h1 : d.1.length ≤ big40 := Nat.le_trans disk_secs hd
  have h2 : d.2.length ≤ big40 := Nat.le_trans disk_puts hd
  unfold big40 at h1 h2
  have L1 := W_any W_spec_DiskOk_4 d.1 (fun i => (d, i)) (fun s => !decide (s.size = 64)) (.inr false) (.inl d)
    (by rw [w_spec_DiskOk_4]; simp only [S_spec_DiskOk_4, lt_cast, Nat.lt_irrefl, decide_false, cond_false])
    (fun i hi => by
      rw [w_spec_DiskOk_4]; simp only [S_spec_DiskOk_4, lt_cast, hi, decide_true, cond_true, gIdx_nat hi, Int.toNat_natCast, rdL_get (t := Ty.str) hi]
      rw [wrap_succ (by omega)]
      have : decide (((d.1[i]).size : Int) = (64 : Int)) = decide ((d.1[i]).size = 64) := by simp only [decide_eq_decide]; omega
      rw [this])
  have L2 := W_any W_spec_DiskOk_9 d.2 (fun i => (d, i)) (fun p => !(isIn p.1 0 ((d.1.length : Int) - 1) && decide (p.2.size = 64))) (.inr false) (.inl ())
    (by rw [w_spec_DiskOk_9]; simp only [S_spec_DiskOk_9, lt_cast, Nat.lt_irrefl, decide_false, cond_false])
    (fun i hi => by
      rw [w_spec_DiskOk_9]; simp only [S_spec_DiskOk_9, lt_cast, hi, decide_true, cond_true, gIdx_nat hi, Int.toNat_natCast, rdL_get (t := YPut) hi, l01In_ok, Option.bind_some]
      rw [wrap_succ (by omega), wrap64 (n := (d.1.length : Int) - 1) (by omega) (by omega)]
      have : decide (((d.2[i]).2.size : Int) = (64 : Int)) = decide ((d.2[i]).2.size = 64) := by simp only [decide_eq_decide]; omega
      rw [this]
      cases isIn (d.2[i]).1 0 ((d.1.length : Int) - 1) <;> rfl)
  rw [e_spec_DiskOk]; unfold X_spec_DiskOk diskOk
  simp only [l01In_ok, isIn_eq (a := (d.1.length : Int)), L1, Option.bind_some]
  have e1 : decide ((1 : Int) ≤ (d.1.length : Int) ∧ (d.1.length : Int) ≤ 100) = decide (1 ≤ d.1.length ∧ d.1.length ≤ 100) := by simp only [decide_eq_decide]; omega
  have e2 : decide ((d.2.length : Int) > 60) = !decide (d.2.length ≤ 60) := by
    rw [← decide_not, decide_eq_decide]; omega
  rw [e1, e2, any_not]
  cases decide (1 ≤ d.1.length ∧ d.1.length ≤ 100) with
  | false => rfl
  | true =>
    cases decide (d.2.length ≤ 60) with
    | false => rfl
    | true =>
      cases d.1.all (fun s => decide (s.size = 64)) with
      | false => rfl
      | true =>
        simp only [Bool.not_true, cond_false, Option.bind_some, L2, any_not]
        cases d.2.all _ <;> rfl

theorem DiskOk_impl (d : DiskT) (hd : YDisk.wt d ≤ big40) : q_impl_DiskOk d = some (diskOk d) := by
  have h1 : d.1.length ≤ big40 := Nat.le_trans disk_secs hd
  have h2 : d.2.length ≤ big40 := Nat.le_trans disk_puts hd
  unfold big40 at h1 h2
  have L1 := W_any W_impl_DiskOk_2 d.1 (fun i => (d, d.1, (d.1.length : Int), i)) (fun s => !decide (s.size = 64)) (.inr false) (.inl d)
    (by rw [w_impl_DiskOk_2]; simp only [S_impl_DiskOk_2, lt_cast, Nat.lt_irrefl, decide_false, cond_false])
    (fun i hi => by
      rw [w_impl_DiskOk_2]; simp only [S_impl_DiskOk_2, lt_cast, hi, decide_true, cond_true, gIdx_nat hi, Int.toNat_natCast, rdL_get (t := Ty.str) hi]
      rw [wrap_succ (by omega)]
      have : decide (((d.1[i]).size : Int) = (64 : Int)) = decide ((d.1[i]).size = 64) := by simp only [decide_eq_decide]; omega
      rw [this])
  have L2 := W_any W_impl_DiskOk_8 d.2 (fun i => (d, d.2, (d.2.length : Int), i)) (fun p => !(isIn p.1 0 ((d.1.length : Int) - 1) && decide (p.2.size = 64))) (.inr false) (.inl d)
    (by rw [w_impl_DiskOk_8]; simp only [S_impl_DiskOk_8, lt_cast, Nat.lt_irrefl, decide_false, cond_false])
    (fun i hi => by
      rw [w_impl_DiskOk_8]; simp only [S_impl_DiskOk_8, lt_cast, hi, decide_true, cond_true, gIdx_nat hi, Int.toNat_natCast, rdL_get (t := YPut) hi, within_ok, Option.bind_some]
      rw [wrap_succ (by omega), wrap64 (n := (d.1.length : Int) - 1) (by omega) (by omega)]
      have : decide (((d.2[i]).2.size : Int) = (64 : Int)) = decide ((d.2[i]).2.size = 64) := by simp only [decide_eq_decide]; omega
      rw [this]
      cases isIn (d.2[i]).1 0 ((d.1.length : Int) - 1) <;> rfl)
  rw [e_impl_DiskOk]; unfold X_impl_DiskOk diskOk
  simp only [L1, Option.bind_some]
  have e1 : decide ((1 : Int) ≤ (d.1.length : Int) ∧ (d.1.length : Int) ≤ 100) = decide (1 ≤ d.1.length ∧ d.1.length ≤ 100) := by simp only [decide_eq_decide]; omega
  have e2 : decide ((d.2.length : Int) ≤ 60) = decide (d.2.length ≤ 60) := by rw [decide_eq_decide]; omega
  rw [any_not]
  cases d.1.all (fun s => decide (s.size = 64)) with
  | false => simp
  | true =>
    simp only [Bool.not_true, cond_false, Option.bind_some, L2, any_not]
    cases d.2.all (fun p => isIn p.1 0 ((d.1.length : Int) - 1) && decide (p.2.size = 64)) with
    | false => simp
    | true =>
      simp only [Bool.not_true, cond_false, Option.bind_some, within_ok, isIn_eq (a := (d.1.length : Int)), e1, e2]
      cases decide (1 ≤ d.1.length ∧ d.1.length ≤ 100) <;> cases decide (d.2.length ≤ 60) <;> rfl

def logOk (d : DiskT) : Bool := diskOk d && decide (d.1.length = 97) && decide (d.2.length = 0) && (readArea d 0).2.2 && (readArea d 1).2.2

theorem LogOk_spec (d : DiskT) (hd : YDisk.wt d ≤ 1073741824) : q_spec_LogOk d = some (logOk d) := by
  have hb : YDisk.wt d ≤ big40 := by unfold big40; omega
  rw [e_spec_LogOk]; unfold X_spec_LogOk logOk
  have hs : q_spec_l04Sectors () = some 97 := by rw [e_spec_l04Sectors]; rfl
  simp only [DiskOk_spec d hb, hs, ReadArea_spec d _ hd, Option.bind_some]
  have e1 : decide ((d.1.length : Int) = 97) = decide (d.1.length = 97) := by rw [decide_eq_decide]; omega
  have e2 : decide ((d.2.length : Int) > 0) = !decide (d.2.length = 0) := by rw [← decide_not, decide_eq_decide]; omega
  rw [e1, e2]
  cases diskOk d <;> cases decide (d.1.length = 97) <;> cases decide (d.2.length = 0) <;> cases (readArea d 0).2.2 <;> cases (readArea d 1).2.2 <;> rfl

theorem LogOk_impl (d : DiskT) (hd : YDisk.wt d ≤ 1073741824) : q_impl_LogOk d = some (logOk d) := by
  have hb : YDisk.wt d ≤ big40 := by unfold big40; omega
  rw [e_impl_LogOk]; unfold X_impl_LogOk logOk
  simp only [DiskOk_impl d hb, ReadArea_impl d _ hd, Option.bind_some]
  have e1 : decide ((d.1.length : Int) = 97) = decide (d.1.length = 97) := by rw [decide_eq_decide]; omega
  have e2 : decide ((d.2.length : Int) = 0) = decide (d.2.length = 0) := by rw [decide_eq_decide]; omega
  rw [e1, e2]
  cases diskOk d <;> cases decide (d.1.length = 97) <;> cases decide (d.2.length = 0) <;> cases (readArea d 0).2.2 <;> cases (readArea d 1).2.2 <;> rfl

def cutRight (a b c : DiskT) : Bool := logOk c && (sameTx c a || sameTx c b)
theorem CutRight_impl (a b c : DiskT) (ha : YDisk.wt a ≤ 1073741824) (hb : YDisk.wt b ≤ 1073741824) (hc : YDisk.wt c ≤ 1073741824) : q_impl_CutRight (a, b, c) = some (cutRight a b c) := by
  rw [e_impl_CutRight]; unfold X_impl_CutRight cutRight
  simp only [LogOk_impl c hc, SameTexts_impl c a hc ha, SameTexts_impl c b hc hb, Option.bind_some]
  cases logOk c <;> cases sameTx c a <;> cases sameTx c b <;> rfl

end Go.Proofs.Ythhpkgegmfjdmaa.Ab
