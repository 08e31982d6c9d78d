import Derived.Test.YtoafakkbmnnimaaAbP5
namespace Go.Proofs.Ytoafakkbmnnimaa.Ab
open Go
set_option linter.unusedVariables false
set_option linter.unusedSimpArgs false
set_option linter.unnecessarySimpa false
set_option linter.unusedSimpArgs false
set_option linter.unusedVariables false

/-! ### Short texts, areas, logs -/
def readShort (t : ByteArray) (at_ : Int) : ByteArray × Int × Bool :=
  if (readVar t at_).2.2 = true ∧ (readVar t at_).1 ≤ 20000 ∧ (readVar t at_).1 ≤ (t.size : Int) - (readVar t at_).2.1 then
    (t.extract (readVar t at_).2.1.toNat ((readVar t at_).2.1 + (readVar t at_).1).toNat, (readVar t at_).2.1 + (readVar t at_).1, true)
  else (emp, 0, false)

theorem readShort_ok {t : ByteArray} {at_ : Int} (h : (readShort t at_).2.2 = true) : 0 ≤ (readShort t at_).2.1 ∧ (readShort t at_).2.1 ≤ t.size := by
  unfold readShort at h ⊢
  split at h
  · rename_i hc
    rw [if_pos hc]
    have := readVar_ok hc.1
    simp only
    omega
  · cases h

theorem short_body (t : ByteArray) (at_ : Int) (ht : t.size ≤ big40) :
    (((bif (!(readVar t at_).2.2) then (some true) else (bif (decide ((readVar t at_).1 > (20000 : Int))) then (some true) else (some (decide ((readVar t at_).1 > (IntKind.i64.wrap ((t.size : Int) - (readVar t at_).2.1))))))) : Option Bool).bind fun j2 =>
      (bif j2 then (some ((⟨#[]⟩ : ByteArray), ((0 : Int), false))) else (bif (decide (0 ≤ (readVar t at_).2.1) && decide ((readVar t at_).2.1 ≤ (IntKind.i64.wrap ((readVar t at_).2.1 + (readVar t at_).1))) && decide ((IntKind.i64.wrap ((readVar t at_).2.1 + (readVar t at_).1)) ≤ (t.size : Int))) then
        (some ((t.extract ((readVar t at_).2.1).toNat ((IntKind.i64.wrap ((readVar t at_).2.1 + (readVar t at_).1))).toNat), ((IntKind.i64.wrap ((readVar t at_).2.1 + (readVar t at_).1)), true))) else none))) = some (readShort t at_) := by
  unfold big40 at ht
  unfold readShort
  cases ho : (readVar t at_).2.2 with
  | false => rfl
  | true =>
    have hk := readVar_ok ho
    rw [wrap64 (n := (t.size : Int) - (readVar t at_).2.1) (by omega) (by omega), wrap64 (n := (readVar t at_).2.1 + (readVar t at_).1) (by omega) (by omega)]
    by_cases h1 : (readVar t at_).1 > 20000
    · rw [if_neg (by omega), decide_eq_true h1]; rfl
    · rw [decide_eq_false h1]
      by_cases h2 : (readVar t at_).1 > (t.size : Int) - (readVar t at_).2.1
      · rw [if_neg (by omega), decide_eq_true h2]; rfl
      · rw [if_pos ⟨rfl, by omega, by omega⟩, decide_eq_false h2]
        simp only [Bool.not_true, cond_false, Option.bind_some]
        rw [decide_eq_true (show 0 ≤ (readVar t at_).2.1 by omega), decide_eq_true (show (readVar t at_).2.1 ≤ (readVar t at_).2.1 + (readVar t at_).1 by omega), decide_eq_true (show (readVar t at_).2.1 + (readVar t at_).1 ≤ (t.size : Int) by omega)]
        rfl

theorem ReadShort_spec (t : ByteArray) (at_ : Int) (ht : t.size ≤ big40) : q_spec_ReadShort (t, at_) = some (readShort t at_) := by
  rw [e_spec_ReadShort]; unfold X_spec_ReadShort
  simp only [ReadVar_spec t at_ ht, Option.bind_some]
  exact short_body t at_ ht
theorem ReadShort_impl (t : ByteArray) (at_ : Int) (ht : t.size ≤ big40) : q_impl_ReadShort (t, at_) = some (readShort t at_) := by
  rw [e_impl_ReadShort]; unfold X_impl_ReadShort
  simp only [ReadVar_impl t at_ ht, Option.bind_some]
  exact short_body t at_ ht

/-- A text's first byte; 0 without one. -/
def byte0 (t : ByteArray) : Int := ((t.data.toList.getD 0 0).toNat : Int)
theorem byte0_le (t : ByteArray) : 0 ≤ byte0 t ∧ byte0 t < 256 := by
  unfold byte0
  have : (t.data.toList.getD 0 0).toNat < 256 := UInt8.toNat_lt _
  omega
theorem byte0_emp : byte0 emp = 0 := rfl

def fstByte (d : DiskT) (s : Int) : Int := byte0 (readSec d s).1
theorem readSec_no {d : DiskT} {s : Int} (h : (readSec d s).2 = false) : (readSec d s).1 = emp := by
  unfold readSec at h ⊢
  split at h
  · cases h
  · rename_i hc; rw [if_neg hc]

theorem first_body (r : ByteArray × Bool) (h : r.2 = false → r.1 = emp) :
    (((bif (!r.2) then (some true) else (some (strEq r.1 (⟨#[]⟩ : ByteArray)))) : Option Bool).bind fun j2 => (bif j2 then (some (0 : Int)) else (bif (gIdx (0 : Int) r.1.size) then (some (IntKind.i64.wrap ((r.1.data.toList.getD ((0 : Int)).toNat 0).toNat : Int))) else none))) = some (byte0 r.1) := by
  obtain ⟨t, o⟩ := r
  cases o with
  | false =>
    have : t = emp := h rfl
    subst this; rfl
  | true =>
    simp only [Bool.not_true, cond_false, Option.bind_some]
    by_cases he : t = emp
    · subst he
      have : strEq emp (⟨#[]⟩ : ByteArray) = true := strEq_refl emp
      simp only [this, cond_true]; rfl
    · have h1 : strEq t (⟨#[]⟩ : ByteArray) = false := by
        rw [← Bool.not_eq_true, strEq_iff]; exact he
      have h2 : t.size ≠ 0 := by
        intro hz
        apply he
        apply ByteArray.ext
        apply Array.eq_empty_of_size_eq_zero
        exact hz
      have h3 : gIdx (0 : Int) t.size = true := by simp [gIdx]; omega
      have hb : (t.data.toList.getD 0 0).toNat < 256 := UInt8.toNat_lt _
      simp only [h1, cond_false, h3, cond_true, Int.toNat_zero]
      rw [wrap_nat (by omega)]; rfl

theorem firstByte_impl (d : DiskT) (s : Int) (hd : YDisk.wt d ≤ big40) : q_impl_firstByte (d, s) = some (fstByte d s) := by
  rw [e_impl_firstByte]; unfold X_impl_firstByte
  simp only [ReadSector_impl d s hd, Option.bind_some]
  exact first_body _ (fun h => readSec_no h)
theorem l04Byte_spec (d : DiskT) (s : Int) (hd : YDisk.wt d ≤ big40) : q_spec_l04Byte (d, s) = some (fstByte d s) := by
  rw [e_spec_l04Byte]; unfold X_spec_l04Byte
  simp only [ReadSector_spec d s hd, Option.bind_some]
  exact first_body _ (fun h => readSec_no h)

def activeOf (d : DiskT) : Int := Int.tmod (fstByte d 0) 2
theorem activeOf_01 (d : DiskT) : activeOf d = 0 ∨ activeOf d = 1 := by
  have := byte0_le (readSec d 0).1
  unfold activeOf fstByte
  have e := Int.tmod_eq_emod_of_nonneg (b := 2) this.1
  rw [e]; omega

theorem ActiveOf_impl (d : DiskT) (hd : YDisk.wt d ≤ big40) : q_impl_ActiveOf d = some (activeOf d) := by
  rw [e_impl_ActiveOf]; unfold X_impl_ActiveOf
  simp only [firstByte_impl d 0 hd, Option.bind_some]; rfl
theorem ActiveOf_spec (d : DiskT) (hd : YDisk.wt d ≤ big40) : q_spec_ActiveOf d = some (activeOf d) := by
  rw [e_spec_ActiveOf]; unfold X_spec_ActiveOf
  simp only [l04Byte_spec d 0 hd, Option.bind_some]; rfl

def isAr (a : Int) : Bool := decide (a = 0) || decide (a = 1)
def areaFirst (a : Int) : Int := if isAr a then 1 + a * 48 else 0
theorem isAr_iff {a : Int} : isAr a = true ↔ a = 0 ∨ a = 1 := by simp [isAr]
theorem isAr_no {a : Int} : isAr a = false ↔ ¬ (a = 0 ∨ a = 1) := by simp [isAr]
theorem areaFirst_le (a : Int) : 0 ≤ areaFirst a ∧ areaFirst a ≤ 49 := by
  unfold areaFirst
  split
  · rename_i h; have := isAr_iff.mp h; omega
  · omega

theorem isArea_impl (a : Int) : q_impl_isArea a = some (isAr a) := by
  rw [e_impl_isArea]; unfold X_impl_isArea isAr
  cases decide (a = 0) <;> rfl
theorem l01In_area (a : Int) : q_spec_l01In (a, 0, 1) = some (isAr a) := by
  rw [l01In_ok, isIn_eq]
  congr 1
  rw [Bool.eq_iff_iff, isAr_iff, decide_eq_true_iff]; omega

theorem AreaFirst_impl (a : Int) : q_impl_AreaFirst a = some (areaFirst a) := by
  rw [e_impl_AreaFirst]; unfold X_impl_AreaFirst areaFirst
  simp only [isArea_impl, Option.bind_some]
  cases h : isAr a with
  | false => rfl
  | true =>
    have := isAr_iff.mp h
    simp only [Bool.not_true, cond_false, if_true]
    rw [wrap64 (n := a * 48) (by omega) (by omega), wrap64 (by omega) (by omega)]
theorem AreaFirst_spec (a : Int) : q_spec_AreaFirst a = some (areaFirst a) := by
  rw [e_spec_AreaFirst]; unfold X_spec_AreaFirst areaFirst
  simp only [l01In_area, Option.bind_some]
  cases h : isAr a with
  | false => rfl
  | true =>
    have := isAr_iff.mp h
    simp only [Bool.not_true, cond_false, if_true]
    rw [wrap64 (n := a * 48) (by omega) (by omega), wrap64 (by omega) (by omega)]

def countIn (d : DiskT) (a : Int) : Int := if isAr a then fstByte d (areaFirst a) else 0
theorem countIn_le (d : DiskT) (a : Int) : 0 ≤ countIn d a ∧ countIn d a < 256 := by
  unfold countIn
  split
  · exact byte0_le _
  · omega
theorem CountIn_impl (d : DiskT) (a : Int) (hd : YDisk.wt d ≤ big40) : q_impl_CountIn (d, a) = some (countIn d a) := by
  rw [e_impl_CountIn]; unfold X_impl_CountIn countIn
  simp only [isArea_impl, AreaFirst_impl, firstByte_impl d _ hd, Option.bind_some]
  cases isAr a <;> rfl
theorem CountIn_spec (d : DiskT) (a : Int) (hd : YDisk.wt d ≤ big40) : q_spec_CountIn (d, a) = some (countIn d a) := by
  rw [e_spec_CountIn]; unfold X_spec_CountIn countIn
  simp only [l01In_area, AreaFirst_spec, l04Byte_spec d _ hd, Option.bind_some]
  cases isAr a <;> rfl

def areaGo (t : ByteArray) : Nat → Int → List ByteArray → List ByteArray × Int × Bool
  | 0, at_, acc => (acc, at_, true)
  | m + 1, at_, acc => if (readShort t at_).2.2 && !strEq (readShort t at_).1 emp then areaGo t m (readShort t at_).2.1 (acc ++ [(readShort t at_).1]) else ([], 0, false)
def readArea (d : DiskT) (a : Int) : List ByteArray × Int × Bool :=
  if isAr a && (secText d (areaFirst a + 1) 47).2 then areaGo (secText d (areaFirst a + 1) 47).1 (countIn d a).toNat 0 [] else ([], 0, false)

theorem secGo_size (d : DiskT) (from_ : Int) : ∀ (m i : Nat) (acc : ByteArray), (secGo d from_ m i acc).1.size ≤ acc.size + m * YDisk.wt d
  | 0, i, acc => by simp [secGo]
  | m + 1, i, acc => by
    unfold secGo
    split
    · have h1 := secGo_size d from_ m (i + 1) (acc ++ (readSec d (from_ + (i : Int))).1)
      have h2 := readSec_size d (from_ + (i : Int))
      rw [ByteArray.size_append] at h1
      have : (m + 1) * YDisk.wt d = m * YDisk.wt d + YDisk.wt d := Nat.succ_mul _ _
      omega
    · show 0 ≤ _; omega
theorem secText_size (d : DiskT) (from_ n : Int) : (secText d from_ n).1.size ≤ 100 * YDisk.wt d := by
  unfold secText
  split
  · have h := secGo_size d from_ n.toNat 0 emp
    have h2 : emp.size = 0 := rfl
    have h3 : n.toNat * YDisk.wt d ≤ 100 * YDisk.wt d := Nat.mul_le_mul (by omega) (Nat.le_refl _)
    omega
  · show 0 ≤ _; omega

theorem ReadArea_impl (d : DiskT) (a : Int) (hd : YDisk.wt d ≤ 1073741824) : q_impl_ReadArea (d, a) = some (readArea d a) := by
  have hb : YDisk.wt d ≤ big40 := by unfold big40; omega
  have hf := areaFirst_le a
  have hz : (secText d (areaFirst a + 1) 47).1.size ≤ big40 := by have := secText_size d (areaFirst a + 1) 47; unfold big40; omega
  have hc := countIn_le d a
  rw [e_impl_ReadArea]; unfold X_impl_ReadArea readArea
  simp only [AreaFirst_impl, Option.bind_some]
  rw [wrap64 (n := areaFirst a + 1) (by omega) (by omega)]
  simp only [SectorText_impl d (areaFirst a + 1) 47 hd (by omega) (by omega), isArea_impl, Option.bind_some]
  generalize secText d (areaFirst a + 1) 47 = s at hz
  cases hs : s.2 with
  | false => cases isAr a <;> rfl
  | true =>
    cases ha : isAr a with
    | false => rfl
    | true =>
      have L := W_nat (fun x => (W_impl_ReadArea_7 x).bind fun r => match r with
          | .inl o => some (o.1, o.2, true)
          | .inr z => some z) (countIn d a).toNat (fun (p : List ByteArray × Int) i => (a, d, s.1, p.1, p.2, i)) (fun i p => areaGo s.1 ((countIn d a).toNat - i) p.2 p.1) (fun i p => p.1.length ≤ i)
        (fun p _ => by
          rw [w_impl_ReadArea_7]; simp only [S_impl_ReadArea_7, CountIn_impl d a hb, Option.bind_some]
          rw [decide_eq_false (by omega)]
          simp only [cond_false, Option.bind_some, Nat.sub_self, areaGo])
        (fun i p hi hp => by
          have e : (countIn d a).toNat - i = ((countIn d a).toNat - (i + 1)) + 1 := by omega
          rw [w_impl_ReadArea_7]; simp only [S_impl_ReadArea_7, CountIn_impl d a hb, Option.bind_some]
          rw [decide_eq_true (by omega), e]
          simp only [cond_true, ReadShort_impl s.1 p.2 hz, Option.bind_some, areaGo, emp_eq]
          cases hr : (readShort s.1 p.2).2.2 with
          | false => left; rfl
          | true =>
            cases hq : strEq (readShort s.1 p.2).1 emp with
            | true => left; rfl
            | false =>
              right
              refine ⟨(p.1 ++ [(readShort s.1 p.2).1], (readShort s.1 p.2).2.1), by simp; omega, by simp, ?_⟩
              simp only [Bool.not_true, cond_false, Option.bind_some, List.length_singleton, ble_cap (show p.1.length + 1 ≤ 1099511627776 by omega), cond_true]
              rw [wrap_succ (by omega)]) 0 ([], 0) (by omega) (by simp)
      simp only [Bool.not_true, cond_false, Option.bind_some, Bool.and_self, if_true]
      exact L

theorem ReadArea_spec (d : DiskT) (a : Int) (hd : YDisk.wt d ≤ 1073741824) : q_spec_ReadArea (d, a) = some (readArea d a) := by
  have hb : YDisk.wt d ≤ big40 := by unfold big40; omega
  have hf := areaFirst_le a
  have hz : (secText d (areaFirst a + 1) 47).1.size ≤ big40 := by have := secText_size d (areaFirst a + 1) 47; unfold big40; omega
  have hc := countIn_le d a
  rw [e_spec_ReadArea]; unfold X_spec_ReadArea readArea
  simp only [l01In_area, AreaFirst_spec, Option.bind_some]
  rw [wrap64 (n := areaFirst a + 1) (by omega) (by omega)]
  simp only [SectorText_spec d (areaFirst a + 1) 47 hd (by omega) (by omega), Option.bind_some]
  generalize secText d (areaFirst a + 1) 47 = s at hz
  cases hs : s.2 with
  | false => cases isAr a <;> rfl
  | true =>
    cases ha : isAr a with
    | false => rfl
    | true =>
      have L := W_nat (fun x => (W_spec_ReadArea_10 x).bind fun r => match r with
          | .inl o => some (o.1, o.2, true)
          | .inr z => some z) (countIn d a).toNat (fun (p : List ByteArray × Int) i => (a, d, [], s.1, p.1, p.2, i)) (fun i p => areaGo s.1 ((countIn d a).toNat - i) p.2 p.1) (fun i p => p.1.length ≤ i)
        (fun p _ => by
          rw [w_spec_ReadArea_10]; simp only [S_spec_ReadArea_10, CountIn_spec d a hb, Option.bind_some]
          rw [decide_eq_false (by omega)]
          simp only [cond_false, Option.bind_some, Nat.sub_self, areaGo])
        (fun i p hi hp => by
          have e : (countIn d a).toNat - i = ((countIn d a).toNat - (i + 1)) + 1 := by omega
          rw [w_spec_ReadArea_10]; simp only [S_spec_ReadArea_10, CountIn_spec d a hb, Option.bind_some]
          rw [decide_eq_true (by omega), e]
          simp only [cond_true, ReadShort_spec s.1 p.2 hz, Option.bind_some, areaGo, emp_eq]
          cases hr : (readShort s.1 p.2).2.2 with
          | false => left; rfl
          | true =>
            cases hq : strEq (readShort s.1 p.2).1 emp with
            | true => left; rfl
            | false =>
              right
              refine ⟨(p.1 ++ [(readShort s.1 p.2).1], (readShort s.1 p.2).2.1), by simp; omega, by simp, ?_⟩
              simp only [Bool.not_true, cond_false, Option.bind_some, List.length_singleton, ble_cap (show p.1.length + 1 ≤ 1099511627776 by omega), cond_true]
              rw [wrap_succ (by omega)]) 0 ([], 0) (by omega) (by simp)
      simp only [Bool.not_true, cond_false, Option.bind_some, Bool.and_self, if_true]
      exact L

def logTexts (d : DiskT) : List ByteArray := (readArea d (activeOf d)).1
theorem LogTexts_impl (d : DiskT) (hd : YDisk.wt d ≤ 1073741824) : q_impl_LogTexts d = some (logTexts d) := by
  rw [e_impl_LogTexts]; unfold X_impl_LogTexts
  simp only [ActiveOf_impl d (show YDisk.wt d ≤ big40 by unfold big40; omega), ReadArea_impl d _ hd, Option.bind_some]; rfl
theorem LogTexts_spec (d : DiskT) (hd : YDisk.wt d ≤ 1073741824) : q_spec_LogTexts d = some (logTexts d) := by
  rw [e_spec_LogTexts]; unfold X_spec_LogTexts
  simp only [ActiveOf_spec d (show YDisk.wt d ≤ big40 by unfold big40; omega), ReadArea_spec d _ hd, Option.bind_some]; rfl

theorem areaGo_len (t : ByteArray) : ∀ (m : Nat) (at_ : Int) (acc : List ByteArray), (areaGo t m at_ acc).1.length ≤ acc.length + m
  | 0, at_, acc => by simp [areaGo]
  | m + 1, at_, acc => by
    unfold areaGo
    split
    · have := areaGo_len t m (readShort t at_).2.1 (acc ++ [(readShort t at_).1])
      simp at this; omega
    · simp
theorem readArea_len (d : DiskT) (a : Int) : (readArea d a).1.length < 256 := by
  unfold readArea
  split
  · have h := areaGo_len (secText d (areaFirst a + 1) 47).1 (countIn d a).toNat 0 []
    have := countIn_le d a
    simp at h; omega
  · simp

/-! ### Texts, compared -/
def sameL (a b : List ByteArray) : Bool := decide (a = b)

theorem sameL_loop {a b : List ByteArray} (h : a.length = b.length) : (bif (a.zip b).any (fun p => !strEq p.1 p.2) then false else true) = decide (a = b) := by
  induction a generalizing b with
  | nil =>
    cases b with
    | nil => rfl
    | cons y b => simp at h
  | cons x a ih =>
    cases b with
    | nil => simp at h
    | cons y b =>
      have h' : a.length = b.length := by simpa using h
      have := ih h'
      simp only [List.zip_cons_cons, List.any_cons, List.cons.injEq]
      by_cases e : x = y
      · subst e
        simp only [strEq_refl, Bool.not_true, Bool.false_or, true_and]
        exact this
      · have : strEq x y = false := by rw [← Bool.not_eq_true, strEq_iff]; exact e
        simp [this, e]

theorem Equal_str (a b : List ByteArray) (ha : a.length ≤ big40) : q_slices_Equal_string_string (a, b) = some (sameL a b) := by
  unfold big40 at ha
  rw [e_slices_Equal_string_string]; unfold X_slices_Equal_string_string sameL
  simp only
  by_cases h : a.length = b.length
  · have hz : (a.zip b).length = a.length := by simp [h]
    have L := W_any W_slices_Equal_string_string_4 (a.zip b) (fun i => (a, b, (a.length : Int), i)) (fun p => !strEq p.1 p.2) (.inr false) (.inl ())
      (by rw [w_slices_Equal_string_string_4, hz]; simp only [S_slices_Equal_string_string_4, lt_cast, Nat.lt_irrefl, decide_false, cond_false])
      (fun i hi => by
        have hi1 : i < a.length := by omega
        have hi2 : i < b.length := by omega
        rw [w_slices_Equal_string_string_4]; simp only [S_slices_Equal_string_string_4, lt_cast, hi1, decide_true, cond_true, gIdx_nat hi1, gIdx_nat hi2, Int.toNat_natCast, rdL_get (t := Ty.str) hi1, rdL_get (t := Ty.str) hi2, List.getElem_zip]
        rw [wrap_succ (by omega)])
    have e1 : decide ((a.length : Int) = (b.length : Int)) = true := by simp [h]
    simp only [e1, Bool.not_true, cond_false, L, Option.bind_some]
    rw [← sameL_loop h]
    cases (a.zip b).any fun p => !strEq p.1 p.2 <;> rfl
  · have e1 : decide ((a.length : Int) = (b.length : Int)) = false := by simp; omega
    have e2 : decide (a = b) = false := by
      rw [decide_eq_false_iff_not]; intro e; exact h (by rw [e])
    rw [e1, e2]; rfl

def sameTx (a b : DiskT) : Bool := sameL (logTexts a) (logTexts b)

theorem SameTexts_impl (a b : DiskT) (ha : YDisk.wt a ≤ 1073741824) (hb : YDisk.wt b ≤ 1073741824) : q_impl_SameTexts (a, b) = some (sameTx a b) := by
  rw [e_impl_SameTexts]; unfold X_impl_SameTexts
  have h1 : (logTexts a).length ≤ big40 := by have := readArea_len a (activeOf a); unfold logTexts big40; omega
  simp only [LogTexts_impl a ha, LogTexts_impl b hb, Equal_str _ _ h1, Option.bind_some]; rfl

theorem SameTexts_spec (a b : DiskT) (ha : YDisk.wt a ≤ 1073741824) (hb : YDisk.wt b ≤ 1073741824) : q_spec_SameTexts (a, b) = some (sameTx a b) := by
  rw [e_spec_SameTexts]; unfold X_spec_SameTexts sameTx sameL
  have h1 : (logTexts a).length < 256 := readArea_len a (activeOf a)
  simp only [LogTexts_spec a ha, LogTexts_spec b hb, Option.bind_some]
  generalize logTexts a = a at h1
  generalize logTexts b = b
  by_cases h : a.length = b.length
  · have hz : (a.zip b).length = a.length := by simp [h]
    have L := W_any W_spec_SameTexts_6 (a.zip b) (fun i => (a, b, i)) (fun p => !strEq p.1 p.2) (.inr false) (.inl ())
      (by rw [w_spec_SameTexts_6, hz]; simp only [S_spec_SameTexts_6, lt_cast, Nat.lt_irrefl, decide_false, cond_false])
      (fun i hi => by
        have hi1 : i < a.length := by omega
        have hi2 : i < b.length := by omega
        rw [w_spec_SameTexts_6]; simp only [S_spec_SameTexts_6, lt_cast, hi1, decide_true, cond_true, gIdx_nat hi1, gIdx_nat hi2, Int.toNat_natCast, rdL_get (t := Ty.str) hi1, rdL_get (t := Ty.str) hi2, List.getElem_zip]
        rw [wrap_succ (by omega)])
    have e1 : decide ((a.length : Int) = (b.length : Int)) = true := by simp [h]
    simp only [e1, Bool.not_true, cond_false, L, Option.bind_some]
    rw [← sameL_loop h]
    cases (a.zip b).any fun p => !strEq p.1 p.2 <;> rfl
  · have e1 : decide ((a.length : Int) = (b.length : Int)) = false := by simp; omega
    have e2 : decide (a = b) = false := by
      rw [decide_eq_false_iff_not]; intro e; exact h (by rw [e])
    rw [e1, e2]; rfl

end Go.Proofs.Ytoafakkbmnnimaa.Ab
