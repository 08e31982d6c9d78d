import Derived.Test.YthhpkgegmfjdmaaAbP23
namespace Go.Proofs.Ythhpkgegmfjdmaa.Ab
open Go
set_option linter.unusedVariables false
set_option linter.unusedSimpArgs false
set_option linter.unnecessarySimpa false
set_option linter.unusedSimpArgs false
set_option linter.unusedVariables false

/-! ### Draws -/
abbrev Src := List Int × Int × Int
def Src.ok (s : Src) : Prop := s.1.length ≤ 1048576 ∧ 0 ≤ s.2.1 ∧ s.2.1 ≤ (s.1.length : Int)

/-- A draw answers, and what it draws is as told. -/
def Dr {T : Type} (F : Option (T × Src)) (p : T → Prop) : Prop := ∃ y s, F = some (y, s) ∧ s.ok ∧ p y

theorem byte_rng (v : BitVec IntKind.i64.bits) : 0 ≤ IntKind.i64.wrap ((v &&& BitVec.ofInt IntKind.i64.bits 255).toNat : Int) ∧ IntKind.i64.wrap ((v &&& BitVec.ofInt IntKind.i64.bits 255).toNat : Int) < 256 := by
  have h : (v &&& BitVec.ofInt IntKind.i64.bits 255).toNat ≤ 255 := by
    rw [BitVec.toNat_and]
    exact Nat.le_trans Nat.and_le_right (by decide)
  rw [wrap64 (by omega) (by omega)]
  omega

theorem Byte_dr {s : Src} (h : s.ok) : Dr (q_spec_l01Byte s) (fun y => 0 ≤ y ∧ y < 256) := by
  obtain ⟨l, p, z⟩ := s
  obtain ⟨h1, h2, h3⟩ := h
  simp only at h1 h2 h3
  rw [e_spec_l01Byte]; unfold X_spec_l01Byte
  simp only
  by_cases hp : p < (l.length : Int)
  · have hg : gIdx p l.length = true := by simp [gIdx, h2, hp]
    simp only [hp, decide_true, cond_true, hg]
    exact ⟨_, _, rfl, ⟨h1, by simp only; rw [wrap64 (by omega) (by omega)]; omega, by simp only; rw [wrap64 (by omega) (by omega)]; omega⟩, byte_rng _⟩
  · simp only [hp, decide_false, cond_false]
    exact ⟨_, _, rfl, ⟨h1, h2, h3⟩, byte_rng _⟩

theorem tmod_rng {a n : Int} (ha : 0 ≤ a) (hn : 0 < n) : 0 ≤ Int.tmod a n ∧ Int.tmod a n < n := ⟨Int.tmod_nonneg _ ha, Int.tmod_lt_of_pos _ hn⟩

theorem Below_dr {s : Src} (h : s.ok) {n : Int} (hn : 0 < n) : Dr (q_spec_l01Below (s, n)) (fun y => 0 ≤ y ∧ y < n) := by
  rw [e_spec_l01Below]; unfold X_spec_l01Below
  have h0 : decide (n ≤ 0) = false := by simp; omega
  have h0' : (!decide (n = 0)) = true := by simp; omega
  simp only [h0, cond_false, h0', cond_true]
  by_cases h1 : n ≤ 256
  · simp only [h1, decide_true, cond_true]
    obtain ⟨y, s1, e1, k1, r1⟩ := Byte_dr h
    simp only [e1, Option.bind_some]
    exact ⟨_, _, rfl, k1, tmod_rng r1.1 hn⟩
  · simp only [h1, decide_false, cond_false]
    obtain ⟨y1, s1, e1, k1, r1⟩ := Byte_dr h
    obtain ⟨y2, s2, e2, k2, r2⟩ := Byte_dr k1
    obtain ⟨y3, s3, e3, k3, r3⟩ := Byte_dr k2
    obtain ⟨y4, s4, e4, k4, r4⟩ := Byte_dr k3
    simp only [e1, e2, e3, e4, Option.bind_some]
    refine ⟨_, _, rfl, k4, tmod_rng ?_ hn⟩
    rw [wrap64 (n := y1 * 16777216) (by omega) (by omega), wrap64 (n := y2 * 65536) (by omega) (by omega), wrap64 (n := y3 * 256) (by omega) (by omega), wrap64 (n := y1 * 16777216 + y2 * 65536) (by omega) (by omega),
      wrap64 (n := y1 * 16777216 + y2 * 65536 + y3 * 256) (by omega) (by omega), wrap64 (n := y1 * 16777216 + y2 * 65536 + y3 * 256 + y4) (by omega) (by omega)]
    omega

theorem Once_dr {s : Src} (h : s.ok) {n : Int} (hn : 0 < n) : Dr (q_spec_l01Once (s, n)) (fun _ => True) := by
  rw [e_spec_l01Once]; unfold X_spec_l01Once
  obtain ⟨y, s1, e1, k1, r1⟩ := Below_dr h hn
  simp only [e1, Option.bind_some]
  exact ⟨_, _, rfl, k1, trivial⟩

theorem New_dr {l : List Int} (hl : l.length ≤ 1048576) : ∃ s : Src, q_spec_l01New l = some s ∧ s.ok := by
  have key : ∀ (d i : Nat) (z : Int), i ≤ l.length → l.length - i ≤ d → ∃ z', W_spec_l01New_3 (l, z, (i : Int)) = some (.inl (l, z')) := by
    intro d
    induction d with
    | zero =>
      intro i z hi hd
      have : i = l.length := by omega
      subst this
      rw [w_spec_l01New_3]
      simp only [S_spec_l01New_3, lt_cast, Nat.lt_irrefl, decide_false, cond_false, Option.bind_some]
      exact ⟨_, rfl⟩
    | succ d ih =>
      intro i z hi hd
      by_cases h : i < l.length
      · rw [w_spec_l01New_3]
        simp only [S_spec_l01New_3, lt_cast, h, decide_true, cond_true, Option.bind_some, gIdx_nat h]
        rw [wrap_succ (by omega)]
        cases decide ((i : Int) < 4000) with
        | false => exact ⟨_, rfl⟩
        | true => exact ih (i + 1) _ (by omega) (by omega)
      · have : i = l.length := by omega
        subst this
        rw [w_spec_l01New_3]
        simp only [S_spec_l01New_3, lt_cast, Nat.lt_irrefl, decide_false, cond_false, Option.bind_some]
        exact ⟨_, rfl⟩
  obtain ⟨z', hz⟩ := key l.length 0 (IntKind.i64.wrap (77601 + (l.length : Int))) (Nat.zero_le _) (by omega)
  rw [e_spec_l01New]; unfold X_spec_l01New
  have hz' : W_spec_l01New_3 (l, IntKind.i64.wrap (77601 + (l.length : Int)), 0) = _ := hz
  simp only [hz', Option.bind_some]
  exact ⟨_, rfl, hl, Int.le_refl _, by simp only; omega⟩


theorem Text_dr {s : Src} (h : s.ok) {n : Nat} (hn : n ≤ 5000) : Dr (q_spec_l01Text (s, (n : Int))) (fun t => t.size = n) := by
  have key : ∀ (r i : Nat) (s : Src) (a : List Int), s.ok → a.length = i → i + r = n → ∃ (s' : Src) (a' : List Int), W_spec_l01Text_5 (s, (n : Int), a, (i : Int)) = some (.inl (s', a')) ∧ s'.ok ∧ a'.length = n := by
    intro r
    induction r with
    | zero =>
      intro i s a hs ha hi
      have : i = n := by omega
      subst this
      rw [w_spec_l01Text_5]
      simp only [S_spec_l01Text_5, lt_cast, Nat.lt_irrefl, decide_false, cond_false]
      exact ⟨s, a, rfl, hs, ha⟩
    | succ r ih =>
      intro i s a hs ha hi
      obtain ⟨y, s1, e1, k1, r1⟩ := Byte_dr hs
      have hlt : i < n := by omega
      have hc : Nat.ble (a.length + ([IntKind.u8.wrap y] : List Int).length) cap40 = true := ble_cap (by simp; omega)
      rw [w_spec_l01Text_5]
      simp only [S_spec_l01Text_5, lt_cast, hlt, decide_true, cond_true, e1, Option.bind_some]
      rw [hc, wrap_succ (by omega)]
      exact ih (i + 1) s1 (a ++ [IntKind.u8.wrap y]) k1 (by simp [ha]) (by omega)
  obtain ⟨s', a', e1, k1, r1⟩ := key n 0 s [] h rfl (by omega)
  have e1 : W_spec_l01Text_5 (s, (n : Int), [], 0) = _ := e1
  rw [e_spec_l01Text]; unfold X_spec_l01Text
  have h5 : decide ((n : Int) > 5000) = false := by simp; omega
  simp only [h5, cond_false, e1, Option.bind_some]
  exact ⟨_, _, rfl, k1, by show (strI a').size = n; rw [strI_size]; exact r1⟩

theorem Long_ok (n : Nat) (b : Int) (hn : n ≤ 1000000) : ∃ t, q_spec_l01Long ((n : Int), b) = some t ∧ t.size = n := by
  have key : ∀ (r i : Nat) (a : List Int), a.length = n → i + r = n → ∃ a' : List Int, W_spec_l01Long_3 ((n : Int), b, a, (i : Int)) = some (.inl a') ∧ a'.length = n := by
    intro r
    induction r with
    | zero =>
      intro i a ha hi
      have : i = n := by omega
      subst this
      rw [w_spec_l01Long_3]
      simp only [S_spec_l01Long_3, lt_cast, Nat.lt_irrefl, decide_false, cond_false]
      exact ⟨a, rfl, ha⟩
    | succ r ih =>
      intro i a ha hi
      have hlt : i < n := by omega
      rw [w_spec_l01Long_3]
      simp only [S_spec_l01Long_3, lt_cast, hlt, decide_true, cond_true, gIdx_nat (show i < a.length by omega)]
      rw [wrap_succ (by omega)]
      exact ih (i + 1) _ (by simp [ha]) (by omega)
  obtain ⟨a', e1, h1⟩ := key n 0 (List.replicate n (Ty.int .u8).zero) (by simp) (by omega)
  have e1 : W_spec_l01Long_3 ((n : Int), b, List.replicate n (Ty.int .u8).zero, 0) = _ := e1
  have hc : (decide (0 ≤ (n : Int)) && decide ((n : Int) ≤ 1099511627776)) = true := by simp; omega
  rw [e_spec_l01Long]; unfold X_spec_l01Long
  rw [hc, cond_true]
  simp only [Int.toNat_natCast, e1, Option.bind_some]
  exact ⟨_, rfl, by rw [strI_size]; exact h1⟩

theorem Zero_ok : ∃ t, q_spec_l03Zero () = some t ∧ t.size = 64 ∧ getB t 0 = 0 := by
  have hset : ∀ i, (List.replicate 64 (0 : Int)).set i 0 = List.replicate 64 0 := fun i => by
    apply List.ext_getElem (by simp)
    intro j h1 h2
    rw [List.getElem_set, List.getElem_replicate]
    split
    · rfl
    · rfl
  have key : ∀ (r i : Nat), i + r = 64 → W_spec_l01Long_3 ((64 : Int), 0, List.replicate 64 0, (i : Int)) = some (.inl (List.replicate 64 0)) := by
    intro r
    induction r with
    | zero =>
      intro i hi
      have : i = 64 := by omega
      subst this
      rw [w_spec_l01Long_3]
      rfl
    | succ r ih =>
      intro i hi
      have hlt : decide ((i : Int) < 64) = true := by simp; omega
      have hg : gIdx (i : Int) (List.replicate 64 (0 : Int)).length = true := gIdx_nat (by simp; omega)
      rw [w_spec_l01Long_3]
      simp only [S_spec_l01Long_3, hlt, cond_true, hg, hset]
      rw [wrap_succ (by omega)]
      exact ih (i + 1) (by omega)
  have e1 : W_spec_l01Long_3 ((64 : Int), 0, List.replicate 64 0, 0) = _ := key 64 0 rfl
  refine ⟨strI (List.replicate 64 0), ?_, by rw [strI_size]; simp, by unfold getB; rw [strI_list]; rfl⟩
  rw [e_spec_l03Zero]; unfold X_spec_l03Zero
  rw [e_spec_l01Long]; unfold X_spec_l01Long
  have hc : (decide ((0 : Int) ≤ 64) && decide ((64 : Int) ≤ 1099511627776)) = true := rfl
  have hr : List.replicate ((64 : Int)).toNat (Ty.int .u8).zero = List.replicate 64 (0 : Int) := rfl
  simp only [hc, cond_true, hr, e1, Option.bind_some]

/-- A new log is right. -/
theorem LogNew_ok : ∃ d, q_spec_LogNew () = some d ∧ logOk d = true := by
  obtain ⟨z, hz, hz1, hz2⟩ := Zero_ok
  have key : ∀ (r i : Nat), i + r = 97 → W_spec_DiskNew_5 ((97 : Int), ([], []), (List.replicate i z, []), (i : Int)) = some (.inl (([], []), (List.replicate 97 z, []))) := by
    intro r
    induction r with
    | zero =>
      intro i hi
      have : i = 97 := by omega
      subst this
      rw [w_spec_DiskNew_5]
      rfl
    | succ r ih =>
      intro i hi
      have hlt : decide ((i : Int) < 97) = true := by simp; omega
      have hc : Nat.ble ((List.replicate i z).length + ([z] : List ByteArray).length) cap40 = true := ble_cap (by simp; omega)
      rw [w_spec_DiskNew_5]
      simp only [S_spec_DiskNew_5, hlt, cond_true, hz, Option.bind_some, hc]
      rw [wrap_succ (by omega)]
      have e : List.replicate i z ++ [z] = List.replicate (i + 1) z := by rw [List.replicate_succ']
      rw [e]
      exact ih (i + 1) (by omega)
  have e1 : W_spec_DiskNew_5 ((97 : Int), ([], []), ([], []), 0) = _ := key 97 0 rfl
  have hs : q_spec_l04Sectors () = some 97 := by rw [e_spec_l04Sectors]; rfl
  refine ⟨(List.replicate 97 z, []), ?_, ?_⟩
  · rw [e_spec_LogNew]; unfold X_spec_LogNew
    simp only [hs, Option.bind_some]
    rw [e_spec_DiskNew]; unfold X_spec_DiskNew
    have hi : isIn 97 1 100 = true := rfl
    simp only [l01In_ok, hi, Option.bind_some, Bool.not_true, cond_false, e1]
  · have hk : diskOk (List.replicate 97 z, ([] : List (Int × ByteArray))) = true := diskOk_iff.mpr ⟨by simp, by simp, fun s hs => by rw [List.eq_of_mem_replicate hs]; exact hz1, fun p hp => by cases hp⟩
    have hl : (List.replicate 97 z, ([] : List (Int × ByteArray))).1.length = 97 := by simp
    have hf := full_of hk hl
    have hc : ∀ a : Int, a = 0 ∨ a = 1 → countIn (List.replicate 97 z, []) a = 0 := fun a ha => by
      obtain ⟨f1, _⟩ := firstN_eq ha
      unfold countIn fstByte
      rw [isAr_iff.mpr ha, if_pos rfl]
      have hk2 : areaFirst a = (((areaFirst a).toNat : Nat) : Int) := by rcases ha with rfl | rfl <;> omega
      rw [hk2, readSec_nil rfl (by rw [hl]; rcases ha with rfl | rfl <;> omega)]
      have hlt : (areaFirst a).toNat < (List.replicate 97 z).length := by simp; rcases ha with rfl | rfl <;> omega
      have e : rdL Ty.str (List.replicate 97 z) (areaFirst a).toNat = (List.replicate 97 z)[(areaFirst a).toNat] := rdL_get (t := Ty.str) hlt
      simp only [e, List.getElem_replicate]
      rw [byte0_getB, hz2]
      rfl
    refine logOk_of hk hl rfl ?_ ?_
    · rw [readArea_eq hf (.inl rfl), hc 0 (.inl rfl)]; rfl
    · rw [readArea_eq hf (.inr rfl), hc 1 (.inr rfl)]; rfl

end Go.Proofs.Ythhpkgegmfjdmaa.Ab
