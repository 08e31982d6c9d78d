import Derived.Test.YthhpkgegmfjdmaaAbP25
namespace Go.Proofs.Ythhpkgegmfjdmaa.Ab
open Go
set_option linter.unusedVariables false
set_option linter.unusedSimpArgs false
set_option linter.unnecessarySimpa false
set_option linter.unusedSimpArgs false
set_option linter.unusedVariables false

theorem LogTexts_spec (d : DiskT) (hd : YDisk.wt d ≤ 1073741824) : q_spec_LogTexts d = some (logTexts d) := by
  rw [e_spec_LogTexts]; unfold X_spec_LogTexts
  simp only [ActiveOf_spec d (show YDisk.wt d ≤ big40 by unfold big40; omega), ReadArea_spec d _ hd, Option.bind_some]; rfl

theorem SameTexts_spec (a b : DiskT) (ha : YDisk.wt a ≤ 1073741824) (hb : YDisk.wt b ≤ 1073741824) : q_spec_SameTexts (a, b) = some (sameTx a b) := by
  rw [e_spec_SameTexts]; unfold X_spec_SameTexts sameTx sameL
  have h1 : (logTexts a).length < 256 := readArea_len a (activeOf a)
  simp only [LogTexts_spec a ha, LogTexts_spec b hb, Option.bind_some]
  generalize logTexts a = a at h1
  generalize logTexts b = b
  by_cases h : a.length = b.length
  · have hz : (a.zip b).length = a.length := by simp [h]
    have L := W_any W_spec_SameTexts_6 (a.zip b) (fun i => (a, b, i)) (fun p => !strEq p.1 p.2) (.inr false) (.inl ())
      (by rw [w_spec_SameTexts_6, hz]; simp only [S_spec_SameTexts_6, lt_cast, Nat.lt_irrefl, decide_false, cond_false])
      (fun i hi => by
        have hi1 : i < a.length := by omega
        have hi2 : i < b.length := by omega
        rw [w_spec_SameTexts_6]; simp only [S_spec_SameTexts_6, lt_cast, hi1, decide_true, cond_true, gIdx_nat hi1, gIdx_nat hi2, Int.toNat_natCast, rdL_get (t := Ty.str) hi1, rdL_get (t := Ty.str) hi2, List.getElem_zip]
        rw [wrap_succ (by omega)])
    have e1 : decide ((a.length : Int) = (b.length : Int)) = true := by simp [h]
    simp only [e1, Bool.not_true, cond_false, L, Option.bind_some]
    rw [← sameL_loop h]
    cases (a.zip b).any fun p => !strEq p.1 p.2 <;> rfl
  · have e1 : decide ((a.length : Int) = (b.length : Int)) = false := by simp; omega
    have e2 : decide (a = b) = false := by
      rw [decide_eq_false_iff_not]; intro e; exact h (by rw [e])
    rw [e1, e2]; rfl

theorem CutRight_spec (a b c : DiskT) (ha : YDisk.wt a ≤ 1073741824) (hb : YDisk.wt b ≤ 1073741824) (hc : YDisk.wt c ≤ 1073741824) : q_spec_CutRight (a, b, c) = some (cutRight a b c) := by
  rw [e_spec_CutRight]; unfold X_spec_CutRight cutRight
  simp only [LogOk_spec c hc, SameTexts_spec c a hc ha, SameTexts_spec c b hc hb, Option.bind_some]
  cases logOk c <;> cases sameTx c a <;> cases sameTx c b <;> rfl


theorem writeBytes_wt' {d : DiskT} (h : YDisk.wt d ≤ 1000000) (s at_ : Int) (t : ByteArray) : YDisk.wt (orD d (writeBytes d s at_ t)).1 ≤ 1000000 := by
  cases hw : writeBytes d s at_ t with
  | none => exact h
  | some x => exact Nat.le_trans (diskOk_wt (writeBytes_ok hw).2.1) (by omega)

theorem writeSec_wt' {d : DiskT} (h : YDisk.wt d ≤ 1000000) (k : Int) (t : ByteArray) : YDisk.wt (orD d (writeSec d k t)).1 ≤ 1000000 := by
  cases hw : writeSec d k t with
  | none => exact h
  | some x => exact Nat.le_trans (diskOk_wt (writeSec_ok hw).1) (by omega)

theorem flush_wt' {d : DiskT} (h : YDisk.wt d ≤ 1000000) : YDisk.wt (flush d) ≤ 1000000 := by
  by_cases hd : diskOk d = true
  · exact Nat.le_trans (diskOk_wt (flush_ok hd).1) (by omega)
  · unfold flush
    simp [hd]
    exact h

theorem Keep_dr {s : Src} (h : s.ok) : Dr (q_spec_l03Keep s) (fun _ => True) := by
  have key : ∀ (r i : Nat) (s : Src) (a : List Int), s.ok → a.length = i → 14 ≤ i + r → i ≤ 13 → ∃ (s' : Src) (a' : List Int), W_spec_l03Keep_3 (s, a, (i : Int)) = some (.inl (s', a')) ∧ s'.ok := by
    intro r
    induction r with
    | zero => intro i s a _ _ h1 h2; omega
    | succ r ih =>
      intro i s a hs ha hr hi
      obtain ⟨y, s1, e1, k1, r1⟩ := Below_dr hs (n := 14) (by omega)
      rw [w_spec_l03Keep_3]
      simp only [S_spec_l03Keep_3, e1, Option.bind_some]
      by_cases hy : (i : Int) < y
      · obtain ⟨y2, s2, e2, k2, r2⟩ := Below_dr k1 (n := 3) (by omega)
        have hc : Nat.ble (a.length + ([IntKind.i64.wrap (y2 - 1)] : List Int).length) cap40 = true := ble_cap (by simp; omega)
        simp only [hy, decide_true, cond_true, e2, Option.bind_some]
        rw [hc, wrap_succ (by omega)]
        exact ih (i + 1) s2 (a ++ [IntKind.i64.wrap (y2 - 1)]) k2 (by simp [ha]) (by omega) (by omega)
      · simp only [hy, decide_false, cond_false]
        exact ⟨s1, a, rfl, k1⟩
  obtain ⟨s', a', e2, k2⟩ := key 14 0 s [] h rfl (by omega) (by omega)
  have e2 : W_spec_l03Keep_3 (s, [], 0) = _ := e2
  refine ⟨a', s', ?_, k2, trivial⟩
  rw [e_spec_l03Keep]; unfold X_spec_l03Keep
  simp only [e2, Option.bind_some]

theorem PickInt_dr {s : Src} (h : s.ok) (l : List Int) (hl : 0 < l.length) (hm : l.length ≤ 1000) : Dr (q_spec_l01PickInt (s, l)) (fun y => y ∈ l) := by
  obtain ⟨y, s1, e1, k1, r1⟩ := Below_dr h (n := (l.length : Int)) (by omega)
  rw [e_spec_l01PickInt]; unfold X_spec_l01PickInt
  have hi : y.toNat < l.length := by omega
  have hg : gIdx y l.length = true := gIdx_iff.mpr ⟨r1.1, r1.2⟩
  simp only [e1, Option.bind_some, hg, cond_true]
  refine ⟨_, _, rfl, k1, ?_⟩
  show l.getD y.toNat 0 ∈ l
  rw [List.getD_eq_getElem?_getD, List.getElem?_eq_getElem hi]
  exact List.getElem_mem hi

theorem Said_dr {s : Src} (h : s.ok) : Dr (q_spec_l04Said s) (fun t => t.size ≤ 5000) := by
  rw [e_spec_l04Said]; unfold X_spec_l04Said
  obtain ⟨y, s1, e1, k1, _⟩ := Once_dr h (n := 10) (by omega)
  simp only [e1, Option.bind_some]
  cases y with
  | true =>
    obtain ⟨y2, s2, e2, k2, r2⟩ := PickInt_dr k1 [0, 3006, 3007, 2000] (by simp) (by simp)
    have : 0 ≤ y2 ∧ y2 ≤ 3007 := by
      simp only [List.mem_cons, List.not_mem_nil, or_false] at r2
      omega
    obtain ⟨t, e3, h3⟩ := Long_ok y2.toNat 97 (by omega)
    rw [show ((y2.toNat : Nat) : Int) = y2 by omega] at e3
    simp only [cond_true, e2, e3, Option.bind_some]
    exact ⟨_, _, rfl, k2, by omega⟩
  | false =>
    obtain ⟨y3, s3, e3, k3, r3⟩ := Below_dr k1 (n := 90) (by omega)
    obtain ⟨n, hn⟩ : ∃ n : Nat, (n : Int) = 1 + y3 := ⟨(1 + y3).toNat, by omega⟩
    have w1 : IntKind.i64.wrap ((1 : Int) + y3) = (n : Int) := by rw [wrap64 (by omega) (by omega)]; omega
    obtain ⟨t, s4, e4, k4, r4⟩ := Text_dr k3 (n := n) (by omega)
    simp only [cond_false, e3, w1, e4, Option.bind_some]
    exact ⟨_, _, rfl, k4, by omega⟩

theorem One_ok (n : Int) : q_spec_l04One n = some (countB n) := by
  rw [e_spec_l04One]; unfold X_spec_l04One
  rfl

/-- A drawn disk, right or not, is small. -/
theorem Any_dr {s : Src} (h : s.ok) : Dr (q_spec_l04Any s) (fun d => YDisk.wt d ≤ 1000000) := by
  rw [e_spec_l04Any]; unfold X_spec_l04Any
  obtain ⟨k, s1, e1, k1, r1⟩ := Below_dr h (n := 10) (by omega)
  obtain ⟨x, s2, e2, k2, r2⟩ := Below_dr k1 (n := 60) (by omega)
  obtain ⟨d, s3, e3, k3, hl⟩ := Log_dr k2
  have hw : YDisk.wt d ≤ 1000000 := Nat.le_trans (diskOk_wt (logOk_len hl).1) (by omega)
  have hlen := (logOk_len hl).2.1
  simp only [e1, e2, e3, Copy_spec d (by unfold big40; omega), Option.bind_some]
  by_cases q0 : k = 0
  · have hg : (decide ((0 : Int) ≤ 0) && decide ((0 : Int) ≤ x) && decide (x ≤ (d.1.length : Int))) = true := by simp; omega
    simp only [q0, decide_true, cond_true, hg]
    refine ⟨_, _, rfl, k3, ?_⟩
    rw [disk_wt] at hw ⊢
    simp only [Int.toNat_zero, List.drop_zero, Nat.sub_zero]
    have : ((d.1.take x.toNat).map ByteArray.size).sum ≤ (d.1.map ByteArray.size).sum := by
      have e := congrArg (fun l => (l.map ByteArray.size).sum) (List.take_append_drop x.toNat d.1)
      simp only [List.map_append, List.sum_append] at e
      omega
    have : (d.1.take x.toNat).length ≤ d.1.length := by simp; omega
    omega
  · by_cases q1 : k = 1
    · simp only [q0, q1, decide_true, decide_false, cond_true, cond_false, AreaFirst_spec, One_ok, WriteBytes_spec d _ _ (countB x) (by omega) (by rw [countB_size]; omega), FlushDisk_spec _ (show YDisk.wt (orD d (writeBytes d (areaFirst (Int.tmod x 2)) 0 (countB x))).1 ≤ 1073741824 from Nat.le_trans (writeBytes_wt' hw _ _ _) (by omega)), Option.bind_some]
      exact ⟨_, _, rfl, k3, flush_wt' (writeBytes_wt' hw _ _ _)⟩
    · by_cases q2 : k = 2
      · obtain ⟨t, e4, h4⟩ := Long_ok 64 (IntKind.u8.wrap x) (by omega)
        have e4 : q_spec_l01Long ((64 : Int), IntKind.u8.wrap x) = _ := e4
        simp only [q0, q1, q2, decide_true, decide_false, cond_true, cond_false, e4, WriteSector_spec d _ t (by omega) (by omega), Option.bind_some]
        exact ⟨_, _, rfl, k3, writeSec_wt' hw _ _⟩
      · by_cases q3 : k = 3
        · simp only [q0, q1, q2, q3, decide_true, decide_false, cond_true, cond_false, WriteBytes_spec d _ _ (⟨#[255, 255]⟩ : ByteArray) (by omega) (by show 2 ≤ 1048576; omega), FlushDisk_spec _ (show YDisk.wt (orD d (writeBytes d 2 0 ⟨#[255, 255]⟩)).1 ≤ 1073741824 from Nat.le_trans (writeBytes_wt' hw _ _ _) (by omega)), Option.bind_some]
          exact ⟨_, _, rfl, k3, flush_wt' (writeBytes_wt' hw _ _ _)⟩
        · simp only [q0, q1, q2, q3, decide_false, cond_false]
          exact ⟨_, _, rfl, k3, hw⟩

theorem laws_sameTexts_self (a : List ByteArray) (ha : a.length ≤ big40) : q_laws_sameTexts (a, a) = some true := by
  rw [e_laws_sameTexts]; unfold X_laws_sameTexts
  have L := W_any W_laws_sameTexts_4 a (fun i => (a, a, i)) (fun p => !strEq p p) (.inr false) (.inl ())
      (by rw [w_laws_sameTexts_4]; simp only [S_laws_sameTexts_4, lt_cast, Nat.lt_irrefl, decide_false, cond_false])
      (fun i hi => by
        rw [w_laws_sameTexts_4]; simp only [S_laws_sameTexts_4, lt_cast, hi, decide_true, cond_true, gIdx_nat hi, Int.toNat_natCast, rdL_get (t := Ty.str) hi]
        unfold big40 at ha
        rw [wrap_succ (by omega)])
  have hn : (a.any fun p => !strEq p p) = false := by
    rw [List.any_eq_false]; intro x _; simp [strEq]
  rw [hn] at L
  simp only [decide_true, Bool.not_true, cond_false, L, Option.bind_some]

theorem laws_sameDisk_self (d : DiskT) (h : YDisk.wt d ≤ 1000000000) : q_laws_sameDisk (d, d) = some true := by
  rw [e_laws_sameDisk]; unfold X_laws_sameDisk
  have h1 := disk_secs (d := d)
  have h2 := disk_puts (d := d)
  have L := W_any W_laws_sameDisk_4 d.2 (fun i => (d, d, i)) (fun p => !(decide (p.1 = p.1) && (strEq p.2 p.2 && true))) (.inr false) (.inl ())
      (by rw [w_laws_sameDisk_4]; simp only [S_laws_sameDisk_4, lt_cast, Nat.lt_irrefl, decide_false, cond_false])
      (fun i hi => by
        rw [w_laws_sameDisk_4]; simp only [S_laws_sameDisk_4, lt_cast, hi, decide_true, cond_true, gIdx_nat hi, Int.toNat_natCast, rdL_get (t := YPut) hi]
        rw [wrap_succ (by omega)])
  have hn : (d.2.any fun p => !(decide (p.1 = p.1) && (strEq p.2 p.2 && true))) = false := by
    rw [List.any_eq_false]; intro x _; simp [strEq]
  rw [hn] at L
  simp only [laws_sameTexts_self d.1 (by unfold big40; omega), Option.bind_some, Bool.not_true, cond_false, decide_true, L]

end Go.Proofs.Ythhpkgegmfjdmaa.Ab
