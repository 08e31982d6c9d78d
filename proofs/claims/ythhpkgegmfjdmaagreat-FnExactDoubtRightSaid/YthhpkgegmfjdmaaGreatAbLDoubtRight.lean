import Derived.Test.YthhpkgegmfjdmaaGreatAbVN3
namespace Go.Proofs.YthhpkgegmfjdmaaGreat.Ab
open Go
set_option linter.unusedVariables false
set_option linter.unusedSimpArgs false
set_option linter.unnecessarySimpa false
set_option linter.unusedSimpArgs false
set_option linter.unusedVariables false

theorem mem_sum {E : Type} (f : E → Nat) : ∀ (l : List E), ∀ x ∈ l, f x ≤ (l.map f).sum
  | [], x, h => by cases h
  | y :: l, x, h => by
    simp only [List.map_cons, List.sum_cons]
    rcases List.mem_cons.mp h with rfl | h
    · omega
    · have := mem_sum f l x h
      omega

theorem txns_few {l : List YTxn.den} (h : (Ty.sl YTxn).wt l ≤ 1048576) : l.length ≤ 1048576 ∧ ∀ t ∈ l, fewT t := by
  have e : (Ty.sl YTxn).wt l = l.length + (l.map YTxn.wt).sum := rfl
  refine ⟨by omega, fun t ht => ?_⟩
  have h1 := mem_sum YTxn.wt l t ht
  have h2 : YTxn.wt t ≤ 1048576 := by omega
  have h3 : t.2.2.2.2.1.length ≤ YTxn.wt t := by simp only [Ty.wt]; omega
  have h4 : t.2.2.2.2.2.1.length ≤ YTxn.wt t := by simp only [Ty.wt]; omega
  exact ⟨by omega, by omega⟩

theorem Doubt_spec (w : YWorld.den) (hb : smallB w.1.1.1) (ho : fewL w.1.1.2) : q_spec_DoubtRight w = some true := by
  have hl := hb.2.2.1
  have L := W_nat W_spec_DoubtRight_2 w.1.1.1.2.2.1.length (fun (_ : Unit) i => (w, i)) (fun _ _ => .inl ()) (fun _ _ => True)
    (fun a _ => by rw [w_spec_DoubtRight_2]; simp only [S_spec_DoubtRight_2, lt_cast, Nat.lt_irrefl, decide_false, cond_false])
    (fun i a hi _ => .inr ⟨(), trivial, rfl, by
      obtain ⟨k, hk, hr⟩ := readyAt_ok w.1.1.1 (n := w.1.1.1.2.2.1[i].2.2.2.2.2.2.2) hi rfl
      obtain ⟨e, r, code, hf, hc⟩ := Finish_spec w.1.1.1 w.1.1.2 w.1.1.1.2.2.1[i].2.2.2.2.2.2.2 hb ho hk hr
      have hf : q_spec_Finish (w.1.1, w.1.1.1.2.2.1[i].2.2.2.2.2.2.2, true) = some (e, r, code) := hf
      rw [w_spec_DoubtRight_2]
      simp only [S_spec_DoubtRight_2, lt_cast, hi, decide_true, cond_true, gIdx_nat hi, Int.toNat_natCast, rdL_get (t := YTxn) hi, hf, Option.bind_some]
      rw [wrap_succ (by omega)]
      rcases hc with rfl | rfl <;> rfl⟩) 0 () (Nat.zero_le _) trivial
  have L : W_spec_DoubtRight_2 (w, 0) = _ := L
  rw [e_spec_DoubtRight]; unfold X_spec_DoubtRight
  simp only [L, Option.bind_some]


theorem Doubt_impl (w : YWorld.den) (hb : smallB w.1.1.1) (ho : fewL w.1.1.2) : q_impl_DoubtRight w = some true := by
  have hl := hb.2.2.1
  have hq : ∀ x ∈ w.1.1.1.2.2.1, q_impl_DoubtRight_1 (x, w.1.1.1.1, w.1.1.1.2.1, w.1.1.1.2.2.1, w.1.1.1.2.2.2.1, w.1.1.1.2.2.2.2, w.1.1.2, w.1.2.1, w.1.2.2, w.2) = some false := fun x hx => by
    obtain ⟨i, hi, rfl⟩ := List.getElem_of_mem hx
    obtain ⟨k, hk, hr⟩ := readyAt_ok w.1.1.1 (n := w.1.1.1.2.2.1[i].2.2.2.2.2.2.2) hi rfl
    obtain ⟨e, r, code, hf, hc⟩ := Finish_impl w.1.1.1 w.1.1.2 w.1.1.1.2.2.1[i].2.2.2.2.2.2.2 hb ho hk hr
    rw [e_impl_DoubtRight_1]; unfold X_impl_DoubtRight_1
    simp only [hf, Option.bind_some]
    rcases hc with rfl | rfl <;> rfl
  have L := Q.first (T := YTxn) (W := W_slices_IndexFunc_impl_Txn_impl_DoubtRight_1_2) (q := q_impl_DoubtRight_1) (p := fun _ => false) (fun x => w_slices_IndexFunc_impl_Txn_impl_DoubtRight_1_2 x) w.1.1.1.2.2.1 _ (by omega) hq
  have hn : ¬ firstAt (fun _ : YTxn.den => false) w.1.1.1.2.2.1 < w.1.1.1.2.2.1.length := fun h => by
    have := firstAt_yes h
    cases this
  rw [if_neg hn] at L
  rw [e_impl_DoubtRight]; unfold X_impl_DoubtRight
  simp only [e_impl_some_impl_DoubtRight_1, X_impl_some_impl_DoubtRight_1, e_slices_ContainsFunc_impl_Txn_impl_DoubtRight_1, X_slices_ContainsFunc_impl_Txn_impl_DoubtRight_1, e_slices_IndexFunc_impl_Txn_impl_DoubtRight_1, X_slices_IndexFunc_impl_Txn_impl_DoubtRight_1, L, Option.bind_some]
  rfl

theorem law_FnExactDoubtRight (x : YWorld.den) (hx : YWorld.fine x) : q_laws_FnExactDoubtRight x = some true := by
  rw [e_laws_FnExactDoubtRight]; unfold X_laws_FnExactDoubtRight
  refine szr_law (sz_World x _ hx (by omega) (by omega)) (fun c1 => ?_)
  have wx : YWorld.wt x ≤ 1099511627776 := by omega
  have hw : YWorld.wt x = YStore.wt x.1 + ((Ty.sl YTxn).wt x.2.1 + ((Ty.sl (Ty.int .i64)).wt x.2.2.1 + (Ty.sl Ty.str).wt x.2.2.2)) := rfl
  have k1 : YStore.wt x.1 = (((Ty.sl YVersion).wt x.1.1.1.1 + ((Ty.sl YTxn).wt x.1.1.1.2.1 + ((Ty.sl YTxn).wt x.1.1.1.2.2.1 + (0 + 0)))) + (Ty.sl YTxn).wt x.1.1.2) + YDisk.wt x.1.2 := rfl
  have k2 : (Ty.sl YVersion).wt x.1.1.1.1 = x.1.1.1.1.length + (x.1.1.1.1.map YVersion.wt).sum := rfl
  have t1 := txns_few (l := x.1.1.1.2.1) (by omega)
  have t2 := txns_few (l := x.1.1.1.2.2.1) (by omega)
  have t3 := txns_few (l := x.1.1.2) (by omega)
  have hb : smallB x.1.1.1 := ⟨by omega, t1, t2⟩
  have ho : fewL x.1.1.2 := ⟨by have := t3.1; omega, t3.2⟩
  simp only [to_World x wx, Doubt_spec x hb ho, Doubt_impl x hb ho, eq_World x wx, Option.bind_some, beq_self_eq_true, Bool.not_true, cond_false]

end Go.Proofs.YthhpkgegmfjdmaaGreat.Ab
