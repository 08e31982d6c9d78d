import Derived.Test.YthhpkgegmfjdmaaGreatAbVK
namespace Go.Proofs.YthhpkgegmfjdmaaGreat.Ab
open Go
set_option linter.unusedVariables false
set_option linter.unusedSimpArgs false
set_option linter.unnecessarySimpa false
set_option linter.unusedSimpArgs false
set_option linter.unusedVariables false

theorem Thr_loop (t : YTxn.den) (b0 : BaseT) (v : List VerT) (p R : List YTxn.den) (c n : Int) (d : YTxn.den) (hR : fewL R) (hd : fewT d) :
    W_impl_Through_9 (t, b0, (v, p, R, c, n), d, (), (R.length : Int), 0) = some (.inl (t, b0, (v, p, R.map (flag d), c, n), d)) := by
  have hl := hR.1
  have L := W_count W_impl_Through_9 R.length (fun (a : List YTxn.den) i => (t, b0, ((v, p, a, c, n) : BaseT), d, (), (R.length : Int), i)) (fun i => (R.take i).map (flag d) ++ R.drop i) (.inl (t, b0, ((v, p, R.map (flag d), c, n) : BaseT), d))
    (by
      rw [w_impl_Through_9]
      simp only [S_impl_Through_9, lt_cast, Nat.lt_irrefl, decide_false, cond_false, List.take_length, List.drop_length, List.append_nil])
    (fun i hi => by
      have hm : ((R.take i).map (flag d)).length = i := by simp; omega
      have hd1 : R.drop i = R[i] :: R.drop (i + 1) := List.drop_eq_getElem_cons hi
      have hal : i < ((R.take i).map (flag d) ++ R.drop i).length := by simp; omega
      have hg : ((R.take i).map (flag d) ++ R.drop i)[i] = R[i] := by
        rw [List.getElem_append_right (by omega), List.getElem_drop]
        congr 1
        omega
      have hset : ∀ y : YTxn.den, ((R.take i).map (flag d) ++ R.drop i).set i y = (R.take i).map (flag d) ++ y :: R.drop (i + 1) := fun y => by
        rw [List.set_append_right _ _ (by omega), hm, Nat.sub_self, hd1, List.set_cons_zero]
      have hnx : (R.take (i + 1)).map (flag d) ++ R.drop (i + 1) = (R.take i).map (flag d) ++ flag d R[i] :: R.drop (i + 1) := by
        rw [List.take_succ_eq_append_getElem hi, List.map_append]
        simp
      have ha := Ahead_impl R[i] d (few40 (hR.2 _ (List.getElem_mem hi)).1) (few40 hd.2)
      rw [w_impl_Through_9]
      simp only [S_impl_Through_9, lt_cast, hi, decide_true, cond_true, gIdx_nat hal, Int.toNat_natCast, rdL_get (t := YTxn) hal, hg, ha, Option.bind_some, hset]
      rw [wrap_succ (by omega), hnx]
      unfold flag
      cases h1 : R[i].2.2.2.2.2.2.1 with
      | true => simp
      | false => simp)
  simpa using L

end Go.Proofs.YthhpkgegmfjdmaaGreat.Ab
