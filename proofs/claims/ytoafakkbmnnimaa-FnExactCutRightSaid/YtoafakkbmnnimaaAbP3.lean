import Derived.Test.YtoafakkbmnnimaaAbP2
namespace Go.Proofs.Ytoafakkbmnnimaa.Ab
open Go
set_option linter.unusedVariables false
set_option linter.unusedSimpArgs false
set_option linter.unnecessarySimpa false
set_option linter.unusedSimpArgs false
set_option linter.unusedVariables false

/-! ### Figures of bytes -/
def fig (n : Nat) : Int := if n < 10 then 48 + (n : Int) else 87 + (n : Int)
def hexB (b : UInt8) : List Int := [fig (b.toNat / 16), fig (b.toNat % 16)]
def hexL (l : List UInt8) : List Int := l.flatMap hexB
def hexY (s : ByteArray) : ByteArray × Bool := if s.size > 20000 then (⟨#[]⟩, false) else (strI (hexL s.data.toList), true)

theorem hexL_length (l : List UInt8) : (hexL l).length = 2 * l.length := by
  induction l with
  | nil => rfl
  | cons x l ih =>
    simp only [hexL, List.flatMap_cons, List.length_append] at ih ⊢
    rw [ih]
    simp [hexB]; omega

theorem hexL_take {l : List UInt8} {i : Nat} (h : i < l.length) : hexL (l.take (i + 1)) = hexL (l.take i) ++ hexB l[i] := by
  unfold hexL
  rw [List.take_succ_eq_append_getElem h, List.flatMap_append]
  simp only [List.flatMap_cons, List.flatMap_nil, List.append_nil]

theorem byte_get {s : ByteArray} {i : Nat} (h : i < s.size) : s.data.toList.getD i 0 = s.data.toList[i]'(by simpa using h) := by
  rw [List.getD_eq_getElem?_getD, List.getElem?_eq_getElem (by simpa using h)]
  rfl

theorem tdivN (n m : Nat) : Int.tdiv (n : Int) (m : Int) = ((n / m : Nat) : Int) := (Int.ofNat_tdiv n m).symm
theorem tmodN (n m : Nat) : Int.tmod (n : Int) (m : Int) = ((n % m : Nat) : Int) := (Int.ofNat_tmod n m).symm
theorem wrap8 {n : Nat} (h : n < 256) : IntKind.u8.wrap (n : Int) = (n : Int) := by
  simp [IntKind.wrap, IntKind.bits, IntKind.signed]
  omega

theorem figure_ok (n : Nat) (h : n < 16) : q_spec_l01Figure (n : Int) = some (fig n) := by
  rw [e_spec_l01Figure]; unfold X_spec_l01Figure fig
  simp only [wrap_i64, wrap_u8]
  by_cases hc : n < 10
  · have : decide ((n : Int) < (10 : Int)) = true := by simp; omega
    rw [this, cond_true, if_pos hc]; exact congrArg some (by omega)
  · have : decide ((n : Int) < (10 : Int)) = false := by simp; omega
    rw [this, cond_false, if_neg hc]; exact congrArg some (by omega)

theorem Hex_spec (s : ByteArray) : q_spec_Hex s = some (hexY s) := by
  rw [e_spec_Hex]; unfold X_spec_Hex hexY
  by_cases hz : s.size > 20000
  · have : decide ((s.size : Int) > (20000 : Int)) = true := by simp; omega
    rw [this, cond_true, if_pos hz]
  have h0 : decide ((s.size : Int) > (20000 : Int)) = false := by simp; omega
  rw [h0, cond_false, if_neg hz]
  have L := W_nat W_spec_Hex_5 s.size (fun (_ : Unit) i => (s, hexL (s.data.toList.take i.toNat), i)) (fun _ _ => .inl (hexL s.data.toList)) (fun _ _ => True)
    (fun a _ => by
      rw [w_spec_Hex_5]; simp only [S_spec_Hex_5, lt_cast, Nat.lt_irrefl, decide_false, cond_false, Int.toNat_natCast]
      rw [List.take_of_length_le (by simp)])
    (fun i a hi _ => .inr ⟨(), trivial, rfl, by
      have hb : (s.data.toList[i]'(by simpa using hi)).toNat < 256 := UInt8.toNat_lt _
      rw [w_spec_Hex_5]
      have t1 : Int.tdiv (((s.data.toList[i]'(by simpa using hi)).toNat : Nat) : Int) (16 : Int) = (((s.data.toList[i]'(by simpa using hi)).toNat / 16 : Nat) : Int) := tdivN _ 16
      have t2 : Int.tmod (((s.data.toList[i]'(by simpa using hi)).toNat : Nat) : Int) (16 : Int) = (((s.data.toList[i]'(by simpa using hi)).toNat % 16 : Nat) : Int) := tmodN _ 16
      have hble : Nat.ble ((hexL (s.data.toList.take i)).length + 2) cap40 = true := ble_cap (by rw [hexL_length]; simp; omega)
      simp only [S_spec_Hex_5, lt_cast, hi, decide_true, cond_true, gIdx_nat hi, Int.toNat_natCast, byte_get hi, wrap_nat (show (s.data.toList[i]'(by simpa using hi)).toNat ≤ 4611686018427387904 by omega), t1, t2, wrap_nat (show (s.data.toList[i]'(by simpa using hi)).toNat / 16 ≤ 4611686018427387904 by omega),
        figure_ok ((s.data.toList[i]'(by simpa using hi)).toNat / 16) (by omega), figure_ok ((s.data.toList[i]'(by simpa using hi)).toNat % 16) (by omega), Option.bind_some, List.length_cons, List.length_nil, hble]
      rw [wrap_succ (by omega), hexL_take (by simpa using hi)]
      rfl⟩) 0 () (by omega) trivial
  have L : W_spec_Hex_5 (s, [], 0) = some (.inl (hexL s.data.toList)) := L
  simp only [L, Option.bind_some]

def tab : ByteArray := ⟨#[48, 49, 50, 51, 52, 53, 54, 55, 56, 57, 97, 98, 99, 100, 101, 102]⟩
theorem tab_eq : (⟨#[48, 49, 50, 51, 52, 53, 54, 55, 56, 57, 97, 98, 99, 100, 101, 102]⟩ : ByteArray) = tab := rfl
theorem tab_get : ∀ n : Nat, n < 16 → ((tab.data.toList.getD n 0).toNat : Int) = fig n := by decide
theorem tab_size : tab.size = 16 := rfl
theorem tabL : ∀ n : Nat, n < 16 → ((([48, 49, 50, 51, 52, 53, 54, 55, 56, 57, 97, 98, 99, 100, 101, 102] : List UInt8).getD n 0).toNat : Int) = fig n := by decide

theorem Hex_impl (s : ByteArray) : q_impl_Hex s = some (hexY s) := by
  rw [e_impl_Hex]; unfold X_impl_Hex hexY
  by_cases hz : s.size > 20000
  · have : decide ((s.size : Int) > (20000 : Int)) = true := by simp; omega
    rw [this, cond_true, if_pos hz]
  have h0 : decide ((s.size : Int) > (20000 : Int)) = false := by simp; omega
  rw [h0, cond_false, if_neg hz]
  have L := W_nat W_impl_Hex_5 s.size (fun (_ : Unit) i => (s, hexL (s.data.toList.take i.toNat), i)) (fun _ _ => .inl (hexL s.data.toList)) (fun _ _ => True)
    (fun a _ => by
      rw [w_impl_Hex_5]; simp only [S_impl_Hex_5, lt_cast, Nat.lt_irrefl, decide_false, cond_false, Int.toNat_natCast]
      rw [List.take_of_length_le (by simp)])
    (fun i a hi _ => .inr ⟨(), trivial, rfl, by
      have hb : (s.data.toList[i]'(by simpa using hi)).toNat < 256 := UInt8.toNat_lt _
      rw [w_impl_Hex_5]
      have t1 : Int.tdiv (((s.data.toList[i]'(by simpa using hi)).toNat : Nat) : Int) (16 : Int) = (((s.data.toList[i]'(by simpa using hi)).toNat / 16 : Nat) : Int) := tdivN _ 16
      have t2 : Int.tmod (((s.data.toList[i]'(by simpa using hi)).toNat : Nat) : Int) (16 : Int) = (((s.data.toList[i]'(by simpa using hi)).toNat % 16 : Nat) : Int) := tmodN _ 16
      have w2 : IntKind.u8.wrap (((s.data.toList[i]'(by simpa using hi)).toNat / 16 : Nat) : Int) = (((s.data.toList[i]'(by simpa using hi)).toNat / 16 : Nat) : Int) := wrap8 (by omega)
      have hble : Nat.ble ((hexL (s.data.toList.take i)).length + 2) cap40 = true := ble_cap (by rw [hexL_length]; simp; omega)
      simp only [S_impl_Hex_5, tab_eq, tab_size, lt_cast, hi, decide_true, cond_true, gIdx_nat hi, Int.toNat_natCast, byte_get hi, t1, t2, w2, gIdx_nat (show (s.data.toList[i]'(by simpa using hi)).toNat / 16 < 16 by omega), gIdx_nat (show (s.data.toList[i]'(by simpa using hi)).toNat % 16 < 16 by omega),
        tabL ((s.data.toList[i]'(by simpa using hi)).toNat / 16) (by omega), tabL ((s.data.toList[i]'(by simpa using hi)).toNat % 16) (by omega), List.length_cons, List.length_nil, hble]
      rw [wrap_succ (by omega), hexL_take (by simpa using hi)]
      rfl⟩) 0 () (by omega) trivial
  have L : W_impl_Hex_5 (s, [], 0) = some (.inl (hexL s.data.toList)) := L
  simp only [L, Option.bind_some]

/-! ### Pairs in lines -/
def lineOf (p : YPair.den) : ByteArray := p.1 ++ ⟨#[61]⟩ ++ (hexY p.2).1 ++ ⟨#[10]⟩
def linesOf (l : List YPair.den) : ByteArray := l.foldl (fun a p => a ++ lineOf p) ⟨#[]⟩

theorem hexY_size (s : ByteArray) : (hexY s).1.size ≤ 40000 := by
  unfold hexY
  split
  · show 0 ≤ _; omega
  · show (strI _).size ≤ _
    rw [strI_size, hexL_length]
    simp; omega

theorem lineOf_size (p : YPair.den) : (lineOf p).size ≤ p.1.size + 40002 := by
  have := hexY_size p.2
  have e1 : (⟨#[61]⟩ : ByteArray).size = 1 := rfl
  have e2 : (⟨#[10]⟩ : ByteArray).size = 1 := rfl
  unfold lineOf
  simp only [ByteArray.size_append, e1, e2]
  omega

theorem key_size {l : List YPair.den} {i : Nat} (hi : i < l.length) : (l[i]).1.size ≤ (Ty.sl YPair).wt l := by
  have h1 : (Ty.sl YPair).wt l = l.length + (l.map YPair.wt).sum := rfl
  have h2 := wt_mem (f := YPair.wt) (List.getElem_mem hi)
  have h3 : YPair.wt l[i] = (l[i]).1.size + (l[i]).2.size := rfl
  omega

theorem ShowPairs_spec (l : List YPair.den) (hl : (Ty.sl YPair).wt l ≤ 1048576) : q_spec_ShowPairs l = some (linesOf l) := by
  have hn : l.length ≤ 1048576 := by
    have : (Ty.sl YPair).wt l = l.length + (l.map YPair.wt).sum := rfl
    omega
  have L := W_fold W_spec_ShowPairs_3 l (fun a i => (l, a, i)) (fun a p => a ++ lineOf p) (fun a => .inl a) (fun i a => a.size ≤ i * 2000000)
    (fun a _ => by rw [w_spec_ShowPairs_3]; simp only [S_spec_ShowPairs_3, lt_cast, Nat.lt_irrefl, decide_false, cond_false])
    (fun i hi a ha => by
      have hk := key_size hi
      have hh := hexY_size l[i].2
      have e1 : (⟨#[61]⟩ : ByteArray).size = 1 := rfl
      have e2 : (⟨#[10]⟩ : ByteArray).size = 1 := rfl
      have hs := lineOf_size l[i]
      refine ⟨by rw [ByteArray.size_append]; omega, ?_⟩
      rw [w_spec_ShowPairs_3]
      simp only [S_spec_ShowPairs_3, lt_cast, hi, decide_true, cond_true, gIdx_nat hi, Int.toNat_natCast, rdL_get hi, Hex_spec, Option.bind_some, ByteArray.size_append, e1, e2]
      rw [decide_eq_true (show a.size + (l[i]).1.size ≤ 140737488355328 by omega), decide_eq_true (show a.size + (l[i]).1.size + 1 ≤ 140737488355328 by omega), decide_eq_true (show a.size + (l[i]).1.size + 1 + (hexY (l[i]).2).1.size ≤ 140737488355328 by omega), decide_eq_true (show a.size + (l[i]).1.size + 1 + (hexY (l[i]).2).1.size + 1 ≤ 140737488355328 by omega)]
      simp only [cond_true]
      rw [wrap_succ (by omega)]
      simp only [lineOf, ByteArray.append_assoc]) ⟨#[]⟩ (by show 0 ≤ _; omega)
  rw [e_spec_ShowPairs]; unfold X_spec_ShowPairs
  simp only [L, Option.bind_some]
  rfl

theorem ShowPairs_impl (l : List YPair.den) (hl : (Ty.sl YPair).wt l ≤ 1048576) : q_impl_ShowPairs l = some (linesOf l) := by
  have hn : l.length ≤ 1048576 := by
    have : (Ty.sl YPair).wt l = l.length + (l.map YPair.wt).sum := rfl
    omega
  have L := W_fold W_impl_ShowPairs_3 l (fun a i => (a, l, (l.length : Int), i)) (fun a p => a ++ lineOf p) (fun a => .inl a) (fun i a => a.size ≤ i * 2000000)
    (fun a _ => by rw [w_impl_ShowPairs_3]; simp only [S_impl_ShowPairs_3, lt_cast, Nat.lt_irrefl, decide_false, cond_false])
    (fun i hi a ha => by
      have hk := key_size hi
      have hh := hexY_size l[i].2
      have e1 : (⟨#[61]⟩ : ByteArray).size = 1 := rfl
      have e2 : (⟨#[10]⟩ : ByteArray).size = 1 := rfl
      have hs := lineOf_size l[i]
      refine ⟨by rw [ByteArray.size_append]; omega, ?_⟩
      rw [w_impl_ShowPairs_3]
      simp only [S_impl_ShowPairs_3, lt_cast, hi, decide_true, cond_true, gIdx_nat hi, Int.toNat_natCast, rdL_get hi, Hex_impl, Option.bind_some, ByteArray.size_append, e1, e2]
      rw [decide_eq_true (show (l[i]).1.size + 1 ≤ 140737488355328 by omega), decide_eq_true (show (l[i]).1.size + 1 + (hexY (l[i]).2).1.size ≤ 140737488355328 by omega), decide_eq_true (show (l[i]).1.size + 1 + (hexY (l[i]).2).1.size + 1 ≤ 140737488355328 by omega), decide_eq_true (show a.size + ((l[i]).1.size + 1 + (hexY (l[i]).2).1.size + 1) ≤ 140737488355328 by omega)]
      simp only [cond_true]
      rw [wrap_succ (by omega)]
      rfl) ⟨#[]⟩ (by show 0 ≤ _; omega)
  rw [e_impl_ShowPairs]; unfold X_impl_ShowPairs
  simp only [L, Option.bind_some]
  rfl

end Go.Proofs.Ytoafakkbmnnimaa.Ab
