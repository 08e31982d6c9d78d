import Derived.Test.YthhpkgegmfjdmaaGreatAbQ0
namespace Go.Proofs.YthhpkgegmfjdmaaGreat.Ab
open Go
set_option linter.unusedVariables false
set_option linter.unusedSimpArgs false
set_option linter.unnecessarySimpa false
set_option linter.unusedSimpArgs false
set_option linter.unusedVariables false

def big40 : Nat := 1099511627776

theorem fill_end {α : Type} {l : List α} {z : α} {g : α → α} : (l.map g).take l.length ++ List.replicate (l.length - l.length) z = l.map g := by
  have h2 : (l.map g).take l.length = l.map g := List.take_of_length_le (by simp)
  simp [h2]

theorem fill_step' {α β : Type} {l : List α} {z : β} {i : Nat} {f : α → β} (h : i < l.length) :
    ((l.map f).take i ++ List.replicate (l.length - i) z).set i (f l[i]) = (l.map f).take (i + 1) ++ List.replicate (l.length - (i + 1)) z := by
  have h1 : ((l.map f).take i).length = i := by simp; omega
  rw [List.set_append_right _ _ (by omega), h1, Nat.sub_self]
  have : l.length - i = (l.length - (i + 1)) + 1 := by omega
  rw [this, List.replicate_succ, List.set_cons_zero, List.take_add_one]
  simp [h]

theorem fill_len {α β : Type} {l : List α} {z : β} {i : Nat} {f : α → β} (h : i ≤ l.length) : ((l.map f).take i ++ List.replicate (l.length - i) z).length = l.length := by
  simp; omega

/-- A row copied one by one, each through a call. -/
theorem Q.copy {T T' : Ty} {S : Type} {q : T.den → Option T'.den} {g : T.den → T'.den} {W : List T.den × List T'.den × Int → Option (List T'.den ⊕ S)}
    (hW : ∀ x, W x = (bif (decide (x.2.2 < (x.1.length : Int))) then (bif (gIdx x.2.2 x.1.length) then ((q (rdL T x.1 (x.2.2).toNat)).bind fun (y1 : T'.den) =>
      (bif (gIdx x.2.2 x.2.1.length) then (W (x.1, ((x.2.1.set (x.2.2).toNat y1), (IntKind.i64.wrap (x.2.2 + (1 : Int)))))) else none)) else none) else (some (.inl x.2.1))))
    (l : List T.den) (hl : l.length ≤ 1099511627776) (hq : ∀ x ∈ l, q x = some (g x)) (z : T'.den) : W (l, (List.replicate ((l.length : Int)).toNat z, (0 : Int))) = some (.inl (l.map g)) := by
  have := W_nat W l.length (fun (_ : Unit) i => (l, (l.map g).take i.toNat ++ List.replicate (l.length - i.toNat) z, i)) (fun _ _ => .inl (l.map g)) (fun _ _ => True)
    (fun a _ => by
      rw [hW]
      simp only [lt_cast, Nat.lt_irrefl, decide_false, cond_false, Int.toNat_natCast]
      have h2 : (l.map g).take l.length = l.map g := List.take_of_length_le (by simp)
      simp [h2])
    (fun i a h _ => .inr ⟨(), trivial, rfl, by
      rw [hW]
      have h2 : gIdx (i : Int) ((l.map g).take i ++ List.replicate (l.length - i) z).length = true := gIdx_nat (by simp; omega)
      simp only [lt_cast, h, decide_true, cond_true, gIdx_nat h, Int.toNat_natCast, rdL_get h, hq _ (List.getElem_mem h), Option.bind_some, h2]
      rw [wrap_succ (by omega), fill_step' h]⟩) 0 () (by omega) trivial
  simpa using this

/-- A row copied one by one, as it is. -/
theorem Q.copy0 {T : Ty} {S : Type} {W : List T.den × List T.den × Int → Option (List T.den ⊕ S)}
    (hW : ∀ x, W x = (bif (decide (x.2.2 < (x.1.length : Int))) then (bif (gIdx x.2.2 x.1.length) then (bif (gIdx x.2.2 x.2.1.length) then (W (x.1, ((x.2.1.set (x.2.2).toNat (rdL T x.1 (x.2.2).toNat)), (IntKind.i64.wrap (x.2.2 + (1 : Int)))))) else none) else none) else (some (.inl x.2.1))))
    (l : List T.den) (hl : l.length ≤ 1099511627776) (z : T.den) : W (l, (List.replicate ((l.length : Int)).toNat z, (0 : Int))) = some (.inl l) := by
  have := Q.copy (W := W) (q := fun x => some x) (g := fun x => x) (fun x => hW x) l hl (fun _ _ => rfl) z
  simpa using this

/-- A row held against itself. -/
theorem Q.same {T : Ty} {S : Type} {q : T.den × T.den → Option Bool} {W : List T.den × List T.den × Int → Option (Unit ⊕ Bool)}
    (hW : ∀ x, W x = (bif (decide (x.2.2 < (x.1.length : Int))) then (bif (gIdx x.2.2 x.1.length) then (bif (gIdx x.2.2 x.2.1.length) then
      ((q ((rdL T x.1 (x.2.2).toNat), (rdL T x.2.1 (x.2.2).toNat))).bind fun (y1 : Bool) => (bif (!y1) then (some (.inr false)) else (W (x.1, (x.2.1, (IntKind.i64.wrap (x.2.2 + (1 : Int)))))))) else none) else none) else (some (.inl ()))))
    (l : List T.den) (hl : l.length ≤ 1099511627776) (hq : ∀ x ∈ l, q (x, x) = some true) : W (l, (l, (0 : Int))) = some (.inl ()) :=
  W_nat W l.length (fun (_ : Unit) i => (l, l, i)) (fun _ _ => .inl ()) (fun _ _ => True)
    (fun a _ => by
      rw [hW]
      simp only [lt_cast, Nat.lt_irrefl, decide_false, cond_false])
    (fun i a h _ => .inr ⟨(), trivial, rfl, by
      rw [hW]
      simp only [lt_cast, h, decide_true, cond_true, gIdx_nat h, Int.toNat_natCast, rdL_get h, hq _ (List.getElem_mem h), Option.bind_some, Bool.not_true, cond_false]
      rw [wrap_succ (by omega)]⟩) 0 () (by omega) trivial

/-- A row measured. -/
theorem Q.size {T : Ty} {q : T.den × Int → Option Int} {W : List T.den × Int × Int → Option (Int ⊕ Int)}
    (hW : ∀ x, W x = (bif (decide (x.2.2 < (x.1.length : Int))) then (bif (gIdx x.2.2 x.1.length) then ((q ((rdL T x.1 (x.2.2).toNat), x.2.1)).bind fun (y1 : Int) =>
      (bif (decide (y1 < (0 : Int))) then (some (.inr (-1 : Int))) else (W (x.1, (y1, (IntKind.i64.wrap (x.2.2 + (1 : Int)))))))) else none) else (some (.inl x.2.1))))
    (l : List T.den) (hl : l.length ≤ 1099511627776) (hq : ∀ x ∈ l, ∀ c : Int, 0 ≤ c → c ≤ 1048576 → ∃ y, q (x, c) = some y ∧ if (T.wt x : Int) ≤ c then y = c - T.wt x else y < 0) (b : Int) (hb : 0 ≤ b) (hb2 : b ≤ 1048576) :
    ((W (l, (b, (0 : Int)))).bind fun r => match r with
      | .inl o => some o
      | .inr z => some z) = some (szr b (l.map T.wt).sum) := by
  have key := W_nat W l.length (fun (c : Int) i => (l, c, i)) (fun i c => if (((l.drop i).map T.wt).sum : Int) ≤ c then .inl (c - ((l.drop i).map T.wt).sum) else .inr (-1)) (fun _ c => 0 ≤ c ∧ c ≤ 1048576)
    (fun c hc => by
      rw [hW]
      simp only [lt_cast, Nat.lt_irrefl, decide_false, cond_false, List.drop_length, List.map_nil, List.sum_nil]
      rw [if_pos (by simpa using hc.1)]
      simp)
    (fun i c h hc => by
      have hd : l.drop i = l[i] :: l.drop (i + 1) := List.drop_eq_getElem_cons h
      obtain ⟨y, hy, hy2⟩ := hq _ (List.getElem_mem h) c hc.1 hc.2
      rw [hW, hd]
      simp only [lt_cast, h, decide_true, cond_true, gIdx_nat h, Int.toNat_natCast, rdL_get h, hy, Option.bind_some, List.map_cons, List.sum_cons]
      by_cases hw : (T.wt l[i] : Int) ≤ c
      · right
        rw [if_pos hw] at hy2
        subst hy2
        refine ⟨c - T.wt l[i], ⟨by omega, by omega⟩, ?_, ?_⟩
        · by_cases h2 : (((l.drop (i + 1)).map T.wt).sum : Int) ≤ c - T.wt l[i]
          · rw [if_pos h2, if_pos (by omega)]; congr 1; omega
          · rw [if_neg h2, if_neg (by omega)]
        · have : decide (c - (T.wt l[i] : Int) < 0) = false := by simp; omega
          rw [this, cond_false, wrap_succ (by omega)]
      · left
        rw [if_neg hw] at hy2
        have : decide (y < 0) = true := by simp; omega
        rw [this, if_neg (by omega)]
        rfl) 0 b (by omega) ⟨hb, hb2⟩
  have key : W (l, b, 0) = _ := key
  rw [key]
  simp only [List.drop_zero, Option.bind_some]
  unfold szr
  by_cases h : ((l.map T.wt).sum : Int) ≤ b
  · rw [if_pos h, if_pos h]
  · rw [if_neg h, if_neg h]

theorem szr_str {b : Int} {v w : Nat} {K : Option Int} (hK : (v : Int) ≤ b → K = some (szr (b - v) w)) : (bif decide (b - (v : Int) < 0) then some (-1) else K) = some (szr b (v + w)) := by
  by_cases h : (v : Int) ≤ b
  · have : decide (b - (v : Int) < 0) = false := by simp; omega
    rw [this, cond_false, hK h, szr_add h]
  · have : decide (b - (v : Int) < 0) = true := by simp; omega
    rw [this, szr_no (b := b) (w := v + w) (by omega)]
    rfl

theorem szr_spec {b : Int} {w : Nat} : if (w : Int) ≤ b then szr b w = b - w else szr b w < 0 := by
  unfold szr
  split <;> rename_i h <;> simp [h]

/-- A law's guard. -/
theorem szr_law {b : Int} {w : Nat} {F : Option Int} {K : Int → Option Bool} (hF : F = some (szr b w)) (hK : (w : Int) ≤ b → K (b - w) = some true) :
    (F.bind fun y => bif decide (y < 0) then some true else K y) = some true := by
  subst hF
  by_cases h : (w : Int) ≤ b
  · rw [szr_ok h]
    have : decide (b - (w : Int) < 0) = false := by simp; omega
    simp only [Option.bind_some, this, cond_false]
    exact hK h
  · rw [szr_no h]
    rfl

theorem len_law {s : ByteArray} {K : Option Bool} (hK : s.size ≤ 1048576 → K = some true) : (bif decide ((s.size : Int) > (1048576 : Int)) then some true else K) = some true := by
  by_cases h : s.size ≤ 1048576
  · have : decide ((s.size : Int) > (1048576 : Int)) = false := by simp; omega
    rw [this, cond_false, hK h]
  · have : decide ((s.size : Int) > (1048576 : Int)) = true := by simp; omega
    rw [this, cond_true]

theorem len_law_l {T : Type} {s : List T} {K : Option Bool} (hK : s.length ≤ 1048576 → K = some true) : (bif decide ((s.length : Int) > (1048576 : Int)) then some true else K) = some true := by
  by_cases h : s.length ≤ 1048576
  · have : decide ((s.length : Int) > (1048576 : Int)) = false := by simp; omega
    rw [this, cond_false, hK h]
  · have : decide ((s.length : Int) > (1048576 : Int)) = true := by simp; omega
    rw [this, cond_true]

theorem wt_mem {α : Type} {f : α → Nat} {l : List α} {x : α} (h : x ∈ l) : f x ≤ (l.map f).sum := by
  induction l with
  | nil => cases h
  | cons y l ih =>
    simp only [List.map_cons, List.sum_cons]
    rcases List.mem_cons.mp h with rfl | h
    · omega
    · have := ih h; omega

theorem sum_filter_le {α : Type} {f : α → Nat} {p : α → Bool} {l : List α} : ((l.filter p).map f).sum ≤ (l.map f).sum := by
  induction l with
  | nil => simp
  | cons x l ih =>
    rw [List.filter_cons]
    split <;> simp only [List.map_cons, List.sum_cons] <;> omega

theorem fine_mem {T : Ty} {l : List T.den} (h : (Ty.sl T).fine l) {x : T.den} (hx : x ∈ l) : T.fine x := by
  obtain ⟨i, hi, rfl⟩ := List.getElem_of_mem hx
  exact h.2 i hi

abbrev YRange : Ty := (.pair .str .str)
abbrev YWrite : Ty := (.pair .str (.pair .str .bool))
abbrev YVersion : Ty := (.pair .str (.pair .str (.pair .bool (.int .i64))))
abbrev YPair : Ty := (.pair .str .str)
abbrev YCell : Ty := (.pair .str .str)
abbrev YPut : Ty := (.pair (.int .i64) .str)
abbrev YDisk : Ty := (.pair (.sl .str) (.sl YPut))
abbrev YTxn : Ty := (.pair (.int .i64) (.pair (.int .i64) (.pair (.int .i64) (.pair (.int .i64) (.pair (.sl YRange) (.pair (.sl YWrite) (.pair .bool .str)))))))
abbrev YBase : Ty := (.pair (.sl YVersion) (.pair (.sl YTxn) (.pair (.sl YTxn) (.pair (.int .i64) (.int .i64)))))
abbrev YRecord : Ty := (.pair (.int .i64) (.pair YTxn (.pair .str (.pair .bool YBase))))
abbrev YEngine : Ty := (.pair YBase (.sl YTxn))
abbrev YStore : Ty := (.pair YEngine YDisk)
abbrev YEvent : Ty := (.pair (.int .i64) (.pair (.int .i64) (.pair .str (.pair .str (.sl (.int .i64))))))
abbrev YWorld : Ty := (.pair YStore (.pair (.sl YTxn) (.pair (.sl (.int .i64)) (.sl .str))))

end Go.Proofs.YthhpkgegmfjdmaaGreat.Ab
