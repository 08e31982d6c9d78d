import Derived.Test.YtoafakkbmnnimaaAbF4
import Derived.KernelRfl
import Derived.Test.YtoafakkbmnnimaaProg
namespace Go.Proofs.Ytoafakkbmnnimaa.Ab
open Go
set_option linter.unusedVariables false
set_option linter.unusedSimpArgs false
set_option linter.unnecessarySimpa false
set_option linter.unusedVariables false
abbrev Y0 : Ty := (.pair .str (.sl (.int .i64)))
abbrev Y1 : Ty := (.pair .str Y0)
abbrev Y2 : Ty := (.pair (.int .i64) Y1)
abbrev Y3 : Ty := (.pair (.int .i64) Y2)
def tabs : Tabs where
  ty := [(3, (.int .i64)), (4, .bool), (9, .str), (22, (.sl (.int .i64))), (27, Y3)]
  lay := [(3, 1, false), (9, 1, false), (22, 1, false), (24, 5, true), (27, 5, true)]
  fld := [(24, [(0, 1, false), (1, 1, false), (2, 1, false), (3, 1, false), (4, 1, false)]), (27, [(0, 1, false), (1, 1, false), (2, 1, false), (3, 1, false), (4, 1, false)])]
def sigOf : Nat → Sig
  | 60 => { ins := (.pair (.tr false (.int .i64)) (.int .i64)), inout := [], out := (.int .i64), nres := 1 }
  | 12 => { ins := (.pair (.agg (.pair (.int .i64) (.pair (.int .i64) (.pair .str (.pair .str (.tr false (.int .i64))))))) (.int .i64)), inout := [], out := (.int .i64), nres := 1 }
  | 62 => { ins := (.tr false (.int .i64)), inout := [], out := (.own true (.int .i64)), nres := 1 }
  | 14 => { ins := (.agg (.pair (.int .i64) (.pair (.int .i64) (.pair .str (.pair .str (.tr false (.int .i64))))))), inout := [], out := (.agg (.pair (.int .i64) (.pair (.int .i64) (.pair .str (.pair .str (.own true (.int .i64))))))), nres := 1 }
  | 61 => { ins := (.pair (.int .i64) (.pair (.int .i64) (.int .i64))), inout := [], out := .bool, nres := 1 }
  | 13 => { ins := (.agg (.pair (.int .i64) (.pair (.int .i64) (.pair .str (.pair .str (.tr false (.int .i64))))))), inout := [], out := .bool, nres := 1 }
  | 63 => { ins := (.pair (.int .i64) (.pair (.int .i64) (.int .i64))), inout := [], out := .bool, nres := 1 }
  | 15 => { ins := (.agg (.pair (.int .i64) (.pair (.int .i64) (.pair .str (.pair .str (.tr false (.int .i64))))))), inout := [], out := .bool, nres := 1 }
  | 55 => { ins := (.pair (.tr false (.int .i64)) (.tr false (.int .i64))), inout := [], out := .bool, nres := 1 }
  | 16 => { ins := (.pair (.agg (.pair (.int .i64) (.pair (.int .i64) (.pair .str (.pair .str (.tr false (.int .i64))))))) (.agg (.pair (.int .i64) (.pair (.int .i64) (.pair .str (.pair .str (.tr false (.int .i64)))))))), inout := [], out := .bool, nres := 1 }
  | 3 => { ins := (.agg (.pair (.int .i64) (.pair (.int .i64) (.pair .str (.pair .str (.tr false (.int .i64))))))), inout := [], out := .bool, nres := 1 }
  | _ => { ins := .unit, inout := [], out := .unit, nres := 0 }
def joinOf : Nat → Nat → Option Join
  | 61, 3 => some { ts := [6], sh := .bool }
  | 13, 3 => some { ts := [29], sh := .bool }
  | 13, 7 => some { ts := [2], sh := .bool }
  | 63, 3 => some { ts := [6], sh := .bool }
  | 15, 3 => some { ts := [2], sh := .bool }
  | _, _ => none
def loopOf : Nat → Nat → Option LoopA
  | 62, 3 => some { head := { ts := [0, 3, 4], sh := (.pair (.tr false (.int .i64)) (.pair (.own true (.int .i64)) (.int .i64))) }, exid := 0, out := { ts := [3], sh := (.own true (.int .i64)) }, ret := { ts := [], sh := .unit } }
  | 55, 4 => some { head := { ts := [0, 1, 5], sh := (.pair (.tr false (.int .i64)) (.pair (.tr false (.int .i64)) (.int .i64))) }, exid := 0, out := { ts := [], sh := .unit }, ret := { ts := [4], sh := .bool } }
  | _, _ => none
def A : Ann := ann tabs ⟨sigOf, joinOf, loopOf⟩
set_option maxRecDepth 100000
/-- laws.szIntS -/
noncomputable def q60 (k : Nat) (x : ((List Int) × Int)) : Option Int := (lvl Try.prog A k).call 60 x
noncomputable def X60 (k : Nat) (x : ((List Int) × Int)) : Option Int := (bif (decide ((IntKind.i64.wrap (x.2 - (x.1.length : Int))) < (0 : Int))) then (some (-1 : Int)) else (some (IntKind.i64.wrap (x.2 - (x.1.length : Int)))))
theorem b60 (k : Nat) (x : ((List Int) × Int)) : body A (lvl Try.prog A k) k 60 Try.f60 x = X60 k x := by kernel_rfl
theorem e60 : ∀ (k : Nat) (x : ((List Int) × Int)), q60 (k + 1) x = X60 k x := call_of (P := Try.prog) (A := A) (f := 60) (fn := Try.f60) (X := X60) rfl Try.func60 b60
/-- laws.szEvent -/
noncomputable def q12 (k : Nat) (x : ((Int × (Int × (ByteArray × (ByteArray × (List Int))))) × Int)) : Option Int := (lvl Try.prog A k).call 12 x
noncomputable def X12 (k : Nat) (x : ((Int × (Int × (ByteArray × (ByteArray × (List Int))))) × Int)) : Option Int := (bif (decide ((IntKind.i64.wrap (x.2 - (x.1.2.2.1.size : Int))) < (0 : Int))) then (some (-1 : Int)) else (bif (decide ((IntKind.i64.wrap ((IntKind.i64.wrap (x.2 - (x.1.2.2.1.size : Int))) - (x.1.2.2.2.1.size : Int))) < (0 : Int))) then (some (-1 : Int)) else ((q60 k (x.1.2.2.2.2, (IntKind.i64.wrap ((IntKind.i64.wrap (x.2 - (x.1.2.2.1.size : Int))) - (x.1.2.2.2.1.size : Int))))).bind fun (y1 : Int) => (bif (decide (y1 < (0 : Int))) then (some (-1 : Int)) else (some y1)))))
theorem b12 (k : Nat) (x : ((Int × (Int × (ByteArray × (ByteArray × (List Int))))) × Int)) : body A (lvl Try.prog A k) k 12 Try.f12 x = X12 k x := by kernel_rfl
theorem e12 : ∀ (k : Nat) (x : ((Int × (Int × (ByteArray × (ByteArray × (List Int))))) × Int)), q12 (k + 1) x = X12 k x := call_of (P := Try.prog) (A := A) (f := 12) (fn := Try.f12) (X := X12) rfl Try.func12 b12
/-- laws.toIntS -/
noncomputable def q62 (k : Nat) (x : (List Int)) : Option (List Int) := (lvl Try.prog A k).call 62 x
noncomputable def L62_3 (k : Nat) : Nat → ((List Int) × ((List Int) × Int)) → Option ((List Int) ⊕ Unit) := loopN fun again x => (bif (decide (x.2.2 < (x.1.length : Int))) then (bif (gIdx x.2.2 x.1.length) then (bif (gIdx x.2.2 x.2.1.length) then (again (x.1, ((x.2.1.set (x.2.2).toNat (rdL (Ty.int .i64) x.1 (x.2.2).toNat)), (IntKind.i64.wrap (x.2.2 + (1 : Int)))))) else none) else none) else (some (.inl x.2.1)))
noncomputable def X62 (k : Nat) (x : (List Int)) : Option (List Int) := (bif (decide (0 ≤ (x.length : Int)) && decide ((x.length : Int) ≤ 1099511627776)) then ((L62_3 k k (x, ((List.replicate ((x.length : Int)).toNat ((Ty.int .i64)).zero), (0 : Int)))).bind fun r1 => match r1 with | .inl o2 => (some o2) | .inr z3 => none) else none)
theorem b62 (k : Nat) (x : (List Int)) : body A (lvl Try.prog A k) k 62 Try.f62 x = X62 k x := by kernel_rfl
theorem e62 : ∀ (k : Nat) (x : (List Int)), q62 (k + 1) x = X62 k x := call_of (P := Try.prog) (A := A) (f := 62) (fn := Try.f62) (X := X62) rfl Try.func62 b62
/-- laws.toEvent -/
noncomputable def q14 (k : Nat) (x : (Int × (Int × (ByteArray × (ByteArray × (List Int)))))) : Option (Int × (Int × (ByteArray × (ByteArray × (List Int))))) := (lvl Try.prog A k).call 14 x
noncomputable def X14 (k : Nat) (x : (Int × (Int × (ByteArray × (ByteArray × (List Int)))))) : Option (Int × (Int × (ByteArray × (ByteArray × (List Int))))) := ((q62 k x.2.2.2.2).bind fun (y1 : (List Int)) => (some (x.1, (x.2.1, (x.2.2.1, (x.2.2.2.1, y1))))))
theorem b14 (k : Nat) (x : (Int × (Int × (ByteArray × (ByteArray × (List Int)))))) : body A (lvl Try.prog A k) k 14 Try.f14 x = X14 k x := by kernel_rfl
theorem e14 : ∀ (k : Nat) (x : (Int × (Int × (ByteArray × (ByteArray × (List Int)))))), q14 (k + 1) x = X14 k x := call_of (P := Try.prog) (A := A) (f := 14) (fn := Try.f14) (X := X14) rfl Try.func14 b14
/-- spec.l01In -/
noncomputable def q61 (k : Nat) (x : (Int × (Int × Int))) : Option Bool := (lvl Try.prog A k).call 61 x
noncomputable def X61 (k : Nat) (x : (Int × (Int × Int))) : Option Bool := (((bif (decide (x.1 ≥ x.2.1)) then (some (decide (x.1 ≤ x.2.2))) else (some false)) : Option Bool).bind fun j1 => (some j1))
theorem b61 (k : Nat) (x : (Int × (Int × Int))) : body A (lvl Try.prog A k) k 61 Try.f61 x = X61 k x := by kernel_rfl
theorem e61 : ∀ (k : Nat) (x : (Int × (Int × Int))), q61 (k + 1) x = X61 k x := call_of (P := Try.prog) (A := A) (f := 61) (fn := Try.f61) (X := X61) rfl Try.func61 b61
/-- spec.EventOk -/
noncomputable def q13 (k : Nat) (x : (Int × (Int × (ByteArray × (ByteArray × (List Int)))))) : Option Bool := (lvl Try.prog A k).call 13 x
noncomputable def X13 (k : Nat) (x : (Int × (Int × (ByteArray × (ByteArray × (List Int)))))) : Option Bool := ((((q61 k (x.1, ((1 : Int), (12 : Int)))).bind fun (y1 : Bool) => (bif (!y1) then (some true) else (bif (decide (x.2.1 < (0 : Int))) then (some true) else (bif (decide ((x.2.2.1.size : Int) > (6 : Int))) then (some true) else (bif (decide ((x.2.2.2.1.size : Int) > (20 : Int))) then (some true) else (some (decide ((x.2.2.2.2.length : Int) > (10 : Int))))))))) : Option Bool).bind fun j2 => (bif j2 then (some false) else (((bif (decide (x.1 = (12 : Int))) then (some true) else (some (decide ((x.2.2.2.2.length : Int) = (0 : Int))))) : Option Bool).bind fun j3 => (some j3))))
theorem b13 (k : Nat) (x : (Int × (Int × (ByteArray × (ByteArray × (List Int)))))) : body A (lvl Try.prog A k) k 13 Try.f13 x = X13 k x := by kernel_rfl
theorem e13 : ∀ (k : Nat) (x : (Int × (Int × (ByteArray × (ByteArray × (List Int)))))), q13 (k + 1) x = X13 k x := call_of (P := Try.prog) (A := A) (f := 13) (fn := Try.f13) (X := X13) rfl Try.func13 b13
/-- impl.within -/
noncomputable def q63 (k : Nat) (x : (Int × (Int × Int))) : Option Bool := (lvl Try.prog A k).call 63 x
noncomputable def X63 (k : Nat) (x : (Int × (Int × Int))) : Option Bool := (((bif (decide (x.1 ≥ x.2.1)) then (some (decide (x.1 ≤ x.2.2))) else (some false)) : Option Bool).bind fun j1 => (some j1))
theorem b63 (k : Nat) (x : (Int × (Int × Int))) : body A (lvl Try.prog A k) k 63 Try.f63 x = X63 k x := by kernel_rfl
theorem e63 : ∀ (k : Nat) (x : (Int × (Int × Int))), q63 (k + 1) x = X63 k x := call_of (P := Try.prog) (A := A) (f := 63) (fn := Try.f63) (X := X63) rfl Try.func63 b63
/-- impl.EventOk -/
noncomputable def q15 (k : Nat) (x : (Int × (Int × (ByteArray × (ByteArray × (List Int)))))) : Option Bool := (lvl Try.prog A k).call 15 x
noncomputable def X15 (k : Nat) (x : (Int × (Int × (ByteArray × (ByteArray × (List Int)))))) : Option Bool := ((((q63 k (x.1, ((1 : Int), (12 : Int)))).bind fun (y1 : Bool) => (bif y1 then (bif (decide (x.2.1 ≥ (0 : Int))) then (bif (decide ((x.2.2.1.size : Int) ≤ (6 : Int))) then (bif (decide ((x.2.2.2.1.size : Int) ≤ (20 : Int))) then (bif (decide ((x.2.2.2.2.length : Int) ≤ (10 : Int))) then (bif (decide (x.1 = (12 : Int))) then (some true) else (some (decide ((x.2.2.2.2.length : Int) = (0 : Int))))) else (some false)) else (some false)) else (some false)) else (some false)) else (some false))) : Option Bool).bind fun j2 => (some j2))
theorem b15 (k : Nat) (x : (Int × (Int × (ByteArray × (ByteArray × (List Int)))))) : body A (lvl Try.prog A k) k 15 Try.f15 x = X15 k x := by kernel_rfl
theorem e15 : ∀ (k : Nat) (x : (Int × (Int × (ByteArray × (ByteArray × (List Int)))))), q15 (k + 1) x = X15 k x := call_of (P := Try.prog) (A := A) (f := 15) (fn := Try.f15) (X := X15) rfl Try.func15 b15
/-- laws.eqIntS -/
noncomputable def q55 (k : Nat) (x : ((List Int) × (List Int))) : Option Bool := (lvl Try.prog A k).call 55 x
noncomputable def L55_4 (k : Nat) : Nat → ((List Int) × ((List Int) × Int)) → Option (Unit ⊕ Bool) := loopN fun again x => (bif (decide (x.2.2 < (x.1.length : Int))) then (bif (gIdx x.2.2 x.1.length) then (bif (gIdx x.2.2 x.2.1.length) then (bif (!decide ((rdL (Ty.int .i64) x.1 (x.2.2).toNat) = (rdL (Ty.int .i64) x.2.1 (x.2.2).toNat))) then (some (.inr false)) else (again (x.1, (x.2.1, (IntKind.i64.wrap (x.2.2 + (1 : Int))))))) else none) else none) else (some (.inl ())))
noncomputable def X55 (k : Nat) (x : ((List Int) × (List Int))) : Option Bool := (bif (!decide ((x.1.length : Int) = (x.2.length : Int))) then (some false) else ((L55_4 k k (x.1, (x.2, (0 : Int)))).bind fun r1 => match r1 with | .inl o2 => (some true) | .inr z3 => (some z3)))
theorem b55 (k : Nat) (x : ((List Int) × (List Int))) : body A (lvl Try.prog A k) k 55 Try.f55 x = X55 k x := by kernel_rfl
theorem e55 : ∀ (k : Nat) (x : ((List Int) × (List Int))), q55 (k + 1) x = X55 k x := call_of (P := Try.prog) (A := A) (f := 55) (fn := Try.f55) (X := X55) rfl Try.func55 b55
/-- laws.eqEvent -/
noncomputable def q16 (k : Nat) (x : ((Int × (Int × (ByteArray × (ByteArray × (List Int))))) × (Int × (Int × (ByteArray × (ByteArray × (List Int))))))) : Option Bool := (lvl Try.prog A k).call 16 x
noncomputable def X16 (k : Nat) (x : ((Int × (Int × (ByteArray × (ByteArray × (List Int))))) × (Int × (Int × (ByteArray × (ByteArray × (List Int))))))) : Option Bool := (bif (!decide (x.1.1 = x.2.1)) then (some false) else (bif (!decide (x.1.2.1 = x.2.2.1)) then (some false) else (bif (!strEq x.1.2.2.1 x.2.2.2.1) then (some false) else (bif (!strEq x.1.2.2.2.1 x.2.2.2.2.1) then (some false) else ((q55 k (x.1.2.2.2.2, x.2.2.2.2.2)).bind fun (y1 : Bool) => (bif (!y1) then (some false) else (some true)))))))
theorem b16 (k : Nat) (x : ((Int × (Int × (ByteArray × (ByteArray × (List Int))))) × (Int × (Int × (ByteArray × (ByteArray × (List Int))))))) : body A (lvl Try.prog A k) k 16 Try.f16 x = X16 k x := by kernel_rfl
theorem e16 : ∀ (k : Nat) (x : ((Int × (Int × (ByteArray × (ByteArray × (List Int))))) × (Int × (Int × (ByteArray × (ByteArray × (List Int))))))), q16 (k + 1) x = X16 k x := call_of (P := Try.prog) (A := A) (f := 16) (fn := Try.f16) (X := X16) rfl Try.func16 b16
/-- laws.FnExactEventOk -/
noncomputable def q3 (k : Nat) (x : (Int × (Int × (ByteArray × (ByteArray × (List Int)))))) : Option Bool := (lvl Try.prog A k).call 3 x
noncomputable def X3 (k : Nat) (x : (Int × (Int × (ByteArray × (ByteArray × (List Int)))))) : Option Bool := ((q12 k (x, (1048576 : Int))).bind fun (y1 : Int) => (bif (decide (y1 < (0 : Int))) then (some true) else ((q14 k x).bind fun (y2 : (Int × (Int × (ByteArray × (ByteArray × (List Int)))))) => ((q13 k y2).bind fun (y3 : Bool) => ((q14 k x).bind fun (y4 : (Int × (Int × (ByteArray × (ByteArray × (List Int)))))) => ((q15 k y4).bind fun (y5 : Bool) => (bif (!(y5 == y3)) then (some false) else ((q14 k x).bind fun (y6 : (Int × (Int × (ByteArray × (ByteArray × (List Int)))))) => ((q16 k (y4, y6)).bind fun (y7 : Bool) => (bif (!y7) then (some false) else (some true)))))))))))
theorem b3 (k : Nat) (x : (Int × (Int × (ByteArray × (ByteArray × (List Int)))))) : body A (lvl Try.prog A k) k 3 Try.f3 x = X3 k x := by kernel_rfl
theorem e3 : ∀ (k : Nat) (x : (Int × (Int × (ByteArray × (ByteArray × (List Int)))))), q3 (k + 1) x = X3 k x := call_of (P := Try.prog) (A := A) (f := 3) (fn := Try.f3) (X := X3) rfl Try.func3 b3
end Go.Proofs.Ytoafakkbmnnimaa.Ab
