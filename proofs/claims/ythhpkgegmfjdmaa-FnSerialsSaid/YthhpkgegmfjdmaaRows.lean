/-
  No cell of these rows narrows 'for every input' (looked for: loops, veiled, ifaces, maps, wideKeys, modest, calm, conditions, laid).
  DERIVED. THE GIVEN ROWS OF THIS SEAT. 10 by the template 'for every input the law returns true; each argument reads behind the call as it read before'; 0 by the template 'total and deterministic' (their statements: YthhpkgegmfjdmaaTotals.lean).
  GIVEN WITH THE SEED: the statements are not yours to turn. If you find one false, say at which input.
  Laid BY PROGRAM, IN A SANDBOX (cutbox-rows.mjs): the forced cells as the released guide's own fill.sh prints them over the translation 170066ad5659776a… (all of the seat's roots in one cut). By AI agents, Wed Nov 11 2026. No macro, syntax, notation, axiom, sorry.
-/
import Derived.Test.YthhpkgegmfjdmaaChecked
import GoSem.Claim
import GoSem.ClaimJoined
import GoSem.ClaimMapViews
import Derived.JoinedTies
import Derived.KernelRfl
namespace Go.Proofs.Ythhpkgegmfjdmaa
/- THE CELL 'sum', in the pinned program and in every row, IS THE sha256 OF THE DUMP (.gsa) THAT YthhpkgegmfjdmaaProg.lean LOADS. Nothing in Lean hashes anything: it is a label: what it is worth is what the hold of that sum in a sandbox is worth. -/
noncomputable def Try.pinned : Pinned := { name := "ythhpkgegmfjdmaa", sum := "170066ad5659776ad3847d8ddaed667a217f1dc5c54e3c270719790d87e6ef36", checked := Try.checked }
namespace Rows
def none {H : Type} : Left H := { results := [], args := [] }

/-- 'laws.FnCutsKept': WHATEVER THE INPUT: true; the input reads as it did. -/
def fnCutsKeptSpec : ChangeSpec := { name := "fnCutsKept", fn := fun _ => fun
  | [d] => { results := [.lit (.bool true)], args := [d] }
  | _ => none }
def fnCutsKeptRow : OpenClaim := { program := "ythhpkgegmfjdmaa", sum := "170066ad5659776ad3847d8ddaed667a217f1dc5c54e3c270719790d87e6ef36", func := "loop.example/g00327/laws.FnCutsKept", spec := "fnCutsKept", apart := false }
def FnCutsKeptSaid : Prop := fnCutsKeptRow.holds Try.pinned (OpenSpec.ofChange fnCutsKeptSpec)

/-- ITS FALSE NEIGHBOUR: 'it returns false'. Refute it at one input. -/
def fnCutsKeptWrong : ChangeSpec := { name := "fnCutsKept", fn := fun _ => fun
  | [d] => { results := [.lit (.bool false)], args := [d] }
  | _ => none }
def FnCutsKeptWrongFalsely : Prop := fnCutsKeptRow.holds Try.pinned (OpenSpec.ofChange fnCutsKeptWrong)

/-- 'laws.FnCuts': WHATEVER THE INPUT: true; the input reads as it did. -/
def fnCutsSpec : ChangeSpec := { name := "fnCuts", fn := fun _ => fun
  | [d] => { results := [.lit (.bool true)], args := [d] }
  | _ => none }
def fnCutsRow : OpenClaim := { program := "ythhpkgegmfjdmaa", sum := "170066ad5659776ad3847d8ddaed667a217f1dc5c54e3c270719790d87e6ef36", func := "loop.example/g00327/laws.FnCuts", spec := "fnCuts", apart := false }
def FnCutsSaid : Prop := fnCutsRow.holds Try.pinned (OpenSpec.ofChange fnCutsSpec)

/-- ITS FALSE NEIGHBOUR: 'it returns false'. Refute it at one input. -/
def fnCutsWrong : ChangeSpec := { name := "fnCuts", fn := fun _ => fun
  | [d] => { results := [.lit (.bool false)], args := [d] }
  | _ => none }
def FnCutsWrongFalsely : Prop := fnCutsRow.holds Try.pinned (OpenSpec.ofChange fnCutsWrong)

/-- 'laws.FnExactCutAppend': WHATEVER THE INPUT: true; the input reads as it did. -/
def fnExactCutAppendSpec : ChangeSpec := { name := "fnExactCutAppend", fn := fun _ => fun
  | [d1, d2, d3, d4, d5] => { results := [.lit (.bool true)], args := [d1, d2, d3, d4, d5] }
  | _ => none }
def fnExactCutAppendRow : OpenClaim := { program := "ythhpkgegmfjdmaa", sum := "170066ad5659776ad3847d8ddaed667a217f1dc5c54e3c270719790d87e6ef36", func := "loop.example/g00327/laws.FnExactCutAppend", spec := "fnExactCutAppend", apart := false }
def FnExactCutAppendSaid : Prop := fnExactCutAppendRow.holds Try.pinned (OpenSpec.ofChange fnExactCutAppendSpec)

/-- ITS FALSE NEIGHBOUR: 'it returns false'. Refute it at one input. -/
def fnExactCutAppendWrong : ChangeSpec := { name := "fnExactCutAppend", fn := fun _ => fun
  | [d1, d2, d3, d4, d5] => { results := [.lit (.bool false)], args := [d1, d2, d3, d4, d5] }
  | _ => none }
def FnExactCutAppendWrongFalsely : Prop := fnExactCutAppendRow.holds Try.pinned (OpenSpec.ofChange fnExactCutAppendWrong)

/-- 'laws.FnExactWorldNew': WHATEVER THE INPUT: true; the input reads as it did. -/
def fnExactWorldNewSpec : ChangeSpec := { name := "fnExactWorldNew", fn := fun _ => fun
  | [] => { results := [.lit (.bool true)], args := [] }
  | _ => none }
def fnExactWorldNewRow : OpenClaim := { program := "ythhpkgegmfjdmaa", sum := "170066ad5659776ad3847d8ddaed667a217f1dc5c54e3c270719790d87e6ef36", func := "loop.example/g00327/laws.FnExactWorldNew", spec := "fnExactWorldNew", inPlace := ["internal/abi.NoEscape", "internal/bytealg.MakeNoZero"], apart := false }
def FnExactWorldNewSaid : Prop := fnExactWorldNewRow.holds Try.pinned (OpenSpec.ofChange fnExactWorldNewSpec)

/-- ITS FALSE NEIGHBOUR: 'it returns false'. Refute it at one input. -/
def fnExactWorldNewWrong : ChangeSpec := { name := "fnExactWorldNew", fn := fun _ => fun
  | [] => { results := [.lit (.bool false)], args := [] }
  | _ => none }
def FnExactWorldNewWrongFalsely : Prop := fnExactWorldNewRow.holds Try.pinned (OpenSpec.ofChange fnExactWorldNewWrong)

/-- 'laws.FnExactCutSwitch': WHATEVER THE INPUT: true; the input reads as it did. -/
def fnExactCutSwitchSpec : ChangeSpec := { name := "fnExactCutSwitch", fn := fun _ => fun
  | [d1, d2, d3, d4, d5] => { results := [.lit (.bool true)], args := [d1, d2, d3, d4, d5] }
  | _ => none }
def fnExactCutSwitchRow : OpenClaim := { program := "ythhpkgegmfjdmaa", sum := "170066ad5659776ad3847d8ddaed667a217f1dc5c54e3c270719790d87e6ef36", func := "loop.example/g00327/laws.FnExactCutSwitch", spec := "fnExactCutSwitch", apart := false }
def FnExactCutSwitchSaid : Prop := fnExactCutSwitchRow.holds Try.pinned (OpenSpec.ofChange fnExactCutSwitchSpec)

/-- ITS FALSE NEIGHBOUR: 'it returns false'. Refute it at one input. -/
def fnExactCutSwitchWrong : ChangeSpec := { name := "fnExactCutSwitch", fn := fun _ => fun
  | [d1, d2, d3, d4, d5] => { results := [.lit (.bool false)], args := [d1, d2, d3, d4, d5] }
  | _ => none }
def FnExactCutSwitchWrongFalsely : Prop := fnExactCutSwitchRow.holds Try.pinned (OpenSpec.ofChange fnExactCutSwitchWrong)

/-- 'laws.FnOrderSees': WHATEVER THE INPUT: true; the input reads as it did. -/
def fnOrderSeesSpec : ChangeSpec := { name := "fnOrderSees", fn := fun _ => fun
  | [d] => { results := [.lit (.bool true)], args := [d] }
  | _ => none }
def fnOrderSeesRow : OpenClaim := { program := "ythhpkgegmfjdmaa", sum := "170066ad5659776ad3847d8ddaed667a217f1dc5c54e3c270719790d87e6ef36", func := "loop.example/g00327/laws.FnOrderSees", spec := "fnOrderSees", inPlace := ["slices.overlaps[loop.example/g00327/impl.Version]"], unfollowed := true, recurses := true, apart := false }
def FnOrderSeesSaid : Prop := fnOrderSeesRow.holds Try.pinned (OpenSpec.ofChange fnOrderSeesSpec)

/-- ITS FALSE NEIGHBOUR: 'it returns false'. Refute it at one input. -/
def fnOrderSeesWrong : ChangeSpec := { name := "fnOrderSees", fn := fun _ => fun
  | [d] => { results := [.lit (.bool false)], args := [d] }
  | _ => none }
def FnOrderSeesWrongFalsely : Prop := fnOrderSeesRow.holds Try.pinned (OpenSpec.ofChange fnOrderSeesWrong)

/-- 'laws.FnCutsTold': WHATEVER THE INPUT: true; the input reads as it did. -/
def fnCutsToldSpec : ChangeSpec := { name := "fnCutsTold", fn := fun _ => fun
  | [d] => { results := [.lit (.bool true)], args := [d] }
  | _ => none }
def fnCutsToldRow : OpenClaim := { program := "ythhpkgegmfjdmaa", sum := "170066ad5659776ad3847d8ddaed667a217f1dc5c54e3c270719790d87e6ef36", func := "loop.example/g00327/laws.FnCutsTold", spec := "fnCutsTold", apart := false }
def FnCutsToldSaid : Prop := fnCutsToldRow.holds Try.pinned (OpenSpec.ofChange fnCutsToldSpec)

/-- ITS FALSE NEIGHBOUR: 'it returns false'. Refute it at one input. -/
def fnCutsToldWrong : ChangeSpec := { name := "fnCutsTold", fn := fun _ => fun
  | [d] => { results := [.lit (.bool false)], args := [d] }
  | _ => none }
def FnCutsToldWrongFalsely : Prop := fnCutsToldRow.holds Try.pinned (OpenSpec.ofChange fnCutsToldWrong)

/-- 'laws.FnExactSerialRight': WHATEVER THE INPUT: true; the input reads as it did. -/
def fnExactSerialRightSpec : ChangeSpec := { name := "fnExactSerialRight", fn := fun _ => fun
  | [d] => { results := [.lit (.bool true)], args := [d] }
  | _ => none }
def fnExactSerialRightRow : OpenClaim := { program := "ythhpkgegmfjdmaa", sum := "170066ad5659776ad3847d8ddaed667a217f1dc5c54e3c270719790d87e6ef36", func := "loop.example/g00327/laws.FnExactSerialRight", spec := "fnExactSerialRight", inPlace := ["slices.overlaps[loop.example/g00327/impl.Version]"], unfollowed := true, recurses := true, apart := false }
def FnExactSerialRightSaid : Prop := fnExactSerialRightRow.holds Try.pinned (OpenSpec.ofChange fnExactSerialRightSpec)

/-- ITS FALSE NEIGHBOUR: 'it returns false'. Refute it at one input. -/
def fnExactSerialRightWrong : ChangeSpec := { name := "fnExactSerialRight", fn := fun _ => fun
  | [d] => { results := [.lit (.bool false)], args := [d] }
  | _ => none }
def FnExactSerialRightWrongFalsely : Prop := fnExactSerialRightRow.holds Try.pinned (OpenSpec.ofChange fnExactSerialRightWrong)

/-- 'laws.FnSerials': WHATEVER THE INPUT: true; the input reads as it did. -/
def fnSerialsSpec : ChangeSpec := { name := "fnSerials", fn := fun _ => fun
  | [d] => { results := [.lit (.bool true)], args := [d] }
  | _ => none }
def fnSerialsRow : OpenClaim := { program := "ythhpkgegmfjdmaa", sum := "170066ad5659776ad3847d8ddaed667a217f1dc5c54e3c270719790d87e6ef36", func := "loop.example/g00327/laws.FnSerials", spec := "fnSerials", inPlace := ["slices.overlaps[loop.example/g00327/impl.Version]"], unfollowed := true, recurses := true, apart := false }
def FnSerialsSaid : Prop := fnSerialsRow.holds Try.pinned (OpenSpec.ofChange fnSerialsSpec)

/-- ITS FALSE NEIGHBOUR: 'it returns false'. Refute it at one input. -/
def fnSerialsWrong : ChangeSpec := { name := "fnSerials", fn := fun _ => fun
  | [d] => { results := [.lit (.bool false)], args := [d] }
  | _ => none }
def FnSerialsWrongFalsely : Prop := fnSerialsRow.holds Try.pinned (OpenSpec.ofChange fnSerialsWrong)

/-- 'laws.FnExactPastRight': WHATEVER THE INPUT: true; the input reads as it did. -/
def fnExactPastRightSpec : ChangeSpec := { name := "fnExactPastRight", fn := fun _ => fun
  | [d] => { results := [.lit (.bool true)], args := [d] }
  | _ => none }
def fnExactPastRightRow : OpenClaim := { program := "ythhpkgegmfjdmaa", sum := "170066ad5659776ad3847d8ddaed667a217f1dc5c54e3c270719790d87e6ef36", func := "loop.example/g00327/laws.FnExactPastRight", spec := "fnExactPastRight", recurses := true, apart := false }
def FnExactPastRightSaid : Prop := fnExactPastRightRow.holds Try.pinned (OpenSpec.ofChange fnExactPastRightSpec)

/-- ITS FALSE NEIGHBOUR: 'it returns false'. Refute it at one input. -/
def fnExactPastRightWrong : ChangeSpec := { name := "fnExactPastRight", fn := fun _ => fun
  | [d] => { results := [.lit (.bool false)], args := [d] }
  | _ => none }
def FnExactPastRightWrongFalsely : Prop := fnExactPastRightRow.holds Try.pinned (OpenSpec.ofChange fnExactPastRightWrong)

/- THE SECOND FORM. 'bulk': how many values and letters a reading holds, each counted each time it is reached (what is shared counts as often as it is met; a slice's spare places count too). A statement '..UptoSaid' is the law's where the arguments, and the package variables that the reading takes, are together of bulk at most 1048576: NARROWER than '..Said'. Prove '..Said' where nothing that the law and all that it calls make is longer than what came in: it says more and counts as full. Else prove '..UptoSaid'. A law counts once. -/
mutual
def uptoBulk {H : Type} : DataW H → Nat
  | .lit (.string bytes) => bytes.length + 1
  | .lit _ => 1
  | .nil => 1
  | .ptr d => uptoBulk d + 1
  | .slice elems spare => uptoBulkAll elems + uptoBulkAll spare + 1
  | .agg parts => uptoBulkAll parts + 1
  | .iface _ d => uptoBulk d + 1
  | .map entries => uptoBulkEntries entries + 1
  | .held _ => 1
def uptoBulkAll {H : Type} : List (DataW H) → Nat
  | [] => 0
  | d :: r => uptoBulk d + uptoBulkAll r
def uptoBulkEntries {H : Type} : List (Lit × DataW H) → Nat
  | [] => 0
  | x :: r => uptoBulkEntry x + uptoBulkEntries r
def uptoBulkEntry {H : Type} : Lit × DataW H → Nat
  | (.string bytes, d) => bytes.length + uptoBulk d + 1
  | (_, d) => uptoBulk d + 1
 end
def uptoSmall : (H : Type) → List (DataW H) → Bool := fun _ ds => decide (uptoBulkAll ds ≤ 1048576)
def OpenSpec.upto (s : _root_.Go.ChangeSpec) : _root_.Go.OpenSpec := { _root_.Go.OpenSpec.ofChange s with cond := some uptoSmall }

/-- 'laws.FnCutsKept', WHERE WHAT IT READS IS OF BULK AT MOST 1048576: true; the input reads as it did. -/
def fnCutsKeptUptoRow : OpenClaim := { program := "ythhpkgegmfjdmaa", sum := "170066ad5659776ad3847d8ddaed667a217f1dc5c54e3c270719790d87e6ef36", func := "loop.example/g00327/laws.FnCutsKept", spec := "fnCutsKept", apart := false, narrowed := true }
def FnCutsKeptUptoSaid : Prop := fnCutsKeptUptoRow.holds Try.pinned (OpenSpec.upto fnCutsKeptSpec)

/-- 'laws.FnCuts', WHERE WHAT IT READS IS OF BULK AT MOST 1048576: true; the input reads as it did. -/
def fnCutsUptoRow : OpenClaim := { program := "ythhpkgegmfjdmaa", sum := "170066ad5659776ad3847d8ddaed667a217f1dc5c54e3c270719790d87e6ef36", func := "loop.example/g00327/laws.FnCuts", spec := "fnCuts", apart := false, narrowed := true }
def FnCutsUptoSaid : Prop := fnCutsUptoRow.holds Try.pinned (OpenSpec.upto fnCutsSpec)

/-- 'laws.FnExactCutAppend', WHERE WHAT IT READS IS OF BULK AT MOST 1048576: true; the input reads as it did. -/
def fnExactCutAppendUptoRow : OpenClaim := { program := "ythhpkgegmfjdmaa", sum := "170066ad5659776ad3847d8ddaed667a217f1dc5c54e3c270719790d87e6ef36", func := "loop.example/g00327/laws.FnExactCutAppend", spec := "fnExactCutAppend", apart := false, narrowed := true }
def FnExactCutAppendUptoSaid : Prop := fnExactCutAppendUptoRow.holds Try.pinned (OpenSpec.upto fnExactCutAppendSpec)

/-- 'laws.FnExactWorldNew', WHERE WHAT IT READS IS OF BULK AT MOST 1048576: true; the input reads as it did. -/
def fnExactWorldNewUptoRow : OpenClaim := { program := "ythhpkgegmfjdmaa", sum := "170066ad5659776ad3847d8ddaed667a217f1dc5c54e3c270719790d87e6ef36", func := "loop.example/g00327/laws.FnExactWorldNew", spec := "fnExactWorldNew", inPlace := ["internal/abi.NoEscape", "internal/bytealg.MakeNoZero"], apart := false, narrowed := true }
def FnExactWorldNewUptoSaid : Prop := fnExactWorldNewUptoRow.holds Try.pinned (OpenSpec.upto fnExactWorldNewSpec)

/-- 'laws.FnExactCutSwitch', WHERE WHAT IT READS IS OF BULK AT MOST 1048576: true; the input reads as it did. -/
def fnExactCutSwitchUptoRow : OpenClaim := { program := "ythhpkgegmfjdmaa", sum := "170066ad5659776ad3847d8ddaed667a217f1dc5c54e3c270719790d87e6ef36", func := "loop.example/g00327/laws.FnExactCutSwitch", spec := "fnExactCutSwitch", apart := false, narrowed := true }
def FnExactCutSwitchUptoSaid : Prop := fnExactCutSwitchUptoRow.holds Try.pinned (OpenSpec.upto fnExactCutSwitchSpec)

/-- 'laws.FnOrderSees', WHERE WHAT IT READS IS OF BULK AT MOST 1048576: true; the input reads as it did. -/
def fnOrderSeesUptoRow : OpenClaim := { program := "ythhpkgegmfjdmaa", sum := "170066ad5659776ad3847d8ddaed667a217f1dc5c54e3c270719790d87e6ef36", func := "loop.example/g00327/laws.FnOrderSees", spec := "fnOrderSees", inPlace := ["slices.overlaps[loop.example/g00327/impl.Version]"], unfollowed := true, recurses := true, apart := false, narrowed := true }
def FnOrderSeesUptoSaid : Prop := fnOrderSeesUptoRow.holds Try.pinned (OpenSpec.upto fnOrderSeesSpec)

/-- 'laws.FnCutsTold', WHERE WHAT IT READS IS OF BULK AT MOST 1048576: true; the input reads as it did. -/
def fnCutsToldUptoRow : OpenClaim := { program := "ythhpkgegmfjdmaa", sum := "170066ad5659776ad3847d8ddaed667a217f1dc5c54e3c270719790d87e6ef36", func := "loop.example/g00327/laws.FnCutsTold", spec := "fnCutsTold", apart := false, narrowed := true }
def FnCutsToldUptoSaid : Prop := fnCutsToldUptoRow.holds Try.pinned (OpenSpec.upto fnCutsToldSpec)

/-- 'laws.FnExactSerialRight', WHERE WHAT IT READS IS OF BULK AT MOST 1048576: true; the input reads as it did. -/
def fnExactSerialRightUptoRow : OpenClaim := { program := "ythhpkgegmfjdmaa", sum := "170066ad5659776ad3847d8ddaed667a217f1dc5c54e3c270719790d87e6ef36", func := "loop.example/g00327/laws.FnExactSerialRight", spec := "fnExactSerialRight", inPlace := ["slices.overlaps[loop.example/g00327/impl.Version]"], unfollowed := true, recurses := true, apart := false, narrowed := true }
def FnExactSerialRightUptoSaid : Prop := fnExactSerialRightUptoRow.holds Try.pinned (OpenSpec.upto fnExactSerialRightSpec)

/-- 'laws.FnSerials', WHERE WHAT IT READS IS OF BULK AT MOST 1048576: true; the input reads as it did. -/
def fnSerialsUptoRow : OpenClaim := { program := "ythhpkgegmfjdmaa", sum := "170066ad5659776ad3847d8ddaed667a217f1dc5c54e3c270719790d87e6ef36", func := "loop.example/g00327/laws.FnSerials", spec := "fnSerials", inPlace := ["slices.overlaps[loop.example/g00327/impl.Version]"], unfollowed := true, recurses := true, apart := false, narrowed := true }
def FnSerialsUptoSaid : Prop := fnSerialsUptoRow.holds Try.pinned (OpenSpec.upto fnSerialsSpec)

/-- 'laws.FnExactPastRight', WHERE WHAT IT READS IS OF BULK AT MOST 1048576: true; the input reads as it did. -/
def fnExactPastRightUptoRow : OpenClaim := { program := "ythhpkgegmfjdmaa", sum := "170066ad5659776ad3847d8ddaed667a217f1dc5c54e3c270719790d87e6ef36", func := "loop.example/g00327/laws.FnExactPastRight", spec := "fnExactPastRight", recurses := true, apart := false, narrowed := true }
def FnExactPastRightUptoSaid : Prop := fnExactPastRightUptoRow.holds Try.pinned (OpenSpec.upto fnExactPastRightSpec)

end Rows
end Go.Proofs.Ythhpkgegmfjdmaa
