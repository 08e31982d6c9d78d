/-
  No cell of these rows narrows 'for every input' (looked for: loops, veiled, ifaces, maps, wideKeys, modest, calm, conditions, laid).
  DERIVED. THE GIVEN ROWS OF THIS SEAT. 5 by the template 'for every input the law returns true; each argument reads behind the call as it read before'; 0 by the template 'total and deterministic' (their statements: YtkphhjdbdnoekaaGreatTotals.lean).
  GIVEN WITH THE SEED: the statements are not yours to turn. If you find one false, say at which input.
  Laid BY PROGRAM, IN A SANDBOX (cutbox-rows.mjs): the forced cells as the released guide's own fill.sh prints them over the translation 2f08fb372e1bd9b3… (all of the seat's roots in one cut). By AI agents, Wed Nov 11 2026. No macro, syntax, notation, axiom, sorry.
-/
import Derived.Test.YtkphhjdbdnoekaaGreatChecked
import GoSem.Claim
import GoSem.ClaimJoined
import GoSem.ClaimMapViews
import Derived.JoinedTies
import Derived.KernelRfl
namespace Go.Proofs.YtkphhjdbdnoekaaGreat
/- THE CELL 'sum', in the pinned program and in every row, IS THE sha256 OF THE DUMP (.gsa) THAT YtkphhjdbdnoekaaGreatProg.lean LOADS. Nothing in Lean hashes anything: it is a label: what it is worth is what the hold of that sum in a sandbox is worth. -/
noncomputable def Tryz.pinned : Pinned := { name := "ytkphhjdbdnoekaagreat", sum := "2f08fb372e1bd9b3497d16d4530e3a78cea2431d05902d8b05b12cd70d5f3c04", checked := Tryz.checked }
namespace Rows
def none {H : Type} : Left H := { results := [], args := [] }

/-- 'laws.FnExactPlayLog': WHATEVER THE INPUT: true; the input reads as it did. -/
def fnExactPlayLogSpec : ChangeSpec := { name := "fnExactPlayLog", fn := fun _ => fun
  | [d] => { results := [.lit (.bool true)], args := [d] }
  | _ => none }
def fnExactPlayLogRow : OpenClaim := { program := "ytkphhjdbdnoekaagreat", sum := "2f08fb372e1bd9b3497d16d4530e3a78cea2431d05902d8b05b12cd70d5f3c04", func := "loop.example/g00327/laws.FnExactPlayLog", spec := "fnExactPlayLog", inPlace := ["slices.overlaps[loop.example/g00327/impl.Version]"], unfollowed := true, recurses := true, apart := false }
def FnExactPlayLogSaid : Prop := fnExactPlayLogRow.holds Tryz.pinned (OpenSpec.ofChange fnExactPlayLogSpec)

/-- ITS FALSE NEIGHBOUR: 'it returns false'. Refute it at one input. -/
def fnExactPlayLogWrong : ChangeSpec := { name := "fnExactPlayLog", fn := fun _ => fun
  | [d] => { results := [.lit (.bool false)], args := [d] }
  | _ => none }
def FnExactPlayLogWrongFalsely : Prop := fnExactPlayLogRow.holds Tryz.pinned (OpenSpec.ofChange fnExactPlayLogWrong)

/-- 'laws.FnExactRiseStore': WHATEVER THE INPUT: true; the input reads as it did. -/
def fnExactRiseStoreSpec : ChangeSpec := { name := "fnExactRiseStore", fn := fun _ => fun
  | [d] => { results := [.lit (.bool true)], args := [d] }
  | _ => none }
def fnExactRiseStoreRow : OpenClaim := { program := "ytkphhjdbdnoekaagreat", sum := "2f08fb372e1bd9b3497d16d4530e3a78cea2431d05902d8b05b12cd70d5f3c04", func := "loop.example/g00327/laws.FnExactRiseStore", spec := "fnExactRiseStore", inPlace := ["slices.overlaps[loop.example/g00327/impl.Version]"], unfollowed := true, recurses := true, apart := false }
def FnExactRiseStoreSaid : Prop := fnExactRiseStoreRow.holds Tryz.pinned (OpenSpec.ofChange fnExactRiseStoreSpec)

/-- ITS FALSE NEIGHBOUR: 'it returns false'. Refute it at one input. -/
def fnExactRiseStoreWrong : ChangeSpec := { name := "fnExactRiseStore", fn := fun _ => fun
  | [d] => { results := [.lit (.bool false)], args := [d] }
  | _ => none }
def FnExactRiseStoreWrongFalsely : Prop := fnExactRiseStoreRow.holds Tryz.pinned (OpenSpec.ofChange fnExactRiseStoreWrong)

/-- 'laws.FnExactFixStore': WHATEVER THE INPUT: true; the input reads as it did. -/
def fnExactFixStoreSpec : ChangeSpec := { name := "fnExactFixStore", fn := fun _ => fun
  | [d] => { results := [.lit (.bool true)], args := [d] }
  | _ => none }
def fnExactFixStoreRow : OpenClaim := { program := "ytkphhjdbdnoekaagreat", sum := "2f08fb372e1bd9b3497d16d4530e3a78cea2431d05902d8b05b12cd70d5f3c04", func := "loop.example/g00327/laws.FnExactFixStore", spec := "fnExactFixStore", inPlace := ["slices.overlaps[loop.example/g00327/impl.Version]"], unfollowed := true, recurses := true, apart := false }
def FnExactFixStoreSaid : Prop := fnExactFixStoreRow.holds Tryz.pinned (OpenSpec.ofChange fnExactFixStoreSpec)

/-- ITS FALSE NEIGHBOUR: 'it returns false'. Refute it at one input. -/
def fnExactFixStoreWrong : ChangeSpec := { name := "fnExactFixStore", fn := fun _ => fun
  | [d] => { results := [.lit (.bool false)], args := [d] }
  | _ => none }
def FnExactFixStoreWrongFalsely : Prop := fnExactFixStoreRow.holds Tryz.pinned (OpenSpec.ofChange fnExactFixStoreWrong)

/-- 'laws.FnExactKeepRecord': WHATEVER THE INPUT: true; the input reads as it did. -/
def fnExactKeepRecordSpec : ChangeSpec := { name := "fnExactKeepRecord", fn := fun _ => fun
  | [d1, d2] => { results := [.lit (.bool true)], args := [d1, d2] }
  | _ => none }
def fnExactKeepRecordRow : OpenClaim := { program := "ytkphhjdbdnoekaagreat", sum := "2f08fb372e1bd9b3497d16d4530e3a78cea2431d05902d8b05b12cd70d5f3c04", func := "loop.example/g00327/laws.FnExactKeepRecord", spec := "fnExactKeepRecord", inPlace := ["slices.overlaps[loop.example/g00327/impl.Version]"], unfollowed := true, recurses := true, apart := false }
def FnExactKeepRecordSaid : Prop := fnExactKeepRecordRow.holds Tryz.pinned (OpenSpec.ofChange fnExactKeepRecordSpec)

/-- ITS FALSE NEIGHBOUR: 'it returns false'. Refute it at one input. -/
def fnExactKeepRecordWrong : ChangeSpec := { name := "fnExactKeepRecord", fn := fun _ => fun
  | [d1, d2] => { results := [.lit (.bool false)], args := [d1, d2] }
  | _ => none }
def FnExactKeepRecordWrongFalsely : Prop := fnExactKeepRecordRow.holds Tryz.pinned (OpenSpec.ofChange fnExactKeepRecordWrong)

/-- 'laws.FnWatches': WHATEVER THE INPUT: true; the input reads as it did. -/
def fnWatchesSpec : ChangeSpec := { name := "fnWatches", fn := fun _ => fun
  | [d] => { results := [.lit (.bool true)], args := [d] }
  | _ => none }
def fnWatchesRow : OpenClaim := { program := "ytkphhjdbdnoekaagreat", sum := "2f08fb372e1bd9b3497d16d4530e3a78cea2431d05902d8b05b12cd70d5f3c04", func := "loop.example/g00327/laws.FnWatches", spec := "fnWatches", inPlace := ["slices.overlaps[loop.example/g00327/impl.Version]", "internal/abi.NoEscape", "internal/bytealg.MakeNoZero"], unfollowed := true, recurses := true, apart := false }
def FnWatchesSaid : Prop := fnWatchesRow.holds Tryz.pinned (OpenSpec.ofChange fnWatchesSpec)

/-- ITS FALSE NEIGHBOUR: 'it returns false'. Refute it at one input. -/
def fnWatchesWrong : ChangeSpec := { name := "fnWatches", fn := fun _ => fun
  | [d] => { results := [.lit (.bool false)], args := [d] }
  | _ => none }
def FnWatchesWrongFalsely : Prop := fnWatchesRow.holds Tryz.pinned (OpenSpec.ofChange fnWatchesWrong)

/- THE SECOND FORM. 'bulk': how many values and letters a reading holds, each counted each time it is reached (what is shared counts as often as it is met; a slice's spare places count too). A statement '..UptoSaid' is the law's where the arguments, and the package variables that the reading takes, are together of bulk at most 1048576: NARROWER than '..Said'. Prove '..Said' where nothing that the law and all that it calls make is longer than what came in: it says more and counts as full. Else prove '..UptoSaid'. A law counts once. -/
mutual
def uptoBulk {H : Type} : DataW H → Nat
  | .lit (.string bytes) => bytes.length + 1
  | .lit _ => 1
  | .nil => 1
  | .ptr d => uptoBulk d + 1
  | .slice elems spare => uptoBulkAll elems + uptoBulkAll spare + 1
  | .agg parts => uptoBulkAll parts + 1
  | .iface _ d => uptoBulk d + 1
  | .map entries => uptoBulkEntries entries + 1
  | .held _ => 1
def uptoBulkAll {H : Type} : List (DataW H) → Nat
  | [] => 0
  | d :: r => uptoBulk d + uptoBulkAll r
def uptoBulkEntries {H : Type} : List (Lit × DataW H) → Nat
  | [] => 0
  | x :: r => uptoBulkEntry x + uptoBulkEntries r
def uptoBulkEntry {H : Type} : Lit × DataW H → Nat
  | (.string bytes, d) => bytes.length + uptoBulk d + 1
  | (_, d) => uptoBulk d + 1
 end
def uptoSmall : (H : Type) → List (DataW H) → Bool := fun _ ds => decide (uptoBulkAll ds ≤ 1048576)
def OpenSpec.upto (s : _root_.Go.ChangeSpec) : _root_.Go.OpenSpec := { _root_.Go.OpenSpec.ofChange s with cond := some uptoSmall }

/-- 'laws.FnExactPlayLog', WHERE WHAT IT READS IS OF BULK AT MOST 1048576: true; the input reads as it did. -/
def fnExactPlayLogUptoRow : OpenClaim := { program := "ytkphhjdbdnoekaagreat", sum := "2f08fb372e1bd9b3497d16d4530e3a78cea2431d05902d8b05b12cd70d5f3c04", func := "loop.example/g00327/laws.FnExactPlayLog", spec := "fnExactPlayLog", inPlace := ["slices.overlaps[loop.example/g00327/impl.Version]"], unfollowed := true, recurses := true, apart := false, narrowed := true }
def FnExactPlayLogUptoSaid : Prop := fnExactPlayLogUptoRow.holds Tryz.pinned (OpenSpec.upto fnExactPlayLogSpec)

/-- 'laws.FnExactRiseStore', WHERE WHAT IT READS IS OF BULK AT MOST 1048576: true; the input reads as it did. -/
def fnExactRiseStoreUptoRow : OpenClaim := { program := "ytkphhjdbdnoekaagreat", sum := "2f08fb372e1bd9b3497d16d4530e3a78cea2431d05902d8b05b12cd70d5f3c04", func := "loop.example/g00327/laws.FnExactRiseStore", spec := "fnExactRiseStore", inPlace := ["slices.overlaps[loop.example/g00327/impl.Version]"], unfollowed := true, recurses := true, apart := false, narrowed := true }
def FnExactRiseStoreUptoSaid : Prop := fnExactRiseStoreUptoRow.holds Tryz.pinned (OpenSpec.upto fnExactRiseStoreSpec)

/-- 'laws.FnExactFixStore', WHERE WHAT IT READS IS OF BULK AT MOST 1048576: true; the input reads as it did. -/
def fnExactFixStoreUptoRow : OpenClaim := { program := "ytkphhjdbdnoekaagreat", sum := "2f08fb372e1bd9b3497d16d4530e3a78cea2431d05902d8b05b12cd70d5f3c04", func := "loop.example/g00327/laws.FnExactFixStore", spec := "fnExactFixStore", inPlace := ["slices.overlaps[loop.example/g00327/impl.Version]"], unfollowed := true, recurses := true, apart := false, narrowed := true }
def FnExactFixStoreUptoSaid : Prop := fnExactFixStoreUptoRow.holds Tryz.pinned (OpenSpec.upto fnExactFixStoreSpec)

/-- 'laws.FnExactKeepRecord', WHERE WHAT IT READS IS OF BULK AT MOST 1048576: true; the input reads as it did. -/
def fnExactKeepRecordUptoRow : OpenClaim := { program := "ytkphhjdbdnoekaagreat", sum := "2f08fb372e1bd9b3497d16d4530e3a78cea2431d05902d8b05b12cd70d5f3c04", func := "loop.example/g00327/laws.FnExactKeepRecord", spec := "fnExactKeepRecord", inPlace := ["slices.overlaps[loop.example/g00327/impl.Version]"], unfollowed := true, recurses := true, apart := false, narrowed := true }
def FnExactKeepRecordUptoSaid : Prop := fnExactKeepRecordUptoRow.holds Tryz.pinned (OpenSpec.upto fnExactKeepRecordSpec)

/-- 'laws.FnWatches', WHERE WHAT IT READS IS OF BULK AT MOST 1048576: true; the input reads as it did. -/
def fnWatchesUptoRow : OpenClaim := { program := "ytkphhjdbdnoekaagreat", sum := "2f08fb372e1bd9b3497d16d4530e3a78cea2431d05902d8b05b12cd70d5f3c04", func := "loop.example/g00327/laws.FnWatches", spec := "fnWatches", inPlace := ["slices.overlaps[loop.example/g00327/impl.Version]", "internal/abi.NoEscape", "internal/bytealg.MakeNoZero"], unfollowed := true, recurses := true, apart := false, narrowed := true }
def FnWatchesUptoSaid : Prop := fnWatchesUptoRow.holds Tryz.pinned (OpenSpec.upto fnWatchesSpec)

end Rows
end Go.Proofs.YtkphhjdbdnoekaaGreat
