/-
  No cell of these rows narrows 'for every input' (looked for: loops, veiled, ifaces, maps, wideKeys, modest, calm, conditions, laid).
  DERIVED. THE GIVEN ROWS OF THIS SEAT. 12 by the template 'for every input the law returns true; each argument reads behind the call as it read before'; 0 by the template 'total and deterministic' (their statements: YtbkicjpdlchbgaaGreatTotals.lean).
  GIVEN WITH THE SEED: the statements are not yours to turn. If you find one false, say at which input.
  Laid BY PROGRAM, IN A SANDBOX (cutbox-rows.mjs): the forced cells as the released guide's own fill.sh prints them over the translation 09e01b963119e410… (all of the seat's roots in one cut). By AI agents, Wed Nov 11 2026. No macro, syntax, notation, axiom, sorry.
-/
import Derived.Test.YtbkicjpdlchbgaaGreatChecked
import GoSem.Claim
import GoSem.ClaimJoined
import GoSem.ClaimMapViews
import Derived.JoinedTies
import Derived.KernelRfl
namespace Go.Proofs.YtbkicjpdlchbgaaGreat
/- THE CELL 'sum', in the pinned program and in every row, IS THE sha256 OF THE DUMP (.gsa) THAT YtbkicjpdlchbgaaGreatProg.lean LOADS. Nothing in Lean hashes anything: it is a label: what it is worth is what the hold of that sum in a sandbox is worth. -/
noncomputable def Tryz.pinned : Pinned := { name := "ytbkicjpdlchbgaagreat", sum := "09e01b963119e410ea4826b855a0f635ec1ecfd0f1b80a12afbaaa019588f2a5", checked := Tryz.checked }
namespace Rows
def none {H : Type} : Left H := { results := [], args := [] }

/-- 'laws.FnStores': WHATEVER THE INPUT: true; the input reads as it did. -/
def fnStoresSpec : ChangeSpec := { name := "fnStores", fn := fun _ => fun
  | [d] => { results := [.lit (.bool true)], args := [d] }
  | _ => none }
def fnStoresRow : OpenClaim := { program := "ytbkicjpdlchbgaagreat", sum := "09e01b963119e410ea4826b855a0f635ec1ecfd0f1b80a12afbaaa019588f2a5", func := "loop.example/g00327/laws.FnStores", spec := "fnStores", inPlace := ["slices.overlaps[loop.example/g00327/impl.Version]"], unfollowed := true, recurses := true, apart := false }
def FnStoresSaid : Prop := fnStoresRow.holds Tryz.pinned (OpenSpec.ofChange fnStoresSpec)

/-- ITS FALSE NEIGHBOUR: 'it returns false'. Refute it at one input. -/
def fnStoresWrong : ChangeSpec := { name := "fnStores", fn := fun _ => fun
  | [d] => { results := [.lit (.bool false)], args := [d] }
  | _ => none }
def FnStoresWrongFalsely : Prop := fnStoresRow.holds Tryz.pinned (OpenSpec.ofChange fnStoresWrong)

/-- 'laws.FnLivesSerial': WHATEVER THE INPUT: true; the input reads as it did. -/
def fnLivesSerialSpec : ChangeSpec := { name := "fnLivesSerial", fn := fun _ => fun
  | [d] => { results := [.lit (.bool true)], args := [d] }
  | _ => none }
def fnLivesSerialRow : OpenClaim := { program := "ytbkicjpdlchbgaagreat", sum := "09e01b963119e410ea4826b855a0f635ec1ecfd0f1b80a12afbaaa019588f2a5", func := "loop.example/g00327/laws.FnLivesSerial", spec := "fnLivesSerial", inPlace := ["slices.overlaps[loop.example/g00327/impl.Version]"], unfollowed := true, recurses := true, apart := false }
def FnLivesSerialSaid : Prop := fnLivesSerialRow.holds Tryz.pinned (OpenSpec.ofChange fnLivesSerialSpec)

/-- ITS FALSE NEIGHBOUR: 'it returns false'. Refute it at one input. -/
def fnLivesSerialWrong : ChangeSpec := { name := "fnLivesSerial", fn := fun _ => fun
  | [d] => { results := [.lit (.bool false)], args := [d] }
  | _ => none }
def FnLivesSerialWrongFalsely : Prop := fnLivesSerialRow.holds Tryz.pinned (OpenSpec.ofChange fnLivesSerialWrong)

/-- 'laws.FnExactSerial': WHATEVER THE INPUT: true; the input reads as it did. -/
def fnExactSerialSpec : ChangeSpec := { name := "fnExactSerial", fn := fun _ => fun
  | [d] => { results := [.lit (.bool true)], args := [d] }
  | _ => none }
def fnExactSerialRow : OpenClaim := { program := "ytbkicjpdlchbgaagreat", sum := "09e01b963119e410ea4826b855a0f635ec1ecfd0f1b80a12afbaaa019588f2a5", func := "loop.example/g00327/laws.FnExactSerial", spec := "fnExactSerial", inPlace := ["slices.overlaps[loop.example/g00327/impl.Version]"], unfollowed := true, recurses := true, apart := false }
def FnExactSerialSaid : Prop := fnExactSerialRow.holds Tryz.pinned (OpenSpec.ofChange fnExactSerialSpec)

/-- ITS FALSE NEIGHBOUR: 'it returns false'. Refute it at one input. -/
def fnExactSerialWrong : ChangeSpec := { name := "fnExactSerial", fn := fun _ => fun
  | [d] => { results := [.lit (.bool false)], args := [d] }
  | _ => none }
def FnExactSerialWrongFalsely : Prop := fnExactSerialRow.holds Tryz.pinned (OpenSpec.ofChange fnExactSerialWrong)

/-- 'laws.FnPrepares': WHATEVER THE INPUT: true; the input reads as it did. -/
def fnPreparesSpec : ChangeSpec := { name := "fnPrepares", fn := fun _ => fun
  | [d] => { results := [.lit (.bool true)], args := [d] }
  | _ => none }
def fnPreparesRow : OpenClaim := { program := "ytbkicjpdlchbgaagreat", sum := "09e01b963119e410ea4826b855a0f635ec1ecfd0f1b80a12afbaaa019588f2a5", func := "loop.example/g00327/laws.FnPrepares", spec := "fnPrepares", inPlace := ["slices.overlaps[loop.example/g00327/impl.Version]"], unfollowed := true, recurses := true, apart := false }
def FnPreparesSaid : Prop := fnPreparesRow.holds Tryz.pinned (OpenSpec.ofChange fnPreparesSpec)

/-- ITS FALSE NEIGHBOUR: 'it returns false'. Refute it at one input. -/
def fnPreparesWrong : ChangeSpec := { name := "fnPrepares", fn := fun _ => fun
  | [d] => { results := [.lit (.bool false)], args := [d] }
  | _ => none }
def FnPreparesWrongFalsely : Prop := fnPreparesRow.holds Tryz.pinned (OpenSpec.ofChange fnPreparesWrong)

/-- 'laws.FnCommits': WHATEVER THE INPUT: true; the input reads as it did. -/
def fnCommitsSpec : ChangeSpec := { name := "fnCommits", fn := fun _ => fun
  | [d] => { results := [.lit (.bool true)], args := [d] }
  | _ => none }
def fnCommitsRow : OpenClaim := { program := "ytbkicjpdlchbgaagreat", sum := "09e01b963119e410ea4826b855a0f635ec1ecfd0f1b80a12afbaaa019588f2a5", func := "loop.example/g00327/laws.FnCommits", spec := "fnCommits", inPlace := ["slices.overlaps[loop.example/g00327/impl.Version]", "slices.overlaps[loop.example/g00327/impl.Write]"], unfollowed := true, recurses := true, apart := false }
def FnCommitsSaid : Prop := fnCommitsRow.holds Tryz.pinned (OpenSpec.ofChange fnCommitsSpec)

/-- ITS FALSE NEIGHBOUR: 'it returns false'. Refute it at one input. -/
def fnCommitsWrong : ChangeSpec := { name := "fnCommits", fn := fun _ => fun
  | [d] => { results := [.lit (.bool false)], args := [d] }
  | _ => none }
def FnCommitsWrongFalsely : Prop := fnCommitsRow.holds Tryz.pinned (OpenSpec.ofChange fnCommitsWrong)

/-- 'laws.FnRecords': WHATEVER THE INPUT: true; the input reads as it did. -/
def fnRecordsSpec : ChangeSpec := { name := "fnRecords", fn := fun _ => fun
  | [d] => { results := [.lit (.bool true)], args := [d] }
  | _ => none }
def fnRecordsRow : OpenClaim := { program := "ytbkicjpdlchbgaagreat", sum := "09e01b963119e410ea4826b855a0f635ec1ecfd0f1b80a12afbaaa019588f2a5", func := "loop.example/g00327/laws.FnRecords", spec := "fnRecords", unfollowed := true, recurses := true, apart := false }
def FnRecordsSaid : Prop := fnRecordsRow.holds Tryz.pinned (OpenSpec.ofChange fnRecordsSpec)

/-- ITS FALSE NEIGHBOUR: 'it returns false'. Refute it at one input. -/
def fnRecordsWrong : ChangeSpec := { name := "fnRecords", fn := fun _ => fun
  | [d] => { results := [.lit (.bool false)], args := [d] }
  | _ => none }
def FnRecordsWrongFalsely : Prop := fnRecordsRow.holds Tryz.pinned (OpenSpec.ofChange fnRecordsWrong)

/-- 'laws.FnPlayed': WHATEVER THE INPUT: true; the input reads as it did. -/
def fnPlayedSpec : ChangeSpec := { name := "fnPlayed", fn := fun _ => fun
  | [d] => { results := [.lit (.bool true)], args := [d] }
  | _ => none }
def fnPlayedRow : OpenClaim := { program := "ytbkicjpdlchbgaagreat", sum := "09e01b963119e410ea4826b855a0f635ec1ecfd0f1b80a12afbaaa019588f2a5", func := "loop.example/g00327/laws.FnPlayed", spec := "fnPlayed", inPlace := ["slices.overlaps[loop.example/g00327/impl.Version]"], unfollowed := true, recurses := true, apart := false }
def FnPlayedSaid : Prop := fnPlayedRow.holds Tryz.pinned (OpenSpec.ofChange fnPlayedSpec)

/-- ITS FALSE NEIGHBOUR: 'it returns false'. Refute it at one input. -/
def fnPlayedWrong : ChangeSpec := { name := "fnPlayed", fn := fun _ => fun
  | [d] => { results := [.lit (.bool false)], args := [d] }
  | _ => none }
def FnPlayedWrongFalsely : Prop := fnPlayedRow.holds Tryz.pinned (OpenSpec.ofChange fnPlayedWrong)

/-- 'laws.FnEngines': WHATEVER THE INPUT: true; the input reads as it did. -/
def fnEnginesSpec : ChangeSpec := { name := "fnEngines", fn := fun _ => fun
  | [d] => { results := [.lit (.bool true)], args := [d] }
  | _ => none }
def fnEnginesRow : OpenClaim := { program := "ytbkicjpdlchbgaagreat", sum := "09e01b963119e410ea4826b855a0f635ec1ecfd0f1b80a12afbaaa019588f2a5", func := "loop.example/g00327/laws.FnEngines", spec := "fnEngines", inPlace := ["slices.overlaps[loop.example/g00327/impl.Write]"], unfollowed := true, recurses := true, apart := false }
def FnEnginesSaid : Prop := fnEnginesRow.holds Tryz.pinned (OpenSpec.ofChange fnEnginesSpec)

/-- ITS FALSE NEIGHBOUR: 'it returns false'. Refute it at one input. -/
def fnEnginesWrong : ChangeSpec := { name := "fnEngines", fn := fun _ => fun
  | [d] => { results := [.lit (.bool false)], args := [d] }
  | _ => none }
def FnEnginesWrongFalsely : Prop := fnEnginesRow.holds Tryz.pinned (OpenSpec.ofChange fnEnginesWrong)

/-- 'laws.FnExactStoreOk': WHATEVER THE INPUT: true; the input reads as it did. -/
def fnExactStoreOkSpec : ChangeSpec := { name := "fnExactStoreOk", fn := fun _ => fun
  | [d] => { results := [.lit (.bool true)], args := [d] }
  | _ => none }
def fnExactStoreOkRow : OpenClaim := { program := "ytbkicjpdlchbgaagreat", sum := "09e01b963119e410ea4826b855a0f635ec1ecfd0f1b80a12afbaaa019588f2a5", func := "loop.example/g00327/laws.FnExactStoreOk", spec := "fnExactStoreOk", inPlace := ["slices.overlaps[loop.example/g00327/impl.Version]"], unfollowed := true, recurses := true, apart := false }
def FnExactStoreOkSaid : Prop := fnExactStoreOkRow.holds Tryz.pinned (OpenSpec.ofChange fnExactStoreOkSpec)

/-- ITS FALSE NEIGHBOUR: 'it returns false'. Refute it at one input. -/
def fnExactStoreOkWrong : ChangeSpec := { name := "fnExactStoreOk", fn := fun _ => fun
  | [d] => { results := [.lit (.bool false)], args := [d] }
  | _ => none }
def FnExactStoreOkWrongFalsely : Prop := fnExactStoreOkRow.holds Tryz.pinned (OpenSpec.ofChange fnExactStoreOkWrong)

/-- 'laws.FnExactKeptRight': WHATEVER THE INPUT: true; the input reads as it did. -/
def fnExactKeptRightSpec : ChangeSpec := { name := "fnExactKeptRight", fn := fun _ => fun
  | [d] => { results := [.lit (.bool true)], args := [d] }
  | _ => none }
def fnExactKeptRightRow : OpenClaim := { program := "ytbkicjpdlchbgaagreat", sum := "09e01b963119e410ea4826b855a0f635ec1ecfd0f1b80a12afbaaa019588f2a5", func := "loop.example/g00327/laws.FnExactKeptRight", spec := "fnExactKeptRight", inPlace := ["slices.overlaps[loop.example/g00327/impl.Version]"], unfollowed := true, recurses := true, apart := false }
def FnExactKeptRightSaid : Prop := fnExactKeptRightRow.holds Tryz.pinned (OpenSpec.ofChange fnExactKeptRightSpec)

/-- ITS FALSE NEIGHBOUR: 'it returns false'. Refute it at one input. -/
def fnExactKeptRightWrong : ChangeSpec := { name := "fnExactKeptRight", fn := fun _ => fun
  | [d] => { results := [.lit (.bool false)], args := [d] }
  | _ => none }
def FnExactKeptRightWrongFalsely : Prop := fnExactKeptRightRow.holds Tryz.pinned (OpenSpec.ofChange fnExactKeptRightWrong)

/-- 'laws.FnExactSoundWorld': WHATEVER THE INPUT: true; the input reads as it did. -/
def fnExactSoundWorldSpec : ChangeSpec := { name := "fnExactSoundWorld", fn := fun _ => fun
  | [d] => { results := [.lit (.bool true)], args := [d] }
  | _ => none }
def fnExactSoundWorldRow : OpenClaim := { program := "ytbkicjpdlchbgaagreat", sum := "09e01b963119e410ea4826b855a0f635ec1ecfd0f1b80a12afbaaa019588f2a5", func := "loop.example/g00327/laws.FnExactSoundWorld", spec := "fnExactSoundWorld", inPlace := ["slices.overlaps[loop.example/g00327/impl.Version]"], unfollowed := true, recurses := true, apart := false }
def FnExactSoundWorldSaid : Prop := fnExactSoundWorldRow.holds Tryz.pinned (OpenSpec.ofChange fnExactSoundWorldSpec)

/-- ITS FALSE NEIGHBOUR: 'it returns false'. Refute it at one input. -/
def fnExactSoundWorldWrong : ChangeSpec := { name := "fnExactSoundWorld", fn := fun _ => fun
  | [d] => { results := [.lit (.bool false)], args := [d] }
  | _ => none }
def FnExactSoundWorldWrongFalsely : Prop := fnExactSoundWorldRow.holds Tryz.pinned (OpenSpec.ofChange fnExactSoundWorldWrong)

/-- 'laws.FnFixes': WHATEVER THE INPUT: true; the input reads as it did. -/
def fnFixesSpec : ChangeSpec := { name := "fnFixes", fn := fun _ => fun
  | [d] => { results := [.lit (.bool true)], args := [d] }
  | _ => none }
def fnFixesRow : OpenClaim := { program := "ytbkicjpdlchbgaagreat", sum := "09e01b963119e410ea4826b855a0f635ec1ecfd0f1b80a12afbaaa019588f2a5", func := "loop.example/g00327/laws.FnFixes", spec := "fnFixes", inPlace := ["slices.overlaps[loop.example/g00327/impl.Version]"], unfollowed := true, recurses := true, apart := false }
def FnFixesSaid : Prop := fnFixesRow.holds Tryz.pinned (OpenSpec.ofChange fnFixesSpec)

/-- ITS FALSE NEIGHBOUR: 'it returns false'. Refute it at one input. -/
def fnFixesWrong : ChangeSpec := { name := "fnFixes", fn := fun _ => fun
  | [d] => { results := [.lit (.bool false)], args := [d] }
  | _ => none }
def FnFixesWrongFalsely : Prop := fnFixesRow.holds Tryz.pinned (OpenSpec.ofChange fnFixesWrong)

/- THE SECOND FORM. 'bulk': how many values and letters a reading holds, each counted each time it is reached (what is shared counts as often as it is met; a slice's spare places count too). A statement '..UptoSaid' is the law's where the arguments, and the package variables that the reading takes, are together of bulk at most 1048576: NARROWER than '..Said'. Prove '..Said' where nothing that the law and all that it calls make is longer than what came in: it says more and counts as full. Else prove '..UptoSaid'. A law counts once. -/
mutual
def uptoBulk {H : Type} : DataW H → Nat
  | .lit (.string bytes) => bytes.length + 1
  | .lit _ => 1
  | .nil => 1
  | .ptr d => uptoBulk d + 1
  | .slice elems spare => uptoBulkAll elems + uptoBulkAll spare + 1
  | .agg parts => uptoBulkAll parts + 1
  | .iface _ d => uptoBulk d + 1
  | .map entries => uptoBulkEntries entries + 1
  | .held _ => 1
def uptoBulkAll {H : Type} : List (DataW H) → Nat
  | [] => 0
  | d :: r => uptoBulk d + uptoBulkAll r
def uptoBulkEntries {H : Type} : List (Lit × DataW H) → Nat
  | [] => 0
  | x :: r => uptoBulkEntry x + uptoBulkEntries r
def uptoBulkEntry {H : Type} : Lit × DataW H → Nat
  | (.string bytes, d) => bytes.length + uptoBulk d + 1
  | (_, d) => uptoBulk d + 1
 end
def uptoSmall : (H : Type) → List (DataW H) → Bool := fun _ ds => decide (uptoBulkAll ds ≤ 1048576)
def OpenSpec.upto (s : _root_.Go.ChangeSpec) : _root_.Go.OpenSpec := { _root_.Go.OpenSpec.ofChange s with cond := some uptoSmall }

/-- 'laws.FnStores', WHERE WHAT IT READS IS OF BULK AT MOST 1048576: true; the input reads as it did. -/
def fnStoresUptoRow : OpenClaim := { program := "ytbkicjpdlchbgaagreat", sum := "09e01b963119e410ea4826b855a0f635ec1ecfd0f1b80a12afbaaa019588f2a5", func := "loop.example/g00327/laws.FnStores", spec := "fnStores", inPlace := ["slices.overlaps[loop.example/g00327/impl.Version]"], unfollowed := true, recurses := true, apart := false, narrowed := true }
def FnStoresUptoSaid : Prop := fnStoresUptoRow.holds Tryz.pinned (OpenSpec.upto fnStoresSpec)

/-- 'laws.FnLivesSerial', WHERE WHAT IT READS IS OF BULK AT MOST 1048576: true; the input reads as it did. -/
def fnLivesSerialUptoRow : OpenClaim := { program := "ytbkicjpdlchbgaagreat", sum := "09e01b963119e410ea4826b855a0f635ec1ecfd0f1b80a12afbaaa019588f2a5", func := "loop.example/g00327/laws.FnLivesSerial", spec := "fnLivesSerial", inPlace := ["slices.overlaps[loop.example/g00327/impl.Version]"], unfollowed := true, recurses := true, apart := false, narrowed := true }
def FnLivesSerialUptoSaid : Prop := fnLivesSerialUptoRow.holds Tryz.pinned (OpenSpec.upto fnLivesSerialSpec)

/-- 'laws.FnExactSerial', WHERE WHAT IT READS IS OF BULK AT MOST 1048576: true; the input reads as it did. -/
def fnExactSerialUptoRow : OpenClaim := { program := "ytbkicjpdlchbgaagreat", sum := "09e01b963119e410ea4826b855a0f635ec1ecfd0f1b80a12afbaaa019588f2a5", func := "loop.example/g00327/laws.FnExactSerial", spec := "fnExactSerial", inPlace := ["slices.overlaps[loop.example/g00327/impl.Version]"], unfollowed := true, recurses := true, apart := false, narrowed := true }
def FnExactSerialUptoSaid : Prop := fnExactSerialUptoRow.holds Tryz.pinned (OpenSpec.upto fnExactSerialSpec)

/-- 'laws.FnPrepares', WHERE WHAT IT READS IS OF BULK AT MOST 1048576: true; the input reads as it did. -/
def fnPreparesUptoRow : OpenClaim := { program := "ytbkicjpdlchbgaagreat", sum := "09e01b963119e410ea4826b855a0f635ec1ecfd0f1b80a12afbaaa019588f2a5", func := "loop.example/g00327/laws.FnPrepares", spec := "fnPrepares", inPlace := ["slices.overlaps[loop.example/g00327/impl.Version]"], unfollowed := true, recurses := true, apart := false, narrowed := true }
def FnPreparesUptoSaid : Prop := fnPreparesUptoRow.holds Tryz.pinned (OpenSpec.upto fnPreparesSpec)

/-- 'laws.FnCommits', WHERE WHAT IT READS IS OF BULK AT MOST 1048576: true; the input reads as it did. -/
def fnCommitsUptoRow : OpenClaim := { program := "ytbkicjpdlchbgaagreat", sum := "09e01b963119e410ea4826b855a0f635ec1ecfd0f1b80a12afbaaa019588f2a5", func := "loop.example/g00327/laws.FnCommits", spec := "fnCommits", inPlace := ["slices.overlaps[loop.example/g00327/impl.Version]", "slices.overlaps[loop.example/g00327/impl.Write]"], unfollowed := true, recurses := true, apart := false, narrowed := true }
def FnCommitsUptoSaid : Prop := fnCommitsUptoRow.holds Tryz.pinned (OpenSpec.upto fnCommitsSpec)

/-- 'laws.FnRecords', WHERE WHAT IT READS IS OF BULK AT MOST 1048576: true; the input reads as it did. -/
def fnRecordsUptoRow : OpenClaim := { program := "ytbkicjpdlchbgaagreat", sum := "09e01b963119e410ea4826b855a0f635ec1ecfd0f1b80a12afbaaa019588f2a5", func := "loop.example/g00327/laws.FnRecords", spec := "fnRecords", unfollowed := true, recurses := true, apart := false, narrowed := true }
def FnRecordsUptoSaid : Prop := fnRecordsUptoRow.holds Tryz.pinned (OpenSpec.upto fnRecordsSpec)

/-- 'laws.FnPlayed', WHERE WHAT IT READS IS OF BULK AT MOST 1048576: true; the input reads as it did. -/
def fnPlayedUptoRow : OpenClaim := { program := "ytbkicjpdlchbgaagreat", sum := "09e01b963119e410ea4826b855a0f635ec1ecfd0f1b80a12afbaaa019588f2a5", func := "loop.example/g00327/laws.FnPlayed", spec := "fnPlayed", inPlace := ["slices.overlaps[loop.example/g00327/impl.Version]"], unfollowed := true, recurses := true, apart := false, narrowed := true }
def FnPlayedUptoSaid : Prop := fnPlayedUptoRow.holds Tryz.pinned (OpenSpec.upto fnPlayedSpec)

/-- 'laws.FnEngines', WHERE WHAT IT READS IS OF BULK AT MOST 1048576: true; the input reads as it did. -/
def fnEnginesUptoRow : OpenClaim := { program := "ytbkicjpdlchbgaagreat", sum := "09e01b963119e410ea4826b855a0f635ec1ecfd0f1b80a12afbaaa019588f2a5", func := "loop.example/g00327/laws.FnEngines", spec := "fnEngines", inPlace := ["slices.overlaps[loop.example/g00327/impl.Write]"], unfollowed := true, recurses := true, apart := false, narrowed := true }
def FnEnginesUptoSaid : Prop := fnEnginesUptoRow.holds Tryz.pinned (OpenSpec.upto fnEnginesSpec)

/-- 'laws.FnExactStoreOk', WHERE WHAT IT READS IS OF BULK AT MOST 1048576: true; the input reads as it did. -/
def fnExactStoreOkUptoRow : OpenClaim := { program := "ytbkicjpdlchbgaagreat", sum := "09e01b963119e410ea4826b855a0f635ec1ecfd0f1b80a12afbaaa019588f2a5", func := "loop.example/g00327/laws.FnExactStoreOk", spec := "fnExactStoreOk", inPlace := ["slices.overlaps[loop.example/g00327/impl.Version]"], unfollowed := true, recurses := true, apart := false, narrowed := true }
def FnExactStoreOkUptoSaid : Prop := fnExactStoreOkUptoRow.holds Tryz.pinned (OpenSpec.upto fnExactStoreOkSpec)

/-- 'laws.FnExactKeptRight', WHERE WHAT IT READS IS OF BULK AT MOST 1048576: true; the input reads as it did. -/
def fnExactKeptRightUptoRow : OpenClaim := { program := "ytbkicjpdlchbgaagreat", sum := "09e01b963119e410ea4826b855a0f635ec1ecfd0f1b80a12afbaaa019588f2a5", func := "loop.example/g00327/laws.FnExactKeptRight", spec := "fnExactKeptRight", inPlace := ["slices.overlaps[loop.example/g00327/impl.Version]"], unfollowed := true, recurses := true, apart := false, narrowed := true }
def FnExactKeptRightUptoSaid : Prop := fnExactKeptRightUptoRow.holds Tryz.pinned (OpenSpec.upto fnExactKeptRightSpec)

/-- 'laws.FnExactSoundWorld', WHERE WHAT IT READS IS OF BULK AT MOST 1048576: true; the input reads as it did. -/
def fnExactSoundWorldUptoRow : OpenClaim := { program := "ytbkicjpdlchbgaagreat", sum := "09e01b963119e410ea4826b855a0f635ec1ecfd0f1b80a12afbaaa019588f2a5", func := "loop.example/g00327/laws.FnExactSoundWorld", spec := "fnExactSoundWorld", inPlace := ["slices.overlaps[loop.example/g00327/impl.Version]"], unfollowed := true, recurses := true, apart := false, narrowed := true }
def FnExactSoundWorldUptoSaid : Prop := fnExactSoundWorldUptoRow.holds Tryz.pinned (OpenSpec.upto fnExactSoundWorldSpec)

/-- 'laws.FnFixes', WHERE WHAT IT READS IS OF BULK AT MOST 1048576: true; the input reads as it did. -/
def fnFixesUptoRow : OpenClaim := { program := "ytbkicjpdlchbgaagreat", sum := "09e01b963119e410ea4826b855a0f635ec1ecfd0f1b80a12afbaaa019588f2a5", func := "loop.example/g00327/laws.FnFixes", spec := "fnFixes", inPlace := ["slices.overlaps[loop.example/g00327/impl.Version]"], unfollowed := true, recurses := true, apart := false, narrowed := true }
def FnFixesUptoSaid : Prop := fnFixesUptoRow.holds Tryz.pinned (OpenSpec.upto fnFixesSpec)

end Rows
end Go.Proofs.YtbkicjpdlchbgaaGreat
