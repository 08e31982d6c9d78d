/-
  No cell of these rows narrows 'for every input' (looked for: loops, veiled, ifaces, maps, wideKeys, modest, calm, conditions, laid).
  DERIVED. THE GIVEN ROWS OF THIS SEAT. 5 by the template 'for every input the law returns true; each argument reads behind the call as it read before'; 0 by the template 'total and deterministic' (their statements: YtkdpclfhapphhaaGreatTotals.lean).
  GIVEN WITH THE SEED: the statements are not yours to turn. If you find one false, say at which input.
  Laid BY PROGRAM, IN A SANDBOX (cutbox-rows.mjs): the forced cells as the released guide's own fill.sh prints them over the translation 0631d1b510a1e715… (all of the seat's roots in one cut). By AI agents, Wed Nov 11 2026. No macro, syntax, notation, axiom, sorry.
-/
import Derived.Test.YtkdpclfhapphhaaGreatChecked
import GoSem.Claim
import GoSem.ClaimJoined
import GoSem.ClaimMapViews
import Derived.JoinedTies
import Derived.KernelRfl
namespace Go.Proofs.YtkdpclfhapphhaaGreat
/- THE CELL 'sum', in the pinned program and in every row, IS THE sha256 OF THE DUMP (.gsa) THAT YtkdpclfhapphhaaGreatProg.lean LOADS. Nothing in Lean hashes anything: it is a label: what it is worth is what the hold of that sum in a sandbox is worth. -/
noncomputable def Tryz.pinned : Pinned := { name := "ytkdpclfhapphhaagreat", sum := "0631d1b510a1e7155365aaaaff2ac77a457ee5ff7a4fd10e0056b4fc04f66b0b", checked := Tryz.checked }
namespace Rows
def none {H : Type} : Left H := { results := [], args := [] }

/-- 'laws.FnStores': WHATEVER THE INPUT: true; the input reads as it did. -/
def fnStoresSpec : ChangeSpec := { name := "fnStores", fn := fun _ => fun
  | [d] => { results := [.lit (.bool true)], args := [d] }
  | _ => none }
def fnStoresRow : OpenClaim := { program := "ytkdpclfhapphhaagreat", sum := "0631d1b510a1e7155365aaaaff2ac77a457ee5ff7a4fd10e0056b4fc04f66b0b", func := "loop.example/g00327/laws.FnStores", spec := "fnStores", inPlace := ["slices.overlaps[loop.example/g00327/impl.Version]"], unfollowed := true, recurses := true, apart := false }
def FnStoresSaid : Prop := fnStoresRow.holds Tryz.pinned (OpenSpec.ofChange fnStoresSpec)

/-- ITS FALSE NEIGHBOUR: 'it returns false'. Refute it at one input. -/
def fnStoresWrong : ChangeSpec := { name := "fnStores", fn := fun _ => fun
  | [d] => { results := [.lit (.bool false)], args := [d] }
  | _ => none }
def FnStoresWrongFalsely : Prop := fnStoresRow.holds Tryz.pinned (OpenSpec.ofChange fnStoresWrong)

/-- 'laws.FnLivesSerial': WHATEVER THE INPUT: true; the input reads as it did. -/
def fnLivesSerialSpec : ChangeSpec := { name := "fnLivesSerial", fn := fun _ => fun
  | [d] => { results := [.lit (.bool true)], args := [d] }
  | _ => none }
def fnLivesSerialRow : OpenClaim := { program := "ytkdpclfhapphhaagreat", sum := "0631d1b510a1e7155365aaaaff2ac77a457ee5ff7a4fd10e0056b4fc04f66b0b", func := "loop.example/g00327/laws.FnLivesSerial", spec := "fnLivesSerial", inPlace := ["slices.overlaps[loop.example/g00327/impl.Version]"], unfollowed := true, recurses := true, apart := false }
def FnLivesSerialSaid : Prop := fnLivesSerialRow.holds Tryz.pinned (OpenSpec.ofChange fnLivesSerialSpec)

/-- ITS FALSE NEIGHBOUR: 'it returns false'. Refute it at one input. -/
def fnLivesSerialWrong : ChangeSpec := { name := "fnLivesSerial", fn := fun _ => fun
  | [d] => { results := [.lit (.bool false)], args := [d] }
  | _ => none }
def FnLivesSerialWrongFalsely : Prop := fnLivesSerialRow.holds Tryz.pinned (OpenSpec.ofChange fnLivesSerialWrong)

/-- 'laws.FnRecords': WHATEVER THE INPUT: true; the input reads as it did. -/
def fnRecordsSpec : ChangeSpec := { name := "fnRecords", fn := fun _ => fun
  | [d] => { results := [.lit (.bool true)], args := [d] }
  | _ => none }
def fnRecordsRow : OpenClaim := { program := "ytkdpclfhapphhaagreat", sum := "0631d1b510a1e7155365aaaaff2ac77a457ee5ff7a4fd10e0056b4fc04f66b0b", func := "loop.example/g00327/laws.FnRecords", spec := "fnRecords", unfollowed := true, recurses := true, apart := false }
def FnRecordsSaid : Prop := fnRecordsRow.holds Tryz.pinned (OpenSpec.ofChange fnRecordsSpec)

/-- ITS FALSE NEIGHBOUR: 'it returns false'. Refute it at one input. -/
def fnRecordsWrong : ChangeSpec := { name := "fnRecords", fn := fun _ => fun
  | [d] => { results := [.lit (.bool false)], args := [d] }
  | _ => none }
def FnRecordsWrongFalsely : Prop := fnRecordsRow.holds Tryz.pinned (OpenSpec.ofChange fnRecordsWrong)

/-- 'laws.FnExactSoundWorld': WHATEVER THE INPUT: true; the input reads as it did. -/
def fnExactSoundWorldSpec : ChangeSpec := { name := "fnExactSoundWorld", fn := fun _ => fun
  | [d] => { results := [.lit (.bool true)], args := [d] }
  | _ => none }
def fnExactSoundWorldRow : OpenClaim := { program := "ytkdpclfhapphhaagreat", sum := "0631d1b510a1e7155365aaaaff2ac77a457ee5ff7a4fd10e0056b4fc04f66b0b", func := "loop.example/g00327/laws.FnExactSoundWorld", spec := "fnExactSoundWorld", inPlace := ["slices.overlaps[loop.example/g00327/impl.Version]"], unfollowed := true, recurses := true, apart := false }
def FnExactSoundWorldSaid : Prop := fnExactSoundWorldRow.holds Tryz.pinned (OpenSpec.ofChange fnExactSoundWorldSpec)

/-- ITS FALSE NEIGHBOUR: 'it returns false'. Refute it at one input. -/
def fnExactSoundWorldWrong : ChangeSpec := { name := "fnExactSoundWorld", fn := fun _ => fun
  | [d] => { results := [.lit (.bool false)], args := [d] }
  | _ => none }
def FnExactSoundWorldWrongFalsely : Prop := fnExactSoundWorldRow.holds Tryz.pinned (OpenSpec.ofChange fnExactSoundWorldWrong)

/-- 'laws.FnFixes': WHATEVER THE INPUT: true; the input reads as it did. -/
def fnFixesSpec : ChangeSpec := { name := "fnFixes", fn := fun _ => fun
  | [d] => { results := [.lit (.bool true)], args := [d] }
  | _ => none }
def fnFixesRow : OpenClaim := { program := "ytkdpclfhapphhaagreat", sum := "0631d1b510a1e7155365aaaaff2ac77a457ee5ff7a4fd10e0056b4fc04f66b0b", func := "loop.example/g00327/laws.FnFixes", spec := "fnFixes", inPlace := ["slices.overlaps[loop.example/g00327/impl.Version]"], unfollowed := true, recurses := true, apart := false }
def FnFixesSaid : Prop := fnFixesRow.holds Tryz.pinned (OpenSpec.ofChange fnFixesSpec)

/-- ITS FALSE NEIGHBOUR: 'it returns false'. Refute it at one input. -/
def fnFixesWrong : ChangeSpec := { name := "fnFixes", fn := fun _ => fun
  | [d] => { results := [.lit (.bool false)], args := [d] }
  | _ => none }
def FnFixesWrongFalsely : Prop := fnFixesRow.holds Tryz.pinned (OpenSpec.ofChange fnFixesWrong)

/- THE SECOND FORM. 'bulk': how many values and letters a reading holds, each counted each time it is reached (what is shared counts as often as it is met; a slice's spare places count too). A statement '..UptoSaid' is the law's where the arguments, and the package variables that the reading takes, are together of bulk at most 1048576: NARROWER than '..Said'. Prove '..Said' where nothing that the law and all that it calls make is longer than what came in: it says more and counts as full. Else prove '..UptoSaid'. A law counts once. -/
mutual
def uptoBulk {H : Type} : DataW H → Nat
  | .lit (.string bytes) => bytes.length + 1
  | .lit _ => 1
  | .nil => 1
  | .ptr d => uptoBulk d + 1
  | .slice elems spare => uptoBulkAll elems + uptoBulkAll spare + 1
  | .agg parts => uptoBulkAll parts + 1
  | .iface _ d => uptoBulk d + 1
  | .map entries => uptoBulkEntries entries + 1
  | .held _ => 1
def uptoBulkAll {H : Type} : List (DataW H) → Nat
  | [] => 0
  | d :: r => uptoBulk d + uptoBulkAll r
def uptoBulkEntries {H : Type} : List (Lit × DataW H) → Nat
  | [] => 0
  | x :: r => uptoBulkEntry x + uptoBulkEntries r
def uptoBulkEntry {H : Type} : Lit × DataW H → Nat
  | (.string bytes, d) => bytes.length + uptoBulk d + 1
  | (_, d) => uptoBulk d + 1
 end
def uptoSmall : (H : Type) → List (DataW H) → Bool := fun _ ds => decide (uptoBulkAll ds ≤ 1048576)
def OpenSpec.upto (s : _root_.Go.ChangeSpec) : _root_.Go.OpenSpec := { _root_.Go.OpenSpec.ofChange s with cond := some uptoSmall }

/-- 'laws.FnStores', WHERE WHAT IT READS IS OF BULK AT MOST 1048576: true; the input reads as it did. -/
def fnStoresUptoRow : OpenClaim := { program := "ytkdpclfhapphhaagreat", sum := "0631d1b510a1e7155365aaaaff2ac77a457ee5ff7a4fd10e0056b4fc04f66b0b", func := "loop.example/g00327/laws.FnStores", spec := "fnStores", inPlace := ["slices.overlaps[loop.example/g00327/impl.Version]"], unfollowed := true, recurses := true, apart := false, narrowed := true }
def FnStoresUptoSaid : Prop := fnStoresUptoRow.holds Tryz.pinned (OpenSpec.upto fnStoresSpec)

/-- 'laws.FnLivesSerial', WHERE WHAT IT READS IS OF BULK AT MOST 1048576: true; the input reads as it did. -/
def fnLivesSerialUptoRow : OpenClaim := { program := "ytkdpclfhapphhaagreat", sum := "0631d1b510a1e7155365aaaaff2ac77a457ee5ff7a4fd10e0056b4fc04f66b0b", func := "loop.example/g00327/laws.FnLivesSerial", spec := "fnLivesSerial", inPlace := ["slices.overlaps[loop.example/g00327/impl.Version]"], unfollowed := true, recurses := true, apart := false, narrowed := true }
def FnLivesSerialUptoSaid : Prop := fnLivesSerialUptoRow.holds Tryz.pinned (OpenSpec.upto fnLivesSerialSpec)

/-- 'laws.FnRecords', WHERE WHAT IT READS IS OF BULK AT MOST 1048576: true; the input reads as it did. -/
def fnRecordsUptoRow : OpenClaim := { program := "ytkdpclfhapphhaagreat", sum := "0631d1b510a1e7155365aaaaff2ac77a457ee5ff7a4fd10e0056b4fc04f66b0b", func := "loop.example/g00327/laws.FnRecords", spec := "fnRecords", unfollowed := true, recurses := true, apart := false, narrowed := true }
def FnRecordsUptoSaid : Prop := fnRecordsUptoRow.holds Tryz.pinned (OpenSpec.upto fnRecordsSpec)

/-- 'laws.FnExactSoundWorld', WHERE WHAT IT READS IS OF BULK AT MOST 1048576: true; the input reads as it did. -/
def fnExactSoundWorldUptoRow : OpenClaim := { program := "ytkdpclfhapphhaagreat", sum := "0631d1b510a1e7155365aaaaff2ac77a457ee5ff7a4fd10e0056b4fc04f66b0b", func := "loop.example/g00327/laws.FnExactSoundWorld", spec := "fnExactSoundWorld", inPlace := ["slices.overlaps[loop.example/g00327/impl.Version]"], unfollowed := true, recurses := true, apart := false, narrowed := true }
def FnExactSoundWorldUptoSaid : Prop := fnExactSoundWorldUptoRow.holds Tryz.pinned (OpenSpec.upto fnExactSoundWorldSpec)

/-- 'laws.FnFixes', WHERE WHAT IT READS IS OF BULK AT MOST 1048576: true; the input reads as it did. -/
def fnFixesUptoRow : OpenClaim := { program := "ytkdpclfhapphhaagreat", sum := "0631d1b510a1e7155365aaaaff2ac77a457ee5ff7a4fd10e0056b4fc04f66b0b", func := "loop.example/g00327/laws.FnFixes", spec := "fnFixes", inPlace := ["slices.overlaps[loop.example/g00327/impl.Version]"], unfollowed := true, recurses := true, apart := false, narrowed := true }
def FnFixesUptoSaid : Prop := fnFixesUptoRow.holds Tryz.pinned (OpenSpec.upto fnFixesSpec)

end Rows
end Go.Proofs.YtkdpclfhapphhaaGreat
