/-
  No cell of these rows narrows 'for every input' (looked for: loops, veiled, ifaces, maps, wideKeys, modest, calm, conditions, laid).
  DERIVED. THE GIVEN ROWS OF THIS SEAT. 9 by the template 'for every input the law returns true; each argument reads behind the call as it read before'; 0 by the template 'total and deterministic' (their statements: YtoafakkbmnnimaaTotals.lean).
  GIVEN WITH THE SEED: the statements are not yours to turn. If you find one false, say at which input.
  Laid BY PROGRAM, IN A SANDBOX (cutbox-rows.mjs): the forced cells as the released guide's own fill.sh prints them over the translation 7d9d166897803d75… (all of the seat's roots in one cut). By AI agents, Wed Nov 11 2026. No macro, syntax, notation, axiom, sorry.
-/
import Derived.Test.YtoafakkbmnnimaaChecked
import GoSem.Claim
import GoSem.ClaimJoined
import GoSem.ClaimMapViews
import Derived.JoinedTies
import Derived.KernelRfl
namespace Go.Proofs.Ytoafakkbmnnimaa
/- THE CELL 'sum', in the pinned program and in every row, IS THE sha256 OF THE DUMP (.gsa) THAT YtoafakkbmnnimaaProg.lean LOADS. Nothing in Lean hashes anything: it is a label: what it is worth is what the hold of that sum in a sandbox is worth. -/
noncomputable def Try.pinned : Pinned := { name := "ytoafakkbmnnimaa", sum := "7d9d166897803d753de2ce29855d3e7e654f2db5e08f27ee323b1b45b9705c2e", checked := Try.checked }
namespace Rows
def none {H : Type} : Left H := { results := [], args := [] }

/-- 'laws.FnExactEventOk': WHATEVER THE INPUT: true; the input reads as it did. -/
def fnExactEventOkSpec : ChangeSpec := { name := "fnExactEventOk", fn := fun _ => fun
  | [d] => { results := [.lit (.bool true)], args := [d] }
  | _ => none }
def fnExactEventOkRow : OpenClaim := { program := "ytoafakkbmnnimaa", sum := "7d9d166897803d753de2ce29855d3e7e654f2db5e08f27ee323b1b45b9705c2e", func := "loop.example/g00327/laws.FnExactEventOk", spec := "fnExactEventOk", apart := false }
def FnExactEventOkSaid : Prop := fnExactEventOkRow.holds Try.pinned (OpenSpec.ofChange fnExactEventOkSpec)

/-- ITS FALSE NEIGHBOUR: 'it returns false'. Refute it at one input. -/
def fnExactEventOkWrong : ChangeSpec := { name := "fnExactEventOk", fn := fun _ => fun
  | [d] => { results := [.lit (.bool false)], args := [d] }
  | _ => none }
def FnExactEventOkWrongFalsely : Prop := fnExactEventOkRow.holds Try.pinned (OpenSpec.ofChange fnExactEventOkWrong)

/-- 'laws.FnExactShowPairs': WHATEVER THE INPUT: true; the input reads as it did. -/
def fnExactShowPairsSpec : ChangeSpec := { name := "fnExactShowPairs", fn := fun _ => fun
  | [d] => { results := [.lit (.bool true)], args := [d] }
  | _ => none }
def fnExactShowPairsRow : OpenClaim := { program := "ytoafakkbmnnimaa", sum := "7d9d166897803d753de2ce29855d3e7e654f2db5e08f27ee323b1b45b9705c2e", func := "loop.example/g00327/laws.FnExactShowPairs", spec := "fnExactShowPairs", apart := false }
def FnExactShowPairsSaid : Prop := fnExactShowPairsRow.holds Try.pinned (OpenSpec.ofChange fnExactShowPairsSpec)

/-- ITS FALSE NEIGHBOUR: 'it returns false'. Refute it at one input. -/
def fnExactShowPairsWrong : ChangeSpec := { name := "fnExactShowPairs", fn := fun _ => fun
  | [d] => { results := [.lit (.bool false)], args := [d] }
  | _ => none }
def FnExactShowPairsWrongFalsely : Prop := fnExactShowPairsRow.holds Try.pinned (OpenSpec.ofChange fnExactShowPairsWrong)

/-- 'laws.FnExactViewOf': WHATEVER THE INPUT: true; the input reads as it did. -/
def fnExactViewOfSpec : ChangeSpec := { name := "fnExactViewOf", fn := fun _ => fun
  | [d1, d2] => { results := [.lit (.bool true)], args := [d1, d2] }
  | _ => none }
def fnExactViewOfRow : OpenClaim := { program := "ytoafakkbmnnimaa", sum := "7d9d166897803d753de2ce29855d3e7e654f2db5e08f27ee323b1b45b9705c2e", func := "loop.example/g00327/laws.FnExactViewOf", spec := "fnExactViewOf", apart := false }
def FnExactViewOfSaid : Prop := fnExactViewOfRow.holds Try.pinned (OpenSpec.ofChange fnExactViewOfSpec)

/-- ITS FALSE NEIGHBOUR: 'it returns false'. Refute it at one input. -/
def fnExactViewOfWrong : ChangeSpec := { name := "fnExactViewOf", fn := fun _ => fun
  | [d1, d2] => { results := [.lit (.bool false)], args := [d1, d2] }
  | _ => none }
def FnExactViewOfWrongFalsely : Prop := fnExactViewOfRow.holds Try.pinned (OpenSpec.ofChange fnExactViewOfWrong)

/-- 'laws.FnOrders': WHATEVER THE INPUT: true; the input reads as it did. -/
def fnOrdersSpec : ChangeSpec := { name := "fnOrders", fn := fun _ => fun
  | [d] => { results := [.lit (.bool true)], args := [d] }
  | _ => none }
def fnOrdersRow : OpenClaim := { program := "ytoafakkbmnnimaa", sum := "7d9d166897803d753de2ce29855d3e7e654f2db5e08f27ee323b1b45b9705c2e", func := "loop.example/g00327/laws.FnOrders", spec := "fnOrders", apart := false }
def FnOrdersSaid : Prop := fnOrdersRow.holds Try.pinned (OpenSpec.ofChange fnOrdersSpec)

/-- ITS FALSE NEIGHBOUR: 'it returns false'. Refute it at one input. -/
def fnOrdersWrong : ChangeSpec := { name := "fnOrders", fn := fun _ => fun
  | [d] => { results := [.lit (.bool false)], args := [d] }
  | _ => none }
def FnOrdersWrongFalsely : Prop := fnOrdersRow.holds Try.pinned (OpenSpec.ofChange fnOrdersWrong)

/-- 'laws.FnExactBefore': WHATEVER THE INPUT: true; the input reads as it did. -/
def fnExactBeforeSpec : ChangeSpec := { name := "fnExactBefore", fn := fun _ => fun
  | [d1, d2] => { results := [.lit (.bool true)], args := [d1, d2] }
  | _ => none }
def fnExactBeforeRow : OpenClaim := { program := "ytoafakkbmnnimaa", sum := "7d9d166897803d753de2ce29855d3e7e654f2db5e08f27ee323b1b45b9705c2e", func := "loop.example/g00327/laws.FnExactBefore", spec := "fnExactBefore", apart := false }
def FnExactBeforeSaid : Prop := fnExactBeforeRow.holds Try.pinned (OpenSpec.ofChange fnExactBeforeSpec)

/-- ITS FALSE NEIGHBOUR: 'it returns false'. Refute it at one input. -/
def fnExactBeforeWrong : ChangeSpec := { name := "fnExactBefore", fn := fun _ => fun
  | [d1, d2] => { results := [.lit (.bool false)], args := [d1, d2] }
  | _ => none }
def FnExactBeforeWrongFalsely : Prop := fnExactBeforeRow.holds Try.pinned (OpenSpec.ofChange fnExactBeforeWrong)

/-- 'laws.FnExactPlayOne': WHATEVER THE INPUT: true; the input reads as it did. -/
def fnExactPlayOneSpec : ChangeSpec := { name := "fnExactPlayOne", fn := fun _ => fun
  | [d1, d2] => { results := [.lit (.bool true)], args := [d1, d2] }
  | _ => none }
def fnExactPlayOneRow : OpenClaim := { program := "ytoafakkbmnnimaa", sum := "7d9d166897803d753de2ce29855d3e7e654f2db5e08f27ee323b1b45b9705c2e", func := "loop.example/g00327/laws.FnExactPlayOne", spec := "fnExactPlayOne", apart := false }
def FnExactPlayOneSaid : Prop := fnExactPlayOneRow.holds Try.pinned (OpenSpec.ofChange fnExactPlayOneSpec)

/-- ITS FALSE NEIGHBOUR: 'it returns false'. Refute it at one input. -/
def fnExactPlayOneWrong : ChangeSpec := { name := "fnExactPlayOne", fn := fun _ => fun
  | [d1, d2] => { results := [.lit (.bool false)], args := [d1, d2] }
  | _ => none }
def FnExactPlayOneWrongFalsely : Prop := fnExactPlayOneRow.holds Try.pinned (OpenSpec.ofChange fnExactPlayOneWrong)

/-- 'laws.FnExactSameTexts': WHATEVER THE INPUT: true; the input reads as it did. -/
def fnExactSameTextsSpec : ChangeSpec := { name := "fnExactSameTexts", fn := fun _ => fun
  | [d1, d2] => { results := [.lit (.bool true)], args := [d1, d2] }
  | _ => none }
def fnExactSameTextsRow : OpenClaim := { program := "ytoafakkbmnnimaa", sum := "7d9d166897803d753de2ce29855d3e7e654f2db5e08f27ee323b1b45b9705c2e", func := "loop.example/g00327/laws.FnExactSameTexts", spec := "fnExactSameTexts", apart := false }
def FnExactSameTextsSaid : Prop := fnExactSameTextsRow.holds Try.pinned (OpenSpec.ofChange fnExactSameTextsSpec)

/-- ITS FALSE NEIGHBOUR: 'it returns false'. Refute it at one input. -/
def fnExactSameTextsWrong : ChangeSpec := { name := "fnExactSameTexts", fn := fun _ => fun
  | [d1, d2] => { results := [.lit (.bool false)], args := [d1, d2] }
  | _ => none }
def FnExactSameTextsWrongFalsely : Prop := fnExactSameTextsRow.holds Try.pinned (OpenSpec.ofChange fnExactSameTextsWrong)

/-- 'laws.FnExactCutRight': WHATEVER THE INPUT: true; the input reads as it did. -/
def fnExactCutRightSpec : ChangeSpec := { name := "fnExactCutRight", fn := fun _ => fun
  | [d1, d2, d3] => { results := [.lit (.bool true)], args := [d1, d2, d3] }
  | _ => none }
def fnExactCutRightRow : OpenClaim := { program := "ytoafakkbmnnimaa", sum := "7d9d166897803d753de2ce29855d3e7e654f2db5e08f27ee323b1b45b9705c2e", func := "loop.example/g00327/laws.FnExactCutRight", spec := "fnExactCutRight", apart := false }
def FnExactCutRightSaid : Prop := fnExactCutRightRow.holds Try.pinned (OpenSpec.ofChange fnExactCutRightSpec)

/-- ITS FALSE NEIGHBOUR: 'it returns false'. Refute it at one input. -/
def fnExactCutRightWrong : ChangeSpec := { name := "fnExactCutRight", fn := fun _ => fun
  | [d1, d2, d3] => { results := [.lit (.bool false)], args := [d1, d2, d3] }
  | _ => none }
def FnExactCutRightWrongFalsely : Prop := fnExactCutRightRow.holds Try.pinned (OpenSpec.ofChange fnExactCutRightWrong)

/-- 'laws.FnExactSerialOrder': WHATEVER THE INPUT: true; the input reads as it did. -/
def fnExactSerialOrderSpec : ChangeSpec := { name := "fnExactSerialOrder", fn := fun _ => fun
  | [d] => { results := [.lit (.bool true)], args := [d] }
  | _ => none }
def fnExactSerialOrderRow : OpenClaim := { program := "ytoafakkbmnnimaa", sum := "7d9d166897803d753de2ce29855d3e7e654f2db5e08f27ee323b1b45b9705c2e", func := "loop.example/g00327/laws.FnExactSerialOrder", spec := "fnExactSerialOrder", apart := false }
def FnExactSerialOrderSaid : Prop := fnExactSerialOrderRow.holds Try.pinned (OpenSpec.ofChange fnExactSerialOrderSpec)

/-- ITS FALSE NEIGHBOUR: 'it returns false'. Refute it at one input. -/
def fnExactSerialOrderWrong : ChangeSpec := { name := "fnExactSerialOrder", fn := fun _ => fun
  | [d] => { results := [.lit (.bool false)], args := [d] }
  | _ => none }
def FnExactSerialOrderWrongFalsely : Prop := fnExactSerialOrderRow.holds Try.pinned (OpenSpec.ofChange fnExactSerialOrderWrong)

/- THE SECOND FORM. 'bulk': how many values and letters a reading holds, each counted each time it is reached (what is shared counts as often as it is met; a slice's spare places count too). A statement '..UptoSaid' is the law's where the arguments, and the package variables that the reading takes, are together of bulk at most 1048576: NARROWER than '..Said'. Prove '..Said' where nothing that the law and all that it calls make is longer than what came in: it says more and counts as full. Else prove '..UptoSaid'. A law counts once. -/
mutual
def uptoBulk {H : Type} : DataW H → Nat
  | .lit (.string bytes) => bytes.length + 1
  | .lit _ => 1
  | .nil => 1
  | .ptr d => uptoBulk d + 1
  | .slice elems spare => uptoBulkAll elems + uptoBulkAll spare + 1
  | .agg parts => uptoBulkAll parts + 1
  | .iface _ d => uptoBulk d + 1
  | .map entries => uptoBulkEntries entries + 1
  | .held _ => 1
def uptoBulkAll {H : Type} : List (DataW H) → Nat
  | [] => 0
  | d :: r => uptoBulk d + uptoBulkAll r
def uptoBulkEntries {H : Type} : List (Lit × DataW H) → Nat
  | [] => 0
  | x :: r => uptoBulkEntry x + uptoBulkEntries r
def uptoBulkEntry {H : Type} : Lit × DataW H → Nat
  | (.string bytes, d) => bytes.length + uptoBulk d + 1
  | (_, d) => uptoBulk d + 1
 end
def uptoSmall : (H : Type) → List (DataW H) → Bool := fun _ ds => decide (uptoBulkAll ds ≤ 1048576)
def OpenSpec.upto (s : _root_.Go.ChangeSpec) : _root_.Go.OpenSpec := { _root_.Go.OpenSpec.ofChange s with cond := some uptoSmall }

/-- 'laws.FnExactEventOk', WHERE WHAT IT READS IS OF BULK AT MOST 1048576: true; the input reads as it did. -/
def fnExactEventOkUptoRow : OpenClaim := { program := "ytoafakkbmnnimaa", sum := "7d9d166897803d753de2ce29855d3e7e654f2db5e08f27ee323b1b45b9705c2e", func := "loop.example/g00327/laws.FnExactEventOk", spec := "fnExactEventOk", apart := false, narrowed := true }
def FnExactEventOkUptoSaid : Prop := fnExactEventOkUptoRow.holds Try.pinned (OpenSpec.upto fnExactEventOkSpec)

/-- 'laws.FnExactShowPairs', WHERE WHAT IT READS IS OF BULK AT MOST 1048576: true; the input reads as it did. -/
def fnExactShowPairsUptoRow : OpenClaim := { program := "ytoafakkbmnnimaa", sum := "7d9d166897803d753de2ce29855d3e7e654f2db5e08f27ee323b1b45b9705c2e", func := "loop.example/g00327/laws.FnExactShowPairs", spec := "fnExactShowPairs", apart := false, narrowed := true }
def FnExactShowPairsUptoSaid : Prop := fnExactShowPairsUptoRow.holds Try.pinned (OpenSpec.upto fnExactShowPairsSpec)

/-- 'laws.FnExactViewOf', WHERE WHAT IT READS IS OF BULK AT MOST 1048576: true; the input reads as it did. -/
def fnExactViewOfUptoRow : OpenClaim := { program := "ytoafakkbmnnimaa", sum := "7d9d166897803d753de2ce29855d3e7e654f2db5e08f27ee323b1b45b9705c2e", func := "loop.example/g00327/laws.FnExactViewOf", spec := "fnExactViewOf", apart := false, narrowed := true }
def FnExactViewOfUptoSaid : Prop := fnExactViewOfUptoRow.holds Try.pinned (OpenSpec.upto fnExactViewOfSpec)

/-- 'laws.FnOrders', WHERE WHAT IT READS IS OF BULK AT MOST 1048576: true; the input reads as it did. -/
def fnOrdersUptoRow : OpenClaim := { program := "ytoafakkbmnnimaa", sum := "7d9d166897803d753de2ce29855d3e7e654f2db5e08f27ee323b1b45b9705c2e", func := "loop.example/g00327/laws.FnOrders", spec := "fnOrders", apart := false, narrowed := true }
def FnOrdersUptoSaid : Prop := fnOrdersUptoRow.holds Try.pinned (OpenSpec.upto fnOrdersSpec)

/-- 'laws.FnExactBefore', WHERE WHAT IT READS IS OF BULK AT MOST 1048576: true; the input reads as it did. -/
def fnExactBeforeUptoRow : OpenClaim := { program := "ytoafakkbmnnimaa", sum := "7d9d166897803d753de2ce29855d3e7e654f2db5e08f27ee323b1b45b9705c2e", func := "loop.example/g00327/laws.FnExactBefore", spec := "fnExactBefore", apart := false, narrowed := true }
def FnExactBeforeUptoSaid : Prop := fnExactBeforeUptoRow.holds Try.pinned (OpenSpec.upto fnExactBeforeSpec)

/-- 'laws.FnExactPlayOne', WHERE WHAT IT READS IS OF BULK AT MOST 1048576: true; the input reads as it did. -/
def fnExactPlayOneUptoRow : OpenClaim := { program := "ytoafakkbmnnimaa", sum := "7d9d166897803d753de2ce29855d3e7e654f2db5e08f27ee323b1b45b9705c2e", func := "loop.example/g00327/laws.FnExactPlayOne", spec := "fnExactPlayOne", apart := false, narrowed := true }
def FnExactPlayOneUptoSaid : Prop := fnExactPlayOneUptoRow.holds Try.pinned (OpenSpec.upto fnExactPlayOneSpec)

/-- 'laws.FnExactSameTexts', WHERE WHAT IT READS IS OF BULK AT MOST 1048576: true; the input reads as it did. -/
def fnExactSameTextsUptoRow : OpenClaim := { program := "ytoafakkbmnnimaa", sum := "7d9d166897803d753de2ce29855d3e7e654f2db5e08f27ee323b1b45b9705c2e", func := "loop.example/g00327/laws.FnExactSameTexts", spec := "fnExactSameTexts", apart := false, narrowed := true }
def FnExactSameTextsUptoSaid : Prop := fnExactSameTextsUptoRow.holds Try.pinned (OpenSpec.upto fnExactSameTextsSpec)

/-- 'laws.FnExactCutRight', WHERE WHAT IT READS IS OF BULK AT MOST 1048576: true; the input reads as it did. -/
def fnExactCutRightUptoRow : OpenClaim := { program := "ytoafakkbmnnimaa", sum := "7d9d166897803d753de2ce29855d3e7e654f2db5e08f27ee323b1b45b9705c2e", func := "loop.example/g00327/laws.FnExactCutRight", spec := "fnExactCutRight", apart := false, narrowed := true }
def FnExactCutRightUptoSaid : Prop := fnExactCutRightUptoRow.holds Try.pinned (OpenSpec.upto fnExactCutRightSpec)

/-- 'laws.FnExactSerialOrder', WHERE WHAT IT READS IS OF BULK AT MOST 1048576: true; the input reads as it did. -/
def fnExactSerialOrderUptoRow : OpenClaim := { program := "ytoafakkbmnnimaa", sum := "7d9d166897803d753de2ce29855d3e7e654f2db5e08f27ee323b1b45b9705c2e", func := "loop.example/g00327/laws.FnExactSerialOrder", spec := "fnExactSerialOrder", apart := false, narrowed := true }
def FnExactSerialOrderUptoSaid : Prop := fnExactSerialOrderUptoRow.holds Try.pinned (OpenSpec.upto fnExactSerialOrderSpec)

end Rows
end Go.Proofs.Ytoafakkbmnnimaa
