/-
  DERIVED. GIVEN WITH THE SEED: THE CARDS: each row of YtdeadnnhblaflaaGreatDoorRows.lean that lists a variable, with what it lists TIED to the program's text (the seventh form; the later family's looks); each row that meets fmt, with fmt's text TOLD by the authors' own Lean function (tested against real Go, not proved from fmt's source: count such statements apart). THE CARD IS WHAT COUNTS. Prove the row's statement (the work); the ties are given (YtdeadnnhblaflaaGreatDoorTie.lean); close each card by the builder's one call (the guide's Derived/Test/ToyasCard.lean, 'card_holds'). Laid BY PROGRAM, IN A SANDBOX (cutbox-door.mjs). By AI agents, Wed Nov 11 2026. No macro, syntax, notation, axiom, sorry.
-/
import Derived.Test.YtdeadnnhblaflaaGreatDoorRows
import GoSem.ClaimSeven
namespace Go.Proofs.YtdeadnnhblaflaaGreatDoor
namespace Rows

/-- THE TIED CARD OF 'laws.FnExactShowStore'. -/
def fnExactShowStoreCard : Claim7 := { stood := { row := fnExactShowStoreRow, standIns := [], harness := (true, "5a1e3a5790bae776a63758b29d68218cc3591f6cd8ec6d05c703c80b28203c52"), looks := false }, kinds := [], alts := [], laidByText := true, laidKinds := [.data, .data, .data], laidTests := true, laidLooks := .later }
def FnExactShowStoreCardSaid : Prop := Claim7.holds Tryz.pinned (.plain (OpenSpec.ofChange fnExactShowStoreSpec)) fnExactShowStoreCard

/-- THE TIED CARD OF 'laws.FnExactShowWorld'. -/
def fnExactShowWorldCard : Claim7 := { stood := { row := fnExactShowWorldRow, standIns := [], harness := (true, "5a1e3a5790bae776a63758b29d68218cc3591f6cd8ec6d05c703c80b28203c52"), looks := false }, kinds := [], alts := [], laidByText := true, laidKinds := [.data, .data, .data], laidTests := true, laidLooks := .later }
def FnExactShowWorldCardSaid : Prop := Claim7.holds Tryz.pinned (.plain (OpenSpec.ofChange fnExactShowWorldSpec)) fnExactShowWorldCard

/-- THE TIED CARD OF 'laws.FnReports'. -/
def fnReportsCard : Claim7 := { stood := { row := fnReportsRow, standIns := [], harness := (true, "5a1e3a5790bae776a63758b29d68218cc3591f6cd8ec6d05c703c80b28203c52"), looks := false }, kinds := [], alts := [], laidByText := true, laidKinds := [.data, .data, .data], laidTests := true, laidLooks := .later }
def FnReportsCardSaid : Prop := Claim7.holds Tryz.pinned (.plain (OpenSpec.ofChange fnReportsSpec)) fnReportsCard

/-- THE SECOND FORM's CARD OF 'laws.FnExactShowStore'. -/
def fnExactShowStoreUptoCard : Claim7 := { stood := { row := fnExactShowStoreUptoRow, standIns := [], harness := (true, "5a1e3a5790bae776a63758b29d68218cc3591f6cd8ec6d05c703c80b28203c52"), looks := false }, kinds := [], alts := [], laidByText := true, laidKinds := [.data, .data, .data], laidTests := true, laidLooks := .later }
def FnExactShowStoreUptoCardSaid : Prop := Claim7.holds Tryz.pinned (.plain (OpenSpec.upto fnExactShowStoreSpec)) fnExactShowStoreUptoCard

/-- THE SECOND FORM's CARD OF 'laws.FnExactShowWorld'. -/
def fnExactShowWorldUptoCard : Claim7 := { stood := { row := fnExactShowWorldUptoRow, standIns := [], harness := (true, "5a1e3a5790bae776a63758b29d68218cc3591f6cd8ec6d05c703c80b28203c52"), looks := false }, kinds := [], alts := [], laidByText := true, laidKinds := [.data, .data, .data], laidTests := true, laidLooks := .later }
def FnExactShowWorldUptoCardSaid : Prop := Claim7.holds Tryz.pinned (.plain (OpenSpec.upto fnExactShowWorldSpec)) fnExactShowWorldUptoCard

/-- THE SECOND FORM's CARD OF 'laws.FnReports'. -/
def fnReportsUptoCard : Claim7 := { stood := { row := fnReportsUptoRow, standIns := [], harness := (true, "5a1e3a5790bae776a63758b29d68218cc3591f6cd8ec6d05c703c80b28203c52"), looks := false }, kinds := [], alts := [], laidByText := true, laidKinds := [.data, .data, .data], laidTests := true, laidLooks := .later }
def FnReportsUptoCardSaid : Prop := Claim7.holds Tryz.pinned (.plain (OpenSpec.upto fnReportsSpec)) fnReportsUptoCard
end Rows
end Go.Proofs.YtdeadnnhblaflaaGreatDoor
