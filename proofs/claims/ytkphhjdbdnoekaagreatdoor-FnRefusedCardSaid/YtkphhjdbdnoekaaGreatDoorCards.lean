/-
  DERIVED. GIVEN WITH THE SEED: THE CARDS: each row of YtkphhjdbdnoekaaGreatDoorRows.lean that lists a variable, with what it lists TIED to the program's text (the seventh form; the later family's looks); each row that meets fmt, with fmt's text TOLD by the authors' own Lean function (tested against real Go, not proved from fmt's source: count such statements apart). THE CARD IS WHAT COUNTS. Prove the row's statement (the work); the ties are given (YtkphhjdbdnoekaaGreatDoorTie.lean); close each card by the builder's one call (the guide's Derived/Test/ToyasCard.lean, 'card_holds'). Laid BY PROGRAM, IN A SANDBOX (cutbox-door.mjs). By AI agents, Wed Nov 11 2026. No macro, syntax, notation, axiom, sorry.
-/
import Derived.Test.YtkphhjdbdnoekaaGreatDoorRows
import GoSem.ClaimSeven
namespace Go.Proofs.YtkphhjdbdnoekaaGreatDoor
namespace Rows

/-- THE TIED CARD OF 'laws.FnRefused'. -/
def fnRefusedCard : Claim7 := { stood := { row := fnRefusedRow, standIns := [], harness := (true, "5e54251ec7436b2dcd121d1e63303b5230fb3e24a70dc563c480cd2f4d0f355f"), looks := false }, kinds := [], alts := [], laidByText := true, laidKinds := [.data, .data, .data], laidTests := true, laidLooks := .later }
def FnRefusedCardSaid : Prop := Claim7.holds Tryz.pinned (.plain (OpenSpec.ofChange fnRefusedSpec)) fnRefusedCard

/-- THE TIED CARD OF 'laws.FnLives'. -/
def fnLivesCard : Claim7 := { stood := { row := fnLivesRow, standIns := [], harness := (true, "5e54251ec7436b2dcd121d1e63303b5230fb3e24a70dc563c480cd2f4d0f355f"), looks := false }, kinds := [], alts := [], laidByText := true, laidKinds := [.data, .data, .data], laidTests := true, laidLooks := .later }
def FnLivesCardSaid : Prop := Claim7.holds Tryz.pinned (.plain (OpenSpec.ofChange fnLivesSpec)) fnLivesCard

/-- THE SECOND FORM's CARD OF 'laws.FnRefused'. -/
def fnRefusedUptoCard : Claim7 := { stood := { row := fnRefusedUptoRow, standIns := [], harness := (true, "5e54251ec7436b2dcd121d1e63303b5230fb3e24a70dc563c480cd2f4d0f355f"), looks := false }, kinds := [], alts := [], laidByText := true, laidKinds := [.data, .data, .data], laidTests := true, laidLooks := .later }
def FnRefusedUptoCardSaid : Prop := Claim7.holds Tryz.pinned (.plain (OpenSpec.upto fnRefusedSpec)) fnRefusedUptoCard

/-- THE SECOND FORM's CARD OF 'laws.FnLives'. -/
def fnLivesUptoCard : Claim7 := { stood := { row := fnLivesUptoRow, standIns := [], harness := (true, "5e54251ec7436b2dcd121d1e63303b5230fb3e24a70dc563c480cd2f4d0f355f"), looks := false }, kinds := [], alts := [], laidByText := true, laidKinds := [.data, .data, .data], laidTests := true, laidLooks := .later }
def FnLivesUptoCardSaid : Prop := Claim7.holds Tryz.pinned (.plain (OpenSpec.upto fnLivesSpec)) fnLivesUptoCard
end Rows
end Go.Proofs.YtkphhjdbdnoekaaGreatDoor
