/-
  DERIVED. GIVEN WITH THE SEED: THE CARDS: each row of YtfindpalabmmmaaGreatDoorRows.lean that lists a variable, with what it lists TIED to the program's text (the seventh form; the later family's looks); each row that meets fmt, with fmt's text TOLD by the authors' own Lean function (tested against real Go, not proved from fmt's source: count such statements apart). THE CARD IS WHAT COUNTS. Prove the row's statement (the work); the ties are given (YtfindpalabmmmaaGreatDoorTie.lean); close each card by the builder's one call (the guide's Derived/Test/ToyasCard.lean, 'card_holds'). Laid BY PROGRAM, IN A SANDBOX (cutbox-door.mjs). By AI agents, Wed Nov 11 2026. No macro, syntax, notation, axiom, sorry.
-/
import Derived.Test.YtfindpalabmmmaaGreatDoorRows
import GoSem.ClaimSeven
namespace Go.Proofs.YtfindpalabmmmaaGreatDoor
namespace Rows

/-- THE TIED CARD OF 'laws.FnAbbreviations'. -/
def fnAbbreviationsCard : Claim7 := { stood := { row := fnAbbreviationsRow, standIns := [], harness := (true, "2f5d5e4f75d565d8cae4b49e63b316a53ec1f7aa1542522c9b31d3e2ba3fa1b5"), looks := false }, kinds := [], alts := [], laidByText := true, laidKinds := [.data, .pinned], laidTests := true, laidLooks := .later }
def FnAbbreviationsCardSaid : Prop := Claim7.holds Tryz.pinned (.plain (OpenSpec.ofChange fnAbbreviationsSpec)) fnAbbreviationsCard

/-- THE SECOND FORM's CARD OF 'laws.FnAbbreviations'. -/
def fnAbbreviationsUptoCard : Claim7 := { stood := { row := fnAbbreviationsUptoRow, standIns := [], harness := (true, "2f5d5e4f75d565d8cae4b49e63b316a53ec1f7aa1542522c9b31d3e2ba3fa1b5"), looks := false }, kinds := [], alts := [], laidByText := true, laidKinds := [.data, .pinned], laidTests := true, laidLooks := .later }
def FnAbbreviationsUptoCardSaid : Prop := Claim7.holds Tryz.pinned (.plain (OpenSpec.upto fnAbbreviationsSpec)) fnAbbreviationsUptoCard
end Rows
end Go.Proofs.YtfindpalabmmmaaGreatDoor
