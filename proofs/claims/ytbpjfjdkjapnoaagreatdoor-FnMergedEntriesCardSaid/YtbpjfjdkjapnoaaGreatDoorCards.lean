/-
  DERIVED. GIVEN WITH THE SEED: THE CARDS: each row of YtbpjfjdkjapnoaaGreatDoorRows.lean that lists a variable, with what it lists TIED to the program's text (the seventh form; the later family's looks); each row that meets fmt, with fmt's text TOLD by the authors' own Lean function (tested against real Go, not proved from fmt's source: count such statements apart). THE CARD IS WHAT COUNTS. Prove the row's statement (the work); the ties are given (YtbpjfjdkjapnoaaGreatDoorTie.lean); close each card by the builder's one call (the guide's Derived/Test/ToyasCard.lean, 'card_holds'). Laid BY PROGRAM, IN A SANDBOX (cutbox-door.mjs). By AI agents, Wed Nov 11 2026. No macro, syntax, notation, axiom, sorry.
-/
import Derived.Test.YtbpjfjdkjapnoaaGreatDoorRows
import GoSem.ClaimSeven
namespace Go.Proofs.YtbpjfjdkjapnoaaGreatDoor
namespace Rows

/-- THE TIED CARD OF 'laws.FnMergedEntries'. -/
def fnMergedEntriesCard : Claim7 := { stood := { row := fnMergedEntriesRow, standIns := [], harness := (true, "d3e138851b9d9842f2d910ec158f76678e071ed9ed4b99fef5055efd97a12bdc"), looks := false }, kinds := [], alts := [], laidByText := true, laidKinds := [.data, .data, .data, .data, .widerDeep, .pinned], laidTests := true, laidLooks := .later }
def FnMergedEntriesCardSaid : Prop := Claim7.holds Tryz.pinned (.plain (OpenSpec.ofChange fnMergedEntriesSpec)) fnMergedEntriesCard

/-- THE SECOND FORM's CARD OF 'laws.FnMergedEntries'. -/
def fnMergedEntriesUptoCard : Claim7 := { stood := { row := fnMergedEntriesUptoRow, standIns := [], harness := (true, "d3e138851b9d9842f2d910ec158f76678e071ed9ed4b99fef5055efd97a12bdc"), looks := false }, kinds := [], alts := [], laidByText := true, laidKinds := [.data, .data, .data, .data, .widerDeep, .pinned], laidTests := true, laidLooks := .later }
def FnMergedEntriesUptoCardSaid : Prop := Claim7.holds Tryz.pinned (.plain (OpenSpec.upto fnMergedEntriesSpec)) fnMergedEntriesUptoCard
end Rows
end Go.Proofs.YtbpjfjdkjapnoaaGreatDoor
