/-
  DERIVED. GIVEN WITH THE SEED: THE CARDS: each row of YtnffgabfibafjaaGreatDoorRows.lean that lists a variable, with what it lists TIED to the program's text (the seventh form; the later family's looks); each row that meets fmt, with fmt's text TOLD by the authors' own Lean function (tested against real Go, not proved from fmt's source: count such statements apart). THE CARD IS WHAT COUNTS. Prove the row's statement (the work); the ties are given (YtnffgabfibafjaaGreatDoorTie.lean); close each card by the builder's one call (the guide's Derived/Test/ToyasCard.lean, 'card_holds'). Laid BY PROGRAM, IN A SANDBOX (cutbox-door.mjs). By AI agents, Wed Nov 11 2026. No macro, syntax, notation, axiom, sorry.
-/
import Derived.Test.YtnffgabfibafjaaGreatDoorRows
import GoSem.ClaimSeven
namespace Go.Proofs.YtnffgabfibafjaaGreatDoor
namespace Rows

/-- THE TIED CARD OF 'laws.FnExactDistinctTitles'. -/
def fnExactDistinctTitlesCard : Claim7 := { stood := { row := fnExactDistinctTitlesRow, standIns := [], harness := (true, "499161ca46bbdbeb3079d688641a08ec495c402f349d2c836d7e39413a463f75"), looks := false }, kinds := [], alts := [], laidByText := true, laidKinds := [.data, .pinned], laidTests := true, laidLooks := .later }
def FnExactDistinctTitlesCardSaid : Prop := Claim7.holds Tryz.pinned (.plain (OpenSpec.ofChange fnExactDistinctTitlesSpec)) fnExactDistinctTitlesCard

/-- THE TIED CARD OF 'laws.FnExactFullTitles'. -/
def fnExactFullTitlesCard : Claim7 := { stood := { row := fnExactFullTitlesRow, standIns := [], harness := (true, "499161ca46bbdbeb3079d688641a08ec495c402f349d2c836d7e39413a463f75"), looks := false }, kinds := [], alts := [], laidByText := true, laidKinds := [.data, .pinned], laidTests := true, laidLooks := .later }
def FnExactFullTitlesCardSaid : Prop := Claim7.holds Tryz.pinned (.plain (OpenSpec.ofChange fnExactFullTitlesSpec)) fnExactFullTitlesCard

/-- THE TIED CARD OF 'laws.FnExactMergeEntries'. -/
def fnExactMergeEntriesCard : Claim7 := { stood := { row := fnExactMergeEntriesRow, standIns := [], harness := (true, "499161ca46bbdbeb3079d688641a08ec495c402f349d2c836d7e39413a463f75"), looks := false }, kinds := [], alts := [], laidByText := true, laidKinds := [.data, .pinned], laidTests := true, laidLooks := .later }
def FnExactMergeEntriesCardSaid : Prop := Claim7.holds Tryz.pinned (.plain (OpenSpec.ofChange fnExactMergeEntriesSpec)) fnExactMergeEntriesCard

/-- THE TIED CARD OF 'laws.FnDistinct'. -/
def fnDistinctCard : Claim7 := { stood := { row := fnDistinctRow, standIns := [], harness := (true, "499161ca46bbdbeb3079d688641a08ec495c402f349d2c836d7e39413a463f75"), looks := false }, kinds := [], alts := [], laidByText := true, laidKinds := [.data, .pinned], laidTests := true, laidLooks := .later }
def FnDistinctCardSaid : Prop := Claim7.holds Tryz.pinned (.plain (OpenSpec.ofChange fnDistinctSpec)) fnDistinctCard

/-- THE TIED CARD OF 'laws.FnExactChildrenOf'. -/
def fnExactChildrenOfCard : Claim7 := { stood := { row := fnExactChildrenOfRow, standIns := [], harness := (true, "499161ca46bbdbeb3079d688641a08ec495c402f349d2c836d7e39413a463f75"), looks := false }, kinds := [], alts := [], laidByText := true, laidKinds := [.data, .pinned], laidTests := true, laidLooks := .later }
def FnExactChildrenOfCardSaid : Prop := Claim7.holds Tryz.pinned (.plain (OpenSpec.ofChange fnExactChildrenOfSpec)) fnExactChildrenOfCard

/-- THE TIED CARD OF 'laws.FnExactBrokenCrosses'. -/
def fnExactBrokenCrossesCard : Claim7 := { stood := { row := fnExactBrokenCrossesRow, standIns := [], harness := (true, "499161ca46bbdbeb3079d688641a08ec495c402f349d2c836d7e39413a463f75"), looks := false }, kinds := [], alts := [], laidByText := true, laidKinds := [.data, .pinned], laidTests := true, laidLooks := .later }
def FnExactBrokenCrossesCardSaid : Prop := Claim7.holds Tryz.pinned (.plain (OpenSpec.ofChange fnExactBrokenCrossesSpec)) fnExactBrokenCrossesCard

/-- THE TIED CARD OF 'laws.FnExactDependentsOf'. -/
def fnExactDependentsOfCard : Claim7 := { stood := { row := fnExactDependentsOfRow, standIns := [], harness := (true, "499161ca46bbdbeb3079d688641a08ec495c402f349d2c836d7e39413a463f75"), looks := false }, kinds := [], alts := [], laidByText := true, laidKinds := [.data, .pinned], laidTests := true, laidLooks := .later }
def FnExactDependentsOfCardSaid : Prop := Claim7.holds Tryz.pinned (.plain (OpenSpec.ofChange fnExactDependentsOfSpec)) fnExactDependentsOfCard

/-- THE SECOND FORM's CARD OF 'laws.FnExactDistinctTitles'. -/
def fnExactDistinctTitlesUptoCard : Claim7 := { stood := { row := fnExactDistinctTitlesUptoRow, standIns := [], harness := (true, "499161ca46bbdbeb3079d688641a08ec495c402f349d2c836d7e39413a463f75"), looks := false }, kinds := [], alts := [], laidByText := true, laidKinds := [.data, .pinned], laidTests := true, laidLooks := .later }
def FnExactDistinctTitlesUptoCardSaid : Prop := Claim7.holds Tryz.pinned (.plain (OpenSpec.upto fnExactDistinctTitlesSpec)) fnExactDistinctTitlesUptoCard

/-- THE SECOND FORM's CARD OF 'laws.FnExactFullTitles'. -/
def fnExactFullTitlesUptoCard : Claim7 := { stood := { row := fnExactFullTitlesUptoRow, standIns := [], harness := (true, "499161ca46bbdbeb3079d688641a08ec495c402f349d2c836d7e39413a463f75"), looks := false }, kinds := [], alts := [], laidByText := true, laidKinds := [.data, .pinned], laidTests := true, laidLooks := .later }
def FnExactFullTitlesUptoCardSaid : Prop := Claim7.holds Tryz.pinned (.plain (OpenSpec.upto fnExactFullTitlesSpec)) fnExactFullTitlesUptoCard

/-- THE SECOND FORM's CARD OF 'laws.FnExactMergeEntries'. -/
def fnExactMergeEntriesUptoCard : Claim7 := { stood := { row := fnExactMergeEntriesUptoRow, standIns := [], harness := (true, "499161ca46bbdbeb3079d688641a08ec495c402f349d2c836d7e39413a463f75"), looks := false }, kinds := [], alts := [], laidByText := true, laidKinds := [.data, .pinned], laidTests := true, laidLooks := .later }
def FnExactMergeEntriesUptoCardSaid : Prop := Claim7.holds Tryz.pinned (.plain (OpenSpec.upto fnExactMergeEntriesSpec)) fnExactMergeEntriesUptoCard

/-- THE SECOND FORM's CARD OF 'laws.FnDistinct'. -/
def fnDistinctUptoCard : Claim7 := { stood := { row := fnDistinctUptoRow, standIns := [], harness := (true, "499161ca46bbdbeb3079d688641a08ec495c402f349d2c836d7e39413a463f75"), looks := false }, kinds := [], alts := [], laidByText := true, laidKinds := [.data, .pinned], laidTests := true, laidLooks := .later }
def FnDistinctUptoCardSaid : Prop := Claim7.holds Tryz.pinned (.plain (OpenSpec.upto fnDistinctSpec)) fnDistinctUptoCard

/-- THE SECOND FORM's CARD OF 'laws.FnExactChildrenOf'. -/
def fnExactChildrenOfUptoCard : Claim7 := { stood := { row := fnExactChildrenOfUptoRow, standIns := [], harness := (true, "499161ca46bbdbeb3079d688641a08ec495c402f349d2c836d7e39413a463f75"), looks := false }, kinds := [], alts := [], laidByText := true, laidKinds := [.data, .pinned], laidTests := true, laidLooks := .later }
def FnExactChildrenOfUptoCardSaid : Prop := Claim7.holds Tryz.pinned (.plain (OpenSpec.upto fnExactChildrenOfSpec)) fnExactChildrenOfUptoCard

/-- THE SECOND FORM's CARD OF 'laws.FnExactBrokenCrosses'. -/
def fnExactBrokenCrossesUptoCard : Claim7 := { stood := { row := fnExactBrokenCrossesUptoRow, standIns := [], harness := (true, "499161ca46bbdbeb3079d688641a08ec495c402f349d2c836d7e39413a463f75"), looks := false }, kinds := [], alts := [], laidByText := true, laidKinds := [.data, .pinned], laidTests := true, laidLooks := .later }
def FnExactBrokenCrossesUptoCardSaid : Prop := Claim7.holds Tryz.pinned (.plain (OpenSpec.upto fnExactBrokenCrossesSpec)) fnExactBrokenCrossesUptoCard

/-- THE SECOND FORM's CARD OF 'laws.FnExactDependentsOf'. -/
def fnExactDependentsOfUptoCard : Claim7 := { stood := { row := fnExactDependentsOfUptoRow, standIns := [], harness := (true, "499161ca46bbdbeb3079d688641a08ec495c402f349d2c836d7e39413a463f75"), looks := false }, kinds := [], alts := [], laidByText := true, laidKinds := [.data, .pinned], laidTests := true, laidLooks := .later }
def FnExactDependentsOfUptoCardSaid : Prop := Claim7.holds Tryz.pinned (.plain (OpenSpec.upto fnExactDependentsOfSpec)) fnExactDependentsOfUptoCard
end Rows
end Go.Proofs.YtnffgabfibafjaaGreatDoor
