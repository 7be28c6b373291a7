/-
  DERIVED. GIVEN WITH THE SEED: THE CARDS: each row of YtfnibdpepbgamaaGreatDoorRows.lean that lists a variable, with what it lists TIED to the program's text (the seventh form; the later family's looks); each row that meets fmt, with fmt's text TOLD by the authors' own Lean function (tested against real Go, not proved from fmt's source: count such statements apart). THE CARD IS WHAT COUNTS. Prove the row's statement (the work); the ties are given (YtfnibdpepbgamaaGreatDoorTie.lean); close each card by the builder's one call (the guide's Derived/Test/ToyasCard.lean, 'card_holds'). Laid BY PROGRAM, IN A SANDBOX (cutbox-door.mjs). By AI agents, Wed Nov 11 2026. No macro, syntax, notation, axiom, sorry.
-/
import Derived.Test.YtfnibdpepbgamaaGreatDoorRows
import GoSem.ClaimSeven
namespace Go.Proofs.YtfnibdpepbgamaaGreatDoor
namespace Rows

/-- THE TIED CARD OF 'laws.FnExactChildrenOf'. -/
def fnExactChildrenOfCard : Claim7 := { stood := { row := fnExactChildrenOfRow, standIns := [], harness := (true, "ef9e7cd5b26ec115124475e43f0ff39f7511c98ef1bcc1631bd66e6a246f821f"), looks := false }, kinds := [], alts := [], laidByText := true, laidKinds := [.data, .pinned], laidTests := true, laidLooks := .later }
def FnExactChildrenOfCardSaid : Prop := Claim7.holds Tryz.pinned (.plain (OpenSpec.ofChange fnExactChildrenOfSpec)) fnExactChildrenOfCard

/-- THE TIED CARD OF 'laws.FnExactBrokenCrosses'. -/
def fnExactBrokenCrossesCard : Claim7 := { stood := { row := fnExactBrokenCrossesRow, standIns := [], harness := (true, "ef9e7cd5b26ec115124475e43f0ff39f7511c98ef1bcc1631bd66e6a246f821f"), looks := false }, kinds := [], alts := [], laidByText := true, laidKinds := [.data, .pinned], laidTests := true, laidLooks := .later }
def FnExactBrokenCrossesCardSaid : Prop := Claim7.holds Tryz.pinned (.plain (OpenSpec.ofChange fnExactBrokenCrossesSpec)) fnExactBrokenCrossesCard

/-- THE TIED CARD OF 'laws.FnExactDependentsOf'. -/
def fnExactDependentsOfCard : Claim7 := { stood := { row := fnExactDependentsOfRow, standIns := [], harness := (true, "ef9e7cd5b26ec115124475e43f0ff39f7511c98ef1bcc1631bd66e6a246f821f"), looks := false }, kinds := [], alts := [], laidByText := true, laidKinds := [.data, .pinned], laidTests := true, laidLooks := .later }
def FnExactDependentsOfCardSaid : Prop := Claim7.holds Tryz.pinned (.plain (OpenSpec.ofChange fnExactDependentsOfSpec)) fnExactDependentsOfCard

/-- THE TIED CARD OF 'laws.FnExactCrossChain'. -/
def fnExactCrossChainCard : Claim7 := { stood := { row := fnExactCrossChainRow, standIns := [], harness := (true, "ef9e7cd5b26ec115124475e43f0ff39f7511c98ef1bcc1631bd66e6a246f821f"), looks := false }, kinds := [], alts := [], laidByText := true, laidKinds := [.data, .pinned], laidTests := true, laidLooks := .later }
def FnExactCrossChainCardSaid : Prop := Claim7.holds Tryz.pinned (.plain (OpenSpec.ofChange fnExactCrossChainSpec)) fnExactCrossChainCard

/-- THE TIED CARD OF 'laws.FnExactMergeEntries'. -/
def fnExactMergeEntriesCard : Claim7 := { stood := { row := fnExactMergeEntriesRow, standIns := [], harness := (true, "ef9e7cd5b26ec115124475e43f0ff39f7511c98ef1bcc1631bd66e6a246f821f"), looks := false }, kinds := [], alts := [], laidByText := true, laidKinds := [.data, .pinned], laidTests := true, laidLooks := .later }
def FnExactMergeEntriesCardSaid : Prop := Claim7.holds Tryz.pinned (.plain (OpenSpec.ofChange fnExactMergeEntriesSpec)) fnExactMergeEntriesCard

/-- THE TIED CARD OF 'laws.FnExactFieldConflicts'. -/
def fnExactFieldConflictsCard : Claim7 := { stood := { row := fnExactFieldConflictsRow, standIns := [], harness := (true, "ef9e7cd5b26ec115124475e43f0ff39f7511c98ef1bcc1631bd66e6a246f821f"), looks := false }, kinds := [], alts := [], laidByText := true, laidKinds := [.data, .data, .data, .data, .widerDeep, .pinned], laidTests := true, laidLooks := .later }
def FnExactFieldConflictsCardSaid : Prop := Claim7.holds Tryz.pinned (.plain (OpenSpec.ofChange fnExactFieldConflictsSpec)) fnExactFieldConflictsCard

/-- THE SECOND FORM's CARD OF 'laws.FnExactChildrenOf'. -/
def fnExactChildrenOfUptoCard : Claim7 := { stood := { row := fnExactChildrenOfUptoRow, standIns := [], harness := (true, "ef9e7cd5b26ec115124475e43f0ff39f7511c98ef1bcc1631bd66e6a246f821f"), looks := false }, kinds := [], alts := [], laidByText := true, laidKinds := [.data, .pinned], laidTests := true, laidLooks := .later }
def FnExactChildrenOfUptoCardSaid : Prop := Claim7.holds Tryz.pinned (.plain (OpenSpec.upto fnExactChildrenOfSpec)) fnExactChildrenOfUptoCard

/-- THE SECOND FORM's CARD OF 'laws.FnExactBrokenCrosses'. -/
def fnExactBrokenCrossesUptoCard : Claim7 := { stood := { row := fnExactBrokenCrossesUptoRow, standIns := [], harness := (true, "ef9e7cd5b26ec115124475e43f0ff39f7511c98ef1bcc1631bd66e6a246f821f"), looks := false }, kinds := [], alts := [], laidByText := true, laidKinds := [.data, .pinned], laidTests := true, laidLooks := .later }
def FnExactBrokenCrossesUptoCardSaid : Prop := Claim7.holds Tryz.pinned (.plain (OpenSpec.upto fnExactBrokenCrossesSpec)) fnExactBrokenCrossesUptoCard

/-- THE SECOND FORM's CARD OF 'laws.FnExactDependentsOf'. -/
def fnExactDependentsOfUptoCard : Claim7 := { stood := { row := fnExactDependentsOfUptoRow, standIns := [], harness := (true, "ef9e7cd5b26ec115124475e43f0ff39f7511c98ef1bcc1631bd66e6a246f821f"), looks := false }, kinds := [], alts := [], laidByText := true, laidKinds := [.data, .pinned], laidTests := true, laidLooks := .later }
def FnExactDependentsOfUptoCardSaid : Prop := Claim7.holds Tryz.pinned (.plain (OpenSpec.upto fnExactDependentsOfSpec)) fnExactDependentsOfUptoCard

/-- THE SECOND FORM's CARD OF 'laws.FnExactCrossChain'. -/
def fnExactCrossChainUptoCard : Claim7 := { stood := { row := fnExactCrossChainUptoRow, standIns := [], harness := (true, "ef9e7cd5b26ec115124475e43f0ff39f7511c98ef1bcc1631bd66e6a246f821f"), looks := false }, kinds := [], alts := [], laidByText := true, laidKinds := [.data, .pinned], laidTests := true, laidLooks := .later }
def FnExactCrossChainUptoCardSaid : Prop := Claim7.holds Tryz.pinned (.plain (OpenSpec.upto fnExactCrossChainSpec)) fnExactCrossChainUptoCard

/-- THE SECOND FORM's CARD OF 'laws.FnExactMergeEntries'. -/
def fnExactMergeEntriesUptoCard : Claim7 := { stood := { row := fnExactMergeEntriesUptoRow, standIns := [], harness := (true, "ef9e7cd5b26ec115124475e43f0ff39f7511c98ef1bcc1631bd66e6a246f821f"), looks := false }, kinds := [], alts := [], laidByText := true, laidKinds := [.data, .pinned], laidTests := true, laidLooks := .later }
def FnExactMergeEntriesUptoCardSaid : Prop := Claim7.holds Tryz.pinned (.plain (OpenSpec.upto fnExactMergeEntriesSpec)) fnExactMergeEntriesUptoCard

/-- THE SECOND FORM's CARD OF 'laws.FnExactFieldConflicts'. -/
def fnExactFieldConflictsUptoCard : Claim7 := { stood := { row := fnExactFieldConflictsUptoRow, standIns := [], harness := (true, "ef9e7cd5b26ec115124475e43f0ff39f7511c98ef1bcc1631bd66e6a246f821f"), looks := false }, kinds := [], alts := [], laidByText := true, laidKinds := [.data, .data, .data, .data, .widerDeep, .pinned], laidTests := true, laidLooks := .later }
def FnExactFieldConflictsUptoCardSaid : Prop := Claim7.holds Tryz.pinned (.plain (OpenSpec.upto fnExactFieldConflictsSpec)) fnExactFieldConflictsUptoCard
end Rows
end Go.Proofs.YtfnibdpepbgamaaGreatDoor
