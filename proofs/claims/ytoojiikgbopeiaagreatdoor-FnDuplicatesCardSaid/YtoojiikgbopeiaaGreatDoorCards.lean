/-
  DERIVED. GIVEN WITH THE SEED: THE CARDS: each row of YtoojiikgbopeiaaGreatDoorRows.lean that lists a variable, with what it lists TIED to the program's text (the seventh form; the later family's looks); each row that meets fmt, with fmt's text TOLD by the authors' own Lean function (tested against real Go, not proved from fmt's source: count such statements apart). THE CARD IS WHAT COUNTS. Prove the row's statement (the work); the ties are given (YtoojiikgbopeiaaGreatDoorTie.lean); close each card by the builder's one call (the guide's Derived/Test/ToyasCard.lean, 'card_holds'). Laid BY PROGRAM, IN A SANDBOX (cutbox-door.mjs). By AI agents, Wed Nov 11 2026. No macro, syntax, notation, axiom, sorry.
-/
import Derived.Test.YtoojiikgbopeiaaGreatDoorRows
import GoSem.ClaimSeven
namespace Go.Proofs.YtoojiikgbopeiaaGreatDoor
namespace Rows

/-- THE TIED CARD OF 'laws.FnExactDuplicateGroups'. -/
def fnExactDuplicateGroupsCard : Claim7 := { stood := { row := fnExactDuplicateGroupsRow, standIns := [], harness := (true, "77dcc7f0ecf339897dd248e24f6e37234c866aff09c5e6ac29fd312db36e760c"), looks := false }, kinds := [], alts := [], laidByText := true, laidKinds := [.data, .pinned], laidTests := true, laidLooks := .later }
def FnExactDuplicateGroupsCardSaid : Prop := Claim7.holds Tryz.pinned (.plain (OpenSpec.ofChange fnExactDuplicateGroupsSpec)) fnExactDuplicateGroupsCard

/-- THE TIED CARD OF 'laws.FnDuplicates'. -/
def fnDuplicatesCard : Claim7 := { stood := { row := fnDuplicatesRow, standIns := [], harness := (true, "77dcc7f0ecf339897dd248e24f6e37234c866aff09c5e6ac29fd312db36e760c"), looks := false }, kinds := [], alts := [], laidByText := true, laidKinds := [.data, .data, .data, .data, .pinned], laidTests := true, laidLooks := .later }
def FnDuplicatesCardSaid : Prop := Claim7.holds Tryz.pinned (.plain (OpenSpec.ofChange fnDuplicatesSpec)) fnDuplicatesCard

/-- THE SECOND FORM's CARD OF 'laws.FnExactDuplicateGroups'. -/
def fnExactDuplicateGroupsUptoCard : Claim7 := { stood := { row := fnExactDuplicateGroupsUptoRow, standIns := [], harness := (true, "77dcc7f0ecf339897dd248e24f6e37234c866aff09c5e6ac29fd312db36e760c"), looks := false }, kinds := [], alts := [], laidByText := true, laidKinds := [.data, .pinned], laidTests := true, laidLooks := .later }
def FnExactDuplicateGroupsUptoCardSaid : Prop := Claim7.holds Tryz.pinned (.plain (OpenSpec.upto fnExactDuplicateGroupsSpec)) fnExactDuplicateGroupsUptoCard

/-- THE SECOND FORM's CARD OF 'laws.FnDuplicates'. -/
def fnDuplicatesUptoCard : Claim7 := { stood := { row := fnDuplicatesUptoRow, standIns := [], harness := (true, "77dcc7f0ecf339897dd248e24f6e37234c866aff09c5e6ac29fd312db36e760c"), looks := false }, kinds := [], alts := [], laidByText := true, laidKinds := [.data, .data, .data, .data, .pinned], laidTests := true, laidLooks := .later }
def FnDuplicatesUptoCardSaid : Prop := Claim7.holds Tryz.pinned (.plain (OpenSpec.upto fnDuplicatesSpec)) fnDuplicatesUptoCard
end Rows
end Go.Proofs.YtoojiikgbopeiaaGreatDoor
