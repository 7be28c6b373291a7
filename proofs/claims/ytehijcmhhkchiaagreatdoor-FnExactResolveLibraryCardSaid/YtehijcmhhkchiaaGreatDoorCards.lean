/-
  DERIVED. GIVEN WITH THE SEED: THE CARDS: each row of YtehijcmhhkchiaaGreatDoorRows.lean that lists a variable, with what it lists TIED to the program's text (the seventh form; the later family's looks); each row that meets fmt, with fmt's text TOLD by the authors' own Lean function (tested against real Go, not proved from fmt's source: count such statements apart). THE CARD IS WHAT COUNTS. Prove the row's statement (the work); the ties are given (YtehijcmhhkchiaaGreatDoorTie.lean); close each card by the builder's one call (the guide's Derived/Test/ToyasCard.lean, 'card_holds'). Laid BY PROGRAM, IN A SANDBOX (cutbox-door.mjs). By AI agents, Wed Nov 11 2026. No macro, syntax, notation, axiom, sorry.
-/
import Derived.Test.YtehijcmhhkchiaaGreatDoorRows
import GoSem.ClaimSeven
namespace Go.Proofs.YtehijcmhhkchiaaGreatDoor
namespace Rows

/-- THE TIED CARD OF 'laws.FnExactMergeEntries'. -/
def fnExactMergeEntriesCard : Claim7 := { stood := { row := fnExactMergeEntriesRow, standIns := [], harness := (true, "8301995783103356f7ac0269d110242c37ebec19a79084daf52f48a14df09c1b"), looks := false }, kinds := [], alts := [], laidByText := true, laidKinds := [.data, .pinned], laidTests := true, laidLooks := .later }
def FnExactMergeEntriesCardSaid : Prop := Claim7.holds Tryz.pinned (.plain (OpenSpec.ofChange fnExactMergeEntriesSpec)) fnExactMergeEntriesCard

/-- THE TIED CARD OF 'laws.FnExactCrossCycles'. -/
def fnExactCrossCyclesCard : Claim7 := { stood := { row := fnExactCrossCyclesRow, standIns := [], harness := (true, "8301995783103356f7ac0269d110242c37ebec19a79084daf52f48a14df09c1b"), looks := false }, kinds := [], alts := [], laidByText := true, laidKinds := [.data, .pinned], laidTests := true, laidLooks := .later }
def FnExactCrossCyclesCardSaid : Prop := Claim7.holds Tryz.pinned (.plain (OpenSpec.ofChange fnExactCrossCyclesSpec)) fnExactCrossCyclesCard

/-- THE TIED CARD OF 'laws.FnExactResolveEntry'. -/
def fnExactResolveEntryCard : Claim7 := { stood := { row := fnExactResolveEntryRow, standIns := [], harness := (true, "8301995783103356f7ac0269d110242c37ebec19a79084daf52f48a14df09c1b"), looks := false }, kinds := [], alts := [], laidByText := true, laidKinds := [.data, .pinned], laidTests := true, laidLooks := .later }
def FnExactResolveEntryCardSaid : Prop := Claim7.holds Tryz.pinned (.plain (OpenSpec.ofChange fnExactResolveEntrySpec)) fnExactResolveEntryCard

/-- THE TIED CARD OF 'laws.FnExactResolveLibrary'. -/
def fnExactResolveLibraryCard : Claim7 := { stood := { row := fnExactResolveLibraryRow, standIns := [], harness := (true, "8301995783103356f7ac0269d110242c37ebec19a79084daf52f48a14df09c1b"), looks := false }, kinds := [], alts := [], laidByText := true, laidKinds := [.data, .pinned], laidTests := true, laidLooks := .later }
def FnExactResolveLibraryCardSaid : Prop := Claim7.holds Tryz.pinned (.plain (OpenSpec.ofChange fnExactResolveLibrarySpec)) fnExactResolveLibraryCard

/-- THE SECOND FORM's CARD OF 'laws.FnExactMergeEntries'. -/
def fnExactMergeEntriesUptoCard : Claim7 := { stood := { row := fnExactMergeEntriesUptoRow, standIns := [], harness := (true, "8301995783103356f7ac0269d110242c37ebec19a79084daf52f48a14df09c1b"), looks := false }, kinds := [], alts := [], laidByText := true, laidKinds := [.data, .pinned], laidTests := true, laidLooks := .later }
def FnExactMergeEntriesUptoCardSaid : Prop := Claim7.holds Tryz.pinned (.plain (OpenSpec.upto fnExactMergeEntriesSpec)) fnExactMergeEntriesUptoCard

/-- THE SECOND FORM's CARD OF 'laws.FnExactCrossCycles'. -/
def fnExactCrossCyclesUptoCard : Claim7 := { stood := { row := fnExactCrossCyclesUptoRow, standIns := [], harness := (true, "8301995783103356f7ac0269d110242c37ebec19a79084daf52f48a14df09c1b"), looks := false }, kinds := [], alts := [], laidByText := true, laidKinds := [.data, .pinned], laidTests := true, laidLooks := .later }
def FnExactCrossCyclesUptoCardSaid : Prop := Claim7.holds Tryz.pinned (.plain (OpenSpec.upto fnExactCrossCyclesSpec)) fnExactCrossCyclesUptoCard

/-- THE SECOND FORM's CARD OF 'laws.FnExactResolveEntry'. -/
def fnExactResolveEntryUptoCard : Claim7 := { stood := { row := fnExactResolveEntryUptoRow, standIns := [], harness := (true, "8301995783103356f7ac0269d110242c37ebec19a79084daf52f48a14df09c1b"), looks := false }, kinds := [], alts := [], laidByText := true, laidKinds := [.data, .pinned], laidTests := true, laidLooks := .later }
def FnExactResolveEntryUptoCardSaid : Prop := Claim7.holds Tryz.pinned (.plain (OpenSpec.upto fnExactResolveEntrySpec)) fnExactResolveEntryUptoCard

/-- THE SECOND FORM's CARD OF 'laws.FnExactResolveLibrary'. -/
def fnExactResolveLibraryUptoCard : Claim7 := { stood := { row := fnExactResolveLibraryUptoRow, standIns := [], harness := (true, "8301995783103356f7ac0269d110242c37ebec19a79084daf52f48a14df09c1b"), looks := false }, kinds := [], alts := [], laidByText := true, laidKinds := [.data, .pinned], laidTests := true, laidLooks := .later }
def FnExactResolveLibraryUptoCardSaid : Prop := Claim7.holds Tryz.pinned (.plain (OpenSpec.upto fnExactResolveLibrarySpec)) fnExactResolveLibraryUptoCard
end Rows
end Go.Proofs.YtehijcmhhkchiaaGreatDoor
