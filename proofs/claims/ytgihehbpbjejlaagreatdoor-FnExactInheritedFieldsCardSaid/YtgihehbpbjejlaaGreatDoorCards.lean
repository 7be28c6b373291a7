/-
  DERIVED. GIVEN WITH THE SEED: THE CARDS: each row of YtgihehbpbjejlaaGreatDoorRows.lean that lists a variable, with what it lists TIED to the program's text (the seventh form; the later family's looks); each row that meets fmt, with fmt's text TOLD by the authors' own Lean function (tested against real Go, not proved from fmt's source: count such statements apart). THE CARD IS WHAT COUNTS. Prove the row's statement (the work); the ties are given (YtgihehbpbjejlaaGreatDoorTie.lean); close each card by the builder's one call (the guide's Derived/Test/ToyasCard.lean, 'card_holds'). Laid BY PROGRAM, IN A SANDBOX (cutbox-door.mjs). By AI agents, Wed Nov 11 2026. No macro, syntax, notation, axiom, sorry.
-/
import Derived.Test.YtgihehbpbjejlaaGreatDoorRows
import GoSem.ClaimSeven
namespace Go.Proofs.YtgihehbpbjejlaaGreatDoor
namespace Rows

/-- THE TIED CARD OF 'laws.FnExactInheritedFields'. -/
def fnExactInheritedFieldsCard : Claim7 := { stood := { row := fnExactInheritedFieldsRow, standIns := [], harness := (true, "0718ffdf36155380a967e203c4fccc717f9c2547dd12fb3b949edaac162d505f"), looks := false }, kinds := [], alts := [], laidByText := true, laidKinds := [.data, .data, .data, .data, .pinned], laidTests := true, laidLooks := .later }
def FnExactInheritedFieldsCardSaid : Prop := Claim7.holds Tryz.pinned (.plain (OpenSpec.ofChange fnExactInheritedFieldsSpec)) fnExactInheritedFieldsCard

/-- THE TIED CARD OF 'laws.FnExactResolveEntry'. -/
def fnExactResolveEntryCard : Claim7 := { stood := { row := fnExactResolveEntryRow, standIns := [], harness := (true, "0718ffdf36155380a967e203c4fccc717f9c2547dd12fb3b949edaac162d505f"), looks := false }, kinds := [], alts := [], laidByText := true, laidKinds := [.data, .pinned], laidTests := true, laidLooks := .later }
def FnExactResolveEntryCardSaid : Prop := Claim7.holds Tryz.pinned (.plain (OpenSpec.ofChange fnExactResolveEntrySpec)) fnExactResolveEntryCard

/-- THE TIED CARD OF 'laws.FnExactResolveLibrary'. -/
def fnExactResolveLibraryCard : Claim7 := { stood := { row := fnExactResolveLibraryRow, standIns := [], harness := (true, "0718ffdf36155380a967e203c4fccc717f9c2547dd12fb3b949edaac162d505f"), looks := false }, kinds := [], alts := [], laidByText := true, laidKinds := [.data, .pinned], laidTests := true, laidLooks := .later }
def FnExactResolveLibraryCardSaid : Prop := Claim7.holds Tryz.pinned (.plain (OpenSpec.ofChange fnExactResolveLibrarySpec)) fnExactResolveLibraryCard

/-- THE TIED CARD OF 'laws.FnExactCrossCycles'. -/
def fnExactCrossCyclesCard : Claim7 := { stood := { row := fnExactCrossCyclesRow, standIns := [], harness := (true, "0718ffdf36155380a967e203c4fccc717f9c2547dd12fb3b949edaac162d505f"), looks := false }, kinds := [], alts := [], laidByText := true, laidKinds := [.data, .pinned], laidTests := true, laidLooks := .later }
def FnExactCrossCyclesCardSaid : Prop := Claim7.holds Tryz.pinned (.plain (OpenSpec.ofChange fnExactCrossCyclesSpec)) fnExactCrossCyclesCard

/-- THE TIED CARD OF 'laws.FnExactMergeKeys'. -/
def fnExactMergeKeysCard : Claim7 := { stood := { row := fnExactMergeKeysRow, standIns := [], harness := (true, "0718ffdf36155380a967e203c4fccc717f9c2547dd12fb3b949edaac162d505f"), looks := false }, kinds := [], alts := [], laidByText := true, laidKinds := [.data, .pinned], laidTests := true, laidLooks := .later }
def FnExactMergeKeysCardSaid : Prop := Claim7.holds Tryz.pinned (.plain (OpenSpec.ofChange fnExactMergeKeysSpec)) fnExactMergeKeysCard

/-- THE SECOND FORM's CARD OF 'laws.FnExactInheritedFields'. -/
def fnExactInheritedFieldsUptoCard : Claim7 := { stood := { row := fnExactInheritedFieldsUptoRow, standIns := [], harness := (true, "0718ffdf36155380a967e203c4fccc717f9c2547dd12fb3b949edaac162d505f"), looks := false }, kinds := [], alts := [], laidByText := true, laidKinds := [.data, .data, .data, .data, .pinned], laidTests := true, laidLooks := .later }
def FnExactInheritedFieldsUptoCardSaid : Prop := Claim7.holds Tryz.pinned (.plain (OpenSpec.upto fnExactInheritedFieldsSpec)) fnExactInheritedFieldsUptoCard

/-- THE SECOND FORM's CARD OF 'laws.FnExactResolveEntry'. -/
def fnExactResolveEntryUptoCard : Claim7 := { stood := { row := fnExactResolveEntryUptoRow, standIns := [], harness := (true, "0718ffdf36155380a967e203c4fccc717f9c2547dd12fb3b949edaac162d505f"), looks := false }, kinds := [], alts := [], laidByText := true, laidKinds := [.data, .pinned], laidTests := true, laidLooks := .later }
def FnExactResolveEntryUptoCardSaid : Prop := Claim7.holds Tryz.pinned (.plain (OpenSpec.upto fnExactResolveEntrySpec)) fnExactResolveEntryUptoCard

/-- THE SECOND FORM's CARD OF 'laws.FnExactResolveLibrary'. -/
def fnExactResolveLibraryUptoCard : Claim7 := { stood := { row := fnExactResolveLibraryUptoRow, standIns := [], harness := (true, "0718ffdf36155380a967e203c4fccc717f9c2547dd12fb3b949edaac162d505f"), looks := false }, kinds := [], alts := [], laidByText := true, laidKinds := [.data, .pinned], laidTests := true, laidLooks := .later }
def FnExactResolveLibraryUptoCardSaid : Prop := Claim7.holds Tryz.pinned (.plain (OpenSpec.upto fnExactResolveLibrarySpec)) fnExactResolveLibraryUptoCard

/-- THE SECOND FORM's CARD OF 'laws.FnExactCrossCycles'. -/
def fnExactCrossCyclesUptoCard : Claim7 := { stood := { row := fnExactCrossCyclesUptoRow, standIns := [], harness := (true, "0718ffdf36155380a967e203c4fccc717f9c2547dd12fb3b949edaac162d505f"), looks := false }, kinds := [], alts := [], laidByText := true, laidKinds := [.data, .pinned], laidTests := true, laidLooks := .later }
def FnExactCrossCyclesUptoCardSaid : Prop := Claim7.holds Tryz.pinned (.plain (OpenSpec.upto fnExactCrossCyclesSpec)) fnExactCrossCyclesUptoCard

/-- THE SECOND FORM's CARD OF 'laws.FnExactMergeKeys'. -/
def fnExactMergeKeysUptoCard : Claim7 := { stood := { row := fnExactMergeKeysUptoRow, standIns := [], harness := (true, "0718ffdf36155380a967e203c4fccc717f9c2547dd12fb3b949edaac162d505f"), looks := false }, kinds := [], alts := [], laidByText := true, laidKinds := [.data, .pinned], laidTests := true, laidLooks := .later }
def FnExactMergeKeysUptoCardSaid : Prop := Claim7.holds Tryz.pinned (.plain (OpenSpec.upto fnExactMergeKeysSpec)) fnExactMergeKeysUptoCard
end Rows
end Go.Proofs.YtgihehbpbjejlaaGreatDoor
