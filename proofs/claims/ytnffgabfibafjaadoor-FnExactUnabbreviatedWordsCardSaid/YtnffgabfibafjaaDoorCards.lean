/-
  DERIVED. GIVEN WITH THE SEED: THE CARDS: each row of YtnffgabfibafjaaDoorRows.lean that lists a variable, with what it lists TIED to the program's text (the seventh form; the later family's looks); each row that meets fmt, with fmt's text TOLD by the authors' own Lean function (tested against real Go, not proved from fmt's source: count such statements apart). THE CARD IS WHAT COUNTS. Prove the row's statement (the work); the ties are given (YtnffgabfibafjaaDoorTie.lean); close each card by the builder's one call (the guide's Derived/Test/ToyasCard.lean, 'card_holds'). Laid BY PROGRAM, IN A SANDBOX (cutbox-door.mjs). By AI agents, Wed Nov 11 2026. No macro, syntax, notation, axiom, sorry.
-/
import Derived.Test.YtnffgabfibafjaaDoorRows
import GoSem.ClaimSeven
namespace Go.Proofs.YtnffgabfibafjaaDoor
namespace Rows

/-- THE TIED CARD OF 'laws.FnExactQueryWords'. -/
def fnExactQueryWordsCard : Claim7 := { stood := { row := fnExactQueryWordsRow, standIns := [], harness := (true, "9ad2cbfa01c99c1584ff8c1a7cc6e58d4d0811fb3dc371eb73dbdaa9aff9e874"), looks := false }, kinds := [], alts := [], laidByText := true, laidKinds := [.widerDeep], laidTests := true, laidLooks := .later }
def FnExactQueryWordsCardSaid : Prop := Claim7.holds Tryd.pinned (.plain (OpenSpec.ofChange fnExactQueryWordsSpec)) fnExactQueryWordsCard

/-- THE TIED CARD OF 'laws.FnExactUnabbreviatedWords'. -/
def fnExactUnabbreviatedWordsCard : Claim7 := { stood := { row := fnExactUnabbreviatedWordsRow, standIns := [], harness := (true, "9ad2cbfa01c99c1584ff8c1a7cc6e58d4d0811fb3dc371eb73dbdaa9aff9e874"), looks := false }, kinds := [], alts := [], laidByText := true, laidKinds := [.data, .pinned], laidTests := true, laidLooks := .later }
def FnExactUnabbreviatedWordsCardSaid : Prop := Claim7.holds Tryd.pinned (.plain (OpenSpec.ofChange fnExactUnabbreviatedWordsSpec)) fnExactUnabbreviatedWordsCard

/-- THE TIED CARD OF 'laws.FnExactUnusedAbbreviations'. -/
def fnExactUnusedAbbreviationsCard : Claim7 := { stood := { row := fnExactUnusedAbbreviationsRow, standIns := [], harness := (true, "9ad2cbfa01c99c1584ff8c1a7cc6e58d4d0811fb3dc371eb73dbdaa9aff9e874"), looks := false }, kinds := [], alts := [], laidByText := true, laidKinds := [.data, .pinned], laidTests := true, laidLooks := .later }
def FnExactUnusedAbbreviationsCardSaid : Prop := Claim7.holds Tryd.pinned (.plain (OpenSpec.ofChange fnExactUnusedAbbreviationsSpec)) fnExactUnusedAbbreviationsCard

/-- THE TIED CARD OF 'laws.FnExactAbbreviateTitle'. -/
def fnExactAbbreviateTitleCard : Claim7 := { stood := { row := fnExactAbbreviateTitleRow, standIns := [], harness := (true, "9ad2cbfa01c99c1584ff8c1a7cc6e58d4d0811fb3dc371eb73dbdaa9aff9e874"), looks := false }, kinds := [], alts := [], laidByText := true, laidKinds := [.data, .pinned], laidTests := true, laidLooks := .later }
def FnExactAbbreviateTitleCardSaid : Prop := Claim7.holds Tryd.pinned (.plain (OpenSpec.ofChange fnExactAbbreviateTitleSpec)) fnExactAbbreviateTitleCard

/-- THE TIED CARD OF 'laws.FnExactParentOf'. -/
def fnExactParentOfCard : Claim7 := { stood := { row := fnExactParentOfRow, standIns := [], harness := (true, "9ad2cbfa01c99c1584ff8c1a7cc6e58d4d0811fb3dc371eb73dbdaa9aff9e874"), looks := false }, kinds := [], alts := [], laidByText := true, laidKinds := [.data, .pinned], laidTests := true, laidLooks := .later }
def FnExactParentOfCardSaid : Prop := Claim7.holds Tryd.pinned (.plain (OpenSpec.ofChange fnExactParentOfSpec)) fnExactParentOfCard

/-- THE SECOND FORM's CARD OF 'laws.FnExactQueryWords'. -/
def fnExactQueryWordsUptoCard : Claim7 := { stood := { row := fnExactQueryWordsUptoRow, standIns := [], harness := (true, "9ad2cbfa01c99c1584ff8c1a7cc6e58d4d0811fb3dc371eb73dbdaa9aff9e874"), looks := false }, kinds := [], alts := [], laidByText := true, laidKinds := [.widerDeep], laidTests := true, laidLooks := .later }
def FnExactQueryWordsUptoCardSaid : Prop := Claim7.holds Tryd.pinned (.plain (OpenSpec.upto fnExactQueryWordsSpec)) fnExactQueryWordsUptoCard

/-- THE SECOND FORM's CARD OF 'laws.FnExactUnabbreviatedWords'. -/
def fnExactUnabbreviatedWordsUptoCard : Claim7 := { stood := { row := fnExactUnabbreviatedWordsUptoRow, standIns := [], harness := (true, "9ad2cbfa01c99c1584ff8c1a7cc6e58d4d0811fb3dc371eb73dbdaa9aff9e874"), looks := false }, kinds := [], alts := [], laidByText := true, laidKinds := [.data, .pinned], laidTests := true, laidLooks := .later }
def FnExactUnabbreviatedWordsUptoCardSaid : Prop := Claim7.holds Tryd.pinned (.plain (OpenSpec.upto fnExactUnabbreviatedWordsSpec)) fnExactUnabbreviatedWordsUptoCard

/-- THE SECOND FORM's CARD OF 'laws.FnExactUnusedAbbreviations'. -/
def fnExactUnusedAbbreviationsUptoCard : Claim7 := { stood := { row := fnExactUnusedAbbreviationsUptoRow, standIns := [], harness := (true, "9ad2cbfa01c99c1584ff8c1a7cc6e58d4d0811fb3dc371eb73dbdaa9aff9e874"), looks := false }, kinds := [], alts := [], laidByText := true, laidKinds := [.data, .pinned], laidTests := true, laidLooks := .later }
def FnExactUnusedAbbreviationsUptoCardSaid : Prop := Claim7.holds Tryd.pinned (.plain (OpenSpec.upto fnExactUnusedAbbreviationsSpec)) fnExactUnusedAbbreviationsUptoCard

/-- THE SECOND FORM's CARD OF 'laws.FnExactAbbreviateTitle'. -/
def fnExactAbbreviateTitleUptoCard : Claim7 := { stood := { row := fnExactAbbreviateTitleUptoRow, standIns := [], harness := (true, "9ad2cbfa01c99c1584ff8c1a7cc6e58d4d0811fb3dc371eb73dbdaa9aff9e874"), looks := false }, kinds := [], alts := [], laidByText := true, laidKinds := [.data, .pinned], laidTests := true, laidLooks := .later }
def FnExactAbbreviateTitleUptoCardSaid : Prop := Claim7.holds Tryd.pinned (.plain (OpenSpec.upto fnExactAbbreviateTitleSpec)) fnExactAbbreviateTitleUptoCard

/-- THE SECOND FORM's CARD OF 'laws.FnExactParentOf'. -/
def fnExactParentOfUptoCard : Claim7 := { stood := { row := fnExactParentOfUptoRow, standIns := [], harness := (true, "9ad2cbfa01c99c1584ff8c1a7cc6e58d4d0811fb3dc371eb73dbdaa9aff9e874"), looks := false }, kinds := [], alts := [], laidByText := true, laidKinds := [.data, .pinned], laidTests := true, laidLooks := .later }
def FnExactParentOfUptoCardSaid : Prop := Claim7.holds Tryd.pinned (.plain (OpenSpec.upto fnExactParentOfSpec)) fnExactParentOfUptoCard
end Rows
end Go.Proofs.YtnffgabfibafjaaDoor
