/-
  DERIVED. GIVEN WITH THE SEED: THE CARDS: each row of YtjbjijgncebbbaaGreatDoorRows.lean that lists a variable, with what it lists TIED to the program's text (the seventh form; the later family's looks); each row that meets fmt, with fmt's text TOLD by the authors' own Lean function (tested against real Go, not proved from fmt's source: count such statements apart). THE CARD IS WHAT COUNTS. Prove the row's statement (the work); the ties are given (YtjbjijgncebbbaaGreatDoorTie.lean); close each card by the builder's one call (the guide's Derived/Test/ToyasCard.lean, 'card_holds'). Laid BY PROGRAM, IN A SANDBOX (cutbox-door.mjs). By AI agents, Wed Nov 11 2026. No macro, syntax, notation, axiom, sorry.
-/
import Derived.Test.YtjbjijgncebbbaaGreatDoorRows
import GoSem.ClaimSeven
namespace Go.Proofs.YtjbjijgncebbbaaGreatDoor
namespace Rows

/-- THE TIED CARD OF 'laws.FnInheritance'. -/
def fnInheritanceCard : Claim7 := { stood := { row := fnInheritanceRow, standIns := [], harness := (true, "a45e12cef6273d46493dc43365f1a314a9d0c5812c22e4ba2aefba9c54c0143b"), looks := false }, kinds := [], alts := [], laidByText := true, laidKinds := [.data, .data, .data, .data, .widerDeep, .pinned], laidTests := true, laidLooks := .later }
def FnInheritanceCardSaid : Prop := Claim7.holds Tryz.pinned (.plain (OpenSpec.ofChange fnInheritanceSpec)) fnInheritanceCard

/-- THE SECOND FORM's CARD OF 'laws.FnInheritance'. -/
def fnInheritanceUptoCard : Claim7 := { stood := { row := fnInheritanceUptoRow, standIns := [], harness := (true, "a45e12cef6273d46493dc43365f1a314a9d0c5812c22e4ba2aefba9c54c0143b"), looks := false }, kinds := [], alts := [], laidByText := true, laidKinds := [.data, .data, .data, .data, .widerDeep, .pinned], laidTests := true, laidLooks := .later }
def FnInheritanceUptoCardSaid : Prop := Claim7.holds Tryz.pinned (.plain (OpenSpec.upto fnInheritanceSpec)) fnInheritanceUptoCard
end Rows
end Go.Proofs.YtjbjijgncebbbaaGreatDoor
