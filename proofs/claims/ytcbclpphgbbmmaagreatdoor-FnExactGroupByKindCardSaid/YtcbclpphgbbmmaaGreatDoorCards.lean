/-
  DERIVED. GIVEN WITH THE SEED: THE CARDS: each row of YtcbclpphgbbmmaaGreatDoorRows.lean that lists a variable, with what it lists TIED to the program's text (the seventh form; the later family's looks); each row that meets fmt, with fmt's text TOLD by the authors' own Lean function (tested against real Go, not proved from fmt's source: count such statements apart). THE CARD IS WHAT COUNTS. Prove the row's statement (the work); the ties are given (YtcbclpphgbbmmaaGreatDoorTie.lean); close each card by the builder's one call (the guide's Derived/Test/ToyasCard.lean, 'card_holds'). Laid BY PROGRAM, IN A SANDBOX (cutbox-door.mjs). By AI agents, Wed Nov 11 2026. No macro, syntax, notation, axiom, sorry.
-/
import Derived.Test.YtcbclpphgbbmmaaGreatDoorRows
import GoSem.ClaimSeven
namespace Go.Proofs.YtcbclpphgbbmmaaGreatDoor
namespace Rows

/-- THE TIED CARD OF 'laws.FnExactGroupByKind'. -/
def fnExactGroupByKindCard : Claim7 := { stood := { row := fnExactGroupByKindRow, standIns := [], harness := (true, "e71b77c15206f49756da997e4a8bf5e854b9305e800b328f49ac063bd68cfbd3"), looks := false }, kinds := [], alts := [], laidByText := true, laidKinds := [.data, .pinned], laidTests := true, laidLooks := .later }
def FnExactGroupByKindCardSaid : Prop := Claim7.holds Tryz.pinned (.plain (OpenSpec.ofChange fnExactGroupByKindSpec)) fnExactGroupByKindCard

/-- THE SECOND FORM's CARD OF 'laws.FnExactGroupByKind'. -/
def fnExactGroupByKindUptoCard : Claim7 := { stood := { row := fnExactGroupByKindUptoRow, standIns := [], harness := (true, "e71b77c15206f49756da997e4a8bf5e854b9305e800b328f49ac063bd68cfbd3"), looks := false }, kinds := [], alts := [], laidByText := true, laidKinds := [.data, .pinned], laidTests := true, laidLooks := .later }
def FnExactGroupByKindUptoCardSaid : Prop := Claim7.holds Tryz.pinned (.plain (OpenSpec.upto fnExactGroupByKindSpec)) fnExactGroupByKindUptoCard
end Rows
end Go.Proofs.YtcbclpphgbbmmaaGreatDoor
