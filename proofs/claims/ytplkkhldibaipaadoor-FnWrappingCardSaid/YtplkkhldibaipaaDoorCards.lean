/-
  DERIVED. GIVEN WITH THE SEED: THE CARDS: each row of YtplkkhldibaipaaDoorRows.lean that lists a variable, with what it lists TIED to the program's text (the seventh form; the later family's looks); each row that meets fmt, with fmt's text TOLD by the authors' own Lean function (tested against real Go, not proved from fmt's source: count such statements apart). THE CARD IS WHAT COUNTS. Prove the row's statement (the work); the ties are given (YtplkkhldibaipaaDoorTie.lean); close each card by the builder's one call (the guide's Derived/Test/ToyasCard.lean, 'card_holds'). Laid BY PROGRAM, IN A SANDBOX (cutbox-door.mjs). By AI agents, Wed Nov 11 2026. No macro, syntax, notation, axiom, sorry.
-/
import Derived.Test.YtplkkhldibaipaaDoorRows
import GoSem.ClaimSeven
namespace Go.Proofs.YtplkkhldibaipaaDoor
namespace Rows

/-- THE TIED CARD OF 'laws.FnWrapping'. -/
def fnWrappingCard : Claim7 := { stood := { row := fnWrappingRow, standIns := [], harness := (true, "f7c7b6ed715152336c2bc8ee9e13f4375beb6864cbe04abed251bd252c3724df"), looks := false }, kinds := [], alts := [], laidByText := true, laidKinds := [.data, .pinned], laidTests := true, laidLooks := .later }
def FnWrappingCardSaid : Prop := Claim7.holds Tryd.pinned (.plain (OpenSpec.ofChange fnWrappingSpec)) fnWrappingCard

/-- THE SECOND FORM's CARD OF 'laws.FnWrapping'. -/
def fnWrappingUptoCard : Claim7 := { stood := { row := fnWrappingUptoRow, standIns := [], harness := (true, "f7c7b6ed715152336c2bc8ee9e13f4375beb6864cbe04abed251bd252c3724df"), looks := false }, kinds := [], alts := [], laidByText := true, laidKinds := [.data, .pinned], laidTests := true, laidLooks := .later }
def FnWrappingUptoCardSaid : Prop := Claim7.holds Tryd.pinned (.plain (OpenSpec.upto fnWrappingSpec)) fnWrappingUptoCard
end Rows
end Go.Proofs.YtplkkhldibaipaaDoor
