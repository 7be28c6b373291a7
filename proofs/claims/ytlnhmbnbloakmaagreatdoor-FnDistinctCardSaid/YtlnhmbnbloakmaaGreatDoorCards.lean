/-
  DERIVED. GIVEN WITH THE SEED: THE CARDS: each row of YtlnhmbnbloakmaaGreatDoorRows.lean that lists a variable, with what it lists TIED to the program's text (the seventh form; the later family's looks); each row that meets fmt, with fmt's text TOLD by the authors' own Lean function (tested against real Go, not proved from fmt's source: count such statements apart). THE CARD IS WHAT COUNTS. Prove the row's statement (the work); the ties are given (YtlnhmbnbloakmaaGreatDoorTie.lean); close each card by the builder's one call (the guide's Derived/Test/ToyasCard.lean, 'card_holds'). Laid BY PROGRAM, IN A SANDBOX (cutbox-door.mjs). By AI agents, Wed Nov 11 2026. No macro, syntax, notation, axiom, sorry.
-/
import Derived.Test.YtlnhmbnbloakmaaGreatDoorRows
import GoSem.ClaimSeven
namespace Go.Proofs.YtlnhmbnbloakmaaGreatDoor
namespace Rows

/-- THE TIED CARD OF 'laws.FnDistinct'. -/
def fnDistinctCard : Claim7 := { stood := { row := fnDistinctRow, standIns := [], harness := (true, "179878d91e99ab1dcc8e6a6bc63f5bec0ea5eb8b0cc2d4cd10747e5ce5e62c90"), looks := false }, kinds := [], alts := [], laidByText := true, laidKinds := [.data, .pinned], laidTests := true, laidLooks := .later }
def FnDistinctCardSaid : Prop := Claim7.holds Tryz.pinned (.plain (OpenSpec.ofChange fnDistinctSpec)) fnDistinctCard

/-- THE SECOND FORM's CARD OF 'laws.FnDistinct'. -/
def fnDistinctUptoCard : Claim7 := { stood := { row := fnDistinctUptoRow, standIns := [], harness := (true, "179878d91e99ab1dcc8e6a6bc63f5bec0ea5eb8b0cc2d4cd10747e5ce5e62c90"), looks := false }, kinds := [], alts := [], laidByText := true, laidKinds := [.data, .pinned], laidTests := true, laidLooks := .later }
def FnDistinctUptoCardSaid : Prop := Claim7.holds Tryz.pinned (.plain (OpenSpec.upto fnDistinctSpec)) fnDistinctUptoCard
end Rows
end Go.Proofs.YtlnhmbnbloakmaaGreatDoor
