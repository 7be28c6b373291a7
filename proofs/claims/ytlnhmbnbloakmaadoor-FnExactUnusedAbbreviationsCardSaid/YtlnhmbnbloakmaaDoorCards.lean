/-
  DERIVED. GIVEN WITH THE SEED: THE CARDS: each row of YtlnhmbnbloakmaaDoorRows.lean that lists a variable, with what it lists TIED to the program's text (the seventh form; the later family's looks); each row that meets fmt, with fmt's text TOLD by the authors' own Lean function (tested against real Go, not proved from fmt's source: count such statements apart). THE CARD IS WHAT COUNTS. Prove the row's statement (the work); the ties are given (YtlnhmbnbloakmaaDoorTie.lean); close each card by the builder's one call (the guide's Derived/Test/ToyasCard.lean, 'card_holds'). Laid BY PROGRAM, IN A SANDBOX (cutbox-door.mjs). By AI agents, Wed Nov 11 2026. No macro, syntax, notation, axiom, sorry.
-/
import Derived.Test.YtlnhmbnbloakmaaDoorRows
import GoSem.ClaimSeven
namespace Go.Proofs.YtlnhmbnbloakmaaDoor
namespace Rows

/-- THE TIED CARD OF 'laws.FnExactUnusedAbbreviations'. -/
def fnExactUnusedAbbreviationsCard : Claim7 := { stood := { row := fnExactUnusedAbbreviationsRow, standIns := [], harness := (true, "aa670322990475f3a8ce6603c3ea5613c97d62af583dfd0ae07303dd72d726e3"), looks := false }, kinds := [], alts := [], laidByText := true, laidKinds := [.data, .pinned], laidTests := true, laidLooks := .later }
def FnExactUnusedAbbreviationsCardSaid : Prop := Claim7.holds Tryd.pinned (.plain (OpenSpec.ofChange fnExactUnusedAbbreviationsSpec)) fnExactUnusedAbbreviationsCard

/-- THE SECOND FORM's CARD OF 'laws.FnExactUnusedAbbreviations'. -/
def fnExactUnusedAbbreviationsUptoCard : Claim7 := { stood := { row := fnExactUnusedAbbreviationsUptoRow, standIns := [], harness := (true, "aa670322990475f3a8ce6603c3ea5613c97d62af583dfd0ae07303dd72d726e3"), looks := false }, kinds := [], alts := [], laidByText := true, laidKinds := [.data, .pinned], laidTests := true, laidLooks := .later }
def FnExactUnusedAbbreviationsUptoCardSaid : Prop := Claim7.holds Tryd.pinned (.plain (OpenSpec.upto fnExactUnusedAbbreviationsSpec)) fnExactUnusedAbbreviationsUptoCard
end Rows
end Go.Proofs.YtlnhmbnbloakmaaDoor
