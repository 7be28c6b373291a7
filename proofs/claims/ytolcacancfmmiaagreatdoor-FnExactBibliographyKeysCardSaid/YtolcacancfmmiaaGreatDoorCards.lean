/-
  DERIVED. GIVEN WITH THE SEED: THE CARDS: each row of YtolcacancfmmiaaGreatDoorRows.lean that lists a variable, with what it lists TIED to the program's text (the seventh form; the later family's looks); each row that meets fmt, with fmt's text TOLD by the authors' own Lean function (tested against real Go, not proved from fmt's source: count such statements apart). THE CARD IS WHAT COUNTS. Prove the row's statement (the work); the ties are given (YtolcacancfmmiaaGreatDoorTie.lean); close each card by the builder's one call (the guide's Derived/Test/ToyasCard.lean, 'card_holds'). Laid BY PROGRAM, IN A SANDBOX (cutbox-door.mjs). By AI agents, Wed Nov 11 2026. No macro, syntax, notation, axiom, sorry.
-/
import Derived.Test.YtolcacancfmmiaaGreatDoorRows
import GoSem.ClaimSeven
namespace Go.Proofs.YtolcacancfmmiaaGreatDoor
namespace Rows

/-- THE TIED CARD OF 'laws.FnExactBibliographyKeys'. -/
def fnExactBibliographyKeysCard : Claim7 := { stood := { row := fnExactBibliographyKeysRow, standIns := [], harness := (true, "58644609a20a8304f0ff963d2bdb29e093d4bf7be574844eae6dfc410cc3caa5"), looks := false }, kinds := [], alts := [], laidByText := true, laidKinds := [.data, .pinned], laidTests := true, laidLooks := .later }
def FnExactBibliographyKeysCardSaid : Prop := Claim7.holds Tryz.pinned (.plain (OpenSpec.ofChange fnExactBibliographyKeysSpec)) fnExactBibliographyKeysCard

/-- THE SECOND FORM's CARD OF 'laws.FnExactBibliographyKeys'. -/
def fnExactBibliographyKeysUptoCard : Claim7 := { stood := { row := fnExactBibliographyKeysUptoRow, standIns := [], harness := (true, "58644609a20a8304f0ff963d2bdb29e093d4bf7be574844eae6dfc410cc3caa5"), looks := false }, kinds := [], alts := [], laidByText := true, laidKinds := [.data, .pinned], laidTests := true, laidLooks := .later }
def FnExactBibliographyKeysUptoCardSaid : Prop := Claim7.holds Tryz.pinned (.plain (OpenSpec.upto fnExactBibliographyKeysSpec)) fnExactBibliographyKeysUptoCard
end Rows
end Go.Proofs.YtolcacancfmmiaaGreatDoor
