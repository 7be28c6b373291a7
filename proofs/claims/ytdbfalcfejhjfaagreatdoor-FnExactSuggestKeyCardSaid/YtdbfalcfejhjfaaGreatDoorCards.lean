/-
  DERIVED. GIVEN WITH THE SEED: THE CARDS: each row of YtdbfalcfejhjfaaGreatDoorRows.lean that lists a variable, with what it lists TIED to the program's text (the seventh form; the later family's looks); each row that meets fmt, with fmt's text TOLD by the authors' own Lean function (tested against real Go, not proved from fmt's source: count such statements apart). THE CARD IS WHAT COUNTS. Prove the row's statement (the work); the ties are given (YtdbfalcfejhjfaaGreatDoorTie.lean); close each card by the builder's one call (the guide's Derived/Test/ToyasCard.lean, 'card_holds'). Laid BY PROGRAM, IN A SANDBOX (cutbox-door.mjs). By AI agents, Wed Nov 11 2026. No macro, syntax, notation, axiom, sorry.
-/
import Derived.Test.YtdbfalcfejhjfaaGreatDoorRows
import GoSem.ClaimSeven
namespace Go.Proofs.YtdbfalcfejhjfaaGreatDoor
namespace Rows

/-- THE TIED CARD OF 'laws.FnExactAreAlike'. -/
def fnExactAreAlikeCard : Claim7 := { stood := { row := fnExactAreAlikeRow, standIns := [], harness := (true, "082d9fe09753c81fab59d68a34462d6f566af2057e4acef0e369306bf93f0a28"), looks := false }, kinds := [], alts := [], laidByText := true, laidKinds := [.data, .pinned], laidTests := true, laidLooks := .later }
def FnExactAreAlikeCardSaid : Prop := Claim7.holds Tryz.pinned (.plain (OpenSpec.ofChange fnExactAreAlikeSpec)) fnExactAreAlikeCard

/-- THE TIED CARD OF 'laws.FnExactBestMatch'. -/
def fnExactBestMatchCard : Claim7 := { stood := { row := fnExactBestMatchRow, standIns := [], harness := (true, "082d9fe09753c81fab59d68a34462d6f566af2057e4acef0e369306bf93f0a28"), looks := false }, kinds := [], alts := [], laidByText := true, laidKinds := [.data, .pinned], laidTests := true, laidLooks := .later }
def FnExactBestMatchCardSaid : Prop := Claim7.holds Tryz.pinned (.plain (OpenSpec.ofChange fnExactBestMatchSpec)) fnExactBestMatchCard

/-- THE TIED CARD OF 'laws.FnExactSuggestKey'. -/
def fnExactSuggestKeyCard : Claim7 := { stood := { row := fnExactSuggestKeyRow, standIns := [], harness := (true, "082d9fe09753c81fab59d68a34462d6f566af2057e4acef0e369306bf93f0a28"), looks := false }, kinds := [], alts := [], laidByText := true, laidKinds := [.data, .data, .data, .data, .pinned], laidTests := true, laidLooks := .later }
def FnExactSuggestKeyCardSaid : Prop := Claim7.holds Tryz.pinned (.plain (OpenSpec.ofChange fnExactSuggestKeySpec)) fnExactSuggestKeyCard

/-- THE SECOND FORM's CARD OF 'laws.FnExactAreAlike'. -/
def fnExactAreAlikeUptoCard : Claim7 := { stood := { row := fnExactAreAlikeUptoRow, standIns := [], harness := (true, "082d9fe09753c81fab59d68a34462d6f566af2057e4acef0e369306bf93f0a28"), looks := false }, kinds := [], alts := [], laidByText := true, laidKinds := [.data, .pinned], laidTests := true, laidLooks := .later }
def FnExactAreAlikeUptoCardSaid : Prop := Claim7.holds Tryz.pinned (.plain (OpenSpec.upto fnExactAreAlikeSpec)) fnExactAreAlikeUptoCard

/-- THE SECOND FORM's CARD OF 'laws.FnExactBestMatch'. -/
def fnExactBestMatchUptoCard : Claim7 := { stood := { row := fnExactBestMatchUptoRow, standIns := [], harness := (true, "082d9fe09753c81fab59d68a34462d6f566af2057e4acef0e369306bf93f0a28"), looks := false }, kinds := [], alts := [], laidByText := true, laidKinds := [.data, .pinned], laidTests := true, laidLooks := .later }
def FnExactBestMatchUptoCardSaid : Prop := Claim7.holds Tryz.pinned (.plain (OpenSpec.upto fnExactBestMatchSpec)) fnExactBestMatchUptoCard

/-- THE SECOND FORM's CARD OF 'laws.FnExactSuggestKey'. -/
def fnExactSuggestKeyUptoCard : Claim7 := { stood := { row := fnExactSuggestKeyUptoRow, standIns := [], harness := (true, "082d9fe09753c81fab59d68a34462d6f566af2057e4acef0e369306bf93f0a28"), looks := false }, kinds := [], alts := [], laidByText := true, laidKinds := [.data, .data, .data, .data, .pinned], laidTests := true, laidLooks := .later }
def FnExactSuggestKeyUptoCardSaid : Prop := Claim7.holds Tryz.pinned (.plain (OpenSpec.upto fnExactSuggestKeySpec)) fnExactSuggestKeyUptoCard
end Rows
end Go.Proofs.YtdbfalcfejhjfaaGreatDoor
