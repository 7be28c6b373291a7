/-
  DERIVED. GIVEN WITH THE SEED: THE CARDS: each row of YtkbichbahpnmmaaDoorRows.lean that lists a variable, with what it lists TIED to the program's text (the seventh form; the later family's looks); each row that meets fmt, with fmt's text TOLD by the authors' own Lean function (tested against real Go, not proved from fmt's source: count such statements apart). THE CARD IS WHAT COUNTS. Prove the row's statement (the work); the ties are given (YtkbichbahpnmmaaDoorTie.lean); close each card by the builder's one call (the guide's Derived/Test/ToyasCard.lean, 'card_holds'). Laid BY PROGRAM, IN A SANDBOX (cutbox-door.mjs). By AI agents, Wed Nov 11 2026. No macro, syntax, notation, axiom, sorry.
-/
import Derived.Test.YtkbichbahpnmmaaDoorRows
import GoSem.ClaimSeven
namespace Go.Proofs.YtkbichbahpnmmaaDoor
namespace Rows

/-- THE TIED CARD OF 'laws.FnExactSimplifyQuery'. -/
def fnExactSimplifyQueryCard : Claim7 := { stood := { row := fnExactSimplifyQueryRow, standIns := [], harness := (true, "ce4f51b8bb87f845550e47f27d68a171e624a9b625e00a488a9a426c7bcff747"), looks := false }, kinds := [], alts := [], laidByText := true, laidKinds := [.widerDeep], laidTests := true, laidLooks := .later }
def FnExactSimplifyQueryCardSaid : Prop := Claim7.holds Tryd.pinned (.plain (OpenSpec.ofChange fnExactSimplifyQuerySpec)) fnExactSimplifyQueryCard

/-- THE TIED CARD OF 'laws.FnExactParseQuery'. -/
def fnExactParseQueryCard : Claim7 := { stood := { row := fnExactParseQueryRow, standIns := [], harness := (true, "ce4f51b8bb87f845550e47f27d68a171e624a9b625e00a488a9a426c7bcff747"), looks := false }, kinds := [], alts := [], laidByText := true, laidKinds := [.widerDeep], laidTests := true, laidLooks := .later }
def FnExactParseQueryCardSaid : Prop := Claim7.holds Tryd.pinned (.plain (OpenSpec.ofChange fnExactParseQuerySpec)) fnExactParseQueryCard

/-- THE TIED CARD OF 'laws.FnExactQueryWords'. -/
def fnExactQueryWordsCard : Claim7 := { stood := { row := fnExactQueryWordsRow, standIns := [], harness := (true, "ce4f51b8bb87f845550e47f27d68a171e624a9b625e00a488a9a426c7bcff747"), looks := false }, kinds := [], alts := [], laidByText := true, laidKinds := [.widerDeep], laidTests := true, laidLooks := .later }
def FnExactQueryWordsCardSaid : Prop := Claim7.holds Tryd.pinned (.plain (OpenSpec.ofChange fnExactQueryWordsSpec)) fnExactQueryWordsCard

/-- THE SECOND FORM's CARD OF 'laws.FnExactSimplifyQuery'. -/
def fnExactSimplifyQueryUptoCard : Claim7 := { stood := { row := fnExactSimplifyQueryUptoRow, standIns := [], harness := (true, "ce4f51b8bb87f845550e47f27d68a171e624a9b625e00a488a9a426c7bcff747"), looks := false }, kinds := [], alts := [], laidByText := true, laidKinds := [.widerDeep], laidTests := true, laidLooks := .later }
def FnExactSimplifyQueryUptoCardSaid : Prop := Claim7.holds Tryd.pinned (.plain (OpenSpec.upto fnExactSimplifyQuerySpec)) fnExactSimplifyQueryUptoCard

/-- THE SECOND FORM's CARD OF 'laws.FnExactParseQuery'. -/
def fnExactParseQueryUptoCard : Claim7 := { stood := { row := fnExactParseQueryUptoRow, standIns := [], harness := (true, "ce4f51b8bb87f845550e47f27d68a171e624a9b625e00a488a9a426c7bcff747"), looks := false }, kinds := [], alts := [], laidByText := true, laidKinds := [.widerDeep], laidTests := true, laidLooks := .later }
def FnExactParseQueryUptoCardSaid : Prop := Claim7.holds Tryd.pinned (.plain (OpenSpec.upto fnExactParseQuerySpec)) fnExactParseQueryUptoCard

/-- THE SECOND FORM's CARD OF 'laws.FnExactQueryWords'. -/
def fnExactQueryWordsUptoCard : Claim7 := { stood := { row := fnExactQueryWordsUptoRow, standIns := [], harness := (true, "ce4f51b8bb87f845550e47f27d68a171e624a9b625e00a488a9a426c7bcff747"), looks := false }, kinds := [], alts := [], laidByText := true, laidKinds := [.widerDeep], laidTests := true, laidLooks := .later }
def FnExactQueryWordsUptoCardSaid : Prop := Claim7.holds Tryd.pinned (.plain (OpenSpec.upto fnExactQueryWordsSpec)) fnExactQueryWordsUptoCard
end Rows
end Go.Proofs.YtkbichbahpnmmaaDoor
