/-
  DERIVED. GIVEN WITH THE SEED: THE CARDS: each row of YtahacbcnjfoknaaDoorRows.lean that lists a variable, with what it lists TIED to the program's text (the seventh form; the later family's looks); each row that meets fmt, with fmt's text TOLD by the authors' own Lean function (tested against real Go, not proved from fmt's source: count such statements apart). THE CARD IS WHAT COUNTS. Prove the row's statement (the work); the ties are given (YtahacbcnjfoknaaDoorTie.lean); close each card by the builder's one call (the guide's Derived/Test/ToyasCard.lean, 'card_holds'). Laid BY PROGRAM, IN A SANDBOX (cutbox-door.mjs). By AI agents, Wed Nov 11 2026. No macro, syntax, notation, axiom, sorry.
-/
import Derived.Test.YtahacbcnjfoknaaDoorRows
import GoSem.ClaimSeven
namespace Go.Proofs.YtahacbcnjfoknaaDoor
namespace Rows

/-- THE TIED CARD OF 'laws.FnExactIsValidQuery'. -/
def fnExactIsValidQueryCard : Claim7 := { stood := { row := fnExactIsValidQueryRow, standIns := [], harness := (true, "ba28784c0c610f5ce6d88a4fd079764653ccf07f8c9a7860472d38d33fae61a2"), looks := false }, kinds := [], alts := [], laidByText := true, laidKinds := [.widerDeep], laidTests := true, laidLooks := .later }
def FnExactIsValidQueryCardSaid : Prop := Claim7.holds Tryd.pinned (.plain (OpenSpec.ofChange fnExactIsValidQuerySpec)) fnExactIsValidQueryCard

/-- THE TIED CARD OF 'laws.FnExactFormatQuery'. -/
def fnExactFormatQueryCard : Claim7 := { stood := { row := fnExactFormatQueryRow, standIns := [], harness := (true, "ba28784c0c610f5ce6d88a4fd079764653ccf07f8c9a7860472d38d33fae61a2"), looks := false }, kinds := [], alts := [], laidByText := true, laidKinds := [.widerDeep], laidTests := true, laidLooks := .later }
def FnExactFormatQueryCardSaid : Prop := Claim7.holds Tryd.pinned (.plain (OpenSpec.ofChange fnExactFormatQuerySpec)) fnExactFormatQueryCard

/-- THE TIED CARD OF 'laws.FnExactSimplifyQuery'. -/
def fnExactSimplifyQueryCard : Claim7 := { stood := { row := fnExactSimplifyQueryRow, standIns := [], harness := (true, "ba28784c0c610f5ce6d88a4fd079764653ccf07f8c9a7860472d38d33fae61a2"), looks := false }, kinds := [], alts := [], laidByText := true, laidKinds := [.widerDeep], laidTests := true, laidLooks := .later }
def FnExactSimplifyQueryCardSaid : Prop := Claim7.holds Tryd.pinned (.plain (OpenSpec.ofChange fnExactSimplifyQuerySpec)) fnExactSimplifyQueryCard

/-- THE TIED CARD OF 'laws.FnExactHangingLines'. -/
def fnExactHangingLinesCard : Claim7 := { stood := { row := fnExactHangingLinesRow, standIns := [], harness := (true, "ba28784c0c610f5ce6d88a4fd079764653ccf07f8c9a7860472d38d33fae61a2"), looks := false }, kinds := [], alts := [], laidByText := true, laidKinds := [.data, .pinned], laidTests := true, laidLooks := .later }
def FnExactHangingLinesCardSaid : Prop := Claim7.holds Tryd.pinned (.plain (OpenSpec.ofChange fnExactHangingLinesSpec)) fnExactHangingLinesCard

/-- THE TIED CARD OF 'laws.FnExactWrapText'. -/
def fnExactWrapTextCard : Claim7 := { stood := { row := fnExactWrapTextRow, standIns := [], harness := (true, "ba28784c0c610f5ce6d88a4fd079764653ccf07f8c9a7860472d38d33fae61a2"), looks := false }, kinds := [], alts := [], laidByText := true, laidKinds := [.data, .pinned], laidTests := true, laidLooks := .later }
def FnExactWrapTextCardSaid : Prop := Claim7.holds Tryd.pinned (.plain (OpenSpec.ofChange fnExactWrapTextSpec)) fnExactWrapTextCard

/-- THE TIED CARD OF 'laws.FnWrapping'. -/
def fnWrappingCard : Claim7 := { stood := { row := fnWrappingRow, standIns := [], harness := (true, "ba28784c0c610f5ce6d88a4fd079764653ccf07f8c9a7860472d38d33fae61a2"), looks := false }, kinds := [], alts := [], laidByText := true, laidKinds := [.data, .pinned], laidTests := true, laidLooks := .later }
def FnWrappingCardSaid : Prop := Claim7.holds Tryd.pinned (.plain (OpenSpec.ofChange fnWrappingSpec)) fnWrappingCard

/-- THE TIED CARD OF 'laws.FnExactParseQuery'. -/
def fnExactParseQueryCard : Claim7 := { stood := { row := fnExactParseQueryRow, standIns := [], harness := (true, "ba28784c0c610f5ce6d88a4fd079764653ccf07f8c9a7860472d38d33fae61a2"), looks := false }, kinds := [], alts := [], laidByText := true, laidKinds := [.widerDeep], laidTests := true, laidLooks := .later }
def FnExactParseQueryCardSaid : Prop := Claim7.holds Tryd.pinned (.plain (OpenSpec.ofChange fnExactParseQuerySpec)) fnExactParseQueryCard

/-- THE TIED CARD OF 'laws.FnExactTextDistance'. -/
def fnExactTextDistanceCard : Claim7 := { stood := { row := fnExactTextDistanceRow, standIns := [], harness := (true, "ba28784c0c610f5ce6d88a4fd079764653ccf07f8c9a7860472d38d33fae61a2"), looks := false }, kinds := [], alts := [], laidByText := true, laidKinds := [.data, .pinned], laidTests := true, laidLooks := .later }
def FnExactTextDistanceCardSaid : Prop := Claim7.holds Tryd.pinned (.plain (OpenSpec.ofChange fnExactTextDistanceSpec)) fnExactTextDistanceCard

/-- THE SECOND FORM's CARD OF 'laws.FnExactIsValidQuery'. -/
def fnExactIsValidQueryUptoCard : Claim7 := { stood := { row := fnExactIsValidQueryUptoRow, standIns := [], harness := (true, "ba28784c0c610f5ce6d88a4fd079764653ccf07f8c9a7860472d38d33fae61a2"), looks := false }, kinds := [], alts := [], laidByText := true, laidKinds := [.widerDeep], laidTests := true, laidLooks := .later }
def FnExactIsValidQueryUptoCardSaid : Prop := Claim7.holds Tryd.pinned (.plain (OpenSpec.upto fnExactIsValidQuerySpec)) fnExactIsValidQueryUptoCard

/-- THE SECOND FORM's CARD OF 'laws.FnExactFormatQuery'. -/
def fnExactFormatQueryUptoCard : Claim7 := { stood := { row := fnExactFormatQueryUptoRow, standIns := [], harness := (true, "ba28784c0c610f5ce6d88a4fd079764653ccf07f8c9a7860472d38d33fae61a2"), looks := false }, kinds := [], alts := [], laidByText := true, laidKinds := [.widerDeep], laidTests := true, laidLooks := .later }
def FnExactFormatQueryUptoCardSaid : Prop := Claim7.holds Tryd.pinned (.plain (OpenSpec.upto fnExactFormatQuerySpec)) fnExactFormatQueryUptoCard

/-- THE SECOND FORM's CARD OF 'laws.FnExactSimplifyQuery'. -/
def fnExactSimplifyQueryUptoCard : Claim7 := { stood := { row := fnExactSimplifyQueryUptoRow, standIns := [], harness := (true, "ba28784c0c610f5ce6d88a4fd079764653ccf07f8c9a7860472d38d33fae61a2"), looks := false }, kinds := [], alts := [], laidByText := true, laidKinds := [.widerDeep], laidTests := true, laidLooks := .later }
def FnExactSimplifyQueryUptoCardSaid : Prop := Claim7.holds Tryd.pinned (.plain (OpenSpec.upto fnExactSimplifyQuerySpec)) fnExactSimplifyQueryUptoCard

/-- THE SECOND FORM's CARD OF 'laws.FnExactHangingLines'. -/
def fnExactHangingLinesUptoCard : Claim7 := { stood := { row := fnExactHangingLinesUptoRow, standIns := [], harness := (true, "ba28784c0c610f5ce6d88a4fd079764653ccf07f8c9a7860472d38d33fae61a2"), looks := false }, kinds := [], alts := [], laidByText := true, laidKinds := [.data, .pinned], laidTests := true, laidLooks := .later }
def FnExactHangingLinesUptoCardSaid : Prop := Claim7.holds Tryd.pinned (.plain (OpenSpec.upto fnExactHangingLinesSpec)) fnExactHangingLinesUptoCard

/-- THE SECOND FORM's CARD OF 'laws.FnExactWrapText'. -/
def fnExactWrapTextUptoCard : Claim7 := { stood := { row := fnExactWrapTextUptoRow, standIns := [], harness := (true, "ba28784c0c610f5ce6d88a4fd079764653ccf07f8c9a7860472d38d33fae61a2"), looks := false }, kinds := [], alts := [], laidByText := true, laidKinds := [.data, .pinned], laidTests := true, laidLooks := .later }
def FnExactWrapTextUptoCardSaid : Prop := Claim7.holds Tryd.pinned (.plain (OpenSpec.upto fnExactWrapTextSpec)) fnExactWrapTextUptoCard

/-- THE SECOND FORM's CARD OF 'laws.FnWrapping'. -/
def fnWrappingUptoCard : Claim7 := { stood := { row := fnWrappingUptoRow, standIns := [], harness := (true, "ba28784c0c610f5ce6d88a4fd079764653ccf07f8c9a7860472d38d33fae61a2"), looks := false }, kinds := [], alts := [], laidByText := true, laidKinds := [.data, .pinned], laidTests := true, laidLooks := .later }
def FnWrappingUptoCardSaid : Prop := Claim7.holds Tryd.pinned (.plain (OpenSpec.upto fnWrappingSpec)) fnWrappingUptoCard

/-- THE SECOND FORM's CARD OF 'laws.FnExactParseQuery'. -/
def fnExactParseQueryUptoCard : Claim7 := { stood := { row := fnExactParseQueryUptoRow, standIns := [], harness := (true, "ba28784c0c610f5ce6d88a4fd079764653ccf07f8c9a7860472d38d33fae61a2"), looks := false }, kinds := [], alts := [], laidByText := true, laidKinds := [.widerDeep], laidTests := true, laidLooks := .later }
def FnExactParseQueryUptoCardSaid : Prop := Claim7.holds Tryd.pinned (.plain (OpenSpec.upto fnExactParseQuerySpec)) fnExactParseQueryUptoCard

/-- THE SECOND FORM's CARD OF 'laws.FnExactTextDistance'. -/
def fnExactTextDistanceUptoCard : Claim7 := { stood := { row := fnExactTextDistanceUptoRow, standIns := [], harness := (true, "ba28784c0c610f5ce6d88a4fd079764653ccf07f8c9a7860472d38d33fae61a2"), looks := false }, kinds := [], alts := [], laidByText := true, laidKinds := [.data, .pinned], laidTests := true, laidLooks := .later }
def FnExactTextDistanceUptoCardSaid : Prop := Claim7.holds Tryd.pinned (.plain (OpenSpec.upto fnExactTextDistanceSpec)) fnExactTextDistanceUptoCard
end Rows
end Go.Proofs.YtahacbcnjfoknaaDoor
