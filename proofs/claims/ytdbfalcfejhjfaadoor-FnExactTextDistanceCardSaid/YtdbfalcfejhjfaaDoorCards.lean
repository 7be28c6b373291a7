/-
  DERIVED. GIVEN WITH THE SEED: THE CARDS: each row of YtdbfalcfejhjfaaDoorRows.lean that lists a variable, with what it lists TIED to the program's text (the seventh form; the later family's looks); each row that meets fmt, with fmt's text TOLD by the authors' own Lean function (tested against real Go, not proved from fmt's source: count such statements apart). THE CARD IS WHAT COUNTS. Prove the row's statement (the work); the ties are given (YtdbfalcfejhjfaaDoorTie.lean); close each card by the builder's one call (the guide's Derived/Test/ToyasCard.lean, 'card_holds'). Laid BY PROGRAM, IN A SANDBOX (cutbox-door.mjs). By AI agents, Wed Nov 11 2026. No macro, syntax, notation, axiom, sorry.
-/
import Derived.Test.YtdbfalcfejhjfaaDoorRows
import GoSem.ClaimSeven
namespace Go.Proofs.YtdbfalcfejhjfaaDoor
namespace Rows

/-- THE TIED CARD OF 'laws.FnExactTextDistance'. -/
def fnExactTextDistanceCard : Claim7 := { stood := { row := fnExactTextDistanceRow, standIns := [], harness := (true, "d604bd379a82c727ad61eed1d0926b465bbf58607d2dc438afe6fe5011a4a0c3"), looks := false }, kinds := [], alts := [], laidByText := true, laidKinds := [.data, .pinned], laidTests := true, laidLooks := .later }
def FnExactTextDistanceCardSaid : Prop := Claim7.holds Tryd.pinned (.plain (OpenSpec.ofChange fnExactTextDistanceSpec)) fnExactTextDistanceCard

/-- THE SECOND FORM's CARD OF 'laws.FnExactTextDistance'. -/
def fnExactTextDistanceUptoCard : Claim7 := { stood := { row := fnExactTextDistanceUptoRow, standIns := [], harness := (true, "d604bd379a82c727ad61eed1d0926b465bbf58607d2dc438afe6fe5011a4a0c3"), looks := false }, kinds := [], alts := [], laidByText := true, laidKinds := [.data, .pinned], laidTests := true, laidLooks := .later }
def FnExactTextDistanceUptoCardSaid : Prop := Claim7.holds Tryd.pinned (.plain (OpenSpec.upto fnExactTextDistanceSpec)) fnExactTextDistanceUptoCard
end Rows
end Go.Proofs.YtdbfalcfejhjfaaDoor
