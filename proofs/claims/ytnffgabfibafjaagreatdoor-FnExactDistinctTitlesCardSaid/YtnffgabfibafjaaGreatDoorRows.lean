/-
  NARROWER THAN 'FOR EVERY INPUT', by the rows' own cells (each row's printed sentence says how): FnExactDistinctTitles: laid · FnExactFullTitles: laid · FnExactMergeEntries: laid · FnDistinct: laid · FnExactChildrenOf: laid · FnExactBrokenCrosses: laid · FnExactDependentsOf: laid.
  DERIVED. THE GIVEN ROWS OF THIS SEAT. 7 by the template 'for every input the law returns true; each argument reads behind the call as it read before'; 0 by the template 'total and deterministic' (their statements: YtnffgabfibafjaaGreatDoorTotals.lean).
  GIVEN WITH THE SEED: the statements are not yours to turn. If you find one false, say at which input.
  Laid BY PROGRAM, IN A SANDBOX (cutbox-rows.mjs): the forced cells as the released guide's own fill.sh prints them over the translation 51cd87220c59b7c4… (all of the seat's roots in one cut). By AI agents, Wed Nov 11 2026. No macro, syntax, notation, axiom, sorry.
-/
import Derived.Test.YtnffgabfibafjaaGreatDoorChecked
import GoSem.PinnedTables
import GoSem.Claim
import GoSem.ClaimJoined
import GoSem.ClaimMapViews
import Derived.JoinedTies
import Derived.KernelRfl
namespace Go.Proofs.YtnffgabfibafjaaGreatDoor
/- THE CELL 'sum', in the pinned program and in every row, IS THE sha256 OF THE DUMP (.gsa) THAT YtnffgabfibafjaaGreatDoorProg.lean LOADS. Nothing in Lean hashes anything: it is a label: what it is worth is what the hold of that sum in a sandbox is worth. -/
noncomputable def Tryz.pinned : Pinned := { name := "ytnffgabfibafjaagreatdoor", sum := "51cd87220c59b7c4aee893dcc955b5d9245d8eb5012c8de55ec1f8b9ff73225d", checked := Tryz.checked }
namespace Rows
def none {H : Type} : Left H := { results := [], args := [] }

/- WHAT THE LISTED PACKAGE-LEVEL VARIABLES READ AS WHEN THE CALL BEGINS. Each datum BY PROGRAM (the guide's laid-datum.mjs) off the statement by which the dump's own 'gosem.cut.vars' lays the variable. In a bare row this is a premise. The card (YtnffgabfibafjaaGreatDoorCards.lean) ties it to the program's text. -/
def laid_unicode_utf8_acceptRanges {H : Type} : DataW H := .agg [.agg [.lit (.int .u8 128), .lit (.int .u8 191)], .agg [.lit (.int .u8 160), .lit (.int .u8 191)], .agg [.lit (.int .u8 128), .lit (.int .u8 159)], .agg [.lit (.int .u8 144), .lit (.int .u8 191)], .agg [.lit (.int .u8 128), .lit (.int .u8 143)], .agg [.lit (.int .u8 0), .lit (.int .u8 0)], .agg [.lit (.int .u8 0), .lit (.int .u8 0)], .agg [.lit (.int .u8 0), .lit (.int .u8 0)], .agg [.lit (.int .u8 0), .lit (.int .u8 0)], .agg [.lit (.int .u8 0), .lit (.int .u8 0)], .agg [.lit (.int .u8 0), .lit (.int .u8 0)], .agg [.lit (.int .u8 0), .lit (.int .u8 0)], .agg [.lit (.int .u8 0), .lit (.int .u8 0)], .agg [.lit (.int .u8 0), .lit (.int .u8 0)], .agg [.lit (.int .u8 0), .lit (.int .u8 0)], .agg [.lit (.int .u8 0), .lit (.int .u8 0)]]
/-- One of Go's own tables, pinned by name: the form's constant. -/
def laid_unicode_utf8_first : DataW Unit := Go.Pinned.utf8First

/-- 'laws.FnExactDistinctTitles': WHATEVER THE INPUT: true; the input reads as it did. -/
def fnExactDistinctTitlesSpec : ChangeSpec := { name := "fnExactDistinctTitles", fn := fun _ => fun
  | [d1, d2] => { results := [.lit (.bool true)], args := [d1, d2] }
  | _ => none }
def fnExactDistinctTitlesRow : OpenClaim := { program := "ytnffgabfibafjaagreatdoor", sum := "51cd87220c59b7c4aee893dcc955b5d9245d8eb5012c8de55ec1f8b9ff73225d", func := "loop.example/g00896/laws.FnExactDistinctTitles", spec := "fnExactDistinctTitles", inPlace := ["internal/bytealg.IndexByteString", "internal/bytealg.IndexString", "internal/bytealg.CountString", "internal/abi.NoEscape", "internal/bytealg.MakeNoZero"], unfollowed := true, recurses := true, named := ["unicode/utf8.first", "unicode/utf8.acceptRanges", "internal/bytealg.MaxLen"], apart := false, laid := [("unicode/utf8.acceptRanges", laid_unicode_utf8_acceptRanges), ("unicode/utf8.first", laid_unicode_utf8_first)] }
def FnExactDistinctTitlesSaid : Prop := fnExactDistinctTitlesRow.holds Tryz.pinned (OpenSpec.ofChange fnExactDistinctTitlesSpec)

/-- ITS FALSE NEIGHBOUR: 'it returns false'. Refute it at one input. -/
def fnExactDistinctTitlesWrong : ChangeSpec := { name := "fnExactDistinctTitles", fn := fun _ => fun
  | [d1, d2] => { results := [.lit (.bool false)], args := [d1, d2] }
  | _ => none }
def FnExactDistinctTitlesWrongFalsely : Prop := fnExactDistinctTitlesRow.holds Tryz.pinned (OpenSpec.ofChange fnExactDistinctTitlesWrong)

/-- 'laws.FnExactFullTitles': WHATEVER THE INPUT: true; the input reads as it did. -/
def fnExactFullTitlesSpec : ChangeSpec := { name := "fnExactFullTitles", fn := fun _ => fun
  | [d1, d2, d3] => { results := [.lit (.bool true)], args := [d1, d2, d3] }
  | _ => none }
def fnExactFullTitlesRow : OpenClaim := { program := "ytnffgabfibafjaagreatdoor", sum := "51cd87220c59b7c4aee893dcc955b5d9245d8eb5012c8de55ec1f8b9ff73225d", func := "loop.example/g00896/laws.FnExactFullTitles", spec := "fnExactFullTitles", inPlace := ["internal/bytealg.IndexByteString", "internal/bytealg.IndexString", "internal/bytealg.CountString", "internal/abi.NoEscape", "internal/bytealg.MakeNoZero"], unfollowed := true, recurses := true, named := ["unicode/utf8.first", "unicode/utf8.acceptRanges", "internal/bytealg.MaxLen"], apart := false, laid := [("unicode/utf8.acceptRanges", laid_unicode_utf8_acceptRanges), ("unicode/utf8.first", laid_unicode_utf8_first)] }
def FnExactFullTitlesSaid : Prop := fnExactFullTitlesRow.holds Tryz.pinned (OpenSpec.ofChange fnExactFullTitlesSpec)

/-- ITS FALSE NEIGHBOUR: 'it returns false'. Refute it at one input. -/
def fnExactFullTitlesWrong : ChangeSpec := { name := "fnExactFullTitles", fn := fun _ => fun
  | [d1, d2, d3] => { results := [.lit (.bool false)], args := [d1, d2, d3] }
  | _ => none }
def FnExactFullTitlesWrongFalsely : Prop := fnExactFullTitlesRow.holds Tryz.pinned (OpenSpec.ofChange fnExactFullTitlesWrong)

/-- 'laws.FnExactMergeEntries': WHATEVER THE INPUT: true; the input reads as it did. -/
def fnExactMergeEntriesSpec : ChangeSpec := { name := "fnExactMergeEntries", fn := fun _ => fun
  | [d1, d2] => { results := [.lit (.bool true)], args := [d1, d2] }
  | _ => none }
def fnExactMergeEntriesRow : OpenClaim := { program := "ytnffgabfibafjaagreatdoor", sum := "51cd87220c59b7c4aee893dcc955b5d9245d8eb5012c8de55ec1f8b9ff73225d", func := "loop.example/g00896/laws.FnExactMergeEntries", spec := "fnExactMergeEntries", inPlace := ["internal/bytealg.CountString", "internal/bytealg.IndexByteString", "internal/bytealg.IndexString"], unfollowed := true, recurses := true, named := ["unicode/utf8.first", "unicode/utf8.acceptRanges", "internal/bytealg.MaxLen"], apart := false, laid := [("unicode/utf8.acceptRanges", laid_unicode_utf8_acceptRanges), ("unicode/utf8.first", laid_unicode_utf8_first)] }
def FnExactMergeEntriesSaid : Prop := fnExactMergeEntriesRow.holds Tryz.pinned (OpenSpec.ofChange fnExactMergeEntriesSpec)

/-- ITS FALSE NEIGHBOUR: 'it returns false'. Refute it at one input. -/
def fnExactMergeEntriesWrong : ChangeSpec := { name := "fnExactMergeEntries", fn := fun _ => fun
  | [d1, d2] => { results := [.lit (.bool false)], args := [d1, d2] }
  | _ => none }
def FnExactMergeEntriesWrongFalsely : Prop := fnExactMergeEntriesRow.holds Tryz.pinned (OpenSpec.ofChange fnExactMergeEntriesWrong)

/-- 'laws.FnDistinct': WHATEVER THE INPUT: true; the input reads as it did. -/
def fnDistinctSpec : ChangeSpec := { name := "fnDistinct", fn := fun _ => fun
  | [d] => { results := [.lit (.bool true)], args := [d] }
  | _ => none }
def fnDistinctRow : OpenClaim := { program := "ytnffgabfibafjaagreatdoor", sum := "51cd87220c59b7c4aee893dcc955b5d9245d8eb5012c8de55ec1f8b9ff73225d", func := "loop.example/g00896/laws.FnDistinct", spec := "fnDistinct", inPlace := ["internal/bytealg.IndexByteString", "internal/bytealg.IndexString", "internal/bytealg.CountString", "internal/abi.NoEscape", "internal/bytealg.MakeNoZero"], unfollowed := true, recurses := true, named := ["unicode/utf8.first", "unicode/utf8.acceptRanges", "internal/bytealg.MaxLen"], apart := false, laid := [("unicode/utf8.acceptRanges", laid_unicode_utf8_acceptRanges), ("unicode/utf8.first", laid_unicode_utf8_first)] }
def FnDistinctSaid : Prop := fnDistinctRow.holds Tryz.pinned (OpenSpec.ofChange fnDistinctSpec)

/-- ITS FALSE NEIGHBOUR: 'it returns false'. Refute it at one input. -/
def fnDistinctWrong : ChangeSpec := { name := "fnDistinct", fn := fun _ => fun
  | [d] => { results := [.lit (.bool false)], args := [d] }
  | _ => none }
def FnDistinctWrongFalsely : Prop := fnDistinctRow.holds Tryz.pinned (OpenSpec.ofChange fnDistinctWrong)

/-- 'laws.FnExactChildrenOf': WHATEVER THE INPUT: true; the input reads as it did. -/
def fnExactChildrenOfSpec : ChangeSpec := { name := "fnExactChildrenOf", fn := fun _ => fun
  | [d1, d2] => { results := [.lit (.bool true)], args := [d1, d2] }
  | _ => none }
def fnExactChildrenOfRow : OpenClaim := { program := "ytnffgabfibafjaagreatdoor", sum := "51cd87220c59b7c4aee893dcc955b5d9245d8eb5012c8de55ec1f8b9ff73225d", func := "loop.example/g00896/laws.FnExactChildrenOf", spec := "fnExactChildrenOf", inPlace := ["internal/bytealg.CountString", "internal/bytealg.IndexByteString", "internal/bytealg.IndexString"], unfollowed := true, recurses := true, named := ["unicode/utf8.first", "unicode/utf8.acceptRanges", "internal/bytealg.MaxLen"], apart := false, laid := [("unicode/utf8.acceptRanges", laid_unicode_utf8_acceptRanges), ("unicode/utf8.first", laid_unicode_utf8_first)] }
def FnExactChildrenOfSaid : Prop := fnExactChildrenOfRow.holds Tryz.pinned (OpenSpec.ofChange fnExactChildrenOfSpec)

/-- ITS FALSE NEIGHBOUR: 'it returns false'. Refute it at one input. -/
def fnExactChildrenOfWrong : ChangeSpec := { name := "fnExactChildrenOf", fn := fun _ => fun
  | [d1, d2] => { results := [.lit (.bool false)], args := [d1, d2] }
  | _ => none }
def FnExactChildrenOfWrongFalsely : Prop := fnExactChildrenOfRow.holds Tryz.pinned (OpenSpec.ofChange fnExactChildrenOfWrong)

/-- 'laws.FnExactBrokenCrosses': WHATEVER THE INPUT: true; the input reads as it did. -/
def fnExactBrokenCrossesSpec : ChangeSpec := { name := "fnExactBrokenCrosses", fn := fun _ => fun
  | [d] => { results := [.lit (.bool true)], args := [d] }
  | _ => none }
def fnExactBrokenCrossesRow : OpenClaim := { program := "ytnffgabfibafjaagreatdoor", sum := "51cd87220c59b7c4aee893dcc955b5d9245d8eb5012c8de55ec1f8b9ff73225d", func := "loop.example/g00896/laws.FnExactBrokenCrosses", spec := "fnExactBrokenCrosses", inPlace := ["internal/bytealg.CountString", "internal/bytealg.IndexByteString", "internal/bytealg.IndexString"], unfollowed := true, recurses := true, named := ["unicode/utf8.first", "unicode/utf8.acceptRanges", "internal/bytealg.MaxLen"], apart := false, laid := [("unicode/utf8.acceptRanges", laid_unicode_utf8_acceptRanges), ("unicode/utf8.first", laid_unicode_utf8_first)] }
def FnExactBrokenCrossesSaid : Prop := fnExactBrokenCrossesRow.holds Tryz.pinned (OpenSpec.ofChange fnExactBrokenCrossesSpec)

/-- ITS FALSE NEIGHBOUR: 'it returns false'. Refute it at one input. -/
def fnExactBrokenCrossesWrong : ChangeSpec := { name := "fnExactBrokenCrosses", fn := fun _ => fun
  | [d] => { results := [.lit (.bool false)], args := [d] }
  | _ => none }
def FnExactBrokenCrossesWrongFalsely : Prop := fnExactBrokenCrossesRow.holds Tryz.pinned (OpenSpec.ofChange fnExactBrokenCrossesWrong)

/-- 'laws.FnExactDependentsOf': WHATEVER THE INPUT: true; the input reads as it did. -/
def fnExactDependentsOfSpec : ChangeSpec := { name := "fnExactDependentsOf", fn := fun _ => fun
  | [d1, d2] => { results := [.lit (.bool true)], args := [d1, d2] }
  | _ => none }
def fnExactDependentsOfRow : OpenClaim := { program := "ytnffgabfibafjaagreatdoor", sum := "51cd87220c59b7c4aee893dcc955b5d9245d8eb5012c8de55ec1f8b9ff73225d", func := "loop.example/g00896/laws.FnExactDependentsOf", spec := "fnExactDependentsOf", inPlace := ["internal/bytealg.CountString", "internal/bytealg.IndexByteString", "internal/bytealg.IndexString"], unfollowed := true, recurses := true, named := ["unicode/utf8.first", "unicode/utf8.acceptRanges", "internal/bytealg.MaxLen"], apart := false, laid := [("unicode/utf8.acceptRanges", laid_unicode_utf8_acceptRanges), ("unicode/utf8.first", laid_unicode_utf8_first)] }
def FnExactDependentsOfSaid : Prop := fnExactDependentsOfRow.holds Tryz.pinned (OpenSpec.ofChange fnExactDependentsOfSpec)

/-- ITS FALSE NEIGHBOUR: 'it returns false'. Refute it at one input. -/
def fnExactDependentsOfWrong : ChangeSpec := { name := "fnExactDependentsOf", fn := fun _ => fun
  | [d1, d2] => { results := [.lit (.bool false)], args := [d1, d2] }
  | _ => none }
def FnExactDependentsOfWrongFalsely : Prop := fnExactDependentsOfRow.holds Tryz.pinned (OpenSpec.ofChange fnExactDependentsOfWrong)

/- THE SECOND FORM. 'bulk': how many values and letters a reading holds, each counted each time it is reached (what is shared counts as often as it is met; a slice's spare places count too). A statement '..UptoSaid' is the law's where the arguments, and the package variables that the reading takes, are together of bulk at most 1048576: NARROWER than '..Said'. Prove '..Said' where nothing that the law and all that it calls make is longer than what came in: it says more and counts as full. Else prove '..UptoSaid'. A law counts once. -/
mutual
def uptoBulk {H : Type} : DataW H → Nat
  | .lit (.string bytes) => bytes.length + 1
  | .lit _ => 1
  | .nil => 1
  | .ptr d => uptoBulk d + 1
  | .slice elems spare => uptoBulkAll elems + uptoBulkAll spare + 1
  | .agg parts => uptoBulkAll parts + 1
  | .iface _ d => uptoBulk d + 1
  | .map entries => uptoBulkEntries entries + 1
  | .held _ => 1
def uptoBulkAll {H : Type} : List (DataW H) → Nat
  | [] => 0
  | d :: r => uptoBulk d + uptoBulkAll r
def uptoBulkEntries {H : Type} : List (Lit × DataW H) → Nat
  | [] => 0
  | x :: r => uptoBulkEntry x + uptoBulkEntries r
def uptoBulkEntry {H : Type} : Lit × DataW H → Nat
  | (.string bytes, d) => bytes.length + uptoBulk d + 1
  | (_, d) => uptoBulk d + 1
 end
def uptoSmall : (H : Type) → List (DataW H) → Bool := fun _ ds => decide (uptoBulkAll ds ≤ 1048576)
def OpenSpec.upto (s : _root_.Go.ChangeSpec) : _root_.Go.OpenSpec := { _root_.Go.OpenSpec.ofChange s with cond := some uptoSmall }

/-- 'laws.FnExactDistinctTitles', WHERE WHAT IT READS IS OF BULK AT MOST 1048576: true; the input reads as it did. -/
def fnExactDistinctTitlesUptoRow : OpenClaim := { program := "ytnffgabfibafjaagreatdoor", sum := "51cd87220c59b7c4aee893dcc955b5d9245d8eb5012c8de55ec1f8b9ff73225d", func := "loop.example/g00896/laws.FnExactDistinctTitles", spec := "fnExactDistinctTitles", inPlace := ["internal/bytealg.IndexByteString", "internal/bytealg.IndexString", "internal/bytealg.CountString", "internal/abi.NoEscape", "internal/bytealg.MakeNoZero"], unfollowed := true, recurses := true, named := ["unicode/utf8.first", "unicode/utf8.acceptRanges", "internal/bytealg.MaxLen"], apart := false, laid := [("unicode/utf8.acceptRanges", laid_unicode_utf8_acceptRanges), ("unicode/utf8.first", laid_unicode_utf8_first)], narrowed := true }
def FnExactDistinctTitlesUptoSaid : Prop := fnExactDistinctTitlesUptoRow.holds Tryz.pinned (OpenSpec.upto fnExactDistinctTitlesSpec)

/-- 'laws.FnExactFullTitles', WHERE WHAT IT READS IS OF BULK AT MOST 1048576: true; the input reads as it did. -/
def fnExactFullTitlesUptoRow : OpenClaim := { program := "ytnffgabfibafjaagreatdoor", sum := "51cd87220c59b7c4aee893dcc955b5d9245d8eb5012c8de55ec1f8b9ff73225d", func := "loop.example/g00896/laws.FnExactFullTitles", spec := "fnExactFullTitles", inPlace := ["internal/bytealg.IndexByteString", "internal/bytealg.IndexString", "internal/bytealg.CountString", "internal/abi.NoEscape", "internal/bytealg.MakeNoZero"], unfollowed := true, recurses := true, named := ["unicode/utf8.first", "unicode/utf8.acceptRanges", "internal/bytealg.MaxLen"], apart := false, laid := [("unicode/utf8.acceptRanges", laid_unicode_utf8_acceptRanges), ("unicode/utf8.first", laid_unicode_utf8_first)], narrowed := true }
def FnExactFullTitlesUptoSaid : Prop := fnExactFullTitlesUptoRow.holds Tryz.pinned (OpenSpec.upto fnExactFullTitlesSpec)

/-- 'laws.FnExactMergeEntries', WHERE WHAT IT READS IS OF BULK AT MOST 1048576: true; the input reads as it did. -/
def fnExactMergeEntriesUptoRow : OpenClaim := { program := "ytnffgabfibafjaagreatdoor", sum := "51cd87220c59b7c4aee893dcc955b5d9245d8eb5012c8de55ec1f8b9ff73225d", func := "loop.example/g00896/laws.FnExactMergeEntries", spec := "fnExactMergeEntries", inPlace := ["internal/bytealg.CountString", "internal/bytealg.IndexByteString", "internal/bytealg.IndexString"], unfollowed := true, recurses := true, named := ["unicode/utf8.first", "unicode/utf8.acceptRanges", "internal/bytealg.MaxLen"], apart := false, laid := [("unicode/utf8.acceptRanges", laid_unicode_utf8_acceptRanges), ("unicode/utf8.first", laid_unicode_utf8_first)], narrowed := true }
def FnExactMergeEntriesUptoSaid : Prop := fnExactMergeEntriesUptoRow.holds Tryz.pinned (OpenSpec.upto fnExactMergeEntriesSpec)

/-- 'laws.FnDistinct', WHERE WHAT IT READS IS OF BULK AT MOST 1048576: true; the input reads as it did. -/
def fnDistinctUptoRow : OpenClaim := { program := "ytnffgabfibafjaagreatdoor", sum := "51cd87220c59b7c4aee893dcc955b5d9245d8eb5012c8de55ec1f8b9ff73225d", func := "loop.example/g00896/laws.FnDistinct", spec := "fnDistinct", inPlace := ["internal/bytealg.IndexByteString", "internal/bytealg.IndexString", "internal/bytealg.CountString", "internal/abi.NoEscape", "internal/bytealg.MakeNoZero"], unfollowed := true, recurses := true, named := ["unicode/utf8.first", "unicode/utf8.acceptRanges", "internal/bytealg.MaxLen"], apart := false, laid := [("unicode/utf8.acceptRanges", laid_unicode_utf8_acceptRanges), ("unicode/utf8.first", laid_unicode_utf8_first)], narrowed := true }
def FnDistinctUptoSaid : Prop := fnDistinctUptoRow.holds Tryz.pinned (OpenSpec.upto fnDistinctSpec)

/-- 'laws.FnExactChildrenOf', WHERE WHAT IT READS IS OF BULK AT MOST 1048576: true; the input reads as it did. -/
def fnExactChildrenOfUptoRow : OpenClaim := { program := "ytnffgabfibafjaagreatdoor", sum := "51cd87220c59b7c4aee893dcc955b5d9245d8eb5012c8de55ec1f8b9ff73225d", func := "loop.example/g00896/laws.FnExactChildrenOf", spec := "fnExactChildrenOf", inPlace := ["internal/bytealg.CountString", "internal/bytealg.IndexByteString", "internal/bytealg.IndexString"], unfollowed := true, recurses := true, named := ["unicode/utf8.first", "unicode/utf8.acceptRanges", "internal/bytealg.MaxLen"], apart := false, laid := [("unicode/utf8.acceptRanges", laid_unicode_utf8_acceptRanges), ("unicode/utf8.first", laid_unicode_utf8_first)], narrowed := true }
def FnExactChildrenOfUptoSaid : Prop := fnExactChildrenOfUptoRow.holds Tryz.pinned (OpenSpec.upto fnExactChildrenOfSpec)

/-- 'laws.FnExactBrokenCrosses', WHERE WHAT IT READS IS OF BULK AT MOST 1048576: true; the input reads as it did. -/
def fnExactBrokenCrossesUptoRow : OpenClaim := { program := "ytnffgabfibafjaagreatdoor", sum := "51cd87220c59b7c4aee893dcc955b5d9245d8eb5012c8de55ec1f8b9ff73225d", func := "loop.example/g00896/laws.FnExactBrokenCrosses", spec := "fnExactBrokenCrosses", inPlace := ["internal/bytealg.CountString", "internal/bytealg.IndexByteString", "internal/bytealg.IndexString"], unfollowed := true, recurses := true, named := ["unicode/utf8.first", "unicode/utf8.acceptRanges", "internal/bytealg.MaxLen"], apart := false, laid := [("unicode/utf8.acceptRanges", laid_unicode_utf8_acceptRanges), ("unicode/utf8.first", laid_unicode_utf8_first)], narrowed := true }
def FnExactBrokenCrossesUptoSaid : Prop := fnExactBrokenCrossesUptoRow.holds Tryz.pinned (OpenSpec.upto fnExactBrokenCrossesSpec)

/-- 'laws.FnExactDependentsOf', WHERE WHAT IT READS IS OF BULK AT MOST 1048576: true; the input reads as it did. -/
def fnExactDependentsOfUptoRow : OpenClaim := { program := "ytnffgabfibafjaagreatdoor", sum := "51cd87220c59b7c4aee893dcc955b5d9245d8eb5012c8de55ec1f8b9ff73225d", func := "loop.example/g00896/laws.FnExactDependentsOf", spec := "fnExactDependentsOf", inPlace := ["internal/bytealg.CountString", "internal/bytealg.IndexByteString", "internal/bytealg.IndexString"], unfollowed := true, recurses := true, named := ["unicode/utf8.first", "unicode/utf8.acceptRanges", "internal/bytealg.MaxLen"], apart := false, laid := [("unicode/utf8.acceptRanges", laid_unicode_utf8_acceptRanges), ("unicode/utf8.first", laid_unicode_utf8_first)], narrowed := true }
def FnExactDependentsOfUptoSaid : Prop := fnExactDependentsOfUptoRow.holds Tryz.pinned (OpenSpec.upto fnExactDependentsOfSpec)

end Rows
end Go.Proofs.YtnffgabfibafjaaGreatDoor
