/-
  NARROWER THAN 'FOR EVERY INPUT', by the rows' own cells (each row's printed sentence says how): FnExactQueryWords: loops, laid · FnExactUnabbreviatedWords: laid · FnExactUnusedAbbreviations: laid · FnExactAbbreviateTitle: laid · FnExactParentOf: laid.
  DERIVED. THE GIVEN ROWS OF THIS SEAT. 5 by the template 'for every input the law returns true; each argument reads behind the call as it read before'; 0 by the template 'total and deterministic' (their statements: YtnffgabfibafjaaDoorTotals.lean).
  GIVEN WITH THE SEED: the statements are not yours to turn. If you find one false, say at which input.
  Laid BY PROGRAM, IN A SANDBOX (cutbox-rows.mjs): the forced cells as the released guide's own fill.sh prints them over the translation 86687bda6707b519… (all of the seat's roots in one cut). By AI agents, Wed Nov 11 2026. No macro, syntax, notation, axiom, sorry.
-/
import Derived.Test.YtnffgabfibafjaaDoorChecked
import GoSem.PinnedTables
import GoSem.Claim
import GoSem.ClaimJoined
import GoSem.ClaimMapViews
import Derived.JoinedTies
import Derived.KernelRfl
namespace Go.Proofs.YtnffgabfibafjaaDoor
/- THE CELL 'sum', in the pinned program and in every row, IS THE sha256 OF THE DUMP (.gsa) THAT YtnffgabfibafjaaDoorProg.lean LOADS. Nothing in Lean hashes anything: it is a label: what it is worth is what the hold of that sum in a sandbox is worth. -/
noncomputable def Tryd.pinned : Pinned := { name := "ytnffgabfibafjaadoor", sum := "86687bda6707b519331075439291c049789b5b43df9894b0b27d71bbd3a403fb", checked := Tryd.checked }
namespace Rows
def none {H : Type} : Left H := { results := [], args := [] }

/- WHAT THE LISTED PACKAGE-LEVEL VARIABLES READ AS WHEN THE CALL BEGINS. Each datum BY PROGRAM (the guide's laid-datum.mjs) off the statement by which the dump's own 'gosem.cut.vars' lays the variable. In a bare row this is a premise. The card (YtnffgabfibafjaaDoorCards.lean) ties it to the program's text. -/
def laid_loop_example_g00896_impl_fieldWords {H : Type} : DataW H := .agg [.lit (.string [97, 117, 116, 104, 111, 114, 115]), .lit (.string [101, 100, 105, 116, 111, 114, 115]), .lit (.string [116, 105, 116, 108, 101]), .lit (.string [99, 111, 110, 116, 97, 105, 110, 101, 114]), .lit (.string [112, 117, 98, 108, 105, 115, 104, 101, 114]), .lit (.string [100, 97, 116, 101]), .lit (.string [118, 111, 108, 117, 109, 101]), .lit (.string [112, 97, 103, 101, 115])]
def laid_unicode_utf8_acceptRanges {H : Type} : DataW H := .agg [.agg [.lit (.int .u8 128), .lit (.int .u8 191)], .agg [.lit (.int .u8 160), .lit (.int .u8 191)], .agg [.lit (.int .u8 128), .lit (.int .u8 159)], .agg [.lit (.int .u8 144), .lit (.int .u8 191)], .agg [.lit (.int .u8 128), .lit (.int .u8 143)], .agg [.lit (.int .u8 0), .lit (.int .u8 0)], .agg [.lit (.int .u8 0), .lit (.int .u8 0)], .agg [.lit (.int .u8 0), .lit (.int .u8 0)], .agg [.lit (.int .u8 0), .lit (.int .u8 0)], .agg [.lit (.int .u8 0), .lit (.int .u8 0)], .agg [.lit (.int .u8 0), .lit (.int .u8 0)], .agg [.lit (.int .u8 0), .lit (.int .u8 0)], .agg [.lit (.int .u8 0), .lit (.int .u8 0)], .agg [.lit (.int .u8 0), .lit (.int .u8 0)], .agg [.lit (.int .u8 0), .lit (.int .u8 0)], .agg [.lit (.int .u8 0), .lit (.int .u8 0)]]
/-- One of Go's own tables, pinned by name: the form's constant. -/
def laid_unicode_utf8_first : DataW Unit := Go.Pinned.utf8First

/-- 'laws.FnExactQueryWords': WHATEVER THE INPUT: true; the input reads as it did. -/
def fnExactQueryWordsSpec : ChangeSpec := { name := "fnExactQueryWords", vars := ["loop.example/g00896/impl.fieldWords"], fn := fun _ => fun
  | [d, g1] => { results := [.lit (.bool true)], args := [d], vars := [g1] }
  | _ => none }
def fnExactQueryWordsRow : OpenClaim := { program := "ytnffgabfibafjaadoor", sum := "86687bda6707b519331075439291c049789b5b43df9894b0b27d71bbd3a403fb", func := "loop.example/g00896/laws.FnExactQueryWords", spec := "fnExactQueryWords", recurses := true, named := ["loop.example/g00896/impl.fieldWords"], loops := true, apart := false, laid := [("loop.example/g00896/impl.fieldWords", laid_loop_example_g00896_impl_fieldWords)] }
def FnExactQueryWordsSaid : Prop := fnExactQueryWordsRow.holds Tryd.pinned (OpenSpec.ofChange fnExactQueryWordsSpec)

/-- ITS FALSE NEIGHBOUR: 'it returns false'. Refute it at one input. -/
def fnExactQueryWordsWrong : ChangeSpec := { name := "fnExactQueryWords", vars := ["loop.example/g00896/impl.fieldWords"], fn := fun _ => fun
  | [d, g1] => { results := [.lit (.bool false)], args := [d], vars := [g1] }
  | _ => none }
def FnExactQueryWordsWrongFalsely : Prop := fnExactQueryWordsRow.holds Tryd.pinned (OpenSpec.ofChange fnExactQueryWordsWrong)

/-- 'laws.FnExactUnabbreviatedWords': WHATEVER THE INPUT: true; the input reads as it did. -/
def fnExactUnabbreviatedWordsSpec : ChangeSpec := { name := "fnExactUnabbreviatedWords", fn := fun _ => fun
  | [d1, d2] => { results := [.lit (.bool true)], args := [d1, d2] }
  | _ => none }
def fnExactUnabbreviatedWordsRow : OpenClaim := { program := "ytnffgabfibafjaadoor", sum := "86687bda6707b519331075439291c049789b5b43df9894b0b27d71bbd3a403fb", func := "loop.example/g00896/laws.FnExactUnabbreviatedWords", spec := "fnExactUnabbreviatedWords", inPlace := ["internal/bytealg.IndexByteString", "internal/bytealg.IndexString", "internal/bytealg.CountString"], unfollowed := true, recurses := true, named := ["unicode/utf8.first", "unicode/utf8.acceptRanges", "internal/bytealg.MaxLen"], apart := false, laid := [("unicode/utf8.acceptRanges", laid_unicode_utf8_acceptRanges), ("unicode/utf8.first", laid_unicode_utf8_first)] }
def FnExactUnabbreviatedWordsSaid : Prop := fnExactUnabbreviatedWordsRow.holds Tryd.pinned (OpenSpec.ofChange fnExactUnabbreviatedWordsSpec)

/-- ITS FALSE NEIGHBOUR: 'it returns false'. Refute it at one input. -/
def fnExactUnabbreviatedWordsWrong : ChangeSpec := { name := "fnExactUnabbreviatedWords", fn := fun _ => fun
  | [d1, d2] => { results := [.lit (.bool false)], args := [d1, d2] }
  | _ => none }
def FnExactUnabbreviatedWordsWrongFalsely : Prop := fnExactUnabbreviatedWordsRow.holds Tryd.pinned (OpenSpec.ofChange fnExactUnabbreviatedWordsWrong)

/-- 'laws.FnExactUnusedAbbreviations': WHATEVER THE INPUT: true; the input reads as it did. -/
def fnExactUnusedAbbreviationsSpec : ChangeSpec := { name := "fnExactUnusedAbbreviations", fn := fun _ => fun
  | [d1, d2] => { results := [.lit (.bool true)], args := [d1, d2] }
  | _ => none }
def fnExactUnusedAbbreviationsRow : OpenClaim := { program := "ytnffgabfibafjaadoor", sum := "86687bda6707b519331075439291c049789b5b43df9894b0b27d71bbd3a403fb", func := "loop.example/g00896/laws.FnExactUnusedAbbreviations", spec := "fnExactUnusedAbbreviations", inPlace := ["internal/bytealg.IndexByteString", "internal/bytealg.IndexString", "internal/bytealg.CountString"], unfollowed := true, recurses := true, named := ["unicode/utf8.first", "unicode/utf8.acceptRanges", "internal/bytealg.MaxLen"], apart := false, laid := [("unicode/utf8.acceptRanges", laid_unicode_utf8_acceptRanges), ("unicode/utf8.first", laid_unicode_utf8_first)] }
def FnExactUnusedAbbreviationsSaid : Prop := fnExactUnusedAbbreviationsRow.holds Tryd.pinned (OpenSpec.ofChange fnExactUnusedAbbreviationsSpec)

/-- ITS FALSE NEIGHBOUR: 'it returns false'. Refute it at one input. -/
def fnExactUnusedAbbreviationsWrong : ChangeSpec := { name := "fnExactUnusedAbbreviations", fn := fun _ => fun
  | [d1, d2] => { results := [.lit (.bool false)], args := [d1, d2] }
  | _ => none }
def FnExactUnusedAbbreviationsWrongFalsely : Prop := fnExactUnusedAbbreviationsRow.holds Tryd.pinned (OpenSpec.ofChange fnExactUnusedAbbreviationsWrong)

/-- 'laws.FnExactAbbreviateTitle': WHATEVER THE INPUT: true; the input reads as it did. -/
def fnExactAbbreviateTitleSpec : ChangeSpec := { name := "fnExactAbbreviateTitle", fn := fun _ => fun
  | [d1, d2] => { results := [.lit (.bool true)], args := [d1, d2] }
  | _ => none }
def fnExactAbbreviateTitleRow : OpenClaim := { program := "ytnffgabfibafjaadoor", sum := "86687bda6707b519331075439291c049789b5b43df9894b0b27d71bbd3a403fb", func := "loop.example/g00896/laws.FnExactAbbreviateTitle", spec := "fnExactAbbreviateTitle", inPlace := ["internal/bytealg.IndexByteString", "internal/bytealg.IndexString", "internal/bytealg.CountString", "internal/abi.NoEscape", "internal/bytealg.MakeNoZero"], unfollowed := true, recurses := true, named := ["unicode/utf8.first", "unicode/utf8.acceptRanges", "internal/bytealg.MaxLen"], apart := false, laid := [("unicode/utf8.acceptRanges", laid_unicode_utf8_acceptRanges), ("unicode/utf8.first", laid_unicode_utf8_first)] }
def FnExactAbbreviateTitleSaid : Prop := fnExactAbbreviateTitleRow.holds Tryd.pinned (OpenSpec.ofChange fnExactAbbreviateTitleSpec)

/-- ITS FALSE NEIGHBOUR: 'it returns false'. Refute it at one input. -/
def fnExactAbbreviateTitleWrong : ChangeSpec := { name := "fnExactAbbreviateTitle", fn := fun _ => fun
  | [d1, d2] => { results := [.lit (.bool false)], args := [d1, d2] }
  | _ => none }
def FnExactAbbreviateTitleWrongFalsely : Prop := fnExactAbbreviateTitleRow.holds Tryd.pinned (OpenSpec.ofChange fnExactAbbreviateTitleWrong)

/-- 'laws.FnExactParentOf': WHATEVER THE INPUT: true; the input reads as it did. -/
def fnExactParentOfSpec : ChangeSpec := { name := "fnExactParentOf", fn := fun _ => fun
  | [d1, d2] => { results := [.lit (.bool true)], args := [d1, d2] }
  | _ => none }
def fnExactParentOfRow : OpenClaim := { program := "ytnffgabfibafjaadoor", sum := "86687bda6707b519331075439291c049789b5b43df9894b0b27d71bbd3a403fb", func := "loop.example/g00896/laws.FnExactParentOf", spec := "fnExactParentOf", inPlace := ["internal/bytealg.CountString", "internal/bytealg.IndexByteString", "internal/bytealg.IndexString"], unfollowed := true, recurses := true, named := ["unicode/utf8.first", "unicode/utf8.acceptRanges", "internal/bytealg.MaxLen"], apart := false, laid := [("unicode/utf8.acceptRanges", laid_unicode_utf8_acceptRanges), ("unicode/utf8.first", laid_unicode_utf8_first)] }
def FnExactParentOfSaid : Prop := fnExactParentOfRow.holds Tryd.pinned (OpenSpec.ofChange fnExactParentOfSpec)

/-- ITS FALSE NEIGHBOUR: 'it returns false'. Refute it at one input. -/
def fnExactParentOfWrong : ChangeSpec := { name := "fnExactParentOf", fn := fun _ => fun
  | [d1, d2] => { results := [.lit (.bool false)], args := [d1, d2] }
  | _ => none }
def FnExactParentOfWrongFalsely : Prop := fnExactParentOfRow.holds Tryd.pinned (OpenSpec.ofChange fnExactParentOfWrong)

/- THE SECOND FORM. 'bulk': how many values and letters a reading holds, each counted each time it is reached (what is shared counts as often as it is met; a slice's spare places count too). A statement '..UptoSaid' is the law's where the arguments, and the package variables that the reading takes, are together of bulk at most 1048576: NARROWER than '..Said'. Prove '..Said' where nothing that the law and all that it calls make is longer than what came in: it says more and counts as full. Else prove '..UptoSaid'. A law counts once. -/
mutual
def uptoBulk {H : Type} : DataW H → Nat
  | .lit (.string bytes) => bytes.length + 1
  | .lit _ => 1
  | .nil => 1
  | .ptr d => uptoBulk d + 1
  | .slice elems spare => uptoBulkAll elems + uptoBulkAll spare + 1
  | .agg parts => uptoBulkAll parts + 1
  | .iface _ d => uptoBulk d + 1
  | .map entries => uptoBulkEntries entries + 1
  | .held _ => 1
def uptoBulkAll {H : Type} : List (DataW H) → Nat
  | [] => 0
  | d :: r => uptoBulk d + uptoBulkAll r
def uptoBulkEntries {H : Type} : List (Lit × DataW H) → Nat
  | [] => 0
  | x :: r => uptoBulkEntry x + uptoBulkEntries r
def uptoBulkEntry {H : Type} : Lit × DataW H → Nat
  | (.string bytes, d) => bytes.length + uptoBulk d + 1
  | (_, d) => uptoBulk d + 1
 end
def uptoSmall : (H : Type) → List (DataW H) → Bool := fun _ ds => decide (uptoBulkAll ds ≤ 1048576)
def OpenSpec.upto (s : _root_.Go.ChangeSpec) : _root_.Go.OpenSpec := { _root_.Go.OpenSpec.ofChange s with cond := some uptoSmall }

/-- 'laws.FnExactQueryWords', WHERE WHAT IT READS IS OF BULK AT MOST 1048576: true; the input reads as it did. -/
def fnExactQueryWordsUptoRow : OpenClaim := { program := "ytnffgabfibafjaadoor", sum := "86687bda6707b519331075439291c049789b5b43df9894b0b27d71bbd3a403fb", func := "loop.example/g00896/laws.FnExactQueryWords", spec := "fnExactQueryWords", recurses := true, named := ["loop.example/g00896/impl.fieldWords"], loops := true, apart := false, laid := [("loop.example/g00896/impl.fieldWords", laid_loop_example_g00896_impl_fieldWords)], narrowed := true }
def FnExactQueryWordsUptoSaid : Prop := fnExactQueryWordsUptoRow.holds Tryd.pinned (OpenSpec.upto fnExactQueryWordsSpec)

/-- 'laws.FnExactUnabbreviatedWords', WHERE WHAT IT READS IS OF BULK AT MOST 1048576: true; the input reads as it did. -/
def fnExactUnabbreviatedWordsUptoRow : OpenClaim := { program := "ytnffgabfibafjaadoor", sum := "86687bda6707b519331075439291c049789b5b43df9894b0b27d71bbd3a403fb", func := "loop.example/g00896/laws.FnExactUnabbreviatedWords", spec := "fnExactUnabbreviatedWords", inPlace := ["internal/bytealg.IndexByteString", "internal/bytealg.IndexString", "internal/bytealg.CountString"], unfollowed := true, recurses := true, named := ["unicode/utf8.first", "unicode/utf8.acceptRanges", "internal/bytealg.MaxLen"], apart := false, laid := [("unicode/utf8.acceptRanges", laid_unicode_utf8_acceptRanges), ("unicode/utf8.first", laid_unicode_utf8_first)], narrowed := true }
def FnExactUnabbreviatedWordsUptoSaid : Prop := fnExactUnabbreviatedWordsUptoRow.holds Tryd.pinned (OpenSpec.upto fnExactUnabbreviatedWordsSpec)

/-- 'laws.FnExactUnusedAbbreviations', WHERE WHAT IT READS IS OF BULK AT MOST 1048576: true; the input reads as it did. -/
def fnExactUnusedAbbreviationsUptoRow : OpenClaim := { program := "ytnffgabfibafjaadoor", sum := "86687bda6707b519331075439291c049789b5b43df9894b0b27d71bbd3a403fb", func := "loop.example/g00896/laws.FnExactUnusedAbbreviations", spec := "fnExactUnusedAbbreviations", inPlace := ["internal/bytealg.IndexByteString", "internal/bytealg.IndexString", "internal/bytealg.CountString"], unfollowed := true, recurses := true, named := ["unicode/utf8.first", "unicode/utf8.acceptRanges", "internal/bytealg.MaxLen"], apart := false, laid := [("unicode/utf8.acceptRanges", laid_unicode_utf8_acceptRanges), ("unicode/utf8.first", laid_unicode_utf8_first)], narrowed := true }
def FnExactUnusedAbbreviationsUptoSaid : Prop := fnExactUnusedAbbreviationsUptoRow.holds Tryd.pinned (OpenSpec.upto fnExactUnusedAbbreviationsSpec)

/-- 'laws.FnExactAbbreviateTitle', WHERE WHAT IT READS IS OF BULK AT MOST 1048576: true; the input reads as it did. -/
def fnExactAbbreviateTitleUptoRow : OpenClaim := { program := "ytnffgabfibafjaadoor", sum := "86687bda6707b519331075439291c049789b5b43df9894b0b27d71bbd3a403fb", func := "loop.example/g00896/laws.FnExactAbbreviateTitle", spec := "fnExactAbbreviateTitle", inPlace := ["internal/bytealg.IndexByteString", "internal/bytealg.IndexString", "internal/bytealg.CountString", "internal/abi.NoEscape", "internal/bytealg.MakeNoZero"], unfollowed := true, recurses := true, named := ["unicode/utf8.first", "unicode/utf8.acceptRanges", "internal/bytealg.MaxLen"], apart := false, laid := [("unicode/utf8.acceptRanges", laid_unicode_utf8_acceptRanges), ("unicode/utf8.first", laid_unicode_utf8_first)], narrowed := true }
def FnExactAbbreviateTitleUptoSaid : Prop := fnExactAbbreviateTitleUptoRow.holds Tryd.pinned (OpenSpec.upto fnExactAbbreviateTitleSpec)

/-- 'laws.FnExactParentOf', WHERE WHAT IT READS IS OF BULK AT MOST 1048576: true; the input reads as it did. -/
def fnExactParentOfUptoRow : OpenClaim := { program := "ytnffgabfibafjaadoor", sum := "86687bda6707b519331075439291c049789b5b43df9894b0b27d71bbd3a403fb", func := "loop.example/g00896/laws.FnExactParentOf", spec := "fnExactParentOf", inPlace := ["internal/bytealg.CountString", "internal/bytealg.IndexByteString", "internal/bytealg.IndexString"], unfollowed := true, recurses := true, named := ["unicode/utf8.first", "unicode/utf8.acceptRanges", "internal/bytealg.MaxLen"], apart := false, laid := [("unicode/utf8.acceptRanges", laid_unicode_utf8_acceptRanges), ("unicode/utf8.first", laid_unicode_utf8_first)], narrowed := true }
def FnExactParentOfUptoSaid : Prop := fnExactParentOfUptoRow.holds Tryd.pinned (OpenSpec.upto fnExactParentOfSpec)

end Rows
end Go.Proofs.YtnffgabfibafjaaDoor
