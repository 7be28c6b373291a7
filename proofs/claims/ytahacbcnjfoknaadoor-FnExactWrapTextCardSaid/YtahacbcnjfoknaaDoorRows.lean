/-
  NARROWER THAN 'FOR EVERY INPUT', by the rows' own cells (each row's printed sentence says how): FnExactIsValidQuery: loops, laid · FnExactFormatQuery: loops, laid · FnExactSimplifyQuery: loops, laid · FnExactHangingLines: laid · FnExactWrapText: laid · FnWrapping: laid · FnExactParseQuery: laid · FnExactTextDistance: laid.
  DERIVED. THE GIVEN ROWS OF THIS SEAT. 8 by the template 'for every input the law returns true; each argument reads behind the call as it read before'; 0 by the template 'total and deterministic' (their statements: YtahacbcnjfoknaaDoorTotals.lean).
  GIVEN WITH THE SEED: the statements are not yours to turn. If you find one false, say at which input.
  Laid BY PROGRAM, IN A SANDBOX (cutbox-rows.mjs): the forced cells as the released guide's own fill.sh prints them over the translation 181aa34e85c7afa4… (all of the seat's roots in one cut). By AI agents, Wed Nov 11 2026. No macro, syntax, notation, axiom, sorry.
-/
import Derived.Test.YtahacbcnjfoknaaDoorChecked
import GoSem.PinnedTables
import GoSem.Claim
import GoSem.ClaimJoined
import GoSem.ClaimMapViews
import Derived.JoinedTies
import Derived.KernelRfl
namespace Go.Proofs.YtahacbcnjfoknaaDoor
/- THE CELL 'sum', in the pinned program and in every row, IS THE sha256 OF THE DUMP (.gsa) THAT YtahacbcnjfoknaaDoorProg.lean LOADS. Nothing in Lean hashes anything: it is a label: what it is worth is what the hold of that sum in a sandbox is worth. -/
noncomputable def Tryd.pinned : Pinned := { name := "ytahacbcnjfoknaadoor", sum := "181aa34e85c7afa43d1c323f66d3624584e73e8306025cdcfe3be43fde4a6cf6", checked := Tryd.checked }
namespace Rows
def none {H : Type} : Left H := { results := [], args := [] }

/- WHAT THE LISTED PACKAGE-LEVEL VARIABLES READ AS WHEN THE CALL BEGINS. Each datum BY PROGRAM (the guide's laid-datum.mjs) off the statement by which the dump's own 'gosem.cut.vars' lays the variable. In a bare row this is a premise. The card (YtahacbcnjfoknaaDoorCards.lean) ties it to the program's text. -/
def laid_loop_example_g00896_impl_fieldWords {H : Type} : DataW H := .agg [.lit (.string [97, 117, 116, 104, 111, 114, 115]), .lit (.string [101, 100, 105, 116, 111, 114, 115]), .lit (.string [116, 105, 116, 108, 101]), .lit (.string [99, 111, 110, 116, 97, 105, 110, 101, 114]), .lit (.string [112, 117, 98, 108, 105, 115, 104, 101, 114]), .lit (.string [100, 97, 116, 101]), .lit (.string [118, 111, 108, 117, 109, 101]), .lit (.string [112, 97, 103, 101, 115])]
def laid_unicode_utf8_acceptRanges {H : Type} : DataW H := .agg [.agg [.lit (.int .u8 128), .lit (.int .u8 191)], .agg [.lit (.int .u8 160), .lit (.int .u8 191)], .agg [.lit (.int .u8 128), .lit (.int .u8 159)], .agg [.lit (.int .u8 144), .lit (.int .u8 191)], .agg [.lit (.int .u8 128), .lit (.int .u8 143)], .agg [.lit (.int .u8 0), .lit (.int .u8 0)], .agg [.lit (.int .u8 0), .lit (.int .u8 0)], .agg [.lit (.int .u8 0), .lit (.int .u8 0)], .agg [.lit (.int .u8 0), .lit (.int .u8 0)], .agg [.lit (.int .u8 0), .lit (.int .u8 0)], .agg [.lit (.int .u8 0), .lit (.int .u8 0)], .agg [.lit (.int .u8 0), .lit (.int .u8 0)], .agg [.lit (.int .u8 0), .lit (.int .u8 0)], .agg [.lit (.int .u8 0), .lit (.int .u8 0)], .agg [.lit (.int .u8 0), .lit (.int .u8 0)], .agg [.lit (.int .u8 0), .lit (.int .u8 0)]]
/-- One of Go's own tables, pinned by name: the form's constant. -/
def laid_unicode_utf8_first : DataW Unit := Go.Pinned.utf8First

/-- 'laws.FnExactIsValidQuery': WHATEVER THE INPUT: true; the input reads as it did. -/
def fnExactIsValidQuerySpec : ChangeSpec := { name := "fnExactIsValidQuery", vars := ["loop.example/g00896/impl.fieldWords"], fn := fun _ => fun
  | [d, g1] => { results := [.lit (.bool true)], args := [d], vars := [g1] }
  | _ => none }
def fnExactIsValidQueryRow : OpenClaim := { program := "ytahacbcnjfoknaadoor", sum := "181aa34e85c7afa43d1c323f66d3624584e73e8306025cdcfe3be43fde4a6cf6", func := "loop.example/g00896/laws.FnExactIsValidQuery", spec := "fnExactIsValidQuery", recurses := true, named := ["loop.example/g00896/impl.fieldWords"], loops := true, apart := false, laid := [("loop.example/g00896/impl.fieldWords", laid_loop_example_g00896_impl_fieldWords)] }
def FnExactIsValidQuerySaid : Prop := fnExactIsValidQueryRow.holds Tryd.pinned (OpenSpec.ofChange fnExactIsValidQuerySpec)

/-- ITS FALSE NEIGHBOUR: 'it returns false'. Refute it at one input. -/
def fnExactIsValidQueryWrong : ChangeSpec := { name := "fnExactIsValidQuery", vars := ["loop.example/g00896/impl.fieldWords"], fn := fun _ => fun
  | [d, g1] => { results := [.lit (.bool false)], args := [d], vars := [g1] }
  | _ => none }
def FnExactIsValidQueryWrongFalsely : Prop := fnExactIsValidQueryRow.holds Tryd.pinned (OpenSpec.ofChange fnExactIsValidQueryWrong)

/-- 'laws.FnExactFormatQuery': WHATEVER THE INPUT: true; the input reads as it did. -/
def fnExactFormatQuerySpec : ChangeSpec := { name := "fnExactFormatQuery", vars := ["loop.example/g00896/impl.fieldWords"], fn := fun _ => fun
  | [d, g1] => { results := [.lit (.bool true)], args := [d], vars := [g1] }
  | _ => none }
def fnExactFormatQueryRow : OpenClaim := { program := "ytahacbcnjfoknaadoor", sum := "181aa34e85c7afa43d1c323f66d3624584e73e8306025cdcfe3be43fde4a6cf6", func := "loop.example/g00896/laws.FnExactFormatQuery", spec := "fnExactFormatQuery", recurses := true, named := ["loop.example/g00896/impl.fieldWords"], loops := true, apart := false, laid := [("loop.example/g00896/impl.fieldWords", laid_loop_example_g00896_impl_fieldWords)] }
def FnExactFormatQuerySaid : Prop := fnExactFormatQueryRow.holds Tryd.pinned (OpenSpec.ofChange fnExactFormatQuerySpec)

/-- ITS FALSE NEIGHBOUR: 'it returns false'. Refute it at one input. -/
def fnExactFormatQueryWrong : ChangeSpec := { name := "fnExactFormatQuery", vars := ["loop.example/g00896/impl.fieldWords"], fn := fun _ => fun
  | [d, g1] => { results := [.lit (.bool false)], args := [d], vars := [g1] }
  | _ => none }
def FnExactFormatQueryWrongFalsely : Prop := fnExactFormatQueryRow.holds Tryd.pinned (OpenSpec.ofChange fnExactFormatQueryWrong)

/-- 'laws.FnExactSimplifyQuery': WHATEVER THE INPUT: true; the input reads as it did. -/
def fnExactSimplifyQuerySpec : ChangeSpec := { name := "fnExactSimplifyQuery", vars := ["loop.example/g00896/impl.fieldWords"], fn := fun _ => fun
  | [d, g1] => { results := [.lit (.bool true)], args := [d], vars := [g1] }
  | _ => none }
def fnExactSimplifyQueryRow : OpenClaim := { program := "ytahacbcnjfoknaadoor", sum := "181aa34e85c7afa43d1c323f66d3624584e73e8306025cdcfe3be43fde4a6cf6", func := "loop.example/g00896/laws.FnExactSimplifyQuery", spec := "fnExactSimplifyQuery", recurses := true, named := ["loop.example/g00896/impl.fieldWords"], loops := true, apart := false, laid := [("loop.example/g00896/impl.fieldWords", laid_loop_example_g00896_impl_fieldWords)] }
def FnExactSimplifyQuerySaid : Prop := fnExactSimplifyQueryRow.holds Tryd.pinned (OpenSpec.ofChange fnExactSimplifyQuerySpec)

/-- ITS FALSE NEIGHBOUR: 'it returns false'. Refute it at one input. -/
def fnExactSimplifyQueryWrong : ChangeSpec := { name := "fnExactSimplifyQuery", vars := ["loop.example/g00896/impl.fieldWords"], fn := fun _ => fun
  | [d, g1] => { results := [.lit (.bool false)], args := [d], vars := [g1] }
  | _ => none }
def FnExactSimplifyQueryWrongFalsely : Prop := fnExactSimplifyQueryRow.holds Tryd.pinned (OpenSpec.ofChange fnExactSimplifyQueryWrong)

/-- 'laws.FnExactHangingLines': WHATEVER THE INPUT: true; the input reads as it did. -/
def fnExactHangingLinesSpec : ChangeSpec := { name := "fnExactHangingLines", fn := fun _ => fun
  | [d1, d2, d3] => { results := [.lit (.bool true)], args := [d1, d2, d3] }
  | _ => none }
def fnExactHangingLinesRow : OpenClaim := { program := "ytahacbcnjfoknaadoor", sum := "181aa34e85c7afa43d1c323f66d3624584e73e8306025cdcfe3be43fde4a6cf6", func := "loop.example/g00896/laws.FnExactHangingLines", spec := "fnExactHangingLines", inPlace := ["internal/bytealg.CountString", "internal/bytealg.IndexByteString", "internal/bytealg.IndexString", "internal/abi.NoEscape", "internal/bytealg.MakeNoZero"], named := ["unicode/utf8.first", "unicode/utf8.acceptRanges", "internal/bytealg.MaxLen"], apart := false, laid := [("unicode/utf8.acceptRanges", laid_unicode_utf8_acceptRanges), ("unicode/utf8.first", laid_unicode_utf8_first)] }
def FnExactHangingLinesSaid : Prop := fnExactHangingLinesRow.holds Tryd.pinned (OpenSpec.ofChange fnExactHangingLinesSpec)

/-- ITS FALSE NEIGHBOUR: 'it returns false'. Refute it at one input. -/
def fnExactHangingLinesWrong : ChangeSpec := { name := "fnExactHangingLines", fn := fun _ => fun
  | [d1, d2, d3] => { results := [.lit (.bool false)], args := [d1, d2, d3] }
  | _ => none }
def FnExactHangingLinesWrongFalsely : Prop := fnExactHangingLinesRow.holds Tryd.pinned (OpenSpec.ofChange fnExactHangingLinesWrong)

/-- 'laws.FnExactWrapText': WHATEVER THE INPUT: true; the input reads as it did. -/
def fnExactWrapTextSpec : ChangeSpec := { name := "fnExactWrapText", fn := fun _ => fun
  | [d1, d2] => { results := [.lit (.bool true)], args := [d1, d2] }
  | _ => none }
def fnExactWrapTextRow : OpenClaim := { program := "ytahacbcnjfoknaadoor", sum := "181aa34e85c7afa43d1c323f66d3624584e73e8306025cdcfe3be43fde4a6cf6", func := "loop.example/g00896/laws.FnExactWrapText", spec := "fnExactWrapText", inPlace := ["internal/bytealg.CountString", "internal/bytealg.IndexByteString", "internal/bytealg.IndexString", "internal/abi.NoEscape", "internal/bytealg.MakeNoZero"], named := ["unicode/utf8.first", "unicode/utf8.acceptRanges", "internal/bytealg.MaxLen"], apart := false, laid := [("unicode/utf8.acceptRanges", laid_unicode_utf8_acceptRanges), ("unicode/utf8.first", laid_unicode_utf8_first)] }
def FnExactWrapTextSaid : Prop := fnExactWrapTextRow.holds Tryd.pinned (OpenSpec.ofChange fnExactWrapTextSpec)

/-- ITS FALSE NEIGHBOUR: 'it returns false'. Refute it at one input. -/
def fnExactWrapTextWrong : ChangeSpec := { name := "fnExactWrapText", fn := fun _ => fun
  | [d1, d2] => { results := [.lit (.bool false)], args := [d1, d2] }
  | _ => none }
def FnExactWrapTextWrongFalsely : Prop := fnExactWrapTextRow.holds Tryd.pinned (OpenSpec.ofChange fnExactWrapTextWrong)

/-- 'laws.FnWrapping': WHATEVER THE INPUT: true; the input reads as it did. -/
def fnWrappingSpec : ChangeSpec := { name := "fnWrapping", fn := fun _ => fun
  | [d] => { results := [.lit (.bool true)], args := [d] }
  | _ => none }
def fnWrappingRow : OpenClaim := { program := "ytahacbcnjfoknaadoor", sum := "181aa34e85c7afa43d1c323f66d3624584e73e8306025cdcfe3be43fde4a6cf6", func := "loop.example/g00896/laws.FnWrapping", spec := "fnWrapping", inPlace := ["internal/bytealg.CountString", "internal/bytealg.IndexByteString", "internal/bytealg.IndexString", "internal/abi.NoEscape", "internal/bytealg.MakeNoZero"], named := ["unicode/utf8.first", "unicode/utf8.acceptRanges", "internal/bytealg.MaxLen"], apart := false, laid := [("unicode/utf8.acceptRanges", laid_unicode_utf8_acceptRanges), ("unicode/utf8.first", laid_unicode_utf8_first)] }
def FnWrappingSaid : Prop := fnWrappingRow.holds Tryd.pinned (OpenSpec.ofChange fnWrappingSpec)

/-- ITS FALSE NEIGHBOUR: 'it returns false'. Refute it at one input. -/
def fnWrappingWrong : ChangeSpec := { name := "fnWrapping", fn := fun _ => fun
  | [d] => { results := [.lit (.bool false)], args := [d] }
  | _ => none }
def FnWrappingWrongFalsely : Prop := fnWrappingRow.holds Tryd.pinned (OpenSpec.ofChange fnWrappingWrong)

/-- 'laws.FnExactParseQuery': WHATEVER THE INPUT: true; the input reads as it did. -/
def fnExactParseQuerySpec : ChangeSpec := { name := "fnExactParseQuery", vars := ["loop.example/g00896/impl.fieldWords"], fn := fun _ => fun
  | [d, g1] => { results := [.lit (.bool true)], args := [d], vars := [g1] }
  | _ => none }
def fnExactParseQueryRow : OpenClaim := { program := "ytahacbcnjfoknaadoor", sum := "181aa34e85c7afa43d1c323f66d3624584e73e8306025cdcfe3be43fde4a6cf6", func := "loop.example/g00896/laws.FnExactParseQuery", spec := "fnExactParseQuery", inPlace := ["internal/bytealg.IndexByteString", "internal/bytealg.IndexString"], recurses := true, named := ["internal/bytealg.MaxLen", "loop.example/g00896/impl.fieldWords"], apart := false, laid := [("loop.example/g00896/impl.fieldWords", laid_loop_example_g00896_impl_fieldWords)] }
def FnExactParseQuerySaid : Prop := fnExactParseQueryRow.holds Tryd.pinned (OpenSpec.ofChange fnExactParseQuerySpec)

/-- ITS FALSE NEIGHBOUR: 'it returns false'. Refute it at one input. -/
def fnExactParseQueryWrong : ChangeSpec := { name := "fnExactParseQuery", vars := ["loop.example/g00896/impl.fieldWords"], fn := fun _ => fun
  | [d, g1] => { results := [.lit (.bool false)], args := [d], vars := [g1] }
  | _ => none }
def FnExactParseQueryWrongFalsely : Prop := fnExactParseQueryRow.holds Tryd.pinned (OpenSpec.ofChange fnExactParseQueryWrong)

/-- 'laws.FnExactTextDistance': WHATEVER THE INPUT: true; the input reads as it did. -/
def fnExactTextDistanceSpec : ChangeSpec := { name := "fnExactTextDistance", fn := fun _ => fun
  | [d1, d2] => { results := [.lit (.bool true)], args := [d1, d2] }
  | _ => none }
def fnExactTextDistanceRow : OpenClaim := { program := "ytahacbcnjfoknaadoor", sum := "181aa34e85c7afa43d1c323f66d3624584e73e8306025cdcfe3be43fde4a6cf6", func := "loop.example/g00896/laws.FnExactTextDistance", spec := "fnExactTextDistance", inPlace := ["internal/bytealg.IndexByteString", "internal/bytealg.IndexString", "internal/bytealg.CountString", "internal/abi.NoEscape", "internal/bytealg.MakeNoZero"], unfollowed := true, recurses := true, named := ["unicode/utf8.first", "unicode/utf8.acceptRanges", "internal/bytealg.MaxLen"], apart := false, laid := [("unicode/utf8.acceptRanges", laid_unicode_utf8_acceptRanges), ("unicode/utf8.first", laid_unicode_utf8_first)] }
def FnExactTextDistanceSaid : Prop := fnExactTextDistanceRow.holds Tryd.pinned (OpenSpec.ofChange fnExactTextDistanceSpec)

/-- ITS FALSE NEIGHBOUR: 'it returns false'. Refute it at one input. -/
def fnExactTextDistanceWrong : ChangeSpec := { name := "fnExactTextDistance", fn := fun _ => fun
  | [d1, d2] => { results := [.lit (.bool false)], args := [d1, d2] }
  | _ => none }
def FnExactTextDistanceWrongFalsely : Prop := fnExactTextDistanceRow.holds Tryd.pinned (OpenSpec.ofChange fnExactTextDistanceWrong)

/- THE SECOND FORM. 'bulk': how many values and letters a reading holds, each counted each time it is reached (what is shared counts as often as it is met; a slice's spare places count too). A statement '..UptoSaid' is the law's where the arguments, and the package variables that the reading takes, are together of bulk at most 1048576: NARROWER than '..Said'. Prove '..Said' where nothing that the law and all that it calls make is longer than what came in: it says more and counts as full. Else prove '..UptoSaid'. A law counts once. -/
mutual
def uptoBulk {H : Type} : DataW H → Nat
  | .lit (.string bytes) => bytes.length + 1
  | .lit _ => 1
  | .nil => 1
  | .ptr d => uptoBulk d + 1
  | .slice elems spare => uptoBulkAll elems + uptoBulkAll spare + 1
  | .agg parts => uptoBulkAll parts + 1
  | .iface _ d => uptoBulk d + 1
  | .map entries => uptoBulkEntries entries + 1
  | .held _ => 1
def uptoBulkAll {H : Type} : List (DataW H) → Nat
  | [] => 0
  | d :: r => uptoBulk d + uptoBulkAll r
def uptoBulkEntries {H : Type} : List (Lit × DataW H) → Nat
  | [] => 0
  | x :: r => uptoBulkEntry x + uptoBulkEntries r
def uptoBulkEntry {H : Type} : Lit × DataW H → Nat
  | (.string bytes, d) => bytes.length + uptoBulk d + 1
  | (_, d) => uptoBulk d + 1
 end
def uptoSmall : (H : Type) → List (DataW H) → Bool := fun _ ds => decide (uptoBulkAll ds ≤ 1048576)
def OpenSpec.upto (s : _root_.Go.ChangeSpec) : _root_.Go.OpenSpec := { _root_.Go.OpenSpec.ofChange s with cond := some uptoSmall }

/-- 'laws.FnExactIsValidQuery', WHERE WHAT IT READS IS OF BULK AT MOST 1048576: true; the input reads as it did. -/
def fnExactIsValidQueryUptoRow : OpenClaim := { program := "ytahacbcnjfoknaadoor", sum := "181aa34e85c7afa43d1c323f66d3624584e73e8306025cdcfe3be43fde4a6cf6", func := "loop.example/g00896/laws.FnExactIsValidQuery", spec := "fnExactIsValidQuery", recurses := true, named := ["loop.example/g00896/impl.fieldWords"], loops := true, apart := false, laid := [("loop.example/g00896/impl.fieldWords", laid_loop_example_g00896_impl_fieldWords)], narrowed := true }
def FnExactIsValidQueryUptoSaid : Prop := fnExactIsValidQueryUptoRow.holds Tryd.pinned (OpenSpec.upto fnExactIsValidQuerySpec)

/-- 'laws.FnExactFormatQuery', WHERE WHAT IT READS IS OF BULK AT MOST 1048576: true; the input reads as it did. -/
def fnExactFormatQueryUptoRow : OpenClaim := { program := "ytahacbcnjfoknaadoor", sum := "181aa34e85c7afa43d1c323f66d3624584e73e8306025cdcfe3be43fde4a6cf6", func := "loop.example/g00896/laws.FnExactFormatQuery", spec := "fnExactFormatQuery", recurses := true, named := ["loop.example/g00896/impl.fieldWords"], loops := true, apart := false, laid := [("loop.example/g00896/impl.fieldWords", laid_loop_example_g00896_impl_fieldWords)], narrowed := true }
def FnExactFormatQueryUptoSaid : Prop := fnExactFormatQueryUptoRow.holds Tryd.pinned (OpenSpec.upto fnExactFormatQuerySpec)

/-- 'laws.FnExactSimplifyQuery', WHERE WHAT IT READS IS OF BULK AT MOST 1048576: true; the input reads as it did. -/
def fnExactSimplifyQueryUptoRow : OpenClaim := { program := "ytahacbcnjfoknaadoor", sum := "181aa34e85c7afa43d1c323f66d3624584e73e8306025cdcfe3be43fde4a6cf6", func := "loop.example/g00896/laws.FnExactSimplifyQuery", spec := "fnExactSimplifyQuery", recurses := true, named := ["loop.example/g00896/impl.fieldWords"], loops := true, apart := false, laid := [("loop.example/g00896/impl.fieldWords", laid_loop_example_g00896_impl_fieldWords)], narrowed := true }
def FnExactSimplifyQueryUptoSaid : Prop := fnExactSimplifyQueryUptoRow.holds Tryd.pinned (OpenSpec.upto fnExactSimplifyQuerySpec)

/-- 'laws.FnExactHangingLines', WHERE WHAT IT READS IS OF BULK AT MOST 1048576: true; the input reads as it did. -/
def fnExactHangingLinesUptoRow : OpenClaim := { program := "ytahacbcnjfoknaadoor", sum := "181aa34e85c7afa43d1c323f66d3624584e73e8306025cdcfe3be43fde4a6cf6", func := "loop.example/g00896/laws.FnExactHangingLines", spec := "fnExactHangingLines", inPlace := ["internal/bytealg.CountString", "internal/bytealg.IndexByteString", "internal/bytealg.IndexString", "internal/abi.NoEscape", "internal/bytealg.MakeNoZero"], named := ["unicode/utf8.first", "unicode/utf8.acceptRanges", "internal/bytealg.MaxLen"], apart := false, laid := [("unicode/utf8.acceptRanges", laid_unicode_utf8_acceptRanges), ("unicode/utf8.first", laid_unicode_utf8_first)], narrowed := true }
def FnExactHangingLinesUptoSaid : Prop := fnExactHangingLinesUptoRow.holds Tryd.pinned (OpenSpec.upto fnExactHangingLinesSpec)

/-- 'laws.FnExactWrapText', WHERE WHAT IT READS IS OF BULK AT MOST 1048576: true; the input reads as it did. -/
def fnExactWrapTextUptoRow : OpenClaim := { program := "ytahacbcnjfoknaadoor", sum := "181aa34e85c7afa43d1c323f66d3624584e73e8306025cdcfe3be43fde4a6cf6", func := "loop.example/g00896/laws.FnExactWrapText", spec := "fnExactWrapText", inPlace := ["internal/bytealg.CountString", "internal/bytealg.IndexByteString", "internal/bytealg.IndexString", "internal/abi.NoEscape", "internal/bytealg.MakeNoZero"], named := ["unicode/utf8.first", "unicode/utf8.acceptRanges", "internal/bytealg.MaxLen"], apart := false, laid := [("unicode/utf8.acceptRanges", laid_unicode_utf8_acceptRanges), ("unicode/utf8.first", laid_unicode_utf8_first)], narrowed := true }
def FnExactWrapTextUptoSaid : Prop := fnExactWrapTextUptoRow.holds Tryd.pinned (OpenSpec.upto fnExactWrapTextSpec)

/-- 'laws.FnWrapping', WHERE WHAT IT READS IS OF BULK AT MOST 1048576: true; the input reads as it did. -/
def fnWrappingUptoRow : OpenClaim := { program := "ytahacbcnjfoknaadoor", sum := "181aa34e85c7afa43d1c323f66d3624584e73e8306025cdcfe3be43fde4a6cf6", func := "loop.example/g00896/laws.FnWrapping", spec := "fnWrapping", inPlace := ["internal/bytealg.CountString", "internal/bytealg.IndexByteString", "internal/bytealg.IndexString", "internal/abi.NoEscape", "internal/bytealg.MakeNoZero"], named := ["unicode/utf8.first", "unicode/utf8.acceptRanges", "internal/bytealg.MaxLen"], apart := false, laid := [("unicode/utf8.acceptRanges", laid_unicode_utf8_acceptRanges), ("unicode/utf8.first", laid_unicode_utf8_first)], narrowed := true }
def FnWrappingUptoSaid : Prop := fnWrappingUptoRow.holds Tryd.pinned (OpenSpec.upto fnWrappingSpec)

/-- 'laws.FnExactParseQuery', WHERE WHAT IT READS IS OF BULK AT MOST 1048576: true; the input reads as it did. -/
def fnExactParseQueryUptoRow : OpenClaim := { program := "ytahacbcnjfoknaadoor", sum := "181aa34e85c7afa43d1c323f66d3624584e73e8306025cdcfe3be43fde4a6cf6", func := "loop.example/g00896/laws.FnExactParseQuery", spec := "fnExactParseQuery", inPlace := ["internal/bytealg.IndexByteString", "internal/bytealg.IndexString"], recurses := true, named := ["internal/bytealg.MaxLen", "loop.example/g00896/impl.fieldWords"], apart := false, laid := [("loop.example/g00896/impl.fieldWords", laid_loop_example_g00896_impl_fieldWords)], narrowed := true }
def FnExactParseQueryUptoSaid : Prop := fnExactParseQueryUptoRow.holds Tryd.pinned (OpenSpec.upto fnExactParseQuerySpec)

/-- 'laws.FnExactTextDistance', WHERE WHAT IT READS IS OF BULK AT MOST 1048576: true; the input reads as it did. -/
def fnExactTextDistanceUptoRow : OpenClaim := { program := "ytahacbcnjfoknaadoor", sum := "181aa34e85c7afa43d1c323f66d3624584e73e8306025cdcfe3be43fde4a6cf6", func := "loop.example/g00896/laws.FnExactTextDistance", spec := "fnExactTextDistance", inPlace := ["internal/bytealg.IndexByteString", "internal/bytealg.IndexString", "internal/bytealg.CountString", "internal/abi.NoEscape", "internal/bytealg.MakeNoZero"], unfollowed := true, recurses := true, named := ["unicode/utf8.first", "unicode/utf8.acceptRanges", "internal/bytealg.MaxLen"], apart := false, laid := [("unicode/utf8.acceptRanges", laid_unicode_utf8_acceptRanges), ("unicode/utf8.first", laid_unicode_utf8_first)], narrowed := true }
def FnExactTextDistanceUptoSaid : Prop := fnExactTextDistanceUptoRow.holds Tryd.pinned (OpenSpec.upto fnExactTextDistanceSpec)

end Rows
end Go.Proofs.YtahacbcnjfoknaaDoor
