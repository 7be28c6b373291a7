/-
  NARROWER THAN 'FOR EVERY INPUT', by the rows' own cells (each row's printed sentence says how): FnExactSimplifyQuery: loops, laid · FnExactParseQuery: laid · FnExactQueryWords: loops, laid.
  DERIVED. THE GIVEN ROWS OF THIS SEAT. 3 by the template 'for every input the law returns true; each argument reads behind the call as it read before'; 0 by the template 'total and deterministic' (their statements: YtkbichbahpnmmaaDoorTotals.lean).
  GIVEN WITH THE SEED: the statements are not yours to turn. If you find one false, say at which input.
  Laid BY PROGRAM, IN A SANDBOX (cutbox-rows.mjs): the forced cells as the released guide's own fill.sh prints them over the translation 93b50e853db5595a… (all of the seat's roots in one cut). By AI agents, Wed Nov 11 2026. No macro, syntax, notation, axiom, sorry.
-/
import Derived.Test.YtkbichbahpnmmaaDoorChecked
import GoSem.Claim
import GoSem.ClaimJoined
import GoSem.ClaimMapViews
import Derived.JoinedTies
import Derived.KernelRfl
namespace Go.Proofs.YtkbichbahpnmmaaDoor
/- THE CELL 'sum', in the pinned program and in every row, IS THE sha256 OF THE DUMP (.gsa) THAT YtkbichbahpnmmaaDoorProg.lean LOADS. Nothing in Lean hashes anything: it is a label: what it is worth is what the hold of that sum in a sandbox is worth. -/
noncomputable def Tryd.pinned : Pinned := { name := "ytkbichbahpnmmaadoor", sum := "93b50e853db5595aa146e81e054d7c241709eec10b545ef8f130011b711d1753", checked := Tryd.checked }
namespace Rows
def none {H : Type} : Left H := { results := [], args := [] }

/- WHAT THE LISTED PACKAGE-LEVEL VARIABLES READ AS WHEN THE CALL BEGINS. Each datum BY PROGRAM (the guide's laid-datum.mjs) off the statement by which the dump's own 'gosem.cut.vars' lays the variable. In a bare row this is a premise. The card (YtkbichbahpnmmaaDoorCards.lean) ties it to the program's text. -/
def laid_loop_example_g00896_impl_fieldWords {H : Type} : DataW H := .agg [.lit (.string [97, 117, 116, 104, 111, 114, 115]), .lit (.string [101, 100, 105, 116, 111, 114, 115]), .lit (.string [116, 105, 116, 108, 101]), .lit (.string [99, 111, 110, 116, 97, 105, 110, 101, 114]), .lit (.string [112, 117, 98, 108, 105, 115, 104, 101, 114]), .lit (.string [100, 97, 116, 101]), .lit (.string [118, 111, 108, 117, 109, 101]), .lit (.string [112, 97, 103, 101, 115])]

/-- 'laws.FnExactSimplifyQuery': WHATEVER THE INPUT: true; the input reads as it did. -/
def fnExactSimplifyQuerySpec : ChangeSpec := { name := "fnExactSimplifyQuery", vars := ["loop.example/g00896/impl.fieldWords"], fn := fun _ => fun
  | [d, g1] => { results := [.lit (.bool true)], args := [d], vars := [g1] }
  | _ => none }
def fnExactSimplifyQueryRow : OpenClaim := { program := "ytkbichbahpnmmaadoor", sum := "93b50e853db5595aa146e81e054d7c241709eec10b545ef8f130011b711d1753", func := "loop.example/g00896/laws.FnExactSimplifyQuery", spec := "fnExactSimplifyQuery", recurses := true, named := ["loop.example/g00896/impl.fieldWords"], loops := true, apart := false, laid := [("loop.example/g00896/impl.fieldWords", laid_loop_example_g00896_impl_fieldWords)] }
def FnExactSimplifyQuerySaid : Prop := fnExactSimplifyQueryRow.holds Tryd.pinned (OpenSpec.ofChange fnExactSimplifyQuerySpec)

/-- ITS FALSE NEIGHBOUR: 'it returns false'. Refute it at one input. -/
def fnExactSimplifyQueryWrong : ChangeSpec := { name := "fnExactSimplifyQuery", vars := ["loop.example/g00896/impl.fieldWords"], fn := fun _ => fun
  | [d, g1] => { results := [.lit (.bool false)], args := [d], vars := [g1] }
  | _ => none }
def FnExactSimplifyQueryWrongFalsely : Prop := fnExactSimplifyQueryRow.holds Tryd.pinned (OpenSpec.ofChange fnExactSimplifyQueryWrong)

/-- 'laws.FnExactParseQuery': WHATEVER THE INPUT: true; the input reads as it did. -/
def fnExactParseQuerySpec : ChangeSpec := { name := "fnExactParseQuery", vars := ["loop.example/g00896/impl.fieldWords"], fn := fun _ => fun
  | [d, g1] => { results := [.lit (.bool true)], args := [d], vars := [g1] }
  | _ => none }
def fnExactParseQueryRow : OpenClaim := { program := "ytkbichbahpnmmaadoor", sum := "93b50e853db5595aa146e81e054d7c241709eec10b545ef8f130011b711d1753", func := "loop.example/g00896/laws.FnExactParseQuery", spec := "fnExactParseQuery", inPlace := ["internal/bytealg.IndexByteString", "internal/bytealg.IndexString"], recurses := true, named := ["internal/bytealg.MaxLen", "loop.example/g00896/impl.fieldWords"], apart := false, laid := [("loop.example/g00896/impl.fieldWords", laid_loop_example_g00896_impl_fieldWords)] }
def FnExactParseQuerySaid : Prop := fnExactParseQueryRow.holds Tryd.pinned (OpenSpec.ofChange fnExactParseQuerySpec)

/-- ITS FALSE NEIGHBOUR: 'it returns false'. Refute it at one input. -/
def fnExactParseQueryWrong : ChangeSpec := { name := "fnExactParseQuery", vars := ["loop.example/g00896/impl.fieldWords"], fn := fun _ => fun
  | [d, g1] => { results := [.lit (.bool false)], args := [d], vars := [g1] }
  | _ => none }
def FnExactParseQueryWrongFalsely : Prop := fnExactParseQueryRow.holds Tryd.pinned (OpenSpec.ofChange fnExactParseQueryWrong)

/-- 'laws.FnExactQueryWords': WHATEVER THE INPUT: true; the input reads as it did. -/
def fnExactQueryWordsSpec : ChangeSpec := { name := "fnExactQueryWords", vars := ["loop.example/g00896/impl.fieldWords"], fn := fun _ => fun
  | [d, g1] => { results := [.lit (.bool true)], args := [d], vars := [g1] }
  | _ => none }
def fnExactQueryWordsRow : OpenClaim := { program := "ytkbichbahpnmmaadoor", sum := "93b50e853db5595aa146e81e054d7c241709eec10b545ef8f130011b711d1753", func := "loop.example/g00896/laws.FnExactQueryWords", spec := "fnExactQueryWords", recurses := true, named := ["loop.example/g00896/impl.fieldWords"], loops := true, apart := false, laid := [("loop.example/g00896/impl.fieldWords", laid_loop_example_g00896_impl_fieldWords)] }
def FnExactQueryWordsSaid : Prop := fnExactQueryWordsRow.holds Tryd.pinned (OpenSpec.ofChange fnExactQueryWordsSpec)

/-- ITS FALSE NEIGHBOUR: 'it returns false'. Refute it at one input. -/
def fnExactQueryWordsWrong : ChangeSpec := { name := "fnExactQueryWords", vars := ["loop.example/g00896/impl.fieldWords"], fn := fun _ => fun
  | [d, g1] => { results := [.lit (.bool false)], args := [d], vars := [g1] }
  | _ => none }
def FnExactQueryWordsWrongFalsely : Prop := fnExactQueryWordsRow.holds Tryd.pinned (OpenSpec.ofChange fnExactQueryWordsWrong)

/- THE SECOND FORM. 'bulk': how many values and letters a reading holds, each counted each time it is reached (what is shared counts as often as it is met; a slice's spare places count too). A statement '..UptoSaid' is the law's where the arguments, and the package variables that the reading takes, are together of bulk at most 1048576: NARROWER than '..Said'. Prove '..Said' where nothing that the law and all that it calls make is longer than what came in: it says more and counts as full. Else prove '..UptoSaid'. A law counts once. -/
mutual
def uptoBulk {H : Type} : DataW H → Nat
  | .lit (.string bytes) => bytes.length + 1
  | .lit _ => 1
  | .nil => 1
  | .ptr d => uptoBulk d + 1
  | .slice elems spare => uptoBulkAll elems + uptoBulkAll spare + 1
  | .agg parts => uptoBulkAll parts + 1
  | .iface _ d => uptoBulk d + 1
  | .map entries => uptoBulkEntries entries + 1
  | .held _ => 1
def uptoBulkAll {H : Type} : List (DataW H) → Nat
  | [] => 0
  | d :: r => uptoBulk d + uptoBulkAll r
def uptoBulkEntries {H : Type} : List (Lit × DataW H) → Nat
  | [] => 0
  | x :: r => uptoBulkEntry x + uptoBulkEntries r
def uptoBulkEntry {H : Type} : Lit × DataW H → Nat
  | (.string bytes, d) => bytes.length + uptoBulk d + 1
  | (_, d) => uptoBulk d + 1
 end
def uptoSmall : (H : Type) → List (DataW H) → Bool := fun _ ds => decide (uptoBulkAll ds ≤ 1048576)
def OpenSpec.upto (s : _root_.Go.ChangeSpec) : _root_.Go.OpenSpec := { _root_.Go.OpenSpec.ofChange s with cond := some uptoSmall }

/-- 'laws.FnExactSimplifyQuery', WHERE WHAT IT READS IS OF BULK AT MOST 1048576: true; the input reads as it did. -/
def fnExactSimplifyQueryUptoRow : OpenClaim := { program := "ytkbichbahpnmmaadoor", sum := "93b50e853db5595aa146e81e054d7c241709eec10b545ef8f130011b711d1753", func := "loop.example/g00896/laws.FnExactSimplifyQuery", spec := "fnExactSimplifyQuery", recurses := true, named := ["loop.example/g00896/impl.fieldWords"], loops := true, apart := false, laid := [("loop.example/g00896/impl.fieldWords", laid_loop_example_g00896_impl_fieldWords)], narrowed := true }
def FnExactSimplifyQueryUptoSaid : Prop := fnExactSimplifyQueryUptoRow.holds Tryd.pinned (OpenSpec.upto fnExactSimplifyQuerySpec)

/-- 'laws.FnExactParseQuery', WHERE WHAT IT READS IS OF BULK AT MOST 1048576: true; the input reads as it did. -/
def fnExactParseQueryUptoRow : OpenClaim := { program := "ytkbichbahpnmmaadoor", sum := "93b50e853db5595aa146e81e054d7c241709eec10b545ef8f130011b711d1753", func := "loop.example/g00896/laws.FnExactParseQuery", spec := "fnExactParseQuery", inPlace := ["internal/bytealg.IndexByteString", "internal/bytealg.IndexString"], recurses := true, named := ["internal/bytealg.MaxLen", "loop.example/g00896/impl.fieldWords"], apart := false, laid := [("loop.example/g00896/impl.fieldWords", laid_loop_example_g00896_impl_fieldWords)], narrowed := true }
def FnExactParseQueryUptoSaid : Prop := fnExactParseQueryUptoRow.holds Tryd.pinned (OpenSpec.upto fnExactParseQuerySpec)

/-- 'laws.FnExactQueryWords', WHERE WHAT IT READS IS OF BULK AT MOST 1048576: true; the input reads as it did. -/
def fnExactQueryWordsUptoRow : OpenClaim := { program := "ytkbichbahpnmmaadoor", sum := "93b50e853db5595aa146e81e054d7c241709eec10b545ef8f130011b711d1753", func := "loop.example/g00896/laws.FnExactQueryWords", spec := "fnExactQueryWords", recurses := true, named := ["loop.example/g00896/impl.fieldWords"], loops := true, apart := false, laid := [("loop.example/g00896/impl.fieldWords", laid_loop_example_g00896_impl_fieldWords)], narrowed := true }
def FnExactQueryWordsUptoSaid : Prop := fnExactQueryWordsUptoRow.holds Tryd.pinned (OpenSpec.upto fnExactQueryWordsSpec)

end Rows
end Go.Proofs.YtkbichbahpnmmaaDoor
