/- The law FnExactFormatQuery returns true for every input, the listed package variable being as the program's text lays it: the card. -/
import Derived.Test.YtahacbcnjfoknaaDoorCards
import Derived.Test.YtahacbcnjfoknaaDoorTie
import Derived.Test.YtahacbcnjfoknaaDoorGxLaid
import Derived.Test.YtahacbcnjfoknaaDoorPlFormat
import Derived.WalkKit
import Derived.ProofKit
import Derived.OpenShut
import Derived.Deep.DeepHandedRow
import Derived.Lib.LaidTab
namespace Go.Proofs.YtahacbcnjfoknaaDoor
open Go.Gx Go.RowKit Go.ChangeShapes Go.WideShapes Go.ChangeAt
set_option linter.unusedVariables false
def fnExactFormatQuery_ss : List (List UInt8) := [[97, 117, 116, 104, 111, 114, 115], [101, 100, 105, 116, 111, 114, 115], [116, 105, 116, 108, 101], [99, 111, 110, 116, 97, 105, 110, 101, 114], [112, 117, 98, 108, 105, 115, 104, 101, 114], [100, 97, 116, 101], [118, 111, 108, 117, 109, 101], [112, 97, 103, 101, 115]]
theorem fnExactFormatQuery_own : ownKnob Tryd.prog.godebug = none := by kernel_rfl
theorem fnExactFormatQuery_gl {W : World} (h : laidMetH Tryd.prog Rows.fnExactFormatQueryRow.laid W) : GlOk envX (Lt W) W :=
  glOk_strs (ss := fnExactFormatQuery_ss) (name := "loop.example/g00896/impl.fieldWords") (rest := []) (g := 0) (t := 92) (e := 9) (n := 8) (by kernel_rfl) (by kernel_rfl) (by kernel_rfl) (by kernel_rfl) (by kernel_rfl) (by kernel_rfl) rfl h fun g' b hb => by
    have hb' : glT g' = some b := hb
    unfold glT at hb'
    split at hb'
    · cases hb'; exact ⟨rfl, rfl⟩
    · cases hb'
set_option maxRecDepth 100000 in
theorem fnExactFormatQuery_contract (H : Type) (enc : TypeId × Value → H) (W : World) (base : Nat) (args : Array Value) (ds gs : List (DataW H)) (before : List MemPlace)
    (hval : ∀ (j : Nat) t v, Tryd.f4.params[j]? = some t → args[j]? = some v → Value.okWide Tryd.prog W .any base t v)
    (hW : DataW.Whole enc Tryd.prog Tryd.f4.params.toList Rows.fnExactFormatQuerySpec.vars false W args.toList ds gs before) (hL : laidMetH Tryd.prog Rows.fnExactFormatQueryRow.laid W) :
    Calls Tryd.prog 4 args W fun e W' => ∃ v, e = .returned v ∧ Rows.fnExactFormatQuerySpec.post enc Tryd.prog Tryd.f4 false true false false W args v W' := by
  have hgs : ∃ g1, gs = [g1] := by
    obtain ⟨p, q, _, hV, _⟩ := hW
    match gs, hV with
    | [g1], _ => exact ⟨g1, rfl⟩
    | [], hV => exact hV.elim
    | _ :: _ :: _, ⟨_, _, _, _, _, _, _, _, _, _, hV, _⟩ => exact hV.elim
  obtain ⟨g1, rfl⟩ := hgs
  have hds : ∃ d1, ds = [d1] := by
    obtain ⟨p, q, hA, _⟩ := hW
    obtain ⟨_, _, d1, e0, _, _, _, rfl, _, _, h0⟩ := trodAll_cons hA
    obtain ⟨_, rfl, _⟩ := trodAll_nil h0
    exact ⟨d1, rfl⟩
  obtain ⟨d1, rfl⟩ := hds
  refine law_contract (τs := [.query]) (r := .t .bool true) envOk (by kernel_rfl) rfl (by kernel_rfl) (by kernel_rfl) rfl (by kernel_rfl) (by kernel_rfl) (fun t ht => ?_) rfl (fun x hx => by
      obtain ⟨k, hk⟩ := formatQuery_law x.1 hx.1
      exact laws_FnExactFormatQuery.good envOk _ k _ hk) rfl hval hW (fnExactFormatQuery_gl hL) (fun q hq W' hb => vars_stay (by kernel_rfl) hb (fun nm hn g t h1 h2 => ?_) hq)
  · have : t ∈ [24] := ht
    simp only [List.mem_cons, List.not_mem_nil, or_false] at this
    rcases this with rfl <;> exact ⟨by kernel_rfl, Nat.le_of_ble_eq_true (by kernel_rfl)⟩
  · have hnm : nm = "loop.example/g00896/impl.fieldWords" := by
      have : nm ∈ ["loop.example/g00896/impl.fieldWords"] := hn
      simpa using this
    subst hnm
    obtain rfl : g = 0 := Option.some.inj (h1.symm.trans (by kernel_rfl : Tryd.prog.globalNamed "loop.example/g00896/impl.fieldWords" = some 0))
    obtain rfl : t = 92 := Option.some.inj (h2.symm.trans (by kernel_rfl : (Tryd.prog.globals[0]?).map (·.type) = some 92))
    exact ⟨by kernel_rfl, Nat.le_of_ble_eq_true (by kernel_rfl)⟩
noncomputable def fnExactFormatQuery_world (os : Os) : World :=
  { World.holding Tryd.prog os ⟨#[], #[], []⟩ with heap := (World.holding Tryd.prog os ⟨#[], #[], []⟩).heap.modify 0 fun
      | .cells _ t frozen => .cells #[.string ⟨#[97, 117, 116, 104, 111, 114, 115]⟩, .string ⟨#[101, 100, 105, 116, 111, 114, 115]⟩, .string ⟨#[116, 105, 116, 108, 101]⟩, .string ⟨#[99, 111, 110, 116, 97, 105, 110, 101, 114]⟩, .string ⟨#[112, 117, 98, 108, 105, 115, 104, 101, 114]⟩, .string ⟨#[100, 97, 116, 101]⟩, .string ⟨#[118, 111, 108, 117, 109, 101]⟩, .string ⟨#[112, 97, 103, 101, 115]⟩] t frozen
      | o => o }
theorem fnExactFormatQuery_met (os : Os) : laidMet Tryd.prog Rows.fnExactFormatQueryRow.laid ((fnExactFormatQuery_world os).forCall (fun _ _ => 0) ⟨#[], #[.agg #[.int .i64 0, .string ⟨#[]⟩, .string ⟨#[]⟩, .slice none 0 0]], []⟩).memory :=
  laidMet_of_run' 8 (by kernel_rfl) (by kernel_rfl)
theorem fnExactFormatQuery_reads (os : Os) {H : Type} (enc : TypeId × Value → H) : ∃ places, DataW.whole enc Tryd.prog ((fnExactFormatQuery_world os).forCall (fun _ _ => 0) ⟨#[], #[.agg #[.int .i64 0, .string ⟨#[]⟩, .string ⟨#[]⟩, .slice none 0 0]], []⟩).memory Tryd.f4.params.toList Rows.fnExactFormatQuerySpec.vars false #[.agg #[.int .i64 0, .string ⟨#[]⟩, .string ⟨#[]⟩, .slice none 0 0]].toList 8 = some ([.agg [.lit (.int .i64 0), .lit (.string []), .lit (.string []), .nil]], [strData fnExactFormatQuery_ss], places) :=
  ⟨[.cell 0 0, .cell 0 1, .cell 0 2, .cell 0 3, .cell 0 4, .cell 0 5, .cell 0 6, .cell 0 7], by kernel_rfl⟩
set_option maxRecDepth 100000 in
theorem fnExactFormatQuery_lifted (os : Os) (started : os.Started) (H : Type) (enc : TypeId × Value → H) (F : Stop.Interp) :
    ReturnsInHanded {} Tryd.checked os 4 .any ((OpenSpec.ofChange Rows.fnExactFormatQuerySpec).preRow enc Tryd.prog Tryd.f4 Rows.fnExactFormatQueryRow.domain false Rows.fnExactFormatQueryRow.laid) (((OpenSpec.ofChange Rows.fnExactFormatQuerySpec).at F).post enc Tryd.prog Tryd.f4 false true false false) := by
  obtain ⟨places, hx⟩ := fnExactFormatQuery_reads os enc
  refine returnsInHanded_of_row (C := Tryd.checked) (s := OpenSpec.ofChange Rows.fnExactFormatQuerySpec) fnExactFormatQuery_own started (by kernel_rfl) (by kernel_rfl)
    (witness_row_at (enc := enc) (C := Tryd.checked) false (fnExactFormatQuery_world os) #[.agg #[.int .i64 0, .string ⟨#[]⟩, .string ⟨#[]⟩, .slice none 0 0]] rfl (by kernel_rfl) (by kernel_rfl) (by kernel_rfl)
      (OpenSpec.preRow_of_cond 8 hx (by kernel_rfl) (fun k hk => by cases hk) (by kernel_rfl) (fnExactFormatQuery_met os))) ?_
  intro W base args ds gs before hval hW _ _ _ hL _ _
  exact fnExactFormatQuery_contract H enc W base args ds gs before hval hW hL
theorem fnExactFormatQuery_said : Rows.FnExactFormatQuerySaid :=
  OpenClaim.holds_of_cond 4 Tryd.f4 rfl rfl rfl rfl rfl rfl rfl ⟨rfl, rfl, rfl, rfl, rfl⟩ rfl rfl rfl rfl rfl (by kernel_rfl) (by kernel_rfl) (by kernel_rfl)
    (of_decide_eq_true (by kernel_rfl)) (by unfold Func.isWrapper; first | (rw [if_pos (by decide +kernel)]; kernel_rfl) | (rw [if_neg (by decide +kernel)]; exact ⟨rfl, rfl⟩))
    (fun os started H enc _ F => by rw [OpenClaim.pre_eq_preRow]; exact fnExactFormatQuery_lifted os started H enc F)
theorem fnExactFormatQuery_plain (f : FuncId) (fn : Func) (hf : Tryd.pinned.checked.prog.funcNamed "loop.example/g00896/laws.FnExactFormatQuery" = some f) (hfn : Tryd.pinned.checked.prog.funcs[f]? = some fn) :
    false = Tryd.pinned.checked.prog.looks [] ∧ ∀ (j : Nat) t, fn.params[j]? = some t → Tryd.pinned.checked.prog.wantsStandIn t = false := by
  obtain rfl : f = 4 := (Option.some.inj ((show Tryd.prog.funcNamed "loop.example/g00896/laws.FnExactFormatQuery" = some 4 by kernel_rfl).symm.trans hf)).symm
  obtain rfl : fn = Tryd.f4 := (Option.some.inj ((show Tryd.prog.funcs[4]? = some Tryd.f4 by kernel_rfl).symm.trans hfn)).symm
  refine ⟨by kernel_rfl, fun j t ht => ?_⟩
  have ht' : t ∈ [24] := by simpa using Array.mem_of_getElem? (show (#[24] : Array Nat)[j]? = some t from ht)
  simp only [List.mem_cons, List.not_mem_nil, or_false] at ht'
  rcases ht' with rfl
  · exact (show Tryd.prog.wantsStandIn 24 = false by kernel_rfl)
theorem FnExactFormatQuery_holds : Rows.FnExactFormatQueryCardSaid :=
  Claim7.holds_tied_plain_at .later [] _ _ _ _ fnExactFormatQuery_said (fun _ h => by cases h) (by kernel_rfl) (fun _ h => by cases h) fnExactFormatQuery_row_tie rfl ⟨rfl, rfl⟩ (by kernel_rfl) rfl fnExactFormatQuery_plain (by kernel_rfl)
#print axioms FnExactFormatQuery_holds
end Go.Proofs.YtahacbcnjfoknaaDoor
