/- The law FnExactIsValidAbbreviations returns true for every input: without conditions. -/
import Derived.Test.YtahacbcnjfoknaaRows
import Derived.Test.YtahacbcnjfoknaaGxRow
import Derived.Test.YtahacbcnjfoknaaLawIsValidAbbreviations
import Derived.JoinedOf
namespace Go.Proofs.Ytahacbcnjfoknaa
open Go.Gx Go.RowKit
set_option linter.unusedVariables false
theorem fnExactIsValidAbbreviations_contract (H : Type) (enc : TypeId × Value → H) (W : World) (base : Nat) (args : Array Value) (ds gs : List (DataW H)) (before : List MemPlace)
    (hval : ∀ (j : Nat) t v, Try.f4.params[j]? = some t → args[j]? = some v → Value.okWide Try.prog W .any base t v)
    (hW : DataW.Whole enc Try.prog Try.f4.params.toList Rows.fnExactIsValidAbbreviationsSpec.vars false W args.toList ds gs before) :
    Calls Try.prog 4 args W fun e W' => ∃ v, e = .returned v ∧ Rows.fnExactIsValidAbbreviationsSpec.post enc Try.prog Try.f4 false true false false W args v W' := by
  have hgs : gs = [] := by
    obtain ⟨p, q, _, hV, _⟩ := hW
    exact (Go.ChangeShapes.trodVars_none hV).1
  subst hgs
  have hds : ∃ d1, ds = [d1] := by
    obtain ⟨p, q, hA, _⟩ := hW
    obtain ⟨_, _, d1, e0, _, _, _, rfl, _, _, h0⟩ := Go.ChangeShapes.trodAll_cons hA
    obtain ⟨_, rfl, _⟩ := Go.ChangeShapes.trodAll_nil h0
    exact ⟨d1, rfl⟩
  obtain ⟨d1, rfl⟩ := hds
  refine law_contract (τs := [(.sl .abbr)]) (r := .t .bool true) envOk (by kernel_rfl) rfl (by kernel_rfl) (by kernel_rfl) rfl (by kernel_rfl) (by kernel_rfl) (fun t ht => ?_) rfl (fun x hx => by
      obtain ⟨k, hk⟩ := isValidAbbreviations_law x.1 hx.1
      exact laws_FnExactIsValidAbbreviations.good envOk _ k _ hk) rfl hval hW (fun g b h => by cases h) (fun q hq W' _ => ?_)
  · have : t ∈ [29] := ht
    simp only [List.mem_cons, List.not_mem_nil, or_false] at this
    rcases this with rfl <;> exact ⟨by kernel_rfl, Nat.le_of_ble_eq_true (by kernel_rfl)⟩
  · obtain ⟨_, rfl⟩ := Go.ChangeShapes.trodVars_none hq
    exact rfl
theorem fnExactIsValidAbbreviations_own : ownKnob Try.prog.godebug = none := by kernel_rfl
set_option maxRecDepth 100000 in
theorem fnExactIsValidAbbreviations_lifted (os : Os) (started : os.Started) (H : Type) (enc : TypeId × Value → H) :
    ReturnsInHanded {} Try.checked os 4 .any (Rows.fnExactIsValidAbbreviationsSpec.pre6 enc Try.prog Try.f4 Rows.fnExactIsValidAbbreviationsRow.domain false) (Rows.fnExactIsValidAbbreviationsSpec.post enc Try.prog Try.f4 false true false false) := by
  refine returnsInHanded_of_change (C := Try.checked) fnExactIsValidAbbreviations_own started (by kernel_rfl) (by kernel_rfl)
    (ChangeSpec.witness6 (enc := enc) (C := Try.checked) false ⟨#[], #[.slice none 0 0], []⟩ 8 (by kernel_rfl) (by kernel_rfl) (by kernel_rfl) (by kernel_rfl)) ?_
  intro W base args ds gs before hval hW _ _
  exact fnExactIsValidAbbreviations_contract H enc W base args ds gs before hval hW
theorem FnExactIsValidAbbreviations_holds : Rows.FnExactIsValidAbbreviationsSaid :=
  OpenClaim.holds_of_wide 4 Try.f4 rfl rfl rfl rfl rfl rfl rfl ⟨rfl, rfl, rfl, rfl, rfl⟩ rfl rfl rfl rfl rfl (by kernel_rfl) (by kernel_rfl) (by kernel_rfl)
    (of_decide_eq_true (by kernel_rfl)) (by unfold Func.isWrapper; first | (rw [if_pos (by decide +kernel)]; kernel_rfl) | (rw [if_neg (by decide +kernel)]; exact ⟨rfl, rfl⟩))
    (fun os started H enc _ => fnExactIsValidAbbreviations_lifted os started H enc)
#print axioms FnExactIsValidAbbreviations_holds
end Go.Proofs.Ytahacbcnjfoknaa
