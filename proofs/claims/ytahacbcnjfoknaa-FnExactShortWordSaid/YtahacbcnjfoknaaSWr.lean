/- The law FnExactShortWord returns true for every input: without conditions. -/
import Derived.Test.YtahacbcnjfoknaaRows
import Derived.Test.YtahacbcnjfoknaaGxRow
import Derived.Test.YtahacbcnjfoknaaLawShortWord
import Derived.JoinedOf
import Derived.HandedShaped
import Derived.Shelf.Vars
namespace Go.Proofs.Ytahacbcnjfoknaa
open Go.Gx Go.RowKit
set_option linter.unusedVariables false
theorem fnExactShortWord_contract (H : Type) (enc : TypeId × Value → H) (W : World) (base : Nat) (args : Array Value) (ds gs : List (DataW H)) (before : List MemPlace)
    (hval : ∀ (j : Nat) t v, Try.f6.params[j]? = some t → args[j]? = some v → Value.okWide Try.prog W .any base t v)
    (hW : DataW.Whole enc Try.prog Try.f6.params.toList Rows.fnExactShortWordSpec.vars false W args.toList ds gs before) (hsh : W.ShapedOpen Try.prog) :
    Calls Try.prog 6 args W fun e W' => ∃ v, e = .returned v ∧ Rows.fnExactShortWordSpec.post enc Try.prog Try.f6 false true false false W args v W' := by
  have hgs : gs = [] := by
    obtain ⟨p, q, _, hV, _⟩ := hW
    exact (Go.ChangeShapes.trodVars_none hV).1
  subst hgs
  have hds : ∃ d1 d2, ds = [d1, d2] := by
    obtain ⟨p, q, hA, _⟩ := hW
    obtain ⟨_, _, d1, e0, _, _, _, rfl, _, _, h0⟩ := Go.ChangeShapes.trodAll_cons hA
    obtain ⟨_, _, d2, e1, _, _, _, rfl, _, _, h1⟩ := Go.ChangeShapes.trodAll_cons h0
    obtain ⟨_, rfl, _⟩ := Go.ChangeShapes.trodAll_nil h1
    exact ⟨d1, d2, rfl⟩
  obtain ⟨d1, d2, rfl⟩ := hds
  have hgl : GlOk envX (Lt W) W := by
    refine ⟨fun g b h => (by cases h), fun g hg => ?_⟩
    have hg' : giT g = true := hg
    unfold giT at hg'
    split at hg'
    · obtain ⟨m, hm⟩ := cell_of_shapedOpen_int (P := Try.prog) (g := 0) (t := 3) (zero := #[.int .i64 0]) hsh (of_decide_eq_true (by kernel_rfl)) (by kernel_rfl) rfl (by kernel_rfl) (by kernel_rfl) (by kernel_rfl)
      exact ⟨World.block_lt_of_cell? _ _ hm, m, hm⟩
    · cases hg'
  refine law_contract (τs := [(.sl .abbr), .str]) (r := .t .bool true) envOk (by kernel_rfl) rfl (by kernel_rfl) (by kernel_rfl) rfl (by kernel_rfl) (by kernel_rfl) (fun t ht => ?_) rfl (fun x hx => by
      obtain ⟨k, hk⟩ := shortWord_law x.1 x.2.1 hx.1 hx.2.1
      exact laws_FnExactShortWord.good envOk _ k _ _ hk) rfl hval hW hgl (fun q hq W' _ => ?_)
  · have : t ∈ [29, 9] := ht
    simp only [List.mem_cons, List.not_mem_nil, or_false] at this
    rcases this with rfl | rfl <;> exact ⟨by kernel_rfl, Nat.le_of_ble_eq_true (by kernel_rfl)⟩
  · obtain ⟨_, rfl⟩ := Go.ChangeShapes.trodVars_none hq
    exact rfl
theorem fnExactShortWord_own : ownKnob Try.prog.godebug = none := by kernel_rfl
set_option maxRecDepth 100000 in
theorem fnExactShortWord_lifted (os : Os) (started : os.Started) (H : Type) (enc : TypeId × Value → H) :
    ReturnsInHanded {} Try.checked os 6 .any (Rows.fnExactShortWordSpec.pre6 enc Try.prog Try.f6 Rows.fnExactShortWordRow.domain false) (Rows.fnExactShortWordSpec.post enc Try.prog Try.f6 false true false false) := by
  refine returnsInHanded_of_change_shaped (C := Try.checked) fnExactShortWord_own started (by kernel_rfl) (by kernel_rfl)
    (ChangeSpec.witness6 (enc := enc) (C := Try.checked) false ⟨#[], #[.slice none 0 0, .string ⟨#[]⟩], []⟩ 8 (by kernel_rfl) (by kernel_rfl) (by kernel_rfl) (by kernel_rfl)) ?_
  intro W base args ds gs before hval hW _ _ hsh _
  exact fnExactShortWord_contract H enc W base args ds gs before hval hW hsh
theorem FnExactShortWord_holds : Rows.FnExactShortWordSaid :=
  OpenClaim.holds_of_wide 6 Try.f6 rfl rfl rfl rfl rfl rfl rfl ⟨rfl, rfl, rfl, rfl, rfl⟩ rfl rfl rfl rfl rfl (by kernel_rfl) (by kernel_rfl) (by kernel_rfl)
    (of_decide_eq_true (by kernel_rfl)) (by unfold Func.isWrapper; first | (rw [if_pos (by decide +kernel)]; kernel_rfl) | (rw [if_neg (by decide +kernel)]; exact ⟨rfl, rfl⟩))
    (fun os started H enc _ => fnExactShortWord_lifted os started H enc)
#print axioms FnExactShortWord_holds
end Go.Proofs.Ytahacbcnjfoknaa
