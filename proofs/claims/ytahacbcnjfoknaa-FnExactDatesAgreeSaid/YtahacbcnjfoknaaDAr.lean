/- The law FnExactDatesAgree returns true for every two dates: without conditions. -/
import Derived.Test.YtahacbcnjfoknaaRows
import Derived.Test.YtahacbcnjfoknaaGxRow
import Derived.Test.YtahacbcnjfoknaaDAp
import Derived.JoinedOf
namespace Go.Proofs.Ytahacbcnjfoknaa
open Go.Gx Go.RowKit
theorem fnExactDatesAgree_contract (H : Type) (enc : TypeId × Value → H) (W : World) (base : Nat) (args : Array Value) (ds gs : List (DataW H)) (before : List MemPlace)
    (hval : ∀ (j : Nat) t v, Try.f3.params[j]? = some t → args[j]? = some v → Value.okWide Try.prog W .any base t v)
    (hW : DataW.Whole enc Try.prog Try.f3.params.toList Rows.fnExactDatesAgreeSpec.vars false W args.toList ds gs before) :
    Calls Try.prog 3 args W fun e W' => ∃ v, e = .returned v ∧ Rows.fnExactDatesAgreeSpec.post enc Try.prog Try.f3 false true false false W args v W' := by
  have hgs : gs = [] := by
    obtain ⟨p, q, _, hV, _⟩ := hW
    exact (Go.ChangeShapes.trodVars_none hV).1
  subst hgs
  have hds : ∃ d1 d2, ds = [d1, d2] := by
    obtain ⟨p, q, hA, _⟩ := hW
    obtain ⟨_, _, d, d', _, _, _, h, _⟩ := Go.ChangeShapes.trodAll_two hA
    exact ⟨d, d', h⟩
  obtain ⟨d1, d2, rfl⟩ := hds
  refine law_contract (τs := [.date, .date]) (r := .t .bool true) envOk (by kernel_rfl) rfl (by kernel_rfl) (by kernel_rfl) rfl (by kernel_rfl) (by kernel_rfl) (fun t ht => ?_) rfl (fun x _ => laws_FnExactDatesAgree.good envOk _ _ _ (law x.1 x.2.1)) rfl hval hW (fun g b h => by cases h) (fun q hq W' _ => ?_)
  · have : t ∈ [23, 23] := ht
    simp only [List.mem_cons, List.not_mem_nil, or_false] at this
    rcases this with rfl | rfl <;> exact ⟨by kernel_rfl, Nat.le_of_ble_eq_true (by kernel_rfl)⟩
  · obtain ⟨_, rfl⟩ := Go.ChangeShapes.trodVars_none hq
    exact rfl
theorem fnExactDatesAgree_own : ownKnob Try.prog.godebug = none := by kernel_rfl
set_option maxRecDepth 100000 in
theorem fnExactDatesAgree_lifted (os : Os) (started : os.Started) (H : Type) (enc : TypeId × Value → H) :
    ReturnsInHanded {} Try.checked os 3 .any (Rows.fnExactDatesAgreeSpec.pre6 enc Try.prog Try.f3 Rows.fnExactDatesAgreeRow.domain false) (Rows.fnExactDatesAgreeSpec.post enc Try.prog Try.f3 false true false false) := by
  refine returnsInHanded_of_change (C := Try.checked) fnExactDatesAgree_own started (by kernel_rfl) (by kernel_rfl)
    (ChangeSpec.witness6 (enc := enc) (C := Try.checked) false ⟨#[], #[.agg #[.int .i64 0, .int .i64 0, .int .i64 0, .bool false], .agg #[.int .i64 0, .int .i64 0, .int .i64 0, .bool false]], []⟩ 8 (by kernel_rfl) (by kernel_rfl) (by kernel_rfl) (by kernel_rfl)) ?_
  intro W base args ds gs before hval hW _ _
  exact fnExactDatesAgree_contract H enc W base args ds gs before hval hW
theorem FnExactDatesAgree_holds : Rows.FnExactDatesAgreeSaid :=
  OpenClaim.holds_of_wide 3 Try.f3 rfl rfl rfl rfl rfl rfl rfl ⟨rfl, rfl, rfl, rfl, rfl⟩ rfl rfl rfl rfl rfl (by kernel_rfl) (by kernel_rfl) (by kernel_rfl)
    (of_decide_eq_true (by kernel_rfl)) (by unfold Func.isWrapper; first | (rw [if_pos (by decide +kernel)]; kernel_rfl) | (rw [if_neg (by decide +kernel)]; exact ⟨rfl, rfl⟩))
    (fun os started H enc _ => fnExactDatesAgree_lifted os started H enc)
#print axioms FnExactDatesAgree_holds
end Go.Proofs.Ytahacbcnjfoknaa
