/- The plain law of AbbreviateTitle. -/
import Derived.Test.YtnffgabfibafjaaDoorPlTitle2
namespace Go.Proofs.YtnffgabfibafjaaDoor
open Go.Gx
set_option linter.unusedVariables false
set_option linter.unusedSimpArgs false

theorem abbreviate_ev (xs : List Abbr) (hs : smalls xs) (s : ByteArray) : ∃ r b, Ev (fun k => spec_AbbreviateTitle.F k xs s) (r, b) ∧ Ev (fun k => impl_AbbreviateTitle.F k xs s) (r, b) := by
  have v1 := validSpec_ev xs hs
  have v2 := validImpl_ev xs hs
  have t1 := specText_ev s
  have t2 := isText_ev s
  unfold spec_AbbreviateTitle.F impl_AbbreviateTitle.F
  cases hv : validA xs with
  | false =>
    rw [hv] at v1 v2
    exact ⟨_, _, Ev.bind v1 (Ev.pure _), Ev.bind v2 (Ev.pure _)⟩
  | true =>
    rw [hv] at v1 v2
    cases ht : textB s with
    | false =>
      rw [ht] at t1 t2
      exact ⟨_, _, Ev.bind v1 (Ev.bind t1 (Ev.pure _)), Ev.bind v2 (Ev.bind t2 (Ev.pure _))⟩
    | true =>
      rw [ht] at t1 t2
      obtain ⟨r, r1, r2⟩ := title_ev xs hs s ht
      exact ⟨_, _, Ev.bind v1 (Ev.bind t1 (Ev.bind r1 (Ev.pure _))), Ev.bind v2 (Ev.bind t2 (Ev.bind r2 (Ev.pure _)))⟩
theorem abbreviateTitle_law (xs : List Abbr) (s : ByteArray) (hw : WF (.sl .abbr) xs) (hws : WF .str s) : ∃ k, laws_FnExactAbbreviateTitle.F k xs s = some true := by
  refine Ev.get (?_ : Ev (fun k => laws_FnExactAbbreviateTitle.F k xs s) true)
  unfold laws_FnExactAbbreviateTitle.F
  by_cases c0 : (s.size : Int) > 1048576
  · simp (disch := omega) only [cpos]
    exact Ev.pure _
  simp (disch := omega) only [cneg]
  obtain ⟨r, h1, h2⟩ := szAs_ev xs 1048576 (by omega) (by omega) hw
  refine Ev.bind h1 ?_
  by_cases c : r < 0
  · simp (disch := omega) only [cpos]
    exact Ev.pure _
  · simp (disch := omega) only [cneg]
    have hs := smalls_of (h2 (by omega)) (by omega) (by omega)
    obtain ⟨v, b, v1, v2⟩ := abbreviate_ev xs hs s
    refine Ev.bind (toAs_ev xs hs.1) (Ev.bind v1 (Ev.bind (toAs_ev xs hs.1) (Ev.bind v2 ?_)))
    simp only [beqS_self, beq_self_eq_true, Bool.not_true, cond_false]
    exact Ev.bind (toAs_ev xs hs.1) (Ev.bind (eqAs_ev xs hs.1) (Ev.pure _))
end Go.Proofs.YtnffgabfibafjaaDoor
