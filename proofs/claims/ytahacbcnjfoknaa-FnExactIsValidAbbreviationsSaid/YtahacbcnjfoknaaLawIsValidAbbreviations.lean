/- The plain law of IsValidAbbreviations. -/
import Derived.Test.YtahacbcnjfoknaaPlAbbr
namespace Go.Proofs.Ytahacbcnjfoknaa
open Go.Gx
theorem isValidAbbreviations_law (xs : List Abbr) (hw : WF (.sl .abbr) xs) : ∃ k, laws_FnExactIsValidAbbreviations.F k xs = some true := by
  refine Ev.get (?_ : Ev (fun k => laws_FnExactIsValidAbbreviations.F k xs) true)
  unfold laws_FnExactIsValidAbbreviations.F
  obtain ⟨r, h1, h2⟩ := szAs_ev xs 1048576 (by omega) (by omega) hw
  refine Ev.bind h1 ?_
  by_cases c : r < 0
  · simp (disch := omega) only [cpos]
    exact Ev.pure _
  · simp (disch := omega) only [cneg]
    have hs := smalls_of (h2 (by omega)) (by omega) (by omega)
    refine Ev.bind (toAs_ev xs hs.1) (Ev.bind (Ev.bind (validSpec_ev xs hs) (Ev.pure _)) (Ev.bind (toAs_ev xs hs.1) (Ev.bind (validImpl_ev xs hs) ?_)))
    simp only [beq_self_eq_true, Bool.not_true, cond_false]
    refine Ev.bind (toAs_ev xs hs.1) (Ev.bind (eqAs_ev xs hs.1) ?_)
    exact Ev.pure _
end Go.Proofs.Ytahacbcnjfoknaa
