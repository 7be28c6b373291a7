/- Plain laws: the short form of a word, both ways. -/
import Derived.Test.YtnffgabfibafjaaDoorMu6
section
namespace Go.Proofs.YtnffgabfibafjaaDoor
open Go.Gx
set_option linter.unusedVariables false
set_option linter.unusedSimpArgs false

open Classical in
noncomputable def shW (xs : List Abbr) (s : ByteArray) : ByteArray := if h : ∃ r, Ev (fun k => spec_l19Short.F k xs s) r ∧ Ev (fun k => impl_shortWord.F k xs s) r ∧ r.size ≤ 1048576 then h.choose else s
theorem shW_ev (xs : List Abbr) (hs : smalls xs) (s : ByteArray) (h0 : 0 < s.size) (h1 : s.size ≤ 1048576) : Ev (fun k => spec_l19Short.F k xs s) (shW xs s) ∧ Ev (fun k => impl_shortWord.F k xs s) (shW xs s) ∧ (shW xs s).size ≤ 1048576 := by
  have h := short_ev xs hs s h0 h1
  unfold shW
  rw [dif_pos h]
  exact h.choose_spec
end Go.Proofs.YtnffgabfibafjaaDoor
end
