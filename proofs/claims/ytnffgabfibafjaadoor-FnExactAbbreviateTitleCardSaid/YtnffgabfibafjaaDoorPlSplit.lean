/- Plain laws: the pieces of a text between spaces. -/
import Derived.Test.YtnffgabfibafjaaDoorPlAbbr
import Derived.Lib.IndexBytes
import Derived.Lib.IndexLaws
import Derived.Lib.CountLaws
namespace Go.Proofs.YtnffgabfibafjaaDoor
open Go.Gx
set_option linter.unusedVariables false
set_option linter.unusedSimpArgs false

theorem size_app (s t : ByteArray) : (s ++ t).size = s.size + t.size := by
  rw [← L_size, L_append, List.length_append, L_size, L_size]
/-! ### Words -/
theorem sub_tail (s : ByteArray) (st a : Nat) : (s.extract st s.size).extract a (s.extract st s.size).size = s.extract (st + a) s.size := by
  apply L_inj
  have e : (L s).take s.size = L s := List.take_of_length_le (Nat.le_refl _)
  rw [L_extract, L_extract s (st + a), ← L_size (s.extract st s.size), L_extract, List.take_length, List.drop_drop, e]
theorem sub_head (s : ByteArray) (st i : Nat) (h : st ≤ i) (hi : i ≤ s.size) : (s.extract st s.size).extract 0 (i - st) = s.extract st i := by
  apply L_inj
  rw [L_extract, L_extract, L_extract, List.drop_zero, List.take_of_length_le (show (L s).length ≤ s.size from Nat.le_refl _), List.drop_take]
def sp : ByteArray := ⟨#[32]⟩
theorem ib_hit {l : List UInt8} {c : UInt8} {i : Nat} (h : l[i]? = some c) (hn : ∀ j, j < i → l[j]? ≠ some c) : Lib.indexByte l c = i := by
  have hg := Lib.indexByte_ge l c
  by_cases e : Lib.indexByte l c = -1
  · exact absurd h (Lib.indexByte_none e i)
  · obtain ⟨o, ho⟩ : ∃ o : Nat, Lib.indexByte l c = o := ⟨(Lib.indexByte l c).toNat, by omega⟩
    obtain ⟨h1, h2⟩ := Lib.indexByte_some ho
    rcases Nat.lt_trichotomy o i with h3 | h3 | h3
    · exact absurd h1 (hn o h3)
    · rw [ho, h3]
    · exact absurd h (h2 i h3)
theorem ib_miss {l : List UInt8} {c : UInt8} (hn : ∀ j : Nat, l[j]? ≠ some c) : Lib.indexByte l c = -1 := by
  have hg := Lib.indexByte_ge l c
  by_cases e : Lib.indexByte l c = -1
  · exact e
  · obtain ⟨o, ho⟩ : ∃ o : Nat, Lib.indexByte l c = o := ⟨(Lib.indexByte l c).toNat, by omega⟩
    exact absurd (Lib.indexByte_some ho).1 (hn o)
theorem indexB_sp (s : ByteArray) : Lib.indexB s sp = Lib.indexByte (L s) 32 := Lib.one s sp rfl
theorem sub_at (s : ByteArray) (st j : Nat) : (L (s.extract st s.size))[j]? = (L s)[st + j]? := by
  rw [L_extract, List.take_of_length_le (show (L s).length ≤ s.size from Nat.le_refl _), List.getElem?_drop]
def wordsFrom (s : ByteArray) (st : Nat) : List ByteArray := Lib.splitB sp 0 (Lib.countB (s.extract st s.size) sp) (s.extract st s.size)
theorem words_end (s : ByteArray) (st : Nat) (h : ∀ j, st ≤ j → (L s)[j]? ≠ some 32) : wordsFrom s st = [s.extract st s.size] := by
  unfold wordsFrom
  rw [Lib.countB_miss _ _ ((indexB_sp _).trans (ib_miss fun j => by rw [sub_at]; exact h _ (by omega)))]
  rfl
theorem words_hit (s : ByteArray) (st i : Nat) (h1 : st ≤ i) (hi : i < s.size) (hb : (L s)[i]? = some 32) (h : ∀ j, st ≤ j → j < i → (L s)[j]? ≠ some 32) : wordsFrom s st = s.extract st i :: wordsFrom s (i + 1) := by
  have e : Lib.indexB (s.extract st s.size) sp = ((i - st : Nat) : Int) := (indexB_sp _).trans (ib_hit (by rw [sub_at, show st + (i - st) = i by omega]; exact hb) fun j hj => by rw [sub_at]; exact h _ (by omega) (by omega))
  have e1 : sp.size = 1 := rfl
  unfold wordsFrom
  rw [Lib.countB_hit _ _ _ (by rw [e1]; exact Nat.le_refl _) e, Nat.add_comm 1, Lib.splitB_hit _ _ _ _ _ e, Nat.add_zero, sub_head s st i h1 (by omega), e1, sub_tail, show st + (i - st + 1) = i + 1 by omega]
theorem sub_self (s : ByteArray) : s.extract 0 s.size = s := by
  apply L_inj
  rw [L_extract, List.take_of_length_le (show (L s).length ≤ s.size from Nat.le_refl _), List.drop_zero]
def words (s : ByteArray) : List ByteArray := Lib.splitB sp 0 (Lib.countB s sp) s
theorem words_from (s : ByteArray) : wordsFrom s 0 = words s := by unfold wordsFrom words; rw [sub_self]
theorem split_ev (s : ByteArray) (hs : s.size ≤ 4000) : strings_Split.F s ⟨#[32]⟩ = some (words s) := by
  unfold strings_Split.F xSplit
  rw [Nat.ble_eq_true_of_le (by omega)]
  rfl
theorem words_small : ∀ (k : Nat) (s : ByteArray), ∀ x ∈ Lib.splitB sp 0 k s, x.size ≤ s.size
  | 0, s, x, hx => by
    rw [Lib.splitB_zero] at hx
    simp only [List.mem_singleton] at hx
    rw [hx]; exact Nat.le_refl _
  | k + 1, s, x, hx => by
    unfold Lib.splitB at hx
    split at hx
    · simp only [List.mem_singleton] at hx
      rw [hx]; exact Nat.le_refl _
    · rcases List.mem_cons.1 hx with rfl | hx
      · rw [ByteArray.size_extract]; omega
      · have := words_small k _ x hx
        rw [ByteArray.size_extract] at this
        omega
theorem words_len (s : ByteArray) : 1 ≤ (words s).length ∧ (words s).length ≤ s.size + 1 := by
  unfold words
  have h1 : 1 ≤ sp.size := Nat.le_refl 1
  rw [Lib.splitB_all sp h1 0 _ s rfl]
  have := Lib.countB_le sp h1 s.size s (Nat.le_refl _)
  omega

end Go.Proofs.YtnffgabfibafjaaDoor
