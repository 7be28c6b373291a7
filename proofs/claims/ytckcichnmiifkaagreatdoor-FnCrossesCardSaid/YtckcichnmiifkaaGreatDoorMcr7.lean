/- The law FnCrosses returns true for every input, the listed package variables being as the program's text lays it: the card. -/
import Derived.Test.YtckcichnmiifkaaGreatDoorMcr3
import Derived.Lib.IndexBytes
import Derived.Lib.IndexLaws
import Derived.Lib.CountLaws
import Derived.Lib.Split
import Derived.Lib.SplitLaws
import Derived.Lib.TrimByte
import Derived.Lib.Join
import Derived.Test.YtckcichnmiifkaaGreatDoorMcr6
import Derived.Test.YtckcichnmiifkaaGreatDoorCards
import Derived.Test.YtckcichnmiifkaaGreatDoorTie
import Derived.Shelf.Vars
import Derived.WalkKit
import Derived.ProofKit
import Derived.OpenShut
import Derived.Deep.DeepHandedRow
import Derived.Lib.LaidTab
section
namespace Go.Proofs.YtckcichnmiifkaaGreatDoor
open Go.Gx
set_option linter.unusedVariables false
set_option linter.unusedSimpArgs false

theorem getD_at {α : Type} {xs : List α} {i : Nat} (h : i < xs.length) (d : α) : xs.getD i d = xs[i] := by simp [List.getD, List.getElem?_eq_getElem h]
theorem size_pos {s : ByteArray} : (!beqS s ⟨#[]⟩) = decide (0 < s.size) := by
  rw [beqS_eq]
  have : L ⟨#[]⟩ = [] := rfl
  rw [this, ← L_size]
  cases L s <;> rfl
theorem bytesL_len (s : ByteArray) : (bytesL s).length = s.size := by
  simp only [bytesL, List.length_map, Array.length_toList]; rfl
theorem bytesL_map (s : ByteArray) : bytesL s = (L s).map fun b => (b.toNat : Int) := rfl
theorem bt_bytes (s : ByteArray) (i : Nat) (h : i < (bytesL s).length) : bt s i = (bytesL s)[i] := by
  rw [L_bt]
  have h' : i < (L s).length := by simpa [bytesL_map] using h
  simp [bytesL_map, List.getD, h']
theorem all_bytes {s : ByteArray} {i : Nat} (h : i < (bytesL s).length) (p : Int → Bool) : ((bytesL s).drop i).all p = (p (bytesL s)[i] && ((bytesL s).drop (i + 1)).all p) := by
  rw [List.drop_eq_getElem_cons h]; rfl
theorem sub_tail (s : ByteArray) (st a : Nat) : (s.extract st s.size).extract a (s.extract st s.size).size = s.extract (st + a) s.size := by
  apply L_inj
  have e : (L s).take s.size = L s := List.take_of_length_le (Nat.le_refl _)
  rw [L_extract, L_extract s (st + a), ← L_size (s.extract st s.size), L_extract, List.take_length, List.drop_drop, e]
theorem sub_head (s : ByteArray) (st i : Nat) (h : st ≤ i) (hi : i ≤ s.size) : (s.extract st s.size).extract 0 (i - st) = s.extract st i := by
  apply L_inj
  rw [L_extract, L_extract, L_extract, List.drop_zero, List.take_of_length_le (show (L s).length ≤ s.size from Nat.le_refl _), List.drop_take]
def sp : ByteArray := ⟨#[32]⟩
theorem ib_hit {l : List UInt8} {c : UInt8} {i : Nat} (h : l[i]? = some c) (hn : ∀ j, j < i → l[j]? ≠ some c) : Lib.indexByte l c = i := by
  have hg := Lib.indexByte_ge l c
  by_cases e : Lib.indexByte l c = -1
  · exact absurd h (Lib.indexByte_none e i)
  · obtain ⟨o, ho⟩ : ∃ o : Nat, Lib.indexByte l c = o := ⟨(Lib.indexByte l c).toNat, by omega⟩
    obtain ⟨h1, h2⟩ := Lib.indexByte_some ho
    rcases Nat.lt_trichotomy o i with h3 | h3 | h3
    · exact absurd h1 (hn o h3)
    · rw [ho, h3]
    · exact absurd h (h2 i h3)
theorem ib_miss {l : List UInt8} {c : UInt8} (hn : ∀ j : Nat, l[j]? ≠ some c) : Lib.indexByte l c = -1 := by
  have hg := Lib.indexByte_ge l c
  by_cases e : Lib.indexByte l c = -1
  · exact e
  · obtain ⟨o, ho⟩ : ∃ o : Nat, Lib.indexByte l c = o := ⟨(Lib.indexByte l c).toNat, by omega⟩
    exact absurd (Lib.indexByte_some ho).1 (hn o)
theorem indexB_sp (s : ByteArray) : Lib.indexB s sp = Lib.indexByte (L s) 32 := Lib.one s sp rfl
theorem sub_at (s : ByteArray) (st j : Nat) : (L (s.extract st s.size))[j]? = (L s)[st + j]? := by
  rw [L_extract, List.take_of_length_le (show (L s).length ≤ s.size from Nat.le_refl _), List.getElem?_drop]
def wordsFrom (s : ByteArray) (st : Nat) : List ByteArray := Lib.splitB sp 0 (Lib.countB (s.extract st s.size) sp) (s.extract st s.size)
theorem words_end (s : ByteArray) (st : Nat) (h : ∀ j, st ≤ j → (L s)[j]? ≠ some 32) : wordsFrom s st = [s.extract st s.size] := by
  unfold wordsFrom
  rw [Lib.countB_miss _ _ ((indexB_sp _).trans (ib_miss fun j => by rw [sub_at]; exact h _ (by omega)))]
  rfl
theorem words_hit (s : ByteArray) (st i : Nat) (h1 : st ≤ i) (hi : i < s.size) (hb : (L s)[i]? = some 32) (h : ∀ j, st ≤ j → j < i → (L s)[j]? ≠ some 32) : wordsFrom s st = s.extract st i :: wordsFrom s (i + 1) := by
  have e : Lib.indexB (s.extract st s.size) sp = ((i - st : Nat) : Int) := (indexB_sp _).trans (ib_hit (by rw [sub_at, show st + (i - st) = i by omega]; exact hb) fun j hj => by rw [sub_at]; exact h _ (by omega) (by omega))
  have e1 : sp.size = 1 := rfl
  unfold wordsFrom
  rw [Lib.countB_hit _ _ _ (by rw [e1]; exact Nat.le_refl _) e, Nat.add_comm 1, Lib.splitB_hit _ _ _ _ _ e, Nat.add_zero, sub_head s st i h1 (by omega), e1, sub_tail, show st + (i - st + 1) = i + 1 by omega]
theorem sub_self (s : ByteArray) : s.extract 0 s.size = s := by
  apply L_inj
  rw [L_extract, List.take_of_length_le (show (L s).length ≤ s.size from Nat.le_refl _), List.drop_zero]
def words (s : ByteArray) : List ByteArray := Lib.splitB sp 0 (Lib.countB s sp) s
theorem words_from (s : ByteArray) : wordsFrom s 0 = words s := by unfold wordsFrom words; rw [sub_self]
theorem words_small : ∀ (k : Nat) (s : ByteArray), ∀ x ∈ Lib.splitB sp 0 k s, x.size ≤ s.size
  | 0, s, x, hx => by
    rw [Lib.splitB_zero] at hx
    simp only [List.mem_singleton] at hx
    rw [hx]; exact Nat.le_refl _
  | k + 1, s, x, hx => by
    unfold Lib.splitB at hx
    split at hx
    · simp only [List.mem_singleton] at hx
      rw [hx]; exact Nat.le_refl _
    · rcases List.mem_cons.1 hx with rfl | hx
      · rw [ByteArray.size_extract]; omega
      · have := words_small k _ x hx
        rw [ByteArray.size_extract] at this
        omega
theorem words_len (s : ByteArray) : 1 ≤ (words s).length ∧ (words s).length ≤ s.size + 1 := by
  unfold words
  have h1 : 1 ≤ sp.size := Nat.le_refl 1
  rw [Lib.splitB_all sp h1 0 _ s rfl]
  have := Lib.countB_le sp h1 s.size s (Nat.le_refl _)
  omega
theorem dropWhile_self {α : Type} (p : α → Bool) : ∀ l : List α, l.dropWhile p = l ↔ (∀ a, l.head? = some a → p a = false)
  | [] => by simp
  | a :: l => by
    have hl : (l.dropWhile p).length ≤ l.length := (List.dropWhile_sublist p).length_le
    cases h : p a with
    | true =>
      rw [List.dropWhile_cons_of_pos h]
      constructor
      · intro e
        have := congrArg List.length e
        simp at this
        omega
      · intro e
        have := e a rfl
        rw [h] at this; cases this
    | false =>
      rw [List.dropWhile_cons_of_neg (by rw [h]; exact Bool.noConfusion)]
      simp [h]
theorem trimB_self (l : List UInt8) (c : UInt8) : Lib.trimB l c = l ↔ l.head? ≠ some c ∧ l.getLast? ≠ some c := by
  unfold Lib.trimB Lib.trimLeftB Lib.trimRightB
  have h1 : ∀ m : List UInt8, m.dropWhile (· == c) = m ↔ m.head? ≠ some c := fun m => by
    rw [dropWhile_self]
    constructor
    · intro h e; have := h c e; simp at this
    · intro h a e
      have : a ≠ c := fun e' => h (e' ▸ e)
      simpa using this
  constructor
  · intro h
    have h2 : ((l.reverse.dropWhile (· == c)).reverse).length ≤ l.length := by
      have := (List.dropWhile_sublist (p := (· == c)) (l := l.reverse)).length_le
      simpa using this
    have h3 := (List.dropWhile_sublist (p := (· == c)) (l := (l.reverse.dropWhile (· == c)).reverse))
    have h4 : (l.reverse.dropWhile (· == c)).reverse = l := by
      have h5 : (l.reverse.dropWhile (· == c)).reverse.length = l.length := by
        have := h3.length_le
        rw [h] at this
        omega
      have h6 : l.reverse.dropWhile (· == c) = l.reverse := (List.dropWhile_sublist (p := (· == c)) (l := l.reverse)).eq_of_length (by simpa using h5)
      rw [h6, List.reverse_reverse]
    rw [h4] at h
    refine ⟨(h1 l).1 h, ?_⟩
    have h6 : l.reverse.dropWhile (· == c) = l.reverse := by rw [← List.reverse_inj, h4, List.reverse_reverse]
    have := (h1 _).1 h6
    simpa using this
  · rintro ⟨ha, hb⟩
    have h6 : l.reverse.dropWhile (· == c) = l.reverse := (h1 _).2 (by simpa using hb)
    rw [h6, List.reverse_reverse]
    exact (h1 l).2 ha
def vis (lo b : Int) : Bool := decide (lo ≤ b) && decide (b ≤ 126)
theorem bt_sp {s : ByteArray} {i : Nat} (hi : i < s.size) : bt s i = 32 ↔ (L s)[i]? = some 32 := by
  have hi' : i < (L s).length := hi
  have hbt : bt s i = ((L s)[i].toNat : Int) := by rw [L_bt, getD_at hi']
  rw [List.getElem?_eq_getElem hi', hbt]
  have : (32 : UInt8).toNat = 32 := rfl
  constructor
  · intro h
    congr 1
    apply UInt8.toNat_inj.1
    omega
  · intro h
    rw [Option.some.inj h]; rfl
def edge (s : ByteArray) : Bool := (decide (s.size = 0)) || (bt s 0 != 32 && bt s (s.size - 1) != 32)
theorem edge_eq (s : ByteArray) : beqS ⟨(Lib.trimB (L s) 32).toArray⟩ s = edge s := by
  rw [Bool.eq_iff_iff, beqS_iff]
  have h1 : (⟨(Lib.trimB (L s) 32).toArray⟩ : ByteArray) = s ↔ Lib.trimB (L s) 32 = L s := by
    constructor
    · intro h
      have := congrArg L h
      rwa [L_mk] at this
    · intro h
      apply L_inj
      rw [L_mk, h]
  rw [h1, trimB_self]
  unfold edge
  by_cases hz : s.size = 0
  · have : L s = [] := List.eq_nil_of_length_eq_zero hz
    rw [this]
    simp [hz]
  · have h2 : (L s).head? = (L s)[0]? := List.head?_eq_getElem?
    have h3 : (L s).getLast? = (L s)[s.size - 1]? := by rw [List.getLast?_eq_getElem?]; rfl
    rw [h2, h3, Bool.or_eq_true, decide_eq_true_eq, Bool.and_eq_true, bne_iff_ne, bne_iff_ne, Ne, Ne, Ne, Ne, bt_sp (by omega), bt_sp (by omega)]
    simp [hz]
def pos (s : ByteArray) : Bool := decide (0 < s.size)
theorem room_s {n : Nat} (h : n ≤ 8192) : room n .str = true := by
  unfold room
  rw [Nat.ble_eq]
  have : nb .str = 16 := rfl
  rw [this]
  omega
/-! ### A list, changed from its begin -/
def ms {α : Type} (f : α → α) (W : List α) (i : Nat) : List α := (W.take i).map f ++ W.drop i
section
variable {α : Type} (f : α → α) (W : List α)
end
end Go.Proofs.YtckcichnmiifkaaGreatDoor
end
section
/- Plain laws: texts of an entry. -/
namespace Go.Proofs.YtckcichnmiifkaaGreatDoor
open Go.Gx
set_option linter.unusedVariables false
set_option linter.unusedSimpArgs false

theorem edge_trim (s : ByteArray) (hs : s.size ≤ 1048576) : strings_Trim.F s ⟨#[32]⟩ = some ⟨(Lib.trimB (L s) 32).toArray⟩ := by
  unfold strings_Trim.F xTrim1
  rw [Nat.ble_eq_true_of_le (by omega)]
  rfl
theorem specText_l0 (s : ByteArray) (hs : s.size ≤ 1048576) : ∀ n i : Nat, i + n = s.size → Ev (fun k => spec_l4Text.l0 k s i) (if ((bytesL s).drop i).all (vis 32) = true then .inr s else .inl false)
  | 0, i, h => by
    refine Ev.step (fun k => by rw [spec_l4Text.l0]) ?_
    simp (disch := omega) only [cneg]
    rw [List.drop_eq_nil_of_le (by rw [bytesL_len]; omega)]
    exact Ev.pure _
  | n + 1, i, h => by
    have hl := bytesL_len s
    have hi : i < (bytesL s).length := by omega
    refine Ev.step (fun k => by rw [spec_l4Text.l0]) ?_
    simp (disch := omega) only [cpos, Int.toNat_natCast, bt_bytes s i hi]
    rw [all_bytes hi]
    unfold vis
    by_cases c1 : (bytesL s)[i] < 32
    · simp (disch := omega) only [cpos, dneg, Bool.false_and]; exact Ev.pure _
    · by_cases c2 : (bytesL s)[i] > 126
      · simp (disch := omega) only [cpos, cneg, dneg, Bool.and_false, Bool.false_and]; exact Ev.pure _
      · simp (disch := omega) only [cpos, cneg, dpos, Bool.and_self, Bool.true_and, wrap_in]
        exact specText_l0 s hs n (i + 1) (by omega)
theorem isPrint_l0 (s : ByteArray) (hs : s.size ≤ 1048576) : ∀ n i : Nat, i + n = s.size → Ev (fun k => impl_isPrintable.l0 k s i) (if ((bytesL s).drop i).all (vis 32) = true then .inr s else .inl false)
  | 0, i, h => by
    refine Ev.step (fun k => by rw [impl_isPrintable.l0]) ?_
    simp (disch := omega) only [cneg]
    rw [List.drop_eq_nil_of_le (by rw [bytesL_len]; omega)]
    exact Ev.pure _
  | n + 1, i, h => by
    have hl := bytesL_len s
    have hi : i < (bytesL s).length := by omega
    refine Ev.step (fun k => by rw [impl_isPrintable.l0]) ?_
    simp (disch := omega) only [cpos, Int.toNat_natCast, bt_bytes s i hi]
    rw [all_bytes hi]
    unfold vis
    by_cases c1 : (bytesL s)[i] < 32
    · simp (disch := omega) only [cpos, dneg, Bool.false_and]; exact Ev.pure _
    · by_cases c2 : (bytesL s)[i] > 126
      · simp (disch := omega) only [cpos, cneg, dneg, Bool.and_false, Bool.false_and]; exact Ev.pure _
      · simp (disch := omega) only [cpos, cneg, dpos, Bool.and_self, Bool.true_and, wrap_in]
        exact isPrint_l0 s hs n (i + 1) (by omega)
def textB (s : ByteArray) : Bool := decide (s.size ≤ 40) && ((bytesL s).all (vis 32) && edge s)
theorem specText_ev (s : ByteArray) : Ev (fun k => spec_l4Text.F k s) (textB s) := by
  unfold spec_l4Text.F textB
  by_cases c : (s.size : Int) > 40
  · simp (disch := omega) only [cpos, dneg, Bool.false_and]
    exact Ev.pure _
  · simp (disch := omega) only [cneg, dpos, Bool.true_and]
    have := specText_l0 s (by omega) s.size 0 (by omega)
    rw [List.drop_zero] at this
    cases h : (bytesL s).all (vis 32) with
    | false => rw [h] at this; exact Ev.bind this (Ev.pure _)
    | true =>
      rw [h] at this
      refine Ev.bind (a := .inr s) this ?_
      dsimp only
      have he : beqS s ⟨#[]⟩ = decide (s.size = 0) := by
        rw [← Bool.not_not (b := beqS s ⟨#[]⟩), size_pos]
        by_cases hz : s.size = 0
        · simp [hz]
        · rw [decide_eq_true (by omega : 0 < s.size), decide_eq_false hz]; rfl
      rw [he]
      unfold edge
      by_cases hz : s.size = 0
      · rw [decide_eq_true hz]; exact Ev.pure _
      · rw [decide_eq_false hz]
        simp (disch := omega) only [cond_false, cond_true, cpos, wrap_in]
        rw [show ((s.size : Int) - 1).toNat = s.size - 1 by omega, show (0 : Int).toNat = 0 from rfl, Bool.false_or, Bool.true_and]
        cases (bt s 0 != 32) with
        | true => exact Ev.pure _
        | false => exact Ev.pure _
theorem isText_ev (s : ByteArray) : Ev (fun k => impl_isText.F k s) (textB s) := by
  unfold impl_isText.F textB
  by_cases c : (s.size : Int) ≤ 40
  · simp (disch := omega) only [cpos, dpos, Bool.true_and]
    refine Ev.bind ?_ (Ev.pure _)
    unfold impl_isPrintable.F
    have := isPrint_l0 s (by omega) s.size 0 (by omega)
    rw [List.drop_zero] at this
    cases h : (bytesL s).all (vis 32) with
    | false => rw [h] at this; exact Ev.bind this (Ev.pure _)
    | true =>
      rw [h] at this
      refine Ev.bind (a := .inr s) this ?_
      dsimp only
      refine Ev.bind0 (edge_trim s (by omega)) ?_
      simp only [edge_eq, Bool.true_and]
      exact Ev.pure _
  · simp (disch := omega) only [cneg, dneg, Bool.false_and]
    exact Ev.pure _
end Go.Proofs.YtckcichnmiifkaaGreatDoor
end
section
/- Plain laws: a text split at its spaces. -/
namespace Go.Proofs.YtckcichnmiifkaaGreatDoor
open Go.Gx
set_option linter.unusedVariables false
set_option linter.unusedSimpArgs false

theorem split_ev (s : ByteArray) (hs : s.size ≤ 1048576) : strings_Split.F s ⟨#[32]⟩ = some (words s) := by
  unfold strings_Split.F xSplit
  rw [Nat.ble_eq_true_of_le (by omega)]
  rfl
end Go.Proofs.YtckcichnmiifkaaGreatDoor
end
section
/- Plain laws: a text split at its spaces, the other way. -/
namespace Go.Proofs.YtckcichnmiifkaaGreatDoor
open Go.Gx
set_option linter.unusedVariables false
set_option linter.unusedSimpArgs false

theorem split_l0 (s : ByteArray) (hs : s.size ≤ 1048576) : ∀ n i : Nat, i + n = s.size → ∀ st : Nat, st ≤ i → (∀ j, st ≤ j → j < i → (L s)[j]? ≠ some 32) → ∀ acc : List ByteArray, acc.length ≤ i →
    ∃ acc' st', Ev (fun k => spec_l1Split.l0 k s 32 acc st i) (s, acc', ((st' : Nat) : Int)) ∧ st' ≤ s.size ∧ acc'.length ≤ s.size ∧ acc' ++ [s.extract st' s.size] = acc ++ wordsFrom s st
  | 0, i, h, st, h1, hn, acc, ha => by
    refine ⟨acc, st, Ev.step (fun k => by rw [spec_l1Split.l0]) ?_, by omega, by omega, ?_⟩
    · simp (disch := omega) only [cneg]
      exact Ev.pure _
    · rw [words_end s st fun j hj => ?_]
      by_cases hj2 : j < i
      · exact hn j hj hj2
      · rw [List.getElem?_eq_none (by rw [L_size]; omega)]; exact fun h => by cases h
  | n + 1, i, h, st, h1, hn, acc, ha => by
    have hi : i < (L s).length := by rw [L_size]; omega
    have hbt : bt s i = ((L s)[i].toNat : Int) := by rw [L_bt, getD_at hi]
    by_cases c : bt s i = 32
    · have hb : (L s)[i]? = some 32 := by
        rw [List.getElem?_eq_getElem hi]
        congr 1
        apply UInt8.toNat_inj.1
        have : (32 : UInt8).toNat = 32 := rfl
        omega
      obtain ⟨acc', st', r1, r2, r3, r4⟩ := split_l0 s hs n (i + 1) (by omega) (i + 1) (Nat.le_refl _) (fun j h1 h2 => by omega) (acc ++ [s.extract st i]) (by simp; omega)
      refine ⟨acc', st', Ev.step (fun k => by rw [spec_l1Split.l0]) ?_, r2, r3, ?_⟩
      · have hr : room (acc.length + ([s.extract st i] : List ByteArray).length) .str = true := by
          unfold room
          rw [Nat.ble_eq]
          have : nb .str = 16 := rfl
          rw [this]
          simp; omega
        simp (disch := omega) only [cpos, Int.toNat_natCast, ceq, hr, cond_true, wrap_in]
        exact r1
      · rw [r4, words_hit s st i h1 (by omega) hb hn]; simp
    · obtain ⟨acc', st', r1, r2, r3, r4⟩ := split_l0 s hs n (i + 1) (by omega) st (by omega) (fun j h1 h2 => by
        rcases Nat.lt_or_ge j i with h3 | h3
        · exact hn j h1 h3
        · obtain rfl : j = i := by omega
          rw [List.getElem?_eq_getElem hi]
          intro e
          apply c
          rw [hbt, Option.some.inj e]; rfl) acc (by omega)
      refine ⟨acc', st', Ev.step (fun k => by rw [spec_l1Split.l0]) ?_, r2, r3, r4⟩
      simp (disch := omega) only [cpos, Int.toNat_natCast, cne, wrap_in]
      exact r1
theorem specSplit_ev (s : ByteArray) (hs : s.size ≤ 1048576) : Ev (fun k => spec_l1Split.F k s 32) (words s) := by
  unfold spec_l1Split.F
  obtain ⟨acc', st', r1, r2, r3, r4⟩ := split_l0 s hs s.size 0 (by omega) 0 (Nat.le_refl _) (fun j h1 h2 => by omega) [] (Nat.le_refl _)
  refine Ev.bind r1 ?_
  have hr : room (acc'.length + ([s.extract st' s.size] : List ByteArray).length) .str = true := by
    unfold room
    rw [Nat.ble_eq]
    have : nb .str = 16 := rfl
    rw [this]
    simp; omega
  simp (disch := omega) only [cpos, Int.toNat_natCast, hr, cond_true, r4, words_from, List.nil_append]
  exact Ev.pure _
end Go.Proofs.YtckcichnmiifkaaGreatDoor
end
section
/- Plain laws: lists of texts: size, copy, equality. -/
namespace Go.Proofs.YtckcichnmiifkaaGreatDoor
open Go.Gx
set_option linter.unusedVariables false
set_option linter.unusedSimpArgs false

def totS (xs : List ByteArray) : Nat := (xs.map ByteArray.size).sum
end Go.Proofs.YtckcichnmiifkaaGreatDoor
end
section
/- Plain laws: names, entries, libraries: size, copy, equality. -/
namespace Go.Proofs.YtckcichnmiifkaaGreatDoor
open Go.Gx
set_option linter.unusedVariables false
set_option linter.unusedSimpArgs false

def totN (n : Name) : Nat := n.given.length + totS n.given + n.particle.size + n.family.size + n.suffix.size
def totNs (xs : List Name) : Nat := xs.length + (xs.map totN).sum
def totE (e : Entry) : Nat := e.key.size + totNs e.authors + totNs e.editors + e.title.size + e.container.size + e.publisher.size + e.pages.size + e.cross.size
def totEs (xs : List Entry) : Nat := xs.length + (xs.map totE).sum
theorem sum_mem {α : Type} (f : α → Nat) {xs : List α} {x : α} (h : x ∈ xs) : f x ≤ (xs.map f).sum := by
  induction xs with
  | nil => cases h
  | cons b l ih =>
    simp only [List.map_cons, List.sum_cons]
    rcases List.mem_cons.1 h with rfl | h
    · omega
    · have := ih h; omega
def smallN (n : Name) : Prop := totN n ≤ 1048576
def smallE (e : Entry) : Prop := totE e ≤ 1048576
def smallL (l : Library) : Prop := totEs l.entries ≤ 1048576
theorem smallL_at {l : Library} (h : smallL l) {e : Entry} (he : e ∈ l.entries) : smallE e := by
  have := sum_mem totE he
  unfold smallL totEs at h
  unfold smallE
  omega
theorem smallNs_at {xs : List Name} (h : totNs xs ≤ 1048576) {n : Name} (hn : n ∈ xs) : smallN n := by
  have := sum_mem totN hn
  unfold totNs at h
  unfold smallN
  omega
theorem smallE_a {e : Entry} (h : smallE e) : totNs e.authors ≤ 1048576 := by unfold smallE totE at h; omega
theorem smallE_e {e : Entry} (h : smallE e) : totNs e.editors ≤ 1048576 := by unfold smallE totE at h; omega
theorem smallNs_len {xs : List Name} (h : totNs xs ≤ 1048576) : xs.length ≤ 1048576 := by unfold totNs at h; omega
theorem smallL_len {l : Library} (h : smallL l) : l.entries.length ≤ 1048576 := by unfold smallL totEs at h; omega
/-! ### Copies -/
/-! ### Equality -/
end Go.Proofs.YtckcichnmiifkaaGreatDoor
end
section
/- Plain laws: slices.IndexFunc, slices.DeleteFunc, as they are printed for a function value. -/
namespace Go.Gx
set_option linter.unusedVariables false
set_option linter.unusedSimpArgs false

section
variable {α : Type} {d : α} {p : α → Bool} {q : Nat → α → Option Bool} {xs : List α}
theorem getDat {α : Type} {xs : List α} {i : Nat} (h : i < xs.length) (d : α) : xs.getD i d = xs[i] := by simp [List.getD, List.getElem?_eq_getElem h]
theorem idx_l0 {l0 : Nat → List α → Int → Int → Option (Sum Int Unit)} (H : ∀ k x0 x7 x8, l0 (k + 1) x0 x7 x8 = bif (decide (x8 < x7)) then (bif decide (0 ≤ x8) then (bif decide (x8 < (x0.length : Int)) then ((q k (x0.getD (x8 : Int).toNat d)).bind fun r1 => bif r1 then (some (.inl x8)) else (l0 k x0 x7 (IntKind.wrap .i64 (x8 + 1)))) else none) else none) else (some (.inr ())))
    (hq : ∀ x, x ∈ xs → Ev (fun k => q k x) (p x)) (hl : xs.length ≤ 4611686018427387904) : ∀ n i : Nat, i + n = xs.length → (∀ x ∈ xs.take i, p x = false) →
    ∃ r, Ev (fun k => l0 k xs xs.length i) r ∧ ((r = .inr () ∧ ∀ x ∈ xs, p x = false) ∨ ∃ j : Nat, r = .inl j ∧ j < xs.length ∧ p (xs.getD j d) = true ∧ ∀ x ∈ xs.take j, p x = false)
  | 0, i, h, ht => by
    refine ⟨.inr (), Ev.step (fun k => by rw [H]) ?_, .inl ⟨rfl, by rw [List.take_of_length_le (by omega)] at ht; exact ht⟩⟩
    simp (disch := omega) only [cneg]
    exact Ev.pure _
  | n + 1, i, h, ht => by
    have hi : i < xs.length := by omega
    cases hp : p xs[i] with
    | true =>
      refine ⟨.inl i, Ev.step (fun k => by rw [H]) ?_, .inr ⟨i, rfl, hi, by rw [getDat hi, hp], ht⟩⟩
      simp (disch := omega) only [cpos, Int.toNat_natCast, getDat hi]
      refine Ev.bind (hq _ (List.getElem_mem hi)) ?_
      rw [hp]
      exact Ev.pure _
    | false =>
      obtain ⟨r, h1, h2⟩ := idx_l0 H hq hl n (i + 1) (by omega) (by
        intro x hx
        rw [List.take_add_one, List.getElem?_eq_getElem hi] at hx
        rcases List.mem_append.1 hx with hx | hx
        · exact ht x hx
        · simp only [Option.toList_some, List.mem_singleton] at hx
          rw [hx, hp])
      refine ⟨r, Ev.step (fun k => by rw [H]) ?_, h2⟩
      simp (disch := omega) only [cpos, Int.toNat_natCast, getDat hi]
      refine Ev.bind (hq _ (List.getElem_mem hi)) ?_
      rw [hp]
      simp (disch := omega) only [cond_false, wrap_in]
      exact h1
theorem idx_ev {l0 : Nat → List α → Int → Int → Option (Sum Int Unit)} (H : ∀ k x0 x7 x8, l0 (k + 1) x0 x7 x8 = bif (decide (x8 < x7)) then (bif decide (0 ≤ x8) then (bif decide (x8 < (x0.length : Int)) then ((q k (x0.getD (x8 : Int).toNat d)).bind fun r1 => bif r1 then (some (.inl x8)) else (l0 k x0 x7 (IntKind.wrap .i64 (x8 + 1)))) else none) else none) else (some (.inr ())))
    (hq : ∀ x, x ∈ xs → Ev (fun k => q k x) (p x)) (hl : xs.length ≤ 4611686018427387904) {F : Nat → List α → Option Int} (HF : ∀ k a0, F k a0 = (l0 k a0 (a0.length : Int) 0).bind fun y2 => match y2 with | .inl z3 => some z3 | .inr z3 => some (-1)) :
    ∃ r, Ev (fun k => F k xs) r ∧ ((r = -1 ∧ ∀ x ∈ xs, p x = false) ∨ ∃ j : Nat, r = j ∧ j < xs.length ∧ p (xs.getD j d) = true ∧ ∀ x ∈ xs.take j, p x = false) := by
  obtain ⟨r, h1, h2⟩ := idx_l0 H hq hl xs.length 0 (by omega) (fun x hx => by simp at hx)
  rcases h2 with ⟨rfl, h2⟩ | ⟨j, rfl, h2⟩
  · exact ⟨-1, Ev.congr (Ev.bind h1 (Ev.pure _)) (fun k => HF k xs), .inl ⟨rfl, h2⟩⟩
  · exact ⟨j, Ev.congr (Ev.bind h1 (Ev.pure _)) (fun k => HF k xs), .inr ⟨j, rfl, h2⟩⟩
end
end Go.Gx
end
section
/- Plain laws: keys, names, dates, entries, libraries: are they valid? -/
namespace Go.Proofs.YtckcichnmiifkaaGreatDoor
open Go.Gx
set_option linter.unusedVariables false
set_option linter.unusedSimpArgs false

theorem in_ev (a b c : Int) : spec_l1In.F a b c = some (decide (a ≥ b) && decide (a ≤ c)) := by
  unfold spec_l1In.F
  cases decide (a ≥ b) <;> rfl
theorem inside_ev (a b c : Int) : impl_inside.F a b c = some (decide (a ≥ b) && decide (a ≤ c)) := by
  unfold impl_inside.F
  cases decide (a ≥ b) <;> rfl
theorem and_step {f : Nat → Option Bool} {b c : Bool} (h : b = true → Ev f c) : Ev (fun k => bif (!b) then some false else f k) (b && c) := by
  cases b with
  | false => exact Ev.pure _
  | true => exact h rfl
theorem and_step' {f : Nat → Option Bool} {b c : Bool} (h : b = true → Ev f c) : Ev (fun k => bif b then f k else some false) (b && c) := by
  cases b with
  | false => exact Ev.pure _
  | true => exact h rfl
/-! ### Bytes -/
def lowc (b : Int) : Bool := decide (97 ≤ b) && decide (b ≤ 122)
def upc (b : Int) : Bool := decide (65 ≤ b) && decide (b ≤ 90)
def ltr (b : Int) : Bool := upc b || lowc b
def dig (b : Int) : Bool := decide (48 ≤ b) && decide (b ≤ 57)
theorem sLower (b : Int) : spec_l2Lower.F b = some (lowc b) := by
  unfold spec_l2Lower.F lowc
  simp only [ge_iff_le]
  cases decide (97 ≤ b) <;> rfl
theorem sUpper (b : Int) : spec_l2Upper.F b = some (upc b) := by
  unfold spec_l2Upper.F upc
  simp only [ge_iff_le]
  cases decide (65 ≤ b) <;> rfl
theorem sLetter (b : Int) : spec_l2Letter.F b = some (ltr b) := by
  unfold spec_l2Letter.F ltr
  rw [sUpper, sLower]
  cases upc b <;> rfl
theorem iLower (b : Int) : impl_isLower.F b = some (lowc b) := by
  unfold impl_isLower.F lowc
  simp only [ge_iff_le]
  cases decide (97 ≤ b) <;> rfl
theorem iUpper (b : Int) : impl_isUpper.F b = some (upc b) := by
  unfold impl_isUpper.F upc
  simp only [ge_iff_le]
  cases decide (65 ≤ b) <;> rfl
theorem iLetter (b : Int) : impl_isLetter.F b = some (ltr b) := by
  unfold impl_isLetter.F ltr
  rw [iUpper, iLower]
  cases upc b <;> rfl
theorem iDigit (b : Int) : impl_isDigit.F b = some (dig b) := by
  unfold impl_isDigit.F dig
  simp only [ge_iff_le]
  cases decide (48 ≤ b) <;> rfl
def ins (n : Nat) (lo hi : Int) : Bool := decide ((n : Int) ≥ lo) && decide ((n : Int) ≤ hi)
theorem ins_le {n : Nat} {lo hi : Int} (h : ins n lo hi = true) : lo ≤ n ∧ (n : Int) ≤ hi := by
  unfold ins at h
  simp only [Bool.and_eq_true, decide_eq_true_eq] at h
  exact h

/-! ### Keys -/
def kb (s : ByteArray) (i : Nat) : Bool := lowc (bt s i) || dig (bt s i)
def keyB (s : ByteArray) : Bool := ins s.size 1 10 && (lowc (bt s 0) && (List.range' 0 s.size).all (kb s))
theorem specKey_l0 (s : ByteArray) (hs : s.size ≤ 10) : Ev (fun k => spec_l4Key.l0 k s ((0 : Nat) : Int)) (if (List.range' 0 s.size).all (kb s) = true then .inr () else .inl false) := by
  refine loop_all (f := fun k i => spec_l4Key.l0 k s i) (n := s.size) (fun i hi hp => ?_) (fun i r hi hp ih => ?_) ?_ s.size 0 (by omega)
  · refine Ev.step (fun k => by rw [spec_l4Key.l0]) ?_
    unfold kb at hp
    rw [Bool.or_eq_false_iff] at hp
    simp (disch := omega) only [cpos, Int.toNat_natCast]
    refine Ev.bind0 (sLower _) ?_
    rw [hp.1]
    have h2 := hp.2
    unfold dig at h2
    by_cases c : bt s i < 48
    · simp (disch := omega) only [cpos, Bool.not_false, cond_true]
      exact Ev.pure _
    · have c2 : bt s i > 57 := by
        rw [decide_eq_true (show 48 ≤ bt s i by omega), Bool.true_and, decide_eq_false_iff_not] at h2
        omega
      simp (disch := omega) only [cpos, cneg, Bool.not_false, cond_true]
      exact Ev.pure _
  · refine Ev.step (fun k => by rw [spec_l4Key.l0]) ?_
    simp (disch := omega) only [cpos, Int.toNat_natCast]
    refine Ev.bind0 (sLower _) ?_
    cases hl : lowc (bt s i) with
    | true =>
      simp (disch := omega) only [Bool.not_true, cond_false, wrap_in]
      exact ih
    | false =>
      unfold kb at hp
      rw [hl, Bool.false_or] at hp
      unfold dig at hp
      simp only [Bool.and_eq_true, decide_eq_true_eq] at hp
      simp (disch := omega) only [Bool.not_false, cond_true, cpos, cneg, wrap_in]
      exact ih
  · refine Ev.step (fun k => by rw [spec_l4Key.l0]) ?_
    simp (disch := omega) only [cneg]
    exact Ev.pure _
theorem isKey_l0 (s : ByteArray) (hs : s.size ≤ 10) : Ev (fun k => impl_isKey.l0 k s ((0 : Nat) : Int)) (if (List.range' 0 s.size).all (kb s) = true then .inr () else .inl false) := by
  refine loop_all (f := fun k i => impl_isKey.l0 k s i) (n := s.size) (fun i hi hp => ?_) (fun i r hi hp ih => ?_) ?_ s.size 0 (by omega)
  · refine Ev.step (fun k => by rw [impl_isKey.l0]) ?_
    unfold kb at hp
    rw [Bool.or_eq_false_iff] at hp
    simp (disch := omega) only [cpos, Int.toNat_natCast]
    refine Ev.bind0 (iLower _) ?_
    rw [hp.1]
    simp (disch := omega) only [Bool.not_false, cond_true, cpos]
    refine Ev.bind0 (iDigit _) ?_
    rw [hp.2]
    exact Ev.pure _
  · refine Ev.step (fun k => by rw [impl_isKey.l0]) ?_
    simp (disch := omega) only [cpos, Int.toNat_natCast]
    refine Ev.bind0 (iLower _) ?_
    cases hl : lowc (bt s i) with
    | true =>
      simp (disch := omega) only [Bool.not_true, cond_false, wrap_in]
      exact ih
    | false =>
      unfold kb at hp
      rw [hl, Bool.false_or] at hp
      simp (disch := omega) only [Bool.not_false, cond_true, cpos]
      refine Ev.bind0 (iDigit _) ?_
      rw [hp]
      simp (disch := omega) only [Bool.not_true, cond_false, wrap_in]
      exact ih
  · refine Ev.step (fun k => by rw [impl_isKey.l0]) ?_
    simp (disch := omega) only [cneg]
    exact Ev.pure _
theorem specKey_ev (s : ByteArray) : Ev (fun k => spec_l4Key.F k s) (keyB s) := by
  unfold spec_l4Key.F keyB
  refine Ev.bind0 (in_ev _ _ _) (and_step fun h => ?_)
  obtain ⟨h1, h2⟩ := ins_le h
  simp (disch := omega) only [cpos, show (0 : Int).toNat = 0 from rfl]
  refine Ev.bind0 (sLower _) (and_step fun _ => ?_)
  have := specKey_l0 s (by omega)
  cases ha : (List.range' 0 s.size).all (kb s) with
  | true => rw [ha] at this; exact Ev.bind this (Ev.pure _)
  | false => rw [ha] at this; exact Ev.bind this (Ev.pure _)
theorem isKey_ev (s : ByteArray) : Ev (fun k => impl_isKey.F k s) (keyB s) := by
  unfold impl_isKey.F keyB
  refine Ev.bind0 (inside_ev _ _ _) (and_step fun h => ?_)
  obtain ⟨h1, h2⟩ := ins_le h
  simp (disch := omega) only [cpos, show (0 : Int).toNat = 0 from rfl]
  refine Ev.bind0 (iLower _) (and_step fun _ => ?_)
  have := isKey_l0 s (by omega)
  cases ha : (List.range' 0 s.size).all (kb s) with
  | true => rw [ha] at this; exact Ev.bind this (Ev.pure _)
  | false => rw [ha] at this; exact Ev.bind this (Ev.pure _)

/-! ### Words of names -/
def wp (s : ByteArray) (i : Nat) : Bool := ltr (bt s i) || ((bt s i == 45 || bt s i == 39) && ltr (bt s (i - 1)))
def wordB (s : ByteArray) : Bool := ins s.size 1 12 && (ltr (bt s 0) && (ltr (bt s (s.size - 1)) && (List.range' 1 (s.size - 1)).all (wp s)))
theorem wcase {s : ByteArray} {i : Nat} (h : ltr (bt s i) = false) (h1 : bt s i ≠ 45) (h2 : bt s i ≠ 39) : wp s i = false := by
  unfold wp
  rw [h, show (bt s i == 45) = false by simpa using h1, show (bt s i == 39) = false by simpa using h2]; rfl
theorem wcase' {s : ByteArray} {i : Nat} (h : ltr (bt s i) = false) (h1 : bt s i = 45 ∨ bt s i = 39) : wp s i = ltr (bt s (i - 1)) := by
  unfold wp
  rw [h]
  rcases h1 with h1 | h1 <;> rw [h1] <;> simp
theorem specWord_l0 (s : ByteArray) (hs : s.size ≤ 12) : ∀ m i : Nat, i + m = s.size → 1 ≤ i → Ev (fun k => spec_l2Word.l0 k s i) (if (List.range' i m).all (wp s) = true then .inr () else .inl false)
  | 0, i, h, h1 => by
    refine Ev.step (fun k => by rw [spec_l2Word.l0]) ?_
    simp (disch := omega) only [cneg]
    exact Ev.pure _
  | m + 1, i, h, h1 => by
    have ih := specWord_l0 s hs m (i + 1) (by omega) (by omega)
    have et : ((i : Int) - 1).toNat = i - 1 := by omega
    refine Ev.step (fun k => by rw [spec_l2Word.l0]) ?_
    rw [List.range'_succ, List.all_cons]
    simp (disch := omega) only [cpos, Int.toNat_natCast]
    refine Ev.bind0 (sLetter _) ?_
    cases hl : ltr (bt s i) with
    | true =>
      have : wp s i = true := by unfold wp; rw [hl]; rfl
      rw [this]
      simp (disch := omega) only [Bool.not_true, cond_false, Bool.true_and, wrap_in]
      exact ih
    | false =>
      have fin : (bt s i = 45 ∨ bt s i = 39) → Ev (fun k => (spec_l2Letter.F (bt s (i - 1))).bind fun r5 => bif (!r5) then (some (.inl false)) else (spec_l2Word.l0 k s ((i : Int) + 1))) (if (wp s i && (List.range' (i + 1) m).all (wp s)) = true then .inr () else .inl false) := fun hh => by
        refine Ev.bind0 (sLetter _) ?_
        rw [wcase' hl hh]
        cases ltr (bt s (i - 1)) with
        | true => exact ih
        | false => exact Ev.pure _
      by_cases c1 : bt s i = 45
      · simp (disch := first | exact c1 | omega) only [Bool.not_false, cond_true, cpos, cbeq, wrap_in, et]
        exact fin (.inl c1)
      · by_cases c2 : bt s i = 39
        · simp (disch := first | exact c1 | exact c2 | omega) only [Bool.not_false, cond_true, cpos, cbne, cbeq, wrap_in, et]
          exact fin (.inr c2)
        · rw [wcase hl c1 c2]
          simp (disch := first | exact c1 | exact c2 | omega) only [Bool.not_false, cond_true, cpos, cbne]
          exact Ev.pure _
theorem isWord_l0 (s : ByteArray) (hs : s.size ≤ 12) : ∀ m i : Nat, i + m = s.size → 1 ≤ i → Ev (fun k => impl_isNameWord.l0 k s i) (if (List.range' i m).all (wp s) = true then .inr () else .inl false)
  | 0, i, h, h1 => by
    refine Ev.step (fun k => by rw [impl_isNameWord.l0]) ?_
    simp (disch := omega) only [cneg]
    exact Ev.pure _
  | m + 1, i, h, h1 => by
    have ih := isWord_l0 s hs m (i + 1) (by omega) (by omega)
    have et : ((i : Int) - 1).toNat = i - 1 := by omega
    refine Ev.step (fun k => by rw [impl_isNameWord.l0]) ?_
    rw [List.range'_succ, List.all_cons]
    simp (disch := omega) only [cpos, Int.toNat_natCast]
    refine Ev.bind0 (iLetter _) ?_
    cases hl : ltr (bt s i) with
    | true =>
      have : wp s i = true := by unfold wp; rw [hl]; rfl
      rw [this]
      simp (disch := omega) only [Bool.not_true, cond_false, Bool.true_and, wrap_in]
      exact ih
    | false =>
      have fin : (bt s i = 45 ∨ bt s i = 39) → Ev (fun k => (impl_isLetter.F (bt s (i - 1))).bind fun r5 => bif (!r5) then (some (.inl false)) else (impl_isNameWord.l0 k s ((i : Int) + 1))) (if (wp s i && (List.range' (i + 1) m).all (wp s)) = true then .inr () else .inl false) := fun hh => by
        refine Ev.bind0 (iLetter _) ?_
        rw [wcase' hl hh]
        cases ltr (bt s (i - 1)) with
        | true => exact ih
        | false => exact Ev.pure _
      by_cases c1 : bt s i = 45
      · simp (disch := first | exact c1 | omega) only [Bool.not_false, cond_true, cpos, cbeq, wrap_in, et]
        exact fin (.inl c1)
      · by_cases c2 : bt s i = 39
        · simp (disch := first | exact c1 | exact c2 | omega) only [Bool.not_false, cond_true, cpos, cbne, cbeq, wrap_in, et]
          exact fin (.inr c2)
        · rw [wcase hl c1 c2]
          simp (disch := first | exact c1 | exact c2 | omega) only [Bool.not_false, cond_true, cpos, cbne]
          exact Ev.pure _
theorem specWord_ev (s : ByteArray) : Ev (fun k => spec_l2Word.F k s) (wordB s) := by
  unfold spec_l2Word.F wordB
  refine Ev.bind0 (in_ev _ _ _) (and_step fun h => ?_)
  obtain ⟨h1, h2⟩ := ins_le h
  have et : ((s.size : Int) - 1).toNat = s.size - 1 := by omega
  simp (disch := omega) only [cpos, show (0 : Int).toNat = 0 from rfl, wrap_in, et]
  refine Ev.bind0 (sLetter _) (and_step fun _ => ?_)
  refine Ev.bind0 (sLetter _) (and_step fun _ => ?_)
  have := specWord_l0 s (by omega) (s.size - 1) 1 (by omega) (Nat.le_refl _)
  cases ha : (List.range' 1 (s.size - 1)).all (wp s) with
  | true => rw [ha] at this; exact Ev.bind this (Ev.pure _)
  | false => rw [ha] at this; exact Ev.bind this (Ev.pure _)
theorem isWord_ev (s : ByteArray) : Ev (fun k => impl_isNameWord.F k s) (wordB s) := by
  unfold impl_isNameWord.F wordB
  refine Ev.bind0 (inside_ev _ _ _) (and_step fun h => ?_)
  obtain ⟨h1, h2⟩ := ins_le h
  have et : ((s.size : Int) - 1).toNat = s.size - 1 := by omega
  simp (disch := omega) only [cpos, show (0 : Int).toNat = 0 from rfl, wrap_in, et]
  refine (Ev.bind0 (iLetter _) (and_step (c := ltr (bt s 0) && (List.range' 1 (s.size - 1)).all (wp s)) fun _ => ?_)).eq (Bool.and_left_comm _ _ _)
  refine Ev.bind0 (iLetter _) (and_step fun h0 => ?_)
  have := isWord_l0 s (by omega) (s.size - 1) 1 (by omega) (Nat.le_refl _)
  refine Ev.bind (a := if (List.range' 1 (s.size - 1)).all (wp s) = true then .inr () else .inl false) ?_ ?_
  · refine Ev.step (fun k => by rw [impl_isNameWord.l0]) ?_
    simp (disch := omega) only [cpos, show (0 : Int).toNat = 0 from rfl]
    refine Ev.bind0 (iLetter _) ?_
    rw [h0]
    simp (disch := omega) only [Bool.not_true, cond_false, wrap_in]
    exact this
  · cases (List.range' 1 (s.size - 1)).all (wp s) <;> exact Ev.pure _

/-! ### Particles -/
def lowA (s : ByteArray) : Bool := (List.range' 0 s.size).all fun i => lowc (bt s i)
theorem lowA_word {s : ByteArray} (h : lowA s = true) : wordB s = ins s.size 1 12 := by
  unfold lowA at h
  rw [List.all_eq_true] at h
  have hl : ∀ i, i < s.size → ltr (bt s i) = true := fun i hi => by
    unfold ltr
    rw [h i (by rw [List.mem_range'_1]; omega), Bool.or_true]
  unfold wordB
  cases hi : ins s.size 1 12 with
  | false => rfl
  | true =>
    obtain ⟨h1, h2⟩ := ins_le hi
    rw [hl 0 (by omega), hl (s.size - 1) (by omega)]
    have : (List.range' 1 (s.size - 1)).all (wp s) = true := by
      rw [List.all_eq_true]
      intro i hi
      rw [List.mem_range'_1] at hi
      unfold wp
      rw [hl i (by omega)]; rfl
    rw [this]; rfl
def pw (s : ByteArray) : Bool := ins s.size 1 12 && lowA s
theorem pw_eq (s : ByteArray) : (wordB s && lowA s) = pw s := by
  unfold pw
  cases h : lowA s with
  | false => rw [Bool.and_false, Bool.and_false]
  | true => rw [lowA_word h]
def particleB (s : ByteArray) : Bool := decide (s.size = 0) || ((words s).all pw && decide ((words s).length ≤ 2))
theorem empty_eq (s : ByteArray) : beqS s ⟨#[]⟩ = decide (s.size = 0) := by
  rw [← Bool.not_not (b := beqS s ⟨#[]⟩), size_pos]
  by_cases hz : s.size = 0
  · simp [hz]
  · rw [decide_eq_true (by omega : 0 < s.size), decide_eq_false hz]; rfl
theorem specPart_l2 (W : List ByteArray) (i : Nat) (hi : i < W.length) (hs : W[i].size ≤ 1048576) : Ev (fun k => spec_l2Particle.l2 k W i ((0 : Nat) : Int)) (if lowA W[i] = true then .inr (W, (i : Int)) else .inl false) := by
  refine loop_all (f := fun k j => spec_l2Particle.l2 k W i j) (n := W[i].size) (p := fun j => lowc (bt W[i] j)) (fun j hj hp => ?_) (fun j r hj hp ih => ?_) ?_ W[i].size 0 (by omega)
  · refine Ev.step (fun k => by rw [spec_l2Particle.l2]) ?_
    simp (disch := omega) only [cpos, Int.toNat_natCast, getD_at hi]
    refine Ev.bind0 (sLower _) ?_
    rw [hp]
    exact Ev.pure _
  · refine Ev.step (fun k => by rw [spec_l2Particle.l2]) ?_
    simp (disch := omega) only [cpos, Int.toNat_natCast, getD_at hi]
    refine Ev.bind0 (sLower _) ?_
    rw [hp]
    simp (disch := omega) only [Bool.not_true, cond_false, wrap_in]
    exact ih
  · refine Ev.step (fun k => by rw [spec_l2Particle.l2]) ?_
    simp (disch := omega) only [cpos, cneg, Int.toNat_natCast, getD_at hi]
    exact Ev.pure _
theorem isPart_l2 (W : List ByteArray) (w : ByteArray) (n i : Int) (hs : w.size ≤ 1048576) : Ev (fun k => impl_isParticle.l2 k W w ((0 : Nat) : Int) n i) (if lowA w = true then .inr (W, n, i) else .inl false) := by
  refine loop_all (f := fun k j => impl_isParticle.l2 k W w j n i) (n := w.size) (p := fun j => lowc (bt w j)) (fun j hj hp => ?_) (fun j r hj hp ih => ?_) ?_ w.size 0 (by omega)
  · refine Ev.step (fun k => by rw [impl_isParticle.l2]) ?_
    simp (disch := omega) only [cpos, Int.toNat_natCast]
    refine Ev.bind0 (iLower _) ?_
    rw [hp]
    exact Ev.pure _
  · refine Ev.step (fun k => by rw [impl_isParticle.l2]) ?_
    simp (disch := omega) only [cpos, Int.toNat_natCast]
    refine Ev.bind0 (iLower _) ?_
    rw [hp]
    simp (disch := omega) only [Bool.not_true, cond_false, wrap_in]
    exact ih
  · refine Ev.step (fun k => by rw [impl_isParticle.l2]) ?_
    simp (disch := omega) only [cneg]
    exact Ev.pure _
theorem specPart_l0 (W : List ByteArray) (hl : W.length ≤ 1048577) (hW : ∀ x ∈ W, x.size ≤ 1048576) : Ev (fun k => spec_l2Particle.l0 k W ((0 : Nat) : Int)) (if (List.range' 0 W.length).all (fun i => pw (W.getD i ⟨#[]⟩)) = true then .inr W else .inl false) := by
  refine loop_all (f := fun k j => spec_l2Particle.l0 k W j) (n := W.length) (p := fun i => pw (W.getD i ⟨#[]⟩)) (fun j hj hp => ?_) (fun j r hj hp ih => ?_) ?_ W.length 0 (by omega)
  · rw [getD_at hj, ← pw_eq] at hp
    refine Ev.step (fun k => by rw [spec_l2Particle.l0]) ?_
    simp (disch := omega) only [cpos, Int.toNat_natCast, getD_at hj]
    refine Ev.bind (specWord_ev _) ?_
    cases hw : wordB W[j] with
    | false => exact Ev.pure _
    | true =>
      rw [hw, Bool.true_and] at hp
      have := specPart_l2 W j hj (hW _ (List.getElem_mem hj))
      rw [hp] at this
      exact Ev.bind this (Ev.pure _)
  · rw [getD_at hj, ← pw_eq, Bool.and_eq_true] at hp
    refine Ev.step (fun k => by rw [spec_l2Particle.l0]) ?_
    simp (disch := omega) only [cpos, Int.toNat_natCast, getD_at hj]
    refine Ev.bind (specWord_ev _) ?_
    rw [hp.1]
    have := specPart_l2 W j hj (hW _ (List.getElem_mem hj))
    rw [hp.2] at this
    refine Ev.bind (a := .inr (W, (j : Int))) this ?_
    simp (disch := omega) only [wrap_in]
    exact ih
  · refine Ev.step (fun k => by rw [spec_l2Particle.l0]) ?_
    simp (disch := omega) only [cneg]
    exact Ev.pure _
theorem isPart_l0 (W : List ByteArray) (hl : W.length ≤ 1048577) (hW : ∀ x ∈ W, x.size ≤ 1048576) : Ev (fun k => impl_isParticle.l0 k W W.length ((0 : Nat) : Int)) (if (List.range' 0 W.length).all (fun i => pw (W.getD i ⟨#[]⟩)) = true then .inr W else .inl false) := by
  refine loop_all (f := fun k j => impl_isParticle.l0 k W W.length j) (n := W.length) (p := fun i => pw (W.getD i ⟨#[]⟩)) (fun j hj hp => ?_) (fun j r hj hp ih => ?_) ?_ W.length 0 (by omega)
  · rw [getD_at hj] at hp
    unfold pw at hp
    refine Ev.step (fun k => by rw [impl_isParticle.l0]) ?_
    simp (disch := omega) only [cpos, Int.toNat_natCast, getD_at hj]
    refine Ev.bind0 (inside_ev _ _ _) ?_
    cases hw : ins W[j].size 1 12 with
    | false =>
      unfold ins at hw
      rw [hw]
      exact Ev.pure _
    | true =>
      rw [hw, Bool.true_and] at hp
      unfold ins at hw
      rw [hw]
      have := isPart_l2 W W[j] W.length j (hW _ (List.getElem_mem hj))
      rw [hp] at this
      exact Ev.bind this (Ev.pure _)
  · rw [getD_at hj] at hp
    unfold pw at hp
    rw [Bool.and_eq_true] at hp
    obtain ⟨hp1, hp2⟩ := hp
    unfold ins at hp1
    refine Ev.step (fun k => by rw [impl_isParticle.l0]) ?_
    simp (disch := omega) only [cpos, Int.toNat_natCast, getD_at hj]
    refine Ev.bind0 (inside_ev _ _ _) ?_
    rw [hp1]
    have := isPart_l2 W W[j] W.length j (hW _ (List.getElem_mem hj))
    rw [hp2] at this
    refine Ev.bind (a := .inr (W, (W.length : Int), (j : Int))) this ?_
    simp (disch := omega) only [wrap_in]
    exact ih
  · refine Ev.step (fun k => by rw [impl_isParticle.l0]) ?_
    simp (disch := omega) only [cneg]
    exact Ev.pure _
theorem specPart_ev (s : ByteArray) (hs : s.size ≤ 1048576) : Ev (fun k => spec_l2Particle.F k s) (particleB s) := by
  unfold spec_l2Particle.F particleB
  rw [empty_eq]
  cases decide (s.size = 0) with
  | true => exact Ev.pure _
  | false =>
    refine Ev.bind (specSplit_ev s hs) ?_
    have := specPart_l0 (words s) (by have := (words_len s).2; omega) (fun x hx => by have := words_small _ _ x hx; omega)
    rw [range_all (words s) ⟨#[]⟩ pw] at this
    rw [Bool.false_or]
    cases ha : (words s).all pw with
    | true =>
      rw [ha] at this
      refine Ev.bind this ((Ev.pure _).eq ?_)
      rw [Bool.true_and]; exact decide_eq_decide.2 (by omega)
    | false => rw [ha] at this; exact Ev.bind this (Ev.pure _)
theorem isPart_ev (s : ByteArray) (hs : s.size ≤ 1048576) : Ev (fun k => impl_isParticle.F k s) (particleB s) := by
  unfold impl_isParticle.F particleB
  rw [empty_eq]
  cases decide (s.size = 0) with
  | true => exact Ev.pure _
  | false =>
    refine Ev.bind0 (split_ev s hs) ?_
    have := isPart_l0 (words s) (by have := (words_len s).2; omega) (fun x hx => by have := words_small _ _ x hx; omega)
    rw [range_all (words s) ⟨#[]⟩ pw] at this
    rw [Bool.false_or]
    cases ha : (words s).all pw with
    | true =>
      rw [ha] at this
      refine Ev.bind this ((Ev.pure _).eq ?_)
      rw [Bool.true_and]; exact decide_eq_decide.2 (by omega)
    | false => rw [ha] at this; exact Ev.bind this (Ev.pure _)

/-! ### Names -/
def gw (s : ByteArray) : Bool := wordB s && upc (bt s 0)
theorem word_size {s : ByteArray} (h : wordB s = true) : 1 ≤ s.size := by
  unfold wordB at h
  rw [Bool.and_eq_true] at h
  have := (ins_le h.1).1
  omega
theorem isGreat_ev (s : ByteArray) : Ev (fun k => impl_isGreatWord.F k s) (gw s) := by
  unfold impl_isGreatWord.F gw
  refine Ev.bind (isWord_ev s) (and_step' fun h => ?_)
  have := word_size h
  simp (disch := omega) only [cpos, show (0 : Int).toNat = 0 from rfl]
  exact Ev.bind0 (iUpper _) (Ev.pure _)
def suffB (s : ByteArray) : Bool := decide (s.size = 0) || wordB s
def nameB (n : Name) : Bool := n.given.all gw && (decide (n.given.length ≤ 3) && (particleB n.particle && (gw n.family && suffB n.suffix)))
theorem specGood_l0 (n : Name) (hn : n.given.length ≤ 1048576) : Ev (fun k => spec_l2Good.l0 k n ((0 : Nat) : Int)) (if (List.range' 0 n.given.length).all (fun i => gw (n.given.getD i ⟨#[]⟩)) = true then .inr n else .inl false) := by
  refine loop_all (f := fun k j => spec_l2Good.l0 k n j) (n := n.given.length) (p := fun i => gw (n.given.getD i ⟨#[]⟩)) (fun j hj hp => ?_) (fun j r hj hp ih => ?_) ?_ n.given.length 0 (by omega)
  · rw [getD_at hj] at hp
    unfold gw at hp
    refine Ev.step (fun k => by rw [spec_l2Good.l0]) ?_
    simp (disch := omega) only [cpos, Int.toNat_natCast, getD_at hj]
    refine Ev.bind (specWord_ev _) ?_
    cases hw : wordB n.given[j] with
    | false => exact Ev.pure _
    | true =>
      rw [hw, Bool.true_and] at hp
      have := word_size hw
      simp (disch := omega) only [cpos, show (0 : Int).toNat = 0 from rfl, Bool.not_true, cond_false]
      refine Ev.bind0 (sUpper _) ?_
      rw [hp]
      exact Ev.pure _
  · rw [getD_at hj] at hp
    unfold gw at hp
    rw [Bool.and_eq_true] at hp
    have := word_size hp.1
    refine Ev.step (fun k => by rw [spec_l2Good.l0]) ?_
    simp (disch := omega) only [cpos, Int.toNat_natCast, getD_at hj]
    refine Ev.bind (specWord_ev _) ?_
    rw [hp.1]
    simp (disch := omega) only [cpos, show (0 : Int).toNat = 0 from rfl, Bool.not_true, cond_false]
    refine Ev.bind0 (sUpper _) ?_
    rw [hp.2]
    simp (disch := omega) only [Bool.not_true, cond_false, wrap_in]
    exact ih
  · refine Ev.step (fun k => by rw [spec_l2Good.l0]) ?_
    simp (disch := omega) only [cneg]
    exact Ev.pure _
theorem specName_ev (n : Name) (hs : smallN n) : Ev (fun k => spec_l2Good.F k n) (nameB n) := by
  have hg : n.given.length ≤ 1048576 := by unfold smallN totN at hs; omega
  have hp : n.particle.size ≤ 1048576 := by unfold smallN totN at hs; omega
  unfold spec_l2Good.F nameB
  have := specGood_l0 n hg
  rw [range_all n.given ⟨#[]⟩ gw] at this
  cases ha : n.given.all gw with
  | false => rw [ha] at this; exact Ev.bind this (Ev.pure _)
  | true =>
    rw [ha] at this
    refine Ev.bind (a := .inr n) this ?_
    dsimp only
    rw [Bool.true_and, show decide (n.given.length ≤ 3) = decide ((n.given.length : Int) ≤ 3) from decide_eq_decide.2 (by omega)]
    refine and_step' fun _ => ?_
    refine Ev.bind (specPart_ev _ hp) (and_step' fun _ => ?_)
    unfold gw
    rw [Bool.and_assoc]
    refine Ev.bind (specWord_ev _) (and_step' fun h => ?_)
    have := word_size h
    simp (disch := omega) only [cpos, show (0 : Int).toNat = 0 from rfl]
    refine Ev.bind0 (sUpper _) (and_step' fun _ => ?_)
    unfold suffB
    rw [empty_eq]
    cases decide (n.suffix.size = 0) with
    | true => exact Ev.pure _
    | false => exact Ev.bind (specWord_ev _) (Ev.pure _)
theorem isName_ev (n : Name) (hs : smallN n) : Ev (fun k => impl_IsValidName.F k n) (nameB n) := by
  have hg : n.given.length ≤ 1048576 := by unfold smallN totN at hs; omega
  have hp : n.particle.size ≤ 1048576 := by unfold smallN totN at hs; omega
  unfold impl_IsValidName.F nameB
  by_cases c : n.given.length ≤ 3
  · simp (disch := omega) only [cneg, dpos, Bool.true_and]
    have hq : ∀ x, x ∈ n.given → Ev (fun k => impl_IsValidName_1.F k x) (!gw x) := fun x _ => by
      unfold impl_IsValidName_1.F
      exact Ev.bind (isGreat_ev x) (Ev.pure _)
    obtain ⟨r, h1, h2⟩ := idx_ev (d := (⟨#[]⟩ : ByteArray)) (p := fun x => !gw x) (q := impl_IsValidName_1.F) (xs := n.given) (l0 := slices_IndexFunc_string_f172.l0) (fun k x0 x7 x8 => by rw [slices_IndexFunc_string_f172.l0]) hq (by omega) (F := slices_IndexFunc_string_f172.F) (fun k a0 => rfl)
    refine Ev.bind (a := !n.given.all gw) ?_ ?_
    · unfold slices_ContainsFunc_string_f172.F
      refine Ev.bind h1 ((Ev.pure _).eq ?_)
      rcases h2 with ⟨rfl, h2⟩ | ⟨j, rfl, hj, hp, _⟩
      · have : n.given.all gw = true := List.all_eq_true.2 fun x hx => by have := h2 x hx; simpa using this
        rw [this]; rfl
      · have : n.given.all gw = false := by
          rw [List.all_eq_false]
          refine ⟨n.given[j], List.getElem_mem hj, ?_⟩
          rw [getD_at hj] at hp
          simpa using hp
        rw [this, decide_eq_true (by omega)]; rfl
    · cases n.given.all gw with
      | false => exact Ev.pure _
      | true =>
        rw [Bool.true_and]
        refine Ev.bind (isPart_ev _ hp) (and_step' fun _ => ?_)
        refine Ev.bind (isGreat_ev _) (and_step' fun _ => ?_)
        unfold suffB
        rw [empty_eq]
        cases decide (n.suffix.size = 0) with
        | true => exact Ev.pure _
        | false => exact Ev.bind (isWord_ev _) (Ev.pure _)
  · simp (disch := omega) only [cpos, dneg, Bool.false_and, Bool.and_false]
    exact Ev.pure _
def namesB (l : List Name) : Bool := l.all nameB && decide (l.length ≤ 4)
theorem specList_l0 (l : List Name) (hl : l.length ≤ 1048576) (hs : ∀ n ∈ l, smallN n) : ∀ m i : Nat, i + m = l.length → ∃ r, Ev (fun k => spec_l2List.l0 k l i) r ∧ (r = .inl false ∨ r = .inr l) ∧ (l.length ≤ 4 → r = if (l.drop i).all nameB = true then .inr l else .inl false)
  | 0, i, h => by
    refine ⟨.inr l, Ev.step (fun k => by rw [spec_l2List.l0]) ?_, .inr rfl, fun _ => by rw [List.drop_eq_nil_of_le (by omega)]; rfl⟩
    simp (disch := omega) only [cneg]
    exact Ev.pure _
  | m + 1, i, h => by
    have hi : i < l.length := by omega
    by_cases c4 : (i : Int) ≤ 4
    · cases hn : nameB l[i] with
      | false =>
        refine ⟨.inl false, Ev.step (fun k => by rw [spec_l2List.l0]) ?_, .inl rfl, fun _ => by rw [List.drop_eq_getElem_cons hi, List.all_cons, hn]; rfl⟩
        simp (disch := omega) only [cpos, Int.toNat_natCast, getD_at hi]
        refine Ev.bind (specName_ev _ (hs _ (List.getElem_mem hi))) ?_
        rw [hn]
        exact Ev.pure _
      | true =>
        obtain ⟨r, h1, h2, h3⟩ := specList_l0 l hl hs m (i + 1) (by omega)
        refine ⟨r, Ev.step (fun k => by rw [spec_l2List.l0]) ?_, h2, fun h4 => by rw [h3 h4, List.drop_eq_getElem_cons hi, List.all_cons, hn, Bool.true_and]⟩
        simp (disch := omega) only [cpos, Int.toNat_natCast, getD_at hi]
        refine Ev.bind (specName_ev _ (hs _ (List.getElem_mem hi))) ?_
        rw [hn]
        simp (disch := omega) only [Bool.not_true, cond_false, wrap_in]
        exact h1
    · refine ⟨.inr l, Ev.step (fun k => by rw [spec_l2List.l0]) ?_, .inr rfl, fun h4 => by omega⟩
      simp (disch := omega) only [cpos, cneg]
      exact Ev.pure _
theorem specNames_ev (l : List Name) (hl : totNs l ≤ 1048576) : Ev (fun k => spec_l2List.F k l) (namesB l) := by
  unfold spec_l2List.F namesB
  obtain ⟨r, h1, h2, h3⟩ := specList_l0 l (smallNs_len hl) (fun n hn => smallNs_at hl hn) l.length 0 (by omega)
  rw [List.drop_zero] at h3
  have e : decide (l.length ≤ 4) = decide ((l.length : Int) ≤ 4) := decide_eq_decide.2 (by omega)
  rw [e]
  by_cases c : l.length ≤ 4
  · rw [h3 c] at h1
    cases ha : l.all nameB with
    | true => rw [ha] at h1; exact Ev.bind h1 (Ev.pure _)
    | false => rw [ha] at h1; exact Ev.bind h1 (Ev.pure _)
  · rw [decide_eq_false (show ¬ (l.length : Int) ≤ 4 by omega), Bool.and_false]
    rcases h2 with rfl | rfl
    · exact Ev.bind h1 (Ev.pure _)
    · exact Ev.bind h1 ((Ev.pure _).eq (decide_eq_false (by omega)))
theorem areNames_ev (l : List Name) (hl : totNs l ≤ 1048576) : Ev (fun k => impl_areNames.F k l) (namesB l) := by
  have hlen := smallNs_len hl
  unfold impl_areNames.F namesB
  by_cases c : l.length ≤ 4
  · simp (disch := omega) only [cpos, dpos, Bool.and_true]
    have hq : ∀ x, x ∈ l → Ev (fun k => impl_areNames_1.F k x) (!nameB x) := fun x hx => by
      unfold impl_areNames_1.F
      exact Ev.bind (isName_ev x (smallNs_at hl hx)) (Ev.pure _)
    obtain ⟨r, h1, h2⟩ := idx_ev (d := (dflt .name : Name)) (p := fun x => !nameB x) (q := impl_areNames_1.F) (xs := l) (l0 := slices_IndexFunc_Name_f134.l0) (fun k x0 x7 x8 => by rw [slices_IndexFunc_Name_f134.l0]) hq (by omega) (F := slices_IndexFunc_Name_f134.F) (fun k a0 => rfl)
    refine Ev.bind (a := !l.all nameB) ?_ ?_
    · unfold slices_ContainsFunc_Name_f134.F
      refine Ev.bind h1 ((Ev.pure _).eq ?_)
      rcases h2 with ⟨rfl, h2⟩ | ⟨j, rfl, hj, hp, _⟩
      · have : l.all nameB = true := List.all_eq_true.2 fun x hx => by have := h2 x hx; simpa using this
        rw [this]; rfl
      · have : l.all nameB = false := by
          rw [List.all_eq_false]
          refine ⟨l[j], List.getElem_mem hj, ?_⟩
          rw [getD_at hj] at hp
          simpa using hp
        rw [this, decide_eq_true (by omega)]; rfl
    · rw [Bool.not_not]; exact Ev.pure _
  · simp (disch := omega) only [cneg, dneg, Bool.and_false]
    exact Ev.pure _

/-! ### Dates -/
theorem days_eq (y m : Int) (hy : 0 ≤ y) : ∃ r, spec_l3Days.F y m = some r ∧ impl_daysInMonth.F y m = some r := by
  have e1 : Int.tmod y 4 = y % 4 := Int.tmod_eq_emod_of_nonneg hy
  have e2 : Int.tmod y 100 = y % 100 := Int.tmod_eq_emod_of_nonneg hy
  have e3 : Int.tmod y 400 = y % 400 := Int.tmod_eq_emod_of_nonneg hy
  have z1 : ((4 : Nat) == 0) = false := rfl
  have z2 : ((100 : Nat) == 0) = false := rfl
  have z3 : ((400 : Nat) == 0) = false := rfl
  unfold spec_l3Days.F impl_daysInMonth.F
  rw [e1, e2, e3]
  by_cases c2 : m = 2
  · by_cases d1 : y % 4 = 0
    · by_cases d2 : y % 100 = 0
      · by_cases d3 : y % 400 = 0
        · exact ⟨29, by simp (disch := first | assumption | omega) only [ceq, cbeq, z1, z2, z3, cond_false], by simp (disch := first | assumption | omega) only [ceq, cbeq, z1, z2, z3, cond_false]⟩
        · exact ⟨28, by simp (disch := first | assumption | omega) only [ceq, cne, cbeq, z1, z2, z3, cond_false], by simp (disch := first | assumption | omega) only [ceq, cne, cbeq, z1, z2, z3, cond_false]⟩
      · exact ⟨29, by simp (disch := first | assumption | omega) only [ceq, cbne, z1, z2, z3, cond_false], by simp (disch := first | assumption | omega) only [ceq, cbne, z1, z2, z3, cond_false]⟩
    · have d3 : y % 400 ≠ 0 := by omega
      exact ⟨28, by simp (disch := first | assumption | omega) only [ceq, cne, z1, z2, z3, cond_false], by simp (disch := first | assumption | omega) only [ceq, cne, z1, z2, z3, cond_false]⟩
  · by_cases a : m = 4
    · exact ⟨30, by simp (disch := first | assumption | omega) only [ceq, cne], by simp (disch := first | assumption | omega) only [ceq, cne]⟩
    · by_cases b : m = 6
      · exact ⟨30, by simp (disch := first | assumption | omega) only [ceq, cne], by simp (disch := first | assumption | omega) only [ceq, cne]⟩
      · by_cases c : m = 9
        · exact ⟨30, by simp (disch := first | assumption | omega) only [ceq, cne], by simp (disch := first | assumption | omega) only [ceq, cne]⟩
        · by_cases d : m = 11
          · exact ⟨30, by simp (disch := first | assumption | omega) only [ceq, cne], by simp (disch := first | assumption | omega) only [ceq, cne]⟩
          · exact ⟨31, by simp (disch := first | assumption | omega) only [cne], by simp (disch := first | assumption | omega) only [cne]⟩
theorem date_eq2 (d : Date) : ∃ b, spec_l3Good.F d = some b ∧ impl_IsValidDate.F d = some b := by
  unfold spec_l3Good.F impl_IsValidDate.F
  cases (d.y == 0 && (d.m == 0 && (d.d == 0 && d.c == false))) with
  | true => exact ⟨true, rfl, rfl⟩
  | false =>
    rw [in_ev, inside_ev]
    simp only [Option.bind_some, cond_false]
    cases h1 : (decide (d.y ≥ 1) && decide (d.y ≤ 2999)) with
    | false => exact ⟨false, rfl, rfl⟩
    | true =>
      have hy : 0 ≤ d.y := by
        simp only [Bool.and_eq_true, decide_eq_true_eq] at h1; omega
      rw [in_ev, inside_ev]
      simp only [Option.bind_some, Bool.not_true, cond_false]
      cases h2 : (decide (d.m ≥ 0) && decide (d.m ≤ 12)) with
      | false => exact ⟨false, rfl, rfl⟩
      | true =>
        obtain ⟨r, r1, r2⟩ := days_eq d.y d.m hy
        rw [r1, r2]
        simp only [Option.bind_some, Bool.not_true, cond_false, in_ev, inside_ev]
        cases d.c with
        | true =>
          by_cases c : d.m = 0
          · exact ⟨d.d == 0, by simp (disch := first | assumption | omega) only [cond_true, ceq], by simp (disch := first | assumption | omega) only [cond_true, ceq, cbeq]⟩
          · exact ⟨false, by simp (disch := first | assumption | omega) only [cond_true, cne], by simp (disch := first | assumption | omega) only [cond_true, cbne]⟩
        | false => exact ⟨bif d.m == 0 then (d.d == 0) else (decide (d.d ≥ 0) && decide (d.d ≤ r)), by cases (d.m == 0) <;> rfl, by cases (d.m == 0) <;> rfl⟩
open Classical in
noncomputable def dateB (d : Date) : Bool := (date_eq2 d).choose
theorem specDate_ev (d : Date) : spec_l3Good.F d = some (dateB d) := (date_eq2 d).choose_spec.1
theorem isDate_ev (d : Date) : impl_IsValidDate.F d = some (dateB d) := (date_eq2 d).choose_spec.2

/-! ### Entries -/
def insI (n lo hi : Int) : Bool := decide (n ≥ lo) && decide (n ≤ hi)
def crossB (e : Entry) : Bool := decide (e.cross.size = 0) || (keyB e.cross && !beqS e.cross e.key)
noncomputable def entryB (e : Entry) : Bool := keyB e.key && (insI e.kind 1 4 && (namesB e.authors && (namesB e.editors && (textB e.title && (textB e.container && (textB e.publisher && (textB e.pages && (dateB e.date && (insI e.volume 0 9999 && crossB e)))))))))
theorem specEntry_ev (e : Entry) (hs : smallE e) : Ev (fun k => spec_l4Entry.F k e) (entryB e) := by
  unfold spec_l4Entry.F entryB
  refine Ev.bind (specKey_ev _) (and_step fun _ => ?_)
  refine Ev.bind0 (in_ev _ _ _) (and_step fun _ => ?_)
  refine Ev.bind (specNames_ev _ (smallE_a hs)) (and_step fun _ => ?_)
  refine Ev.bind (specNames_ev _ (smallE_e hs)) (and_step fun _ => ?_)
  refine Ev.bind (specText_ev _) (and_step fun _ => ?_)
  refine Ev.bind (specText_ev _) (and_step fun _ => ?_)
  refine Ev.bind (specText_ev _) (and_step fun _ => ?_)
  refine Ev.bind (specText_ev _) (and_step fun _ => ?_)
  refine Ev.bind0 (specDate_ev _) (and_step' fun _ => ?_)
  refine Ev.bind0 (in_ev _ _ _) (and_step' fun _ => ?_)
  unfold crossB
  rw [empty_eq]
  cases decide (e.cross.size = 0) with
  | true => exact Ev.pure _
  | false =>
    refine (Ev.bind (specKey_ev _) (and_step' fun _ => ?_)).eq (Bool.false_or _).symm
    exact Ev.pure _
theorem isEntry_ev (e : Entry) (hs : smallE e) : Ev (fun k => impl_IsValidEntry.F k e) (entryB e) := by
  have key : Ev (fun k => impl_IsValidEntry.F k e) (keyB e.key && (insI e.kind 1 4 && (namesB e.authors && (namesB e.editors && (dateB e.date && (insI e.volume 0 9999 && (textB e.title && (textB e.container && (textB e.publisher && (textB e.pages && crossB e)))))))))) := by
    unfold impl_IsValidEntry.F
    refine Ev.bind (isKey_ev _) (and_step fun _ => ?_)
    refine Ev.bind0 (a := insI e.kind 1 4) ?_ (and_step fun _ => ?_)
    · unfold impl_isKind.F; rw [inside_ev]; rfl
    refine Ev.bind (areNames_ev _ (smallE_a hs)) (and_step fun _ => ?_)
    refine Ev.bind (areNames_ev _ (smallE_e hs)) (and_step fun _ => ?_)
    refine Ev.bind0 (isDate_ev _) (and_step fun _ => ?_)
    refine Ev.bind0 (inside_ev _ _ _) (and_step fun _ => ?_)
    refine Ev.bind (isText_ev _) (and_step' fun _ => ?_)
    refine Ev.bind (isText_ev _) (and_step' fun _ => ?_)
    refine Ev.bind (isText_ev _) (and_step' fun _ => ?_)
    refine Ev.bind (isText_ev _) (and_step' fun _ => ?_)
    unfold crossB
    rw [empty_eq]
    cases decide (e.cross.size = 0) with
    | true => exact Ev.pure _
    | false =>
      refine (Ev.bind (isKey_ev _) (and_step' fun _ => ?_)).eq (Bool.false_or _).symm
      exact Ev.pure _
  refine key.eq ?_
  unfold entryB
  ac_rfl

/-! ### Libraries -/
noncomputable def okL (l : Library) (i : Nat) : Bool := entryB (l.entries.getD i (dflt .entry)) && (decide (i = 0) || ltS (l.entries.getD (i - 1) (dflt .entry)).key (l.entries.getD i (dflt .entry)).key)
noncomputable def libB (l : Library) : Bool := (List.range' 0 l.entries.length).all (okL l) && decide (l.entries.length ≤ 8)
theorem specGoodL_l0 (l : Library) (hs : smallL l) : Ev (fun k => spec_l4Good.l0 k l ((0 : Nat) : Int)) (if (List.range' 0 l.entries.length).all (okL l) = true then .inr () else .inl false) := by
  have hlen := smallL_len hs
  refine loop_all (f := fun k i => spec_l4Good.l0 k l i) (n := l.entries.length) (fun i hi hp => ?_) (fun i r hi hp ih => ?_) ?_ l.entries.length 0 (by omega)
  · unfold okL at hp
    refine Ev.step (fun k => by rw [spec_l4Good.l0]) ?_
    have hsm : smallE (l.entries.getD i (dflt .entry)) := by rw [getD_at hi]; exact smallL_at hs (List.getElem_mem hi)
    simp (disch := omega) only [cpos, Int.toNat_natCast]
    refine Ev.bind (specEntry_ev _ hsm) ?_
    cases he : entryB (l.entries.getD i (dflt .entry)) with
    | false => exact Ev.pure _
    | true =>
      rw [he, Bool.true_and, Bool.or_eq_false_iff, decide_eq_false_iff_not] at hp
      have et : ((i : Int) - 1).toNat = i - 1 := by omega
      simp (disch := omega) only [Bool.not_true, cond_false, cpos, wrap_in, et, hp.2, Bool.not_false, cond_true]
      exact Ev.pure _
  · unfold okL at hp
    rw [Bool.and_eq_true] at hp
    refine Ev.step (fun k => by rw [spec_l4Good.l0]) ?_
    have hsm : smallE (l.entries.getD i (dflt .entry)) := by rw [getD_at hi]; exact smallL_at hs (List.getElem_mem hi)
    simp (disch := omega) only [cpos, Int.toNat_natCast]
    refine Ev.bind (specEntry_ev _ hsm) ?_
    rw [hp.1]
    by_cases c : i = 0
    · simp (disch := omega) only [Bool.not_true, cond_false, cneg, wrap_in]
      exact ih
    · have et : ((i : Int) - 1).toNat = i - 1 := by omega
      have h2 := hp.2
      rw [decide_eq_false c, Bool.false_or] at h2
      simp (disch := omega) only [Bool.not_true, cond_false, cpos, wrap_in, et, h2]
      exact ih
  · refine Ev.step (fun k => by rw [spec_l4Good.l0]) ?_
    simp (disch := omega) only [cneg]
    exact Ev.pure _
theorem isLib_l0 (l : Library) (hs : smallL l) : Ev (fun k => impl_IsValidLibrary.l0 k l l.entries l.entries.length ((0 : Nat) : Int)) (if (List.range' 0 l.entries.length).all (okL l) = true then .inr l else .inl false) := by
  have hlen := smallL_len hs
  refine loop_all (f := fun k i => impl_IsValidLibrary.l0 k l l.entries l.entries.length i) (n := l.entries.length) (fun i hi hp => ?_) (fun i r hi hp ih => ?_) ?_ l.entries.length 0 (by omega)
  · unfold okL at hp
    refine Ev.step (fun k => by rw [impl_IsValidLibrary.l0]) ?_
    have hsm : smallE (l.entries.getD i (dflt .entry)) := by rw [getD_at hi]; exact smallL_at hs (List.getElem_mem hi)
    simp (disch := omega) only [cpos, Int.toNat_natCast]
    refine Ev.bind (isEntry_ev _ hsm) ?_
    cases he : entryB (l.entries.getD i (dflt .entry)) with
    | false => exact Ev.pure _
    | true =>
      rw [he, Bool.true_and, Bool.or_eq_false_iff, decide_eq_false_iff_not] at hp
      have et : ((i : Int) - 1).toNat = i - 1 := by omega
      simp (disch := omega) only [Bool.not_true, cond_false, cpos, wrap_in, et, hp.2, Bool.not_false, cond_true]
      exact Ev.pure _
  · unfold okL at hp
    rw [Bool.and_eq_true] at hp
    refine Ev.step (fun k => by rw [impl_IsValidLibrary.l0]) ?_
    have hsm : smallE (l.entries.getD i (dflt .entry)) := by rw [getD_at hi]; exact smallL_at hs (List.getElem_mem hi)
    simp (disch := omega) only [cpos, Int.toNat_natCast]
    refine Ev.bind (isEntry_ev _ hsm) ?_
    rw [hp.1]
    by_cases c : i = 0
    · simp (disch := omega) only [Bool.not_true, cond_false, cneg, wrap_in]
      exact ih
    · have et : ((i : Int) - 1).toNat = i - 1 := by omega
      have h2 := hp.2
      rw [decide_eq_false c, Bool.false_or] at h2
      simp (disch := omega) only [Bool.not_true, cond_false, cpos, wrap_in, et, h2]
      exact ih
  · refine Ev.step (fun k => by rw [impl_IsValidLibrary.l0]) ?_
    simp (disch := omega) only [cneg]
    exact Ev.pure _
theorem specLib_ev (l : Library) (hs : smallL l) : Ev (fun k => spec_l4Good.F k l) (libB l) := by
  unfold spec_l4Good.F libB
  by_cases c : l.entries.length ≤ 8
  · simp (disch := omega) only [cneg, dpos, Bool.and_true]
    have := specGoodL_l0 l hs
    cases ha : (List.range' 0 l.entries.length).all (okL l) with
    | true => rw [ha] at this; exact Ev.bind this (Ev.pure _)
    | false => rw [ha] at this; exact Ev.bind this (Ev.pure _)
  · simp (disch := omega) only [cpos, dneg, Bool.and_false]
    exact Ev.pure _
theorem isLib_ev (l : Library) (hs : smallL l) : Ev (fun k => impl_IsValidLibrary.F k l) (libB l) := by
  unfold impl_IsValidLibrary.F libB
  have := isLib_l0 l hs
  cases ha : (List.range' 0 l.entries.length).all (okL l) with
  | true =>
    rw [ha] at this
    refine Ev.bind this ((Ev.pure _).eq ?_)
    rw [Bool.true_and]; exact decide_eq_decide.2 (by omega)
  | false => rw [ha] at this; exact Ev.bind this (Ev.pure _)
theorem libB_len {l : Library} (h : libB l = true) : l.entries.length ≤ 8 := by
  unfold libB at h
  rw [Bool.and_eq_true, decide_eq_true_eq] at h
  exact h.2
end Go.Proofs.YtckcichnmiifkaaGreatDoor
end
section
/- Plain laws: an entry found by its key; its parent. -/
namespace Go.Proofs.YtckcichnmiifkaaGreatDoor
open Go.Gx
set_option linter.unusedVariables false
set_option linter.unusedSimpArgs false

theorem find_l (l : Library) (key : ByteArray) (hl : l.entries.length ≤ 1048576) : ∀ n i : Nat, i + n = l.entries.length →
    ∃ r : Sum Int Unit, Ev (fun k => spec_l4Find.l0 k key l i) r ∧ Ev (fun k => slices_IndexFunc_Entry_f80.l0 k l.entries key l.entries.length i) r ∧ ∀ z, r = .inl z → 0 ≤ z ∧ z < l.entries.length
  | 0, i, h => by
    refine ⟨.inr (), Ev.step (fun k => by rw [spec_l4Find.l0]) ?_, Ev.step (fun k => by rw [slices_IndexFunc_Entry_f80.l0]) ?_, fun z hz => by cases hz⟩
    · simp (disch := omega) only [cneg]; exact Ev.pure _
    · simp (disch := omega) only [cneg]; exact Ev.pure _
  | n + 1, i, h => by
    have hi : i < l.entries.length := by omega
    have e1 : impl_entryIndex_1.F l.entries[i] key = some (beqS l.entries[i].key key) := rfl
    cases hb : beqS l.entries[i].key key with
    | true =>
      refine ⟨.inl i, Ev.step (fun k => by rw [spec_l4Find.l0]) ?_, Ev.step (fun k => by rw [slices_IndexFunc_Entry_f80.l0]) ?_, fun z hz => by cases hz; omega⟩
      · simp (disch := omega) only [cpos, Int.toNat_natCast, getD_at hi, hb, cond_true]
        exact Ev.pure _
      · simp (disch := omega) only [cpos, Int.toNat_natCast, getD_at hi]
        refine Ev.bind0 e1 ?_
        rw [hb]
        exact Ev.pure _
    | false =>
      obtain ⟨r, r1, r2, r3⟩ := find_l l key hl n (i + 1) (by omega)
      refine ⟨r, Ev.step (fun k => by rw [spec_l4Find.l0]) ?_, Ev.step (fun k => by rw [slices_IndexFunc_Entry_f80.l0]) ?_, r3⟩
      · simp (disch := omega) only [cpos, Int.toNat_natCast, getD_at hi, hb, cond_false, wrap_in]
        exact r1
      · simp (disch := omega) only [cpos, Int.toNat_natCast, getD_at hi]
        refine Ev.bind0 e1 ?_
        rw [hb]
        simp (disch := omega) only [cond_false, wrap_in]
        exact r2
theorem find_ev (l : Library) (key : ByteArray) (hl : l.entries.length ≤ 1048576) : ∃ r : Int, Ev (fun k => spec_l4Find.F k l key) r ∧ Ev (fun k => impl_entryIndex.F k l key) r ∧ -1 ≤ r ∧ r < l.entries.length := by
  obtain ⟨r, r1, r2, r3⟩ := find_l l key hl l.entries.length 0 (by omega)
  unfold spec_l4Find.F impl_entryIndex.F slices_IndexFunc_Entry_f80.F
  cases r with
  | inl z => exact ⟨z, Ev.bind r1 (Ev.pure _), Ev.bind (Ev.bind r2 (Ev.pure _)) (Ev.pure _), by have := r3 z rfl; omega, (r3 z rfl).2⟩
  | inr u => exact ⟨-1, Ev.bind r1 (Ev.pure _), Ev.bind (Ev.bind r2 (Ev.pure _)) (Ev.pure _), by omega, by omega⟩
theorem parent_ev (l : Library) (hl : l.entries.length ≤ 1048576) (i : Int) (h0 : 0 ≤ i) (h1 : i < l.entries.length) : ∃ r : Int, Ev (fun k => spec_l21Parent.F k l i) r ∧ Ev (fun k => impl_parentIndex.F k l i) r ∧ -1 ≤ r ∧ r < l.entries.length := by
  unfold spec_l21Parent.F impl_parentIndex.F
  cases hb : beqS (l.entries.getD i.toNat (dflt .entry)).cross ⟨#[]⟩ with
  | true =>
    refine ⟨-1, ?_, ?_, by omega, by omega⟩
    · simp (disch := omega) only [cpos, cond_true]; exact Ev.pure _
    · simp (disch := omega) only [cpos, cond_true]; exact Ev.pure _
  | false =>
    obtain ⟨r, r1, r2, r3⟩ := find_ev l (l.entries.getD i.toNat (dflt .entry)).cross hl
    refine ⟨r, ?_, ?_, r3⟩
    · simp (disch := omega) only [cpos, cond_false]; exact Ev.bind r1 (Ev.pure _)
    · simp (disch := omega) only [cpos, cond_false]; exact Ev.bind r2 (Ev.pure _)
end Go.Proofs.YtckcichnmiifkaaGreatDoor
end
section
/- Plain laws: the chain of an entry, keys, entries found by their keys. -/
namespace Go.Proofs.YtckcichnmiifkaaGreatDoor
open Go.Gx
set_option linter.unusedVariables false
set_option linter.unusedSimpArgs false

theorem bl_irr : ∀ x : List UInt8, Op.bytesLess x x = false
  | [] => rfl
  | a :: x => by
    have : ¬ a < a := by simp
    simp [Op.bytesLess, bl_irr x]
theorem bl_trans : ∀ {x y z : List UInt8}, Op.bytesLess x y = true → Op.bytesLess y z = true → Op.bytesLess x z = true
  | x, y, [], _, h => by cases y <;> simp [Op.bytesLess] at h
  | x, [], c :: z, h, _ => by cases x <;> simp [Op.bytesLess] at h
  | [], b :: y, c :: z, _, _ => rfl
  | a :: x, b :: y, c :: z, h, k => by
    simp only [Op.bytesLess, Bool.or_eq_true, decide_eq_true_eq, Bool.and_eq_true, beq_iff_eq] at h k ⊢
    rcases h with h | ⟨rfl, h⟩
    · rcases k with k | ⟨rfl, k⟩
      · exact .inl (UInt8.lt_trans h k)
      · exact .inl h
    · rcases k with k | ⟨rfl, k⟩
      · exact .inl k
      · exact .inr ⟨rfl, bl_trans h k⟩
def kAt (l : Library) (x : Int) : ByteArray := (l.entries.getD x.toNat (dflt .entry)).key
theorem keys_lt {l : Library} (h : libB l = true) : ∀ (d i : Nat), i + d + 1 < l.entries.length → ltS (l.entries.getD i (dflt .entry)).key (l.entries.getD (i + d + 1) (dflt .entry)).key = true := by
  have hok : ∀ j, j < l.entries.length → okL l j = true := by
    intro j hj
    unfold libB at h
    simp only [Bool.and_eq_true, List.all_eq_true] at h
    exact h.1 j (by simp; omega)
  have step : ∀ j, j + 1 < l.entries.length → ltS (l.entries.getD j (dflt .entry)).key (l.entries.getD (j + 1) (dflt .entry)).key = true := by
    intro j hj
    have := hok (j + 1) hj
    unfold okL at this
    simp only [Bool.and_eq_true, Bool.or_eq_true, decide_eq_true_eq] at this
    rcases this.2 with h0 | h0
    · omega
    · exact h0
  intro d
  induction d with
  | zero => intro i hi; exact step i hi
  | succ d ih =>
    intro i hi
    exact bl_trans (ih i (by omega)) (step (i + d + 1) (by omega))
theorem keys_ne {l : Library} (h : libB l = true) {i j : Nat} (hi : i < l.entries.length) (hj : j < l.entries.length) (he : (l.entries.getD i (dflt .entry)).key = (l.entries.getD j (dflt .entry)).key) : i = j := by
  apply Classical.byContradiction
  intro hne
  rcases Nat.lt_or_gt_of_ne hne with hlt | hlt
  · obtain ⟨d, rfl⟩ : ∃ d, j = i + d + 1 := ⟨j - i - 1, by omega⟩
    have := keys_lt h d i hj
    rw [he] at this
    unfold ltS at this
    rw [bl_irr] at this
    cases this
  · obtain ⟨d, rfl⟩ : ∃ d, i = j + d + 1 := ⟨i - j - 1, by omega⟩
    have := keys_lt h d j hi
    rw [he] at this
    unfold ltS at this
    rw [bl_irr] at this
    cases this
theorem findK_l (l : Library) (key : ByteArray) (hl : l.entries.length ≤ 1048576) : ∀ n i : Nat, i + n = l.entries.length →
    ∃ r : Sum Int Unit, Ev (fun k => spec_l4Find.l0 k key l i) r ∧ (∀ z, r = .inl z → ∃ j : Nat, z = j ∧ i ≤ j ∧ j < l.entries.length ∧ (l.entries.getD j (dflt .entry)).key = key) ∧ (∀ u, r = .inr u → ∀ j, i ≤ j → j < l.entries.length → (l.entries.getD j (dflt .entry)).key ≠ key)
  | 0, i, h => by
    refine ⟨.inr (), Ev.step (fun k => by rw [spec_l4Find.l0]) ?_, (fun z hz => by cases hz), fun u _ j h1 h2 => by omega⟩
    simp (disch := omega) only [cneg]; exact Ev.pure _
  | n + 1, i, h => by
    have hi : i < l.entries.length := by omega
    cases hb : beqS l.entries[i].key key with
    | true =>
      refine ⟨.inl i, Ev.step (fun k => by rw [spec_l4Find.l0]) ?_, fun z hz => ?_, (fun u hu => by cases hu)⟩
      · simp (disch := omega) only [cpos, Int.toNat_natCast, getD_at hi, hb, cond_true]
        exact Ev.pure _
      · cases hz
        exact ⟨i, rfl, Nat.le_refl _, hi, by rw [getD_at hi]; exact beqS_iff.1 hb⟩
    | false =>
      obtain ⟨r, r1, r2, r3⟩ := findK_l l key hl n (i + 1) (by omega)
      refine ⟨r, Ev.step (fun k => by rw [spec_l4Find.l0]) ?_, fun z hz => ?_, fun u hu j h1 h2 => ?_⟩
      · simp (disch := omega) only [cpos, Int.toNat_natCast, getD_at hi, hb, cond_false, wrap_in]
        exact r1
      · obtain ⟨j, e, h1, h2⟩ := r2 z hz
        exact ⟨j, e, by omega, h2⟩
      · by_cases e : j = i
        · subst e
          rw [getD_at hi]
          intro he
          rw [he, beqS_self] at hb
          cases hb
        · exact r3 u hu j (by omega) h2
/-- The entry with a key. -/
theorem findK_ev (l : Library) (key : ByteArray) (hl : l.entries.length ≤ 1048576) : ∃ r : Int, Ev (fun k => spec_l4Find.F k l key) r ∧ Ev (fun k => impl_entryIndex.F k l key) r ∧ -1 ≤ r ∧ r < l.entries.length ∧ (0 ≤ r → kAt l r = key) ∧ (r < 0 → ∀ j, j < l.entries.length → (l.entries.getD j (dflt .entry)).key ≠ key) := by
  obtain ⟨r, r1, r2, r3, r4⟩ := find_ev l key hl
  obtain ⟨q, q1, q2, q3⟩ := findK_l l key hl l.entries.length 0 (by omega)
  refine ⟨r, r1, r2, r3, r4, ?_⟩
  have hF : Ev (fun k => spec_l4Find.F k l key) (match q with | .inl z => z | .inr _ => -1) := by
    unfold spec_l4Find.F
    cases q with
    | inl z => exact Ev.bind q1 (Ev.pure _)
    | inr u => exact Ev.bind q1 (Ev.pure _)
  have e := Ev.uniq r1 hF
  cases q with
  | inl z =>
    obtain ⟨j, rfl, _, _, h⟩ := q2 z rfl
    have e : r = (j : Int) := e
    exact ⟨fun _ => by rw [e]; unfold kAt; rw [Int.toNat_natCast]; exact h, fun h0 => by omega⟩
  | inr u =>
    have e : r = -1 := e
    exact ⟨fun h0 => by omega, fun _ j hj => q3 u rfl j (Nat.zero_le _) hj⟩

/-! ### A number in a list -/
theorem has_l (xs : List Int) (v : Int) (hl : xs.length ≤ 1048576) : ∀ n i : Nat, i + n = xs.length → Ev (fun k => spec_l1Has.l0 k xs v i) (if v ∈ xs.drop i then .inl true else .inr ()) ∧
    ∃ r : Sum Int Unit, Ev (fun k => slices_Index_int.l0 k xs v xs.length i) r ∧ (v ∈ xs.drop i → ∃ z : Int, r = .inl z ∧ 0 ≤ z) ∧ (v ∉ xs.drop i → r = .inr ())
  | 0, i, h => by
    have hd : xs.drop i = [] := List.drop_eq_nil_of_le (by omega)
    rw [hd]
    refine ⟨Ev.step (fun k => by rw [spec_l1Has.l0]) ?_, .inr (), Ev.step (fun k => by rw [slices_Index_int.l0]) ?_, (fun h => by cases h), fun _ => rfl⟩
    · simp (disch := omega) only [cneg]
      exact (Ev.pure _).eq (by simp)
    · simp (disch := omega) only [cneg]; exact Ev.pure _
  | n + 1, i, h => by
    have hi : i < xs.length := by omega
    have hd : xs.drop i = xs[i] :: xs.drop (i + 1) := List.drop_eq_getElem_cons hi
    obtain ⟨h1, r, h2, h3, h4⟩ := has_l xs v hl n (i + 1) (by omega)
    by_cases hv : xs[i] = v
    · have hm : v ∈ xs.drop i := by rw [hd, hv]; exact List.mem_cons_self
      refine ⟨Ev.step (fun k => by rw [spec_l1Has.l0]) ?_, .inl i, Ev.step (fun k => by rw [slices_Index_int.l0]) ?_, fun _ => ⟨i, rfl, by omega⟩, fun hn => absurd hm hn⟩
      · rw [if_pos hm]
        simp (disch := omega) only [cpos, Int.toNat_natCast, getD_at hi, ceq]
        exact Ev.pure _
      · simp (disch := omega) only [cpos, Int.toNat_natCast, getD_at hi, ceq]
        exact Ev.pure _
    · have hm : v ∈ xs.drop i ↔ v ∈ xs.drop (i + 1) := by
        rw [hd, List.mem_cons]
        exact ⟨fun h => h.resolve_left fun e => hv e.symm, .inr⟩
      refine ⟨Ev.step (fun k => by rw [spec_l1Has.l0]) ?_, r, Ev.step (fun k => by rw [slices_Index_int.l0]) ?_, fun h => h3 (hm.1 h), fun h => h4 fun h' => h (hm.2 h')⟩
      · simp (disch := omega) only [cpos, Int.toNat_natCast, getD_at hi, cne, wrap_in]
        exact h1.eq (by simp only [hm])
      · simp (disch := omega) only [cpos, Int.toNat_natCast, getD_at hi, cne, wrap_in]
        exact h2
theorem has_ev (xs : List Int) (v : Int) (hl : xs.length ≤ 1048576) : Ev (fun k => spec_l1Has.F k xs v) (decide (v ∈ xs)) ∧ Ev (fun k => slices_Contains_int.F k xs v) (decide (v ∈ xs)) := by
  obtain ⟨h1, r, h2, h3, h4⟩ := has_l xs v hl xs.length 0 (by omega)
  rw [List.drop_zero] at h1 h3 h4
  unfold spec_l1Has.F slices_Contains_int.F slices_Index_int.F
  by_cases hv : v ∈ xs
  · rw [if_pos hv] at h1
    obtain ⟨z, rfl, hz⟩ := h3 hv
    rw [decide_eq_true hv]
    refine ⟨Ev.bind h1 (Ev.pure _), Ev.bind (a := z) (Ev.bind h2 (Ev.pure _)) ((Ev.pure _).eq ?_)⟩
    rw [decide_eq_true (by omega)]
  · rw [if_neg hv] at h1
    obtain rfl := h4 hv
    rw [decide_eq_false hv]
    exact ⟨Ev.bind h1 (Ev.pure _), Ev.bind (a := -1) (Ev.bind h2 (Ev.pure _)) (Ev.pure _)⟩

/-! ### Chains -/
theorem pigeon : ∀ (n : Nat) (l : List Int), l.Nodup → (∀ x ∈ l, 0 ≤ x ∧ x < n) → l.length ≤ n
  | 0, l, _, h => by
    cases l with
    | nil => simp
    | cons a l => have := h a List.mem_cons_self; omega
  | n + 1, l, hn, h => by
    by_cases hm : (n : Int) ∈ l
    · have h1 := pigeon n (l.erase n) (hn.erase _) fun x hx => by
        rw [hn.mem_erase_iff] at hx
        have := h x hx.2
        have := hx.1
        omega
      rw [List.length_erase_of_mem hm] at h1
      omega
    · have h1 := pigeon n l hn fun x hx => by
        have := h x hx
        have : x ≠ n := fun e => hm (e ▸ hx)
        omega
      omega
theorem room_i8 {n : Nat} (h : n ≤ 8192) : room n (.int .i64) = true := by
  show Nat.ble (n * 8) 140737488355328 = true
  exact Nat.ble_eq_true_of_le (by omega)
def chR (l : Library) : Sum (List Int × Bool) (List Int) → Prop
  | .inl p => p.2 = true ∧ p.1.Nodup ∧ ∀ x ∈ p.1, 0 ≤ x ∧ x < l.entries.length
  | .inr c => c.Nodup ∧ ∀ x ∈ c, 0 ≤ x ∧ x < l.entries.length
def chL : Sum (List Int × Bool) (List Int) → List Int
  | .inl p => p.1
  | .inr c => c
theorem chain_l (l : Library) (hl : l.entries.length ≤ 8) : ∀ (d : Nat) (acc : List Int) (i : Int), acc.length + d = l.entries.length + 1 → -1 ≤ i → i < l.entries.length → acc.Nodup → (∀ x ∈ acc, 0 ≤ x ∧ x < l.entries.length) →
    ∃ r, Ev (fun k => spec_l21Chain.l0 k i l acc) r ∧ Ev (fun k => impl_chainOf.l0 k i l acc) r ∧ chR l r ∧ ∃ t, chL r = acc ++ t ∧ (0 ≤ i → i ∉ acc → t ≠ [])
  | 0, acc, i, hd, _, _, hn, ha => by have := pigeon _ _ hn ha; omega
  | d + 1, acc, i, hd, h0, h1, hn, ha => by
    have hlen := pigeon _ _ hn ha
    by_cases hi : i < 0
    · refine ⟨.inr acc, Ev.step (fun k => by rw [spec_l21Chain.l0]) ?_, Ev.step (fun k => by rw [impl_chainOf.l0]) ?_, ⟨hn, ha⟩, [], by simp [chL], fun h => absurd hi (by omega)⟩
      · simp (disch := omega) only [cneg]; exact Ev.pure _
      · simp (disch := omega) only [cneg]; exact Ev.pure _
    · obtain ⟨e1, e2⟩ := has_ev acc i (by omega)
      by_cases hm : i ∈ acc
      · rw [decide_eq_true hm] at e1 e2
        refine ⟨.inl (acc, true), Ev.step (fun k => by rw [spec_l21Chain.l0]) ?_, Ev.step (fun k => by rw [impl_chainOf.l0]) ?_, ⟨rfl, hn, ha⟩, [], by simp [chL], fun _ h => absurd hm h⟩
        · simp (disch := omega) only [cpos]; exact Ev.bind e1 (Ev.pure _)
        · simp (disch := omega) only [cpos]; exact Ev.bind e2 (Ev.pure _)
      · rw [decide_eq_false hm] at e1 e2
        obtain ⟨p, p1, p2, p3, p4⟩ := parent_ev l (by omega) i (by omega) h1
        obtain ⟨r, r1, r2, r3, t, r4, _⟩ := chain_l l hl d (acc ++ [i]) p (by simp; omega) p3 p4 (List.nodup_append.2 ⟨hn, by simp, fun a ha' b hb => by simp at hb; subst hb; exact fun e => hm (e ▸ ha')⟩) (fun x hx => by
          rcases List.mem_append.1 hx with hx | hx
          · exact ha x hx
          · simp at hx; subst hx; omega)
        have hr : room (acc.length + ([i] : List Int).length) (.int .i64) = true := room_i8 (by simp; omega)
        refine ⟨r, Ev.step (fun k => by rw [spec_l21Chain.l0]) ?_, Ev.step (fun k => by rw [impl_chainOf.l0]) ?_, r3, i :: t, by rw [r4]; simp, fun _ _ h => by cases h⟩
        · simp (disch := omega) only [cpos]
          refine Ev.bind e1 ?_
          simp only [cond_false, hr, cond_true]
          exact Ev.bind p1 r1
        · simp (disch := omega) only [cpos]
          refine Ev.bind e2 ?_
          simp only [cond_false, hr, cond_true]
          exact Ev.bind p2 r2
theorem chain_ev1 (l : Library) (hl : l.entries.length ≤ 8) (i : Int) (h0 : 0 ≤ i) (h1 : i < l.entries.length) :
    ∃ c b, Ev (fun k => spec_l21Chain.F k l i) (c, b) ∧ Ev (fun k => impl_chainOf.F k l i) (c, b) ∧ c.Nodup ∧ (∀ x ∈ c, 0 ≤ x ∧ x < l.entries.length) ∧ c.length ≤ l.entries.length ∧ 1 ≤ c.length := by
  obtain ⟨r, r1, r2, r3, t, r4, r5⟩ := chain_l l hl (l.entries.length + 1) [] i (by simp) (by omega) h1 List.nodup_nil (fun x hx => by cases hx)
  have hpos : 1 ≤ (chL r).length := by
    rw [r4]
    cases t with
    | nil => exact absurd rfl (r5 h0 (by simp))
    | cons x t => simp
  unfold spec_l21Chain.F impl_chainOf.F
  cases r with
  | inl p =>
    obtain ⟨c, b⟩ := p
    exact ⟨c, b, Ev.bind r1 (Ev.pure _), Ev.bind r2 (Ev.pure _), r3.2.1, r3.2.2, pigeon _ _ r3.2.1 r3.2.2, hpos⟩
  | inr c => exact ⟨c, false, Ev.bind r1 (Ev.pure _), Ev.bind r2 (Ev.pure _), r3.1, r3.2, pigeon _ _ r3.1 r3.2, hpos⟩
theorem chain_ev (l : Library) (hl : l.entries.length ≤ 8) (i : Int) (h0 : 0 ≤ i) (h1 : i < l.entries.length) :
    ∃ c b, Ev (fun k => spec_l21Chain.F k l i) (c, b) ∧ Ev (fun k => impl_chainOf.F k l i) (c, b) ∧ c.Nodup ∧ (∀ x ∈ c, 0 ≤ x ∧ x < l.entries.length) ∧ c.length ≤ l.entries.length := by
  obtain ⟨c, b, h1, h2, h3, h4, h5, _⟩ := chain_ev1 l hl i h0 h1
  exact ⟨c, b, h1, h2, h3, h4, h5⟩
end Go.Proofs.YtckcichnmiifkaaGreatDoor
end
section
/- Plain laws: marks of lists of texts; deep marks of names, entries and libraries. -/
namespace Go.Proofs.YtckcichnmiifkaaGreatDoor
open Go.Gx
set_option linter.unusedVariables false
set_option linter.unusedSimpArgs false

end Go.Proofs.YtckcichnmiifkaaGreatDoor
end
section
/- Plain laws: deep marks of names, entries and libraries. -/
namespace Go.Proofs.YtckcichnmiifkaaGreatDoor
open Go.Gx
set_option linter.unusedVariables false
set_option linter.unusedSimpArgs false

/-! ### Deep marks: numbers go up -/
end Go.Proofs.YtckcichnmiifkaaGreatDoor
end
section
/- The plain laws of CrossChain, ChildrenOf, BrokenCrosses and DependentsOf. -/
namespace Go.Proofs.YtckcichnmiifkaaGreatDoor
open Go.Gx
set_option linter.unusedVariables false
set_option linter.unusedSimpArgs false

theorem room_s8 {n : Nat} (h : n ≤ 8192) : room n .str = true := room_s h
/-- What both ask first. -/
theorem asked_ev (l : Library) (hs : smallL l) (key : ByteArray) : ∃ (v : Bool) (i : Int), Ev (fun k => spec_l21Asked.F k l key) (v && decide (i ≥ 0)) ∧ Ev (fun k => spec_l4Good.F k l) v ∧ Ev (fun k => impl_IsValidLibrary.F k l) v ∧ Ev (fun k => spec_l4Find.F k l key) i ∧ Ev (fun k => impl_entryIndex.F k l key) i ∧ -1 ≤ i ∧ i < l.entries.length ∧ (v = true → l.entries.length ≤ 8 ∧ libB l = true) ∧ (0 ≤ i → kAt l i = key) := by
  have hl := smallL_len hs
  have v1 := specLib_ev l hs
  have v2 := isLib_ev l hs
  obtain ⟨i, i1, i2, i3, i4, i5, _⟩ := findK_ev l key hl
  refine ⟨libB l, i, ?_, v1, v2, i1, i2, i3, i4, fun h => ⟨libB_len h, h⟩, i5⟩
  unfold spec_l21Asked.F
  cases hv : libB l with
  | false => rw [hv] at v1; exact Ev.bind v1 (Ev.pure _)
  | true => rw [hv] at v1; exact Ev.bind v1 (Ev.bind i1 (Ev.pure _))

/-! ### CrossChain -/
theorem keys_l (l : Library) (c : List Int) (b : Bool) (hc : ∀ x ∈ c, 0 ≤ x ∧ x < l.entries.length) (hlen : c.length ≤ 8) : ∀ n i : Nat, i + n = c.length → ∀ acc : List ByteArray, acc.length + n ≤ 100 →
    Ev (fun k => spec_CrossChain.l0 k l acc c b i) (acc ++ (c.drop i).map (kAt l), b) ∧ Ev (fun k => impl_keysOf.l0 k l acc c c.length i) (acc ++ (c.drop i).map (kAt l))
  | 0, i, h, acc, ha => by
    have hd : c.drop i = [] := List.drop_eq_nil_of_le (by omega)
    refine ⟨Ev.step (fun k => by rw [spec_CrossChain.l0]) ?_, Ev.step (fun k => by rw [impl_keysOf.l0]) ?_⟩
    · simp (disch := omega) only [cneg]; exact (Ev.pure _).eq (by simp [hd])
    · simp (disch := omega) only [cneg]; exact (Ev.pure _).eq (by simp [hd])
  | n + 1, i, h, acc, ha => by
    have hi : i < c.length := by omega
    have hd : c.drop i = c[i] :: c.drop (i + 1) := List.drop_eq_getElem_cons hi
    obtain ⟨hx0, hx1⟩ := hc _ (List.getElem_mem hi)
    have hr : ∀ z : ByteArray, room (acc.length + ([z] : List ByteArray).length) .str = true := fun z => room_s8 (by simp; omega)
    have e : acc ++ (c.drop i).map (kAt l) = (acc ++ [kAt l c[i]]) ++ (c.drop (i + 1)).map (kAt l) := by rw [hd]; simp only [List.map_cons, List.append_assoc, List.singleton_append]
    obtain ⟨h1, h2⟩ := keys_l l c b hc hlen n (i + 1) (by omega) (acc ++ [kAt l c[i]]) (by simp; omega)
    rw [e]
    refine ⟨Ev.step (fun k => by rw [spec_CrossChain.l0]) ?_, Ev.step (fun k => by rw [impl_keysOf.l0]) ?_⟩
    · simp (disch := omega) only [cpos, Int.toNat_natCast, getD_at hi, hr, cond_true, wrap_in]
      exact h1
    · simp (disch := omega) only [cpos, Int.toNat_natCast, getD_at hi, hr, cond_true, wrap_in]
      exact h2
theorem crossChain_ev (l : Library) (hs : smallL l) (key : ByteArray) : ∃ r b v, Ev (fun k => spec_CrossChain.F k l key) (r, b, v) ∧ Ev (fun k => impl_CrossChain.F k l key) (r, b, v) ∧ r.length ≤ 8 := by
  obtain ⟨v, i, a1, a2, a3, a4, a5, a6, a7, a8, a9⟩ := asked_ev l hs key
  unfold spec_CrossChain.F impl_CrossChain.F
  cases v with
  | false => exact ⟨[], false, false, Ev.bind a1 (Ev.pure _), Ev.bind a5 (Ev.bind a3 (Ev.pure _)), by simp⟩
  | true =>
    by_cases hi : i < 0
    · rw [decide_eq_false (by omega)] at a1
      refine ⟨[], false, false, Ev.bind a1 (Ev.pure _), Ev.bind a5 (Ev.bind a3 ?_), by simp⟩
      simp (disch := omega) only [Bool.not_true, cond_false, cpos]
      exact Ev.pure _
    · rw [decide_eq_true (by omega)] at a1
      obtain ⟨c, b, c1, c2, c3, c4, c5⟩ := chain_ev l (a8 rfl).1 i (by omega) a7
      have := (a8 rfl).1
      obtain ⟨k1, k2⟩ := keys_l l c b c4 (by omega) c.length 0 (by omega) [] (by simp; omega)
      refine ⟨c.map (kAt l), b, true, Ev.bind a1 (Ev.bind a4 (Ev.bind c1 (Ev.bind k1 ?_))), Ev.bind a5 (Ev.bind a3 ?_), by simp; omega⟩
      · exact (Ev.pure _).eq (by simp)
      · simp (disch := omega) only [Bool.not_true, cond_false, cneg]
        refine Ev.bind c2 (Ev.bind ?_ (Ev.pure _))
        unfold impl_keysOf.F
        exact Ev.bind k2 ((Ev.pure _).eq (by simp))
/-! ### ChildrenOf -/
/-! ### BrokenCrosses -/
/-! ### DependentsOf -/
theorem dep_l (l : Library) (hl : l.entries.length ≤ 8) (hB : libB l = true) (key : ByteArray) (q : Int) (q0 : 0 ≤ q) (q1 : q < l.entries.length) (hq : kAt l q = key) (hf : Ev (fun k => spec_l4Find.F k l key) q) : ∀ n i : Nat, i + n = l.entries.length → ∀ acc : List ByteArray, acc.length + n ≤ 100 →
    ∃ r, Ev (fun k => spec_DependentsOf.l0 k key l acc i) r ∧ Ev (fun k => impl_DependentsOf.l0 k l q acc l.entries l.entries.length i) r ∧ r.length ≤ acc.length + n
  | 0, i, h, acc, ha => by
    refine ⟨acc, Ev.step (fun k => by rw [spec_DependentsOf.l0]) ?_, Ev.step (fun k => by rw [impl_DependentsOf.l0]) ?_, by omega⟩
    · simp (disch := omega) only [cneg]; exact Ev.pure _
    · simp (disch := omega) only [cneg]; exact Ev.pure _
  | n + 1, i, h, acc, ha => by
    have hi : i < l.entries.length := by omega
    have hr : ∀ z : ByteArray, room (acc.length + ([z] : List ByteArray).length) .str = true := fun z => room_s8 (by simp; omega)
    obtain ⟨r0, r01, r02, r03⟩ := dep_l l hl hB key q q0 q1 hq hf n (i + 1) (by omega) acc (by omega)
    obtain ⟨c, b, c1, c2, c3, c4, c5⟩ := chain_ev l hl i (by omega) (by omega)
    obtain ⟨e1, e2⟩ := has_ev c q (by omega)
    have hkey : beqS l.entries[i].key key = decide ((i : Int) = q) := by
      by_cases e : (i : Int) = q
      · rw [decide_eq_true e, beqS_iff, ← hq, ← e]
        unfold kAt
        rw [Int.toNat_natCast, getD_at hi]
      · rw [decide_eq_false e]
        cases hb : beqS l.entries[i].key key with
        | false => rfl
        | true =>
          exfalso
          have h1 := beqS_iff.1 hb
          have h2 := keys_ne hB (i := i) (j := q.toNat) hi (by omega) (by rw [getD_at hi, h1, ← hq]; rfl)
          omega
    by_cases hiq : (i : Int) = q
    · rw [decide_eq_true hiq] at hkey
      refine ⟨r0, Ev.step (fun k => by rw [spec_DependentsOf.l0]) ?_, Ev.step (fun k => by rw [impl_DependentsOf.l0]) ?_, by omega⟩
      · simp (disch := omega) only [cpos]
        refine Ev.bind c1 ?_
        simp (disch := omega) only [cpos, Int.toNat_natCast, getD_at hi, hkey, Bool.not_true, cond_false, wrap_in]; exact r01
      · simp (disch := omega) only [cpos]
        refine Ev.bind c2 ?_
        simp (disch := omega) only [cbeq, wrap_in]; exact r02
    · rw [decide_eq_false hiq] at hkey
      by_cases hm : q ∈ c
      · rw [decide_eq_true hm] at e1 e2
        obtain ⟨r, r1, r2, r3⟩ := dep_l l hl hB key q q0 q1 hq hf n (i + 1) (by omega) (acc ++ [l.entries[i].key]) (by simp; omega)
        refine ⟨r, Ev.step (fun k => by rw [spec_DependentsOf.l0]) ?_, Ev.step (fun k => by rw [impl_DependentsOf.l0]) ?_, by simp at r3; omega⟩
        · simp (disch := omega) only [cpos]
          refine Ev.bind c1 ?_
          simp (disch := omega) only [cpos, Int.toNat_natCast, getD_at hi, hkey, Bool.not_false, cond_true]
          refine Ev.bind hf (Ev.bind e1 ?_)
          simp (disch := omega) only [cpos, hr, cond_true, wrap_in]; exact r1
        · simp (disch := omega) only [cpos]
          refine Ev.bind c2 ?_
          simp (disch := omega) only [cbne]
          refine Ev.bind e2 ?_
          simp (disch := omega) only [cpos, Int.toNat_natCast, getD_at hi, hr, cond_true, wrap_in]; exact r2
      · rw [decide_eq_false hm] at e1 e2
        refine ⟨r0, Ev.step (fun k => by rw [spec_DependentsOf.l0]) ?_, Ev.step (fun k => by rw [impl_DependentsOf.l0]) ?_, by omega⟩
        · simp (disch := omega) only [cpos]
          refine Ev.bind c1 ?_
          simp (disch := omega) only [cpos, Int.toNat_natCast, getD_at hi, hkey, Bool.not_false, cond_true]
          refine Ev.bind hf (Ev.bind e1 ?_)
          simp (disch := omega) only [cond_false, wrap_in]; exact r01
        · simp (disch := omega) only [cpos]
          refine Ev.bind c2 ?_
          simp (disch := omega) only [cbne]
          refine Ev.bind e2 ?_
          simp (disch := omega) only [cond_false, wrap_in]; exact r02
theorem dependentsOf_ev (l : Library) (hs : smallL l) (key : ByteArray) : ∃ r v, Ev (fun k => spec_DependentsOf.F k l key) (r, v) ∧ Ev (fun k => impl_DependentsOf.F k l key) (r, v) ∧ r.length ≤ 8 := by
  obtain ⟨v, i, a1, a2, a3, a4, a5, a6, a7, a8, a9⟩ := asked_ev l hs key
  unfold spec_DependentsOf.F impl_DependentsOf.F
  cases v with
  | false => exact ⟨[], false, Ev.bind a1 (Ev.pure _), Ev.bind a5 (Ev.bind a3 (Ev.pure _)), by simp⟩
  | true =>
    by_cases hi : i < 0
    · rw [decide_eq_false (by omega)] at a1
      refine ⟨[], false, Ev.bind a1 (Ev.pure _), Ev.bind a5 (Ev.bind a3 ?_), by simp⟩
      simp (disch := omega) only [Bool.not_true, cond_false, cpos]
      exact Ev.pure _
    · rw [decide_eq_true (by omega)] at a1
      obtain ⟨hl, hB⟩ := a8 rfl
      obtain ⟨r, r1, r2, r3⟩ := dep_l l hl hB key i (by omega) a7 (a9 (by omega)) a4 l.entries.length 0 (by omega) [] (by simp; omega)
      refine ⟨r, true, Ev.bind a1 (Ev.bind r1 (Ev.pure _)), Ev.bind a5 (Ev.bind a3 ?_), by simp at r3; omega⟩
      simp (disch := omega) only [Bool.not_true, cond_false, cneg]
      exact Ev.bind r2 (Ev.pure _)
end Go.Proofs.YtckcichnmiifkaaGreatDoor
end
section
/- What the laws draw: cursors, texts, names, dates, entries. -/
namespace Go.Proofs.YtckcichnmiifkaaGreatDoor
open Go.Gx
set_option linter.unusedVariables false
set_option linter.unusedSimpArgs false

theorem EvP.cond {α : Type} {b : Bool} {f g : Nat → Option α} {Q : α → Prop} (h1 : b = true → EvP f Q) (h2 : b = false → EvP g Q) : EvP (fun k => cond b (f k) (g k)) Q := by
  cases b with
  | true => exact h1 rfl
  | false => exact h2 rfl
theorem and255 (z : Int) : 0 ≤ IntKind.wrap .i64 (IntKind.wrap .u64 ((BitVec.ofInt (IntKind.bits .u64) z &&& BitVec.ofInt (IntKind.bits .u64) 255).toNat : Int)) ∧ IntKind.wrap .i64 (IntKind.wrap .u64 ((BitVec.ofInt (IntKind.bits .u64) z &&& BitVec.ofInt (IntKind.bits .u64) 255).toNat : Int)) ≤ 255 := by
  have h1 : (BitVec.ofInt (IntKind.bits .u64) z &&& BitVec.ofInt (IntKind.bits .u64) 255).toNat ≤ 255 := by
    rw [BitVec.toNat_and]
    exact Nat.le_trans Nat.and_le_right (Nat.le_of_eq rfl)
  generalize (BitVec.ofInt (IntKind.bits .u64) z &&& BitVec.ofInt (IntKind.bits .u64) 255).toNat = m at h1
  have h2 : IntKind.wrap .u64 (m : Int) = m := by rw [IntKind.wrap_u64]; omega
  rw [h2, wrap_in (by omega) (by omega)]
  omega
def byt (l : List Int) : Prop := (∀ b ∈ l, 0 ≤ b ∧ b ≤ 255) ∧ l.length ≤ 65536
theorem byt_of {code : List Int} (hw : WF (.sl (.int .u8)) code) (hl : (code.length : Int) ≤ 65536) : byt code := by
  refine ⟨fun b hb => ?_, by omega⟩
  obtain ⟨i, hi, rfl⟩ := List.getElem_of_mem hb
  cases hw with
  | sl _ _ _ h =>
    have := h i hi
    cases this with
    | int _ _ h =>
      have h1 : IntKind.u8.min = 0 := rfl
      have h2 : IntKind.u8.max = 255 := rfl
      simp only [Lit.wf, Bool.and_eq_true, decide_eq_true_eq] at h
      omega
theorem next_ev (c : Cur) (hc : byt c.code) (h0 : 0 ≤ c.at_) (h1 : c.at_ ≤ 1000000) : ∃ c' x, spec_l1Cur_next.F c = some (c', x) ∧ c'.code = c.code ∧ c'.at_ = c.at_ + 1 ∧ 0 ≤ x ∧ x ≤ 255 := by
  unfold spec_l1Cur_next.F
  have hl := hc.2
  have z40 : (decide ((0 : Nat) ≤ 40)) = true := rfl
  by_cases c1 : c.at_ < (c.code.length : Int)
  · have hi : c.at_.toNat < c.code.length := by omega
    have hb : 0 ≤ c.code.getD c.at_.toNat 0 ∧ c.code.getD c.at_.toNat 0 ≤ 255 := by
      have : c.code.getD c.at_.toNat 0 = c.code[c.at_.toNat] := by simp [List.getD, hi]
      rw [this]; exact hc.1 _ (List.getElem_mem hi)
    by_cases c2 : c.at_ + 1 ≤ (c.code.length : Int)
    · refine ⟨⟨c.code, c.at_ + 1, _⟩, _, by simp (disch := omega) only [cpos, wrap_in]; rfl, rfl, rfl, hb⟩
    · omega
  · have c2 : ¬ c.at_ + 1 ≤ (c.code.length : Int) := by omega
    refine ⟨⟨c.code, c.at_ + 1, _⟩, _, by simp (disch := omega) only [cneg, wrap_in, z40, cond_true]; rfl, rfl, rfl, and255 _⟩
theorem pick_ev (c : Cur) (hc : byt c.code) (h0 : 0 ≤ c.at_) (h1 : c.at_ ≤ 1000000) (n : Int) (hn : 1 ≤ n) (hn2 : n ≤ 200) : ∃ c' x, spec_l1Cur_pick.F c n = some (c', x) ∧ c'.code = c.code ∧ 0 ≤ c'.at_ ∧ c'.at_ ≤ c.at_ + 1 ∧ 0 ≤ x ∧ x < n := by
  unfold spec_l1Cur_pick.F
  by_cases c1 : n ≤ 1
  · refine ⟨c, 0, by simp (disch := omega) only [cpos], rfl, h0, by omega, by omega, by omega⟩
  · obtain ⟨c', x, e1, e2, e3, e4, e5⟩ := next_ev c hc h0 h1
    refine ⟨c', Int.tmod x n, ?_, e2, by omega, by omega, Int.tmod_nonneg _ e4, Int.tmod_lt_of_pos _ (by omega)⟩
    have hz : (n == 0) = false := by rw [beq_eq_false_iff_ne]; omega
    simp (disch := omega) only [cneg, e1, Option.bind_some, hz, cond_false]

/-! ### Cursors -/
/-- A cursor that has drawn at most n times. -/
def cu (n : Int) (c : Cur) : Prop := byt c.code ∧ 0 ≤ c.at_ ∧ c.at_ ≤ n
theorem cu.mono {n m : Int} {c : Cur} (h : cu n c) (hn : n ≤ m) : cu m c := ⟨h.1, h.2.1, Int.le_trans h.2.2 hn⟩
theorem cu.start {code : List Int} (h : byt code) : cu 0 ⟨code, 0, 0⟩ := ⟨h, Int.le_refl 0, Int.le_refl 0⟩
section
variable {β : Type} {Q : β → Prop} {n : Int} {c : Cur}
theorem pick_b {m : Int} {g : Nat → Cur × Int → Option β} (h : cu n c) (hn : n ≤ 900000) (h1 : 1 ≤ m) (h2 : m ≤ 200) (hg : ∀ c' x, cu (n + 1) c' → 0 ≤ x → x < m → EvP (fun k => g k (c', x)) Q) : EvP (fun k => (spec_l1Cur_pick.F c m).bind (g k)) Q := by
  obtain ⟨h3, h4, h5⟩ := h
  obtain ⟨c', x, e1, e2, e3, e4, e5, e6⟩ := pick_ev c h3 h4 (by omega) m h1 h2
  exact EvP.of0 e1 (hg c' x ⟨by rw [e2]; exact h3, e3, by omega⟩ e5 e6)
theorem one_b {m : Int} {g : Nat → Cur × Bool → Option β} (h : cu n c) (hn : n ≤ 900000) (h1 : 1 ≤ m) (h2 : m ≤ 200) (hg : ∀ c' x, cu (n + 1) c' → EvP (fun k => g k (c', x)) Q) : EvP (fun k => (spec_l1Cur_one.F c m).bind (g k)) Q := by
  obtain ⟨h3, h4, h5⟩ := h
  obtain ⟨c', x, e1, e2, e3, e4, e5, e6⟩ := pick_ev c h3 h4 (by omega) m h1 h2
  refine EvP.of0 (a := (c', x == 0)) ?_ (hg c' (x == 0) ⟨by rw [e2]; exact h3, e3, by omega⟩)
  unfold spec_l1Cur_one.F
  rw [e1]; rfl
theorem of_b {l : List ByteArray} {g : Nat → Cur × ByteArray → Option β} (h : cu n c) (hn : n ≤ 900000) (h1 : 1 ≤ l.length) (h2 : l.length ≤ 200) (hs : ∀ y ∈ l, y.size ≤ 50) (hg : ∀ c' x, cu (n + 1) c' → x.size ≤ 50 → EvP (fun k => g k (c', x)) Q) : EvP (fun k => (spec_l1Cur_of.F c l).bind (g k)) Q := by
  obtain ⟨h3, h4, h5⟩ := h
  obtain ⟨c', x, e1, e2, e3, e4, e5, e6⟩ := pick_ev c h3 h4 (by omega) (l.length : Int) (by omega) (by omega)
  have hi : x.toNat < l.length := by omega
  refine EvP.of0 (a := (c', l.getD x.toNat ⟨#[]⟩)) ?_ (hg c' _ ⟨by rw [e2]; exact h3, e3, by omega⟩ (by rw [getD_at hi]; exact hs _ (List.getElem_mem hi)))
  unfold spec_l1Cur_of.F
  simp (disch := omega) only [e1, Option.bind_some, cpos]
theorem among_b {l : List Int} {g : Nat → Cur × Int → Option β} (h : cu n c) (hn : n ≤ 900000) (h1 : 1 ≤ l.length) (h2 : l.length ≤ 200) (hg : ∀ c' x, cu (n + 1) c' → EvP (fun k => g k (c', x)) Q) : EvP (fun k => (spec_l1Cur_among.F c l).bind (g k)) Q := by
  obtain ⟨h3, h4, h5⟩ := h
  obtain ⟨c', x, e1, e2, e3, e4, e5, e6⟩ := pick_ev c h3 h4 (by omega) (l.length : Int) (by omega) (by omega)
  have hi : x.toNat < l.length := by omega
  refine EvP.of0 (a := (c', l.getD x.toNat 0)) ?_ (hg c' _ ⟨by rw [e2]; exact h3, e3, by omega⟩)
  unfold spec_l1Cur_among.F
  simp (disch := omega) only [e1, Option.bind_some, cpos]
end
theorem size_app2 (s t : ByteArray) : (s ++ t).size = s.size + t.size := by rw [← L_size, L_append, List.length_append]; rfl
theorem size_ext (s : ByteArray) (a b : Nat) : (s.extract a b).size ≤ s.size := by
  rw [← L_size, L_extract, List.length_drop, List.length_take, L_size]
  omega

/-! ### Dates, texts -/
theorem date_b {n : Int} {c : Cur} (h : cu n c) (hn : n ≤ 800000) : EvP (fun _ => spec_l1Cur_date.F c) fun r => cu (n + 5) r.1 := by
  unfold spec_l1Cur_date.F
  refine among_b h (by omega) (by decide) (by decide) fun c1 x hc1 => ?_
  refine pick_b hc1 (by omega) (by omega) (by omega) fun c2 y hc2 y0 y1 => ?_
  dsimp only
  repeat' refine EvP.cond (fun _ => ?_) (fun _ => ?_)
  all_goals first
    | exact EvP.pure _ (hc2.mono (by omega))
    | (refine pick_b hc2 (by omega) (by omega) (by omega) fun c3 z hc3 z0 z1 => ?_
       dsimp only
       first
         | exact EvP.pure _ (hc3.mono (by omega))
         | (refine pick_b hc3 (by omega) (by omega) (by omega) fun c4 u hc4 u0 u1 => ?_
            exact EvP.pure _ (hc4.mono (by omega))))
theorem date_ev {n : Int} {c : Cur} (h : cu n c) (hn : n ≤ 800000) : ∃ r, spec_l1Cur_date.F c = some r ∧ cu (n + 5) r.1 := by
  obtain ⟨r, ⟨K, hK⟩, hr⟩ := date_b h hn
  exact ⟨r, hK K (Nat.le_refl _), hr⟩
theorem anyDate_b {n : Int} {c : Cur} (h : cu n c) (hn : n ≤ 800000) : EvP (fun _ => spec_l1Cur_anyDate.F c) fun r => cu (n + 10) r.1 := by
  unfold spec_l1Cur_anyDate.F
  obtain ⟨r, e1, h1⟩ := date_ev h hn
  refine EvP.of0 e1 ?_
  refine pick_b h1 (by omega) (by omega) (by omega) fun c2 y hc2 y0 y1 => ?_
  dsimp only
  repeat' refine EvP.cond (fun _ => ?_) (fun _ => ?_)
  all_goals first
    | exact EvP.pure _ (hc2.mono (by omega))
    | (refine among_b hc2 (by omega) (by decide) (by decide) fun c3 z hc3 => ?_
       exact EvP.pure _ (hc3.mono (by omega)))
theorem anyDate_ev {n : Int} {c : Cur} (h : cu n c) (hn : n ≤ 800000) : ∃ r, spec_l1Cur_anyDate.F c = some r ∧ cu (n + 10) r.1 := by
  obtain ⟨r, ⟨K, hK⟩, hr⟩ := anyDate_b h hn
  exact ⟨r, hK K (Nat.le_refl _), hr⟩
/-! ### Names -/
def nameOk (n : Name) : Prop := n.given.length ≤ 8 ∧ (∀ w ∈ n.given, w.size ≤ 50) ∧ n.particle.size ≤ 50 ∧ n.family.size ≤ 50 ∧ n.suffix.size ≤ 50
def namesOk (m : Nat) (l : List Name) : Prop := l.length ≤ m ∧ ∀ n ∈ l, nameOk n
theorem room8 {n : Nat} {τ : Ty} (hn : n ≤ 1000) (ht : nb τ ≤ 1000) : room n τ = true := by
  unfold room
  have : n * nb τ ≤ 1000 * 1000 := Nat.mul_le_mul hn ht
  exact Nat.ble_eq_true_of_le (by omega)
theorem name_l0 : ∀ m : Nat, m ≤ 5 → ∀ {n : Int} {c : Cur}, cu n c → n + m ≤ 800000 → ∀ (q : List ByteArray) (q1 q2 q3 : ByteArray) (g : List ByteArray) (p f s : ByteArray), g.length + m ≤ 6 → (∀ w ∈ g, w.size ≤ 50) →
    EvP (fun k => spec_l1Cur_name.l0 k c q q1 q2 q3 g p f s m) fun r => ∃ g', r.2 = (q, q1, q2, q3, g', p, f, s) ∧ cu (n + m) r.1 ∧ g'.length ≤ 6 ∧ ∀ w ∈ g', w.size ≤ 50
  | 0, _, n, c, hc, hn, q, q1, q2, q3, g, p, f, s, hg, hw => by
    refine EvP.step (fun k => by rw [spec_l1Cur_name.l0]) ?_
    simp (disch := omega) only [cneg]
    exact EvP.pure _ ⟨g, rfl, hc.mono (by omega), by omega, hw⟩
  | m + 1, hm, n, c, hc, hn, q, q1, q2, q3, g, p, f, s, hg, hw => by
    refine EvP.step (fun k => by rw [spec_l1Cur_name.l0]) ?_
    simp (disch := omega) only [cpos]
    refine of_b hc (by omega) (by decide) (by decide) (by decide) fun c1 x hc1 hx => ?_
    dsimp only
    have hr : room (g.length + ([x] : List ByteArray).length) .str = true := room8 (by simp; omega) (by decide)
    rw [show (((m + 1 : Nat) : Int) - 1) = (m : Int) by omega]
    simp (disch := omega) only [hr, cond_true, wrap_in]
    refine EvP.mono (name_l0 m (by omega) hc1 (by omega) q q1 q2 q3 (g ++ [x]) p f s (by simp; omega) fun w h => ?_) fun r hr => ?_
    · rcases List.mem_append.1 h with h | h
      · exact hw w h
      · rw [List.mem_singleton.1 h]; exact hx
    · obtain ⟨g', h1, h2, h3⟩ := hr
      exact ⟨g', h1, h2.mono (by omega), h3⟩
theorem name_b {n : Int} {c : Cur} (h : cu n c) (hn : n ≤ 700000) : EvP (fun k => spec_l1Cur_name.F k c) fun r => cu (n + 10) r.1 ∧ nameOk r.2 ∧ r.2.given.length ≤ 6 := by
  unfold spec_l1Cur_name.F
  simp (disch := decide) only [cpos]
  refine of_b h (by omega) (by decide) (by decide) (by decide) fun c1 x hc1 hx => ?_
  refine pick_b hc1 (by omega) (by omega) (by omega) fun c2 y hc2 y0 y1 => ?_
  obtain ⟨m, rfl⟩ : ∃ m : Nat, y = m := ⟨y.toNat, by omega⟩
  refine EvP.bind (name_l0 m (by omega) hc2 (by omega) [] _ _ _ [] ⟨#[]⟩ x ⟨#[]⟩ (by simp; omega) (by simp)) fun r hr => ?_
  obtain ⟨r1, r2⟩ := r
  obtain ⟨g, rfl, h2, h3, h4⟩ := hr
  have h2 : cu (n + 1 + 1 + m) r1 := h2
  dsimp only
  have z : (⟨#[]⟩ : ByteArray).size ≤ 50 := by decide
  refine one_b h2 (by omega) (by decide) (by decide) fun c3 b3 hc3 => ?_
  refine EvP.cond (fun _ => ?_) (fun _ => ?_)
  · refine of_b hc3 (by omega) (by decide) (by decide) (by decide) fun c4 x4 hc4 hx4 => ?_
    refine one_b hc4 (by omega) (by decide) (by decide) fun c5 b5 hc5 => ?_
    refine EvP.cond (fun _ => ?_) (fun _ => ?_)
    · refine of_b hc5 (by omega) (by decide) (by decide) (by decide) fun c6 x6 hc6 hx6 => ?_
      exact EvP.pure _ ⟨hc6.mono (by omega), ⟨by show g.length ≤ 8; omega, h4, hx4, hx, hx6⟩, h3⟩
    · exact EvP.pure _ ⟨hc5.mono (by omega), ⟨by show g.length ≤ 8; omega, h4, hx4, hx, z⟩, h3⟩
  · refine one_b hc3 (by omega) (by decide) (by decide) fun c5 b5 hc5 => ?_
    refine EvP.cond (fun _ => ?_) (fun _ => ?_)
    · refine of_b hc5 (by omega) (by decide) (by decide) (by decide) fun c6 x6 hc6 hx6 => ?_
      exact EvP.pure _ ⟨hc6.mono (by omega), ⟨by show g.length ≤ 8; omega, h4, z, hx, hx6⟩, h3⟩
    · exact EvP.pure _ ⟨hc5.mono (by omega), ⟨by show g.length ≤ 8; omega, h4, z, hx, z⟩, h3⟩
theorem names_put {m : Nat} {l : List Name} {n : Name} (h : namesOk m l) (hn : nameOk n) : namesOk (m + 1) (l ++ [n]) := by
  refine ⟨by have := h.1; simp; omega, fun x hx => ?_⟩
  rcases List.mem_append.1 hx with hx | hx
  · exact h.2 x hx
  · rw [List.mem_singleton.1 hx]; exact hn
theorem names_l0 : ∀ m : Nat, m ≤ 6 → ∀ {n : Int} {c : Cur}, cu n c → n + 10 * m ≤ 600000 → ∀ (q : Nat) (l : List Name), q + m ≤ 20 → namesOk q l → EvP (fun k => spec_l1Cur_names.l0 k c l m) fun r => cu (n + 10 * m) r.1 ∧ namesOk (q + m) r.2
  | 0, _, n, c, hc, hn, q, l, hq, hl => by
    refine EvP.step (fun k => by rw [spec_l1Cur_names.l0]) ?_
    simp (disch := omega) only [cneg]
    exact EvP.pure _ ⟨hc.mono (by omega), hl⟩
  | m + 1, hm, n, c, hc, hn, q, l, hq, hl => by
    refine EvP.step (fun k => by rw [spec_l1Cur_names.l0]) ?_
    simp (disch := omega) only [cpos]
    refine EvP.bind (name_b hc (by omega)) fun r hr => ?_
    obtain ⟨h1, h2, _⟩ := hr
    have hrm : room (l.length + ([(⟨r.2.given, r.2.particle, r.2.family, r.2.suffix⟩ : Name)] : List Name).length) .name = true := room8 (by have := hl.1; simp; omega) (by decide)
    rw [show (((m + 1 : Nat) : Int) - 1) = (m : Int) by omega]
    simp (disch := omega) only [hrm, cond_true, wrap_in]
    refine EvP.mono (names_l0 m (by omega) h1 (by omega) (q + 1) _ (by omega) (names_put hl (n := ⟨r.2.given, r.2.particle, r.2.family, r.2.suffix⟩) h2)) fun y hy => ⟨hy.1.mono (by omega), ?_⟩
    rw [show q + (m + 1) = q + 1 + m by omega]
    exact hy.2
theorem names_b {n : Int} {c : Cur} (h : cu n c) (hn : n ≤ 500000) : EvP (fun k => spec_l1Cur_names.F k c) fun r => cu (n + 60) r.1 ∧ namesOk 6 r.2 := by
  unfold spec_l1Cur_names.F
  refine pick_b h (by omega) (by omega) (by omega) fun c2 y hc2 y0 y1 => ?_
  obtain ⟨m, rfl⟩ : ∃ m : Nat, y = m := ⟨y.toNat, by omega⟩
  refine EvP.bind (names_l0 m (by omega) hc2 (by omega) 0 [] (by omega) ⟨Nat.le_refl _, fun n h => by cases h⟩) fun r hr => ?_
  exact EvP.pure _ ⟨hr.1.mono (by omega), by have := hr.2.1; show r.2.length ≤ 6; omega, hr.2.2⟩
theorem anyName_b {n : Int} {c : Cur} (h : cu n c) (hn : n ≤ 600000) : EvP (fun k => spec_l1Cur_anyName.F k c) fun r => cu (n + 20) r.1 ∧ nameOk r.2 := by
  unfold spec_l1Cur_anyName.F
  refine EvP.bind (name_b h (by omega)) fun r hr => ?_
  obtain ⟨h1, ⟨g1, g2, g3, g4, g5⟩, h3⟩ := hr
  refine pick_b h1 (by omega) (by omega) (by omega) fun c2 y hc2 y0 y1 => ?_
  dsimp only
  repeat' refine EvP.cond (fun _ => ?_) (fun _ => ?_)
  · refine of_b hc2 (by omega) (by decide) (by decide) (by decide) fun c6 x6 hc6 hx6 => ?_
    exact EvP.pure _ ⟨hc6.mono (by omega), g1, g2, g3, hx6, g5⟩
  · refine of_b hc2 (by omega) (by decide) (by decide) (by decide) fun c6 x6 hc6 hx6 => ?_
    exact EvP.pure _ ⟨hc6.mono (by omega), g1, g2, hx6, g4, g5⟩
  · refine of_b hc2 (by omega) (by decide) (by decide) (by decide) fun c6 x6 hc6 hx6 => ?_
    exact EvP.pure _ ⟨hc6.mono (by omega), g1, g2, g3, g4, hx6⟩
  · refine of_b hc2 (by omega) (by decide) (by decide) (by decide) fun c6 x6 hc6 hx6 => ?_
    dsimp only
    have hrm : room (r.2.given.length + ([x6, (⟨#[69, 118, 101]⟩ : ByteArray)] : List ByteArray).length) .str = true := room8 (by simp; omega) (by decide)
    rw [hrm]
    refine EvP.pure _ ⟨hc6.mono (by omega), ?_, fun w hw => ?_, g3, g4, g5⟩
    · show (r.2.given ++ _).length ≤ 8
      simp; omega
    · rcases List.mem_append.1 hw with hw | hw
      · exact g2 w hw
      · simp only [List.mem_cons, List.not_mem_nil, or_false] at hw
        rcases hw with rfl | rfl
        · exact hx6
        · decide
  · exact EvP.pure _ ⟨hc2.mono (by omega), g1, g2, g3, g4, g5⟩
theorem anyNames_l1 : ∀ m : Nat, m ≤ 6 → ∀ {n : Int} {c : Cur}, cu n c → n + 20 * m ≤ 550000 → ∀ (l : List Name), l.length + m = 6 → namesOk 6 l → EvP (fun k => spec_l1Cur_anyNames.l1 k c l) fun r => cu (n + 20 * m + 20) r.1 ∧ namesOk 7 r.2
  | m, hm, n, c, hc, hn, l, hl, hq => by
    refine EvP.step (fun k => by rw [spec_l1Cur_anyNames.l1]) ?_
    refine pick_b hc (by omega) (by omega) (by omega) fun c1 x hc1 x0 x1 => ?_
    dsimp only
    by_cases h1 : (l.length : Int) < 4 + x
    · simp (disch := omega) only [cpos, wrap_in]
      refine EvP.bind (name_b hc1 (by omega)) fun r hr => ?_
      obtain ⟨h2, h3, _⟩ := hr
      have hrm : room (l.length + ([(⟨r.2.given, r.2.particle, r.2.family, r.2.suffix⟩ : Name)] : List Name).length) .name = true := room8 (by simp; omega) (by decide)
      simp only [hrm, cond_true]
      cases m with
      | zero => omega
      | succ m =>
        have hp := names_put hq (n := ⟨r.2.given, r.2.particle, r.2.family, r.2.suffix⟩) h3
        refine EvP.mono (anyNames_l1 m (by omega) h2 (by omega) _ (by simp; omega) ⟨by simp; omega, hp.2⟩) fun y hy => ⟨hy.1.mono (by omega), hy.2⟩
    · simp (disch := omega) only [cneg, wrap_in]
      exact EvP.pure _ ⟨hc1.mono (by omega), by show l.length ≤ 7; omega, hq.2⟩
theorem anyNames_b {n : Int} {c : Cur} (h : cu n c) (hn : n ≤ 450000) : EvP (fun k => spec_l1Cur_anyNames.F k c) fun r => cu (n + 250) r.1 ∧ namesOk 7 r.2 := by
  unfold spec_l1Cur_anyNames.F
  refine EvP.bind (names_b h (by omega)) fun r hr => ?_
  obtain ⟨h1, h2⟩ := hr
  have hl := h2.1
  refine pick_b h1 (by omega) (by omega) (by omega) fun c1 x hc1 x0 x1 => ?_
  dsimp only
  refine EvP.cond (fun _ => ?_) (fun _ => EvP.cond (fun _ => ?_) (fun _ => ?_))
  · refine EvP.bind (anyName_b hc1 (by omega)) fun y hy => ?_
    have hrm : room (r.2.length + ([(⟨y.2.given, y.2.particle, y.2.family, y.2.suffix⟩ : Name)] : List Name).length) .name = true := room8 (by simp; omega) (by decide)
    simp only [hrm, cond_true]
    exact EvP.pure _ ⟨hy.1.mono (by omega), names_put h2 (n := ⟨y.2.given, y.2.particle, y.2.family, y.2.suffix⟩) hy.2⟩
  · refine EvP.bind (anyNames_l1 (6 - r.2.length) (by omega) hc1 (by omega) r.2 (by omega) h2) fun y hy => ?_
    exact EvP.pure _ ⟨hy.1.mono (by omega), hy.2⟩
  · exact EvP.pure _ ⟨hc1.mono (by omega), by show r.2.length ≤ 7; omega, h2.2⟩
end Go.Proofs.YtckcichnmiifkaaGreatDoor
end
section
/- Plain laws: lower case. -/
namespace Go.Proofs.YtckcichnmiifkaaGreatDoor
open Go.Gx
set_option linter.unusedVariables false
set_option linter.unusedSimpArgs false

end Go.Proofs.YtckcichnmiifkaaGreatDoor
end
section
/- Plain laws: lower case, the other way. -/
namespace Go.Proofs.YtckcichnmiifkaaGreatDoor
open Go.Gx
set_option linter.unusedVariables false
set_option linter.unusedSimpArgs false

end Go.Proofs.YtckcichnmiifkaaGreatDoor
end
section
/- What the laws draw: entries, entries near to others, containers. -/
namespace Go.Proofs.YtckcichnmiifkaaGreatDoor
open Go.Gx
set_option linter.unusedVariables false
set_option linter.unusedSimpArgs false
set_option maxRecDepth 4000

/-! ### Entries -/
def entryOk (m : Nat) (e : Entry) : Prop := e.key.size ≤ 200 ∧ e.title.size ≤ m ∧ e.container.size ≤ 200 ∧ e.publisher.size ≤ 200 ∧ e.pages.size ≤ 200 ∧ e.cross.size ≤ 200 ∧ namesOk 8 e.authors ∧ namesOk 8 e.editors
theorem totS_le (l : List ByteArray) (h : ∀ w ∈ l, w.size ≤ 50) : totS l ≤ 50 * l.length := by
  induction l with
  | nil => exact Nat.le_refl _
  | cons x l ih =>
    have h1 := h x List.mem_cons_self
    have h2 := ih fun w hw => h w (List.mem_cons_of_mem _ hw)
    have : totS (x :: l) = x.size + totS l := by simp [totS]
    rw [this, List.length_cons]
    omega
theorem totN_le {n : Name} (h : nameOk n) : totN n ≤ 600 := by
  obtain ⟨h1, h2, h3, h4, h5⟩ := h
  have := totS_le _ h2
  unfold totN
  omega
theorem totNs_le {m : Nat} {l : List Name} (h : namesOk m l) (hm : m ≤ 10) : totNs l ≤ 10000 := by
  have : ∀ l : List Name, (∀ n ∈ l, nameOk n) → (l.map totN).sum ≤ 600 * l.length := fun l => by
    induction l with
    | nil => intro _; exact Nat.le_refl _
    | cons x l ih =>
      intro h
      have h1 := totN_le (h x List.mem_cons_self)
      have h2 := ih fun w hw => h w (List.mem_cons_of_mem _ hw)
      simp only [List.map_cons, List.sum_cons, List.length_cons]
      omega
  have h1 := this l h.2
  have h2 := h.1
  unfold totNs
  omega
theorem entryOk_tot {m : Nat} (hm : m ≤ 200) {e : Entry} (h : entryOk m e) : totE e ≤ 30000 := by
  obtain ⟨h1, h2, h3, h4, h5, h6, h7, h8⟩ := h
  have := totNs_le h7 (by omega)
  have := totNs_le h8 (by omega)
  unfold totE
  omega
theorem ok50 {x : ByteArray} (h : x.size ≤ 50) : x.size ≤ 200 := by omega
theorem namesUp {m k : Nat} {l : List Name} (h : namesOk m l) (hk : m ≤ k) : namesOk k l := ⟨Nat.le_trans h.1 hk, h.2⟩
theorem names0 (k : Nat) : namesOk k ([] : List Name) := ⟨Nat.zero_le _, fun n h => by cases h⟩
/-- What is drawn from the container on. -/
theorem entry_b {n : Int} {c : Cur} (h : cu n c) (hn : n ≤ 400000) : EvP (fun k => spec_l1Cur_entry.F k c) fun r => cu (n + 200) r.1 ∧ entryOk 50 r.2 := by
  unfold spec_l1Cur_entry.F
  refine of_b h (by omega) (by decide) (by decide) (by decide) fun c1 x1 hc1 hx1 => ?_
  refine pick_b hc1 (by omega) (by omega) (by omega) fun c2 x2 hc2 _ _ => ?_
  refine EvP.bind (names_b hc2 (by omega)) fun r3 hr3 => ?_
  obtain ⟨hc3, hn3⟩ := hr3
  refine EvP.of0 (a := [(⟨#[79, 110, 32, 114, 105, 118, 101, 114, 115]⟩ : ByteArray), (⟨#[65, 32, 104, 105, 115, 116, 111, 114, 121, 32, 111, 102, 32, 109, 97, 112, 115]⟩ : ByteArray), (⟨#[84, 104, 101, 32, 110, 111, 114, 116, 104]⟩ : ByteArray), (⟨#[79, 108, 100, 32, 114, 111, 97, 100, 115, 58, 32, 97, 32, 103, 117, 105, 100, 101]⟩ : ByteArray), (⟨#[79, 110, 32, 114, 105, 118, 101, 114, 115]⟩ : ByteArray), (⟨#[]⟩ : ByteArray)]) rfl ?_
  refine of_b hc3 (by omega) (by decide) (by decide) (by decide) fun c5 x5 hc5 hx5 => ?_
  dsimp only
  obtain ⟨r6, e6, hc6⟩ := date_ev hc5 (by omega)
  refine EvP.of0 e6 ?_
  refine one_b hc6 (by omega) (by decide) (by decide) fun c7 b7 hc7 => ?_
  dsimp only
  have a1 := ok50 hx1
  have a5 := hx5
  have n3 := namesUp hn3 (show 6 ≤ 8 by omega)
  have z : (⟨#[]⟩ : ByteArray).size ≤ 200 := by decide
  have n0 := names0 8
  refine EvP.cond (fun _ => ?_) (fun _ => ?_)
  · refine EvP.bind (names_b hc7 (by omega)) fun r8 hr8 => ?_
    obtain ⟨hc8, hn8⟩ := hr8
    have n8 := namesUp hn8 (show 6 ≤ 8 by omega)
    refine one_b hc8 (by omega) (by decide) (by decide) fun c9 b9 hc9 => ?_
    refine EvP.cond (fun _ => ?_) (fun _ => ?_)
    · refine of_b hc9 (by omega) (by decide) (by decide) (by decide) fun c10 x10 hc10 hx10 => ?_
      refine among_b hc10 (by omega) (by decide) (by decide) fun c11 x11 hc11 => ?_
      refine of_b hc11 (by omega) (by decide) (by decide) (by decide) fun c12 x12 hc12 hx12 => ?_
      refine one_b hc12 (by omega) (by decide) (by decide) fun c13 b13 hc13 => ?_
      have a10 := ok50 hx10
      have a12 := ok50 hx12
      refine EvP.cond (fun _ => ?_) (fun _ => ?_)
      · refine of_b hc13 (by omega) (by decide) (by decide) (by decide) fun c14 x14 hc14 hx14 => ?_
        refine one_b hc14 (by omega) (by decide) (by decide) fun c15 b15 hc15 => ?_
        have a14 := ok50 hx14
        refine EvP.cond (fun _ => ?_) (fun _ => ?_)
        · refine of_b hc15 (by omega) (by decide) (by decide) (by decide) fun c16 x16 hc16 hx16 => ?_
          exact EvP.pure _ ⟨hc16.mono (by omega), a1, a5, a10, a14, a12, ok50 hx16, n3, n8⟩
        · exact EvP.pure _ ⟨hc15.mono (by omega), a1, a5, a10, a14, a12, z, n3, n8⟩
      · refine one_b hc13 (by omega) (by decide) (by decide) fun c15 b15 hc15 => ?_
        refine EvP.cond (fun _ => ?_) (fun _ => ?_)
        · refine of_b hc15 (by omega) (by decide) (by decide) (by decide) fun c16 x16 hc16 hx16 => ?_
          exact EvP.pure _ ⟨hc16.mono (by omega), a1, a5, a10, z, a12, ok50 hx16, n3, n8⟩
        · exact EvP.pure _ ⟨hc15.mono (by omega), a1, a5, a10, z, a12, z, n3, n8⟩
    · refine one_b hc9 (by omega) (by decide) (by decide) fun c13 b13 hc13 => ?_
      refine EvP.cond (fun _ => ?_) (fun _ => ?_)
      · refine of_b hc13 (by omega) (by decide) (by decide) (by decide) fun c14 x14 hc14 hx14 => ?_
        refine one_b hc14 (by omega) (by decide) (by decide) fun c15 b15 hc15 => ?_
        have a14 := ok50 hx14
        refine EvP.cond (fun _ => ?_) (fun _ => ?_)
        · refine of_b hc15 (by omega) (by decide) (by decide) (by decide) fun c16 x16 hc16 hx16 => ?_
          exact EvP.pure _ ⟨hc16.mono (by omega), a1, a5, z, a14, z, ok50 hx16, n3, n8⟩
        · exact EvP.pure _ ⟨hc15.mono (by omega), a1, a5, z, a14, z, z, n3, n8⟩
      · refine one_b hc13 (by omega) (by decide) (by decide) fun c15 b15 hc15 => ?_
        refine EvP.cond (fun _ => ?_) (fun _ => ?_)
        · refine of_b hc15 (by omega) (by decide) (by decide) (by decide) fun c16 x16 hc16 hx16 => ?_
          exact EvP.pure _ ⟨hc16.mono (by omega), a1, a5, z, z, z, ok50 hx16, n3, n8⟩
        · exact EvP.pure _ ⟨hc15.mono (by omega), a1, a5, z, z, z, z, n3, n8⟩
  · refine one_b hc7 (by omega) (by decide) (by decide) fun c9 b9 hc9 => ?_
    refine EvP.cond (fun _ => ?_) (fun _ => ?_)
    · refine of_b hc9 (by omega) (by decide) (by decide) (by decide) fun c10 x10 hc10 hx10 => ?_
      refine among_b hc10 (by omega) (by decide) (by decide) fun c11 x11 hc11 => ?_
      refine of_b hc11 (by omega) (by decide) (by decide) (by decide) fun c12 x12 hc12 hx12 => ?_
      refine one_b hc12 (by omega) (by decide) (by decide) fun c13 b13 hc13 => ?_
      have a10 := ok50 hx10
      have a12 := ok50 hx12
      refine EvP.cond (fun _ => ?_) (fun _ => ?_)
      · refine of_b hc13 (by omega) (by decide) (by decide) (by decide) fun c14 x14 hc14 hx14 => ?_
        refine one_b hc14 (by omega) (by decide) (by decide) fun c15 b15 hc15 => ?_
        have a14 := ok50 hx14
        refine EvP.cond (fun _ => ?_) (fun _ => ?_)
        · refine of_b hc15 (by omega) (by decide) (by decide) (by decide) fun c16 x16 hc16 hx16 => ?_
          exact EvP.pure _ ⟨hc16.mono (by omega), a1, a5, a10, a14, a12, ok50 hx16, n3, n0⟩
        · exact EvP.pure _ ⟨hc15.mono (by omega), a1, a5, a10, a14, a12, z, n3, n0⟩
      · refine one_b hc13 (by omega) (by decide) (by decide) fun c15 b15 hc15 => ?_
        refine EvP.cond (fun _ => ?_) (fun _ => ?_)
        · refine of_b hc15 (by omega) (by decide) (by decide) (by decide) fun c16 x16 hc16 hx16 => ?_
          exact EvP.pure _ ⟨hc16.mono (by omega), a1, a5, a10, z, a12, ok50 hx16, n3, n0⟩
        · exact EvP.pure _ ⟨hc15.mono (by omega), a1, a5, a10, z, a12, z, n3, n0⟩
    · refine one_b hc9 (by omega) (by decide) (by decide) fun c13 b13 hc13 => ?_
      refine EvP.cond (fun _ => ?_) (fun _ => ?_)
      · refine of_b hc13 (by omega) (by decide) (by decide) (by decide) fun c14 x14 hc14 hx14 => ?_
        refine one_b hc14 (by omega) (by decide) (by decide) fun c15 b15 hc15 => ?_
        have a14 := ok50 hx14
        refine EvP.cond (fun _ => ?_) (fun _ => ?_)
        · refine of_b hc15 (by omega) (by decide) (by decide) (by decide) fun c16 x16 hc16 hx16 => ?_
          exact EvP.pure _ ⟨hc16.mono (by omega), a1, a5, z, a14, z, ok50 hx16, n3, n0⟩
        · exact EvP.pure _ ⟨hc15.mono (by omega), a1, a5, z, a14, z, z, n3, n0⟩
      · refine one_b hc13 (by omega) (by decide) (by decide) fun c15 b15 hc15 => ?_
        refine EvP.cond (fun _ => ?_) (fun _ => ?_)
        · refine of_b hc15 (by omega) (by decide) (by decide) (by decide) fun c16 x16 hc16 hx16 => ?_
          exact EvP.pure _ ⟨hc16.mono (by omega), a1, a5, z, z, z, ok50 hx16, n3, n0⟩
        · exact EvP.pure _ ⟨hc15.mono (by omega), a1, a5, z, z, z, z, n3, n0⟩
theorem anyEntry_b {n : Int} {c : Cur} (h : cu n c) (hn : n ≤ 300000) : EvP (fun k => spec_l1Cur_anyEntry.F k c) fun r => cu (n + 500) r.1 ∧ entryOk 50 r.2 := by
  unfold spec_l1Cur_anyEntry.F
  refine EvP.bind (entry_b h (by omega)) fun r hr => ?_
  obtain ⟨h1, g1, g2, g3, g4, g5, g6, g7, g8⟩ := hr
  refine pick_b h1 (by omega) (by omega) (by omega) fun c2 y hc2 y0 y1 => ?_
  dsimp only
  refine EvP.cond (fun _ => ?_) (fun _ => EvP.cond (fun _ => ?_) (fun _ => EvP.cond (fun _ => ?_) (fun _ => EvP.cond (fun _ => ?_) (fun _ => EvP.cond (fun _ => ?_) (fun _ => EvP.cond (fun _ => ?_) (fun _ => EvP.cond (fun _ => ?_) (fun _ => EvP.cond (fun _ => ?_) (fun _ => ?_))))))))
  · refine of_b hc2 (by omega) (by decide) (by decide) (by decide) fun c6 x6 hc6 hx6 => ?_
    exact EvP.pure _ ⟨hc6.mono (by omega), ok50 hx6, g2, g3, g4, g5, g6, g7, g8⟩
  · refine pick_b hc2 (by omega) (by omega) (by omega) fun c6 x6 hc6 _ _ => ?_
    exact EvP.pure _ ⟨hc6.mono (by omega), g1, g2, g3, g4, g5, g6, g7, g8⟩
  · refine EvP.bind (anyNames_b hc2 (by omega)) fun q hq => ?_
    exact EvP.pure _ ⟨hq.1.mono (by omega), g1, g2, g3, g4, g5, g6, namesUp hq.2 (by omega), g8⟩
  · refine of_b hc2 (by omega) (by decide) (by decide) (by decide) fun c6 x6 hc6 hx6 => ?_
    exact EvP.pure _ ⟨hc6.mono (by omega), g1, hx6, g3, g4, g5, g6, g7, g8⟩
  · obtain ⟨r6, e6, hc6⟩ := anyDate_ev hc2 (by omega)
    refine EvP.of0 e6 ?_
    exact EvP.pure _ ⟨hc6.mono (by omega), g1, g2, g3, g4, g5, g6, g7, g8⟩
  · refine among_b hc2 (by omega) (by decide) (by decide) fun c6 x6 hc6 => ?_
    exact EvP.pure _ ⟨hc6.mono (by omega), g1, g2, g3, g4, g5, g6, g7, g8⟩
  · obtain ⟨k1, k2, k3⟩ := hc2
    obtain ⟨c', x, e1, e2, e3, e4, e5, e6⟩ := pick_ev c2 k1 k2 (by omega) 3 (by omega) (by omega)
    have hi : x.toNat < 3 := by omega
    refine EvP.of0 (a := (c', ([r.2.key, (⟨#[65]⟩ : ByteArray), (⟨#[98, 50]⟩ : ByteArray)]).getD x.toNat ⟨#[]⟩)) ?_ (EvP.pure _ ⟨⟨by rw [e2]; exact k1, e3, by show c'.at_ ≤ _; omega⟩, g1, g2, g3, g4, g5, ?_, g7, g8⟩)
    · unfold spec_l1Cur_of.F
      have hl : (([r.2.key, (⟨#[65]⟩ : ByteArray), (⟨#[98, 50]⟩ : ByteArray)]).length : Int) = 3 := rfl
      rw [hl, e1]
      simp (disch := omega) only [Option.bind_some, cpos]
    · show (([r.2.key, (⟨#[65]⟩ : ByteArray), (⟨#[98, 50]⟩ : ByteArray)]).getD x.toNat ⟨#[]⟩).size ≤ 200
      match x.toNat, hi with
      | 0, _ => exact g1
      | 1, _ => show (⟨#[65]⟩ : ByteArray).size ≤ 200; decide
      | 2, _ => show (⟨#[98, 50]⟩ : ByteArray).size ≤ 200; decide
  · refine EvP.bind (anyNames_b hc2 (by omega)) fun q hq => ?_
    exact EvP.pure _ ⟨hq.1.mono (by omega), g1, g2, g3, g4, g5, g6, g7, namesUp hq.2 (by omega)⟩
  · exact EvP.pure _ ⟨hc2.mono (by omega), g1, g2, g3, g4, g5, g6, g7, g8⟩

/-! ### Copies, entries near to others -/
theorem ownN_l0 (xs : List Name) (hx : namesOk 8 xs) : ∀ n i : Nat, i + n = xs.length → Ev (fun k => spec_l2Own.l0 k xs (xs.take i) i) xs
  | 0, i, h => by
    refine Ev.step (fun k => by rw [spec_l2Own.l0]) ?_
    simp (disch := omega) only [cneg]
    rw [List.take_of_length_le (by omega)]
    exact Ev.pure _
  | n + 1, i, h => by
    have hl := hx.1
    have hi : i < xs.length := by omega
    have hg := (hx.2 _ (List.getElem_mem hi)).1
    have e : xs.getD i (dflt .name) = xs[i] := getD_at hi _
    have r1 : ∀ (g : List ByteArray), g.length ≤ 8 → room (([] : List ByteArray).length + g.length) .str = true := fun g hg => room8 (by simp; omega) (by decide)
    have r2 : ∀ x : Name, room ((xs.take i).length + ([x] : List Name).length) .name = true := fun x => room8 (by simp; omega) (by decide)
    refine Ev.step (fun k => by rw [spec_l2Own.l0]) ?_
    simp (disch := omega) only [cpos, Int.toNat_natCast, e, r1 _ hg, r2, cond_true, wrap_in, List.nil_append]
    have : xs.take i ++ [xs[i]] = xs.take (i + 1) := by simp
    rw [show (⟨xs[i].given, xs[i].particle, xs[i].family, xs[i].suffix⟩ : Name) = xs[i] from rfl, this]
    exact ownN_l0 xs hx n (i + 1) (by omega)
theorem ownN_ev (xs : List Name) (hx : namesOk 8 xs) : Ev (fun k => spec_l2Own.F k xs) xs := by
  unfold spec_l2Own.F
  exact Ev.bind (ownN_l0 xs hx xs.length 0 (by omega)) (Ev.pure _)
theorem copyE_ev {m : Nat} (e : Entry) (h : entryOk m e) : Ev (fun k => spec_l4Copy.F k e) e := by
  obtain ⟨h1, h2, h3, h4, h5, h6, h7, h8⟩ := h
  unfold spec_l4Copy.F
  exact Ev.bind (ownN_ev _ h7) (Ev.bind (ownN_ev _ h8) (Ev.pure _))
theorem entryOk.up {m k : Nat} {e : Entry} (h : entryOk m e) (hk : m ≤ k) : entryOk k e := ⟨h.1, Nat.le_trans h.2.1 hk, h.2.2⟩
/-! ### Containers -/
end Go.Proofs.YtckcichnmiifkaaGreatDoor
end
section
/- What the laws draw: libraries. -/
namespace Go.Proofs.YtckcichnmiifkaaGreatDoor
open Go.Gx
set_option linter.unusedVariables false
set_option linter.unusedSimpArgs false
set_option maxRecDepth 4000

def libOk (m : Nat) (l : List Entry) : Prop := l.length ≤ m ∧ ∀ e ∈ l, entryOk 50 e
theorem libOk_small {m : Nat} {l : List Entry} (h : libOk m l) (hm : m ≤ 20) : smallL ⟨l⟩ := by
  have : ∀ l : List Entry, (∀ n ∈ l, entryOk 50 n) → (l.map totE).sum ≤ 30000 * l.length := fun l => by
    induction l with
    | nil => intro _; exact Nat.le_refl _
    | cons x l ih =>
      intro h
      have h1 := entryOk_tot (by omega) (h x List.mem_cons_self)
      have h2 := ih fun w hw => h w (List.mem_cons_of_mem _ hw)
      simp only [List.map_cons, List.sum_cons, List.length_cons]
      omega
  have h1 := this l h.2
  have h2 := h.1
  unfold smallL totEs
  show l.length + (l.map totE).sum ≤ 1048576
  omega
theorem libOk_put {m : Nat} {l : List Entry} {n : Entry} (h : ∀ e ∈ l, entryOk 50 e) (hn : entryOk 50 n) : ∀ e ∈ l ++ [n], entryOk 50 e := fun x hx => by
  rcases List.mem_append.1 hx with hx | hx
  · exact h x hx
  · rw [List.mem_singleton.1 hx]; exact hn
theorem libOk_getD {l : List Entry} {i : Nat} (h : ∀ e ∈ l, entryOk 50 e) (hi : i < l.length) (d : Entry) : entryOk 50 (l.getD i d) := by
  rw [getD_at hi]; exact h _ (List.getElem_mem hi)
theorem libOk_set {l : List Entry} {i : Nat} {n : Entry} (h : ∀ e ∈ l, entryOk 50 e) (hn : entryOk 50 n) : ∀ e ∈ l.set i n, entryOk 50 e := fun x hx => by
  rcases List.mem_or_eq_of_mem_set hx with hx | rfl
  · exact h x hx
  · exact hn
theorem zero200 : (⟨#[]⟩ : ByteArray).size ≤ 200 := by decide
theorem roomE {n : Nat} (hn : n ≤ 1000) : room n .entry = true := room8 hn (by decide)
def wB (b : Bool) : Nat := bif b then 0 else 1
theorem put_l0 (xs : List Entry) (hx : ∀ e ∈ xs, entryOk 50 e) (hl : xs.length ≤ 20) (e : Entry) (he : entryOk 50 e) : ∀ n i : Nat, i + n = xs.length → ∀ (z acc : List Entry) (b : Bool), acc.length + n + wB b ≤ 40 → (∀ e ∈ acc, entryOk 50 e) →
    EvP (fun k => spec_l4Put.l0 k ⟨xs⟩ e z acc b i) fun r => r.1 = e ∧ r.2.2.1.length + wB r.2.2.2 ≤ acc.length + n + wB b ∧ ∀ e ∈ r.2.2.1, entryOk 50 e
  | 0, i, h, z, acc, b, hb, ha => by
    refine EvP.step (fun k => by rw [spec_l4Put.l0]) ?_
    dsimp only
    simp (disch := omega) only [cneg]
    exact EvP.pure _ ⟨rfl, by show acc.length + wB b ≤ _; omega, ha⟩
  | n + 1, i, h, z, acc, b, hb, ha => by
    have hi : i < xs.length := by omega
    have hm := hx _ (List.getElem_mem hi)
    have c1 := copyE_ev e he
    have c2 := copyE_ev xs[i] hm
    have r1 : ∀ x : Entry, room (acc.length + ([x] : List Entry).length) .entry = true := fun x => roomE (by simp; omega)
    have r2 : ∀ x y : Entry, room ((acc ++ [x]).length + ([y] : List Entry).length) .entry = true := fun x y => roomE (by simp; omega)
    -- the entry itself, or not
    have old : ∀ (acc' : List Entry) (b' : Bool), acc'.length + wB b' ≤ acc.length + wB b → (∀ e ∈ acc', entryOk 50 e) → (∀ y : Entry, room (acc'.length + ([y] : List Entry).length) .entry = true) →
        EvP (fun k => bif decide (0 ≤ (i : Int)) then (bif decide ((i : Int) < (xs.length : Int)) then (bif (!beqS ((xs.getD (i : Int).toNat (dflt .entry)).key) e.key) then (bif decide (0 ≤ (i : Int)) then (bif decide ((i : Int) < (xs.length : Int)) then ((spec_l4Copy.F k (xs.getD (i : Int).toNat (dflt .entry))).bind fun r2 => bif room (acc'.length + ([r2] : List Entry).length) .entry then (spec_l4Put.l0 k ⟨xs⟩ e z (acc' ++ ([r2] : List Entry)) b' (IntKind.wrap .i64 ((i : Int) + 1))) else none) else none) else none) else (spec_l4Put.l0 k ⟨xs⟩ e z acc' b' (IntKind.wrap .i64 ((i : Int) + 1)))) else none) else none)
          fun r => r.1 = e ∧ r.2.2.1.length + wB r.2.2.2 ≤ acc.length + (n + 1) + wB b ∧ ∀ e ∈ r.2.2.1, entryOk 50 e := fun acc' b' h1 h2 h3 => by
      simp (disch := omega) only [cpos, Int.toNat_natCast, getD_at hi]
      refine EvP.cond (fun _ => ?_) (fun _ => ?_)
      · refine EvP.of c2 ?_
        simp (disch := omega) only [h3, cond_true, wrap_in]
        refine EvP.mono (put_l0 xs hx hl e he n (i + 1) (by omega) z (acc' ++ [xs[i]]) b' (by simp; omega) (libOk_put (m := 0) h2 hm)) fun r hr => ⟨hr.1, ?_, hr.2.2⟩
        have := hr.2.1
        simp at this
        omega
      · simp (disch := omega) only [wrap_in]
        refine EvP.mono (put_l0 xs hx hl e he n (i + 1) (by omega) z acc' b' (by omega) h2) fun r hr => ⟨hr.1, ?_, hr.2.2⟩
        have := hr.2.1
        omega
    refine EvP.step (fun k => by rw [spec_l4Put.l0]) ?_
    dsimp only
    have e1 := old acc b (Nat.le_refl _) ha r1
    simp (disch := omega) only [cpos, Int.toNat_natCast, getD_at hi] at e1
    simp (disch := omega) only [cpos, Int.toNat_natCast, getD_at hi]
    refine EvP.cond (fun _ => ?_) (fun _ => ?_)
    · cases b with
      | true =>
        simp only [Bool.not_true, cond_false]
        exact e1
      | false =>
        simp only [Bool.not_false, cond_true]
        refine EvP.of c1 ?_
        simp only [r1, cond_true]
        have e2 := old (acc ++ [e]) true (by simp [wB]) (libOk_put (m := 0) ha he) (r2 e)
        simp (disch := omega) only [cpos, Int.toNat_natCast, getD_at hi] at e2
        exact e2
    · exact e1
theorem put_b {m : Nat} {xs : List Entry} (hx : libOk m xs) (hm : m ≤ 15) {e : Entry} (he : entryOk 50 e) : EvP (fun k => spec_l4Put.F k ⟨xs⟩ e) fun r => libOk (m + 1) r.entries := by
  unfold spec_l4Put.F
  have hl := hx.1
  refine EvP.bind (put_l0 xs hx.2 (by omega) e he xs.length 0 (by omega) [] [] false (by simp [wB]; omega) (by simp)) fun r hr => ?_
  obtain ⟨h1, h2, h3⟩ := hr
  have h2 : r.2.2.1.length + wB r.2.2.2 ≤ xs.length + 1 := by simpa [wB] using h2
  refine EvP.cond (fun hb => ?_) (fun hb => ?_)
  · rw [h1]
    refine EvP.of (copyE_ev e he) ?_
    rw [roomE (by simp; omega)]
    refine EvP.pure _ ⟨?_, libOk_put (m := 0) h3 he⟩
    have : r.2.2.2 = false := by cases h : r.2.2.2 <;> rw [h] at hb <;> first | rfl | cases hb
    rw [this] at h2
    show (r.2.2.1 ++ [e]).length ≤ m + 1
    simp [wB] at h2 ⊢
    omega
  · exact EvP.pure _ ⟨by show r.2.2.1.length ≤ m + 1; omega, h3⟩
theorem library_l0 : ∀ m : Nat, m ≤ 6 → ∀ {n : Int} {c : Cur}, cu n c → n + 250 * m ≤ 300000 → ∀ (q : Nat) (z l : List Entry), q + m ≤ 8 → libOk q l → EvP (fun k => spec_l1Cur_library.l0 k c z l m) fun r => cu (n + 250 * m) r.1 ∧ libOk (q + m) r.2.2
  | 0, _, n, c, hc, hn, q, z, l, hq, hl => by
    refine EvP.step (fun k => by rw [spec_l1Cur_library.l0]) ?_
    simp (disch := omega) only [cneg]
    exact EvP.pure _ ⟨hc.mono (by omega), hl⟩
  | m + 1, hm, n, c, hc, hn, q, z, l, hq, hl => by
    refine EvP.step (fun k => by rw [spec_l1Cur_library.l0]) ?_
    simp (disch := omega) only [cpos]
    refine EvP.bind (entry_b hc (by omega)) fun r hr => ?_
    obtain ⟨h1, g1, g2, g3, g4, g5, g6, g7, g8⟩ := hr
    have w1 : IntKind.wrap .i64 (((m + 1 : Nat) : Int) - 1) = (m : Int) := by rw [wrap_in (by omega) (by omega)]; omega
    have next : ∀ {n' : Int} {c' : Cur} {l' : Library}, cu n' c' → n' ≤ n + 250 → libOk (q + 1) l'.entries → EvP (fun k => spec_l1Cur_library.l0 k c' z l'.entries (IntKind.wrap .i64 (((m + 1 : Nat) : Int) - 1))) fun r => cu (n + 250 * (m + 1 : Nat)) r.1 ∧ libOk (q + (m + 1)) r.2.2 := fun {n' c' l'} hc' hn' hl' => by
      rw [w1]
      refine EvP.mono (library_l0 m (by omega) hc' (by omega) (q + 1) z _ (by omega) hl') fun y hy => ⟨hy.1.mono (by omega), ?_⟩
      rw [show q + (m + 1) = q + 1 + m by omega]
      exact hy.2
    refine one_b h1 (by omega) (by decide) (by decide) fun c3 b3 hc3 => ?_
    refine EvP.cond (fun _ => ?_) (fun _ => ?_)
    · refine of_b hc3 (by omega) (by decide) (by decide) (by decide) fun c4 x4 hc4 hx4 => ?_
      refine EvP.cond (fun _ => ?_) (fun _ => ?_)
      · refine EvP.bind (put_b hl (by omega) (e := ⟨r.2.key, r.2.kind, r.2.authors, r.2.editors, r.2.title, r.2.container, r.2.publisher, r.2.date, r.2.volume, r.2.pages, ⟨#[]⟩⟩) ⟨g1, g2, g3, g4, g5, zero200, g7, g8⟩) fun y hy => ?_
        exact next hc4 (by omega) hy
      · refine EvP.bind (put_b hl (by omega) (e := ⟨r.2.key, r.2.kind, r.2.authors, r.2.editors, r.2.title, r.2.container, r.2.publisher, r.2.date, r.2.volume, r.2.pages, x4⟩) ⟨g1, g2, g3, g4, g5, ok50 hx4, g7, g8⟩) fun y hy => ?_
        exact next hc4 (by omega) hy
    · refine EvP.bind (put_b hl (by omega) (e := r.2) ⟨g1, g2, g3, g4, g5, g6, g7, g8⟩) fun y hy => ?_
      exact next hc3 (by omega) hy
theorem library_b {n : Int} {c : Cur} (h : cu n c) (hn : n ≤ 200000) : EvP (fun k => spec_l1Cur_library.F k c) fun r => cu (n + 2000) r.1 ∧ libOk 6 r.2.entries := by
  unfold spec_l1Cur_library.F
  refine pick_b h (by omega) (by omega) (by omega) fun c2 y hc2 y0 y1 => ?_
  obtain ⟨m, rfl⟩ : ∃ m : Nat, y = m := ⟨y.toNat, by omega⟩
  refine EvP.bind (library_l0 m (by omega) hc2 (by omega) 0 [] [] (by omega) ⟨Nat.le_refl _, fun n h => by cases h⟩) fun r hr => ?_
  exact EvP.pure _ ⟨hr.1.mono (by omega), by have := hr.2.1; show r.2.2.length ≤ 6; omega, hr.2.2⟩
theorem num_ev (n : Nat) (hn : n < 10) : EvP (fun k => spec_l1Num.F k n) fun r => r.size ≤ 10 := by
  refine EvP.step (fun k => by rw [spec_l1Num.F]) ?_
  have z : (⟨#[48, 49, 50, 51, 52, 53, 54, 55, 56, 57]⟩ : ByteArray).size = 10 := rfl
  have w1 : IntKind.wrap .i64 ((n : Int) + 1) = ((n + 1 : Nat) : Int) := by rw [wrap_in (by omega) (by omega)]; omega
  simp (disch := omega) only [cpos, cneg, w1, z]
  exact EvP.pure _ (by have := size_ext ⟨#[48, 49, 50, 51, 52, 53, 54, 55, 56, 57]⟩ (n : Int).toNat (((n + 1 : Nat) : Int)).toNat; rw [z] at this; exact this)
theorem anyLib_l1 : ∀ m : Nat, ∀ {n : Int} {c : Cur}, cu n c → n + 250 * m ≤ 290000 → ∀ (z l : List Entry) (i : Nat), i + m = 10 → l.length ≤ 10 → (∀ e ∈ l, entryOk 50 e) → EvP (fun k => spec_l1Cur_anyLibrary.l1 k c z l i) fun r => cu (n + 250 * m + 10) r.1 ∧ libOk 10 r.2.2
  | m, n, c, hc, hn, z, l, i, hi, hl, hq => by
    refine EvP.step (fun k => by rw [spec_l1Cur_anyLibrary.l1]) ?_
    refine pick_b hc (by omega) (by omega) (by omega) fun c1 x hc1 x0 x1 => ?_
    dsimp only
    by_cases h1 : (l.length : Int) < 8 + x
    · simp (disch := omega) only [cpos, wrap_in]
      cases m with
      | zero =>
        simp (disch := omega) only [cneg]
        exact EvP.pure _ ⟨hc1.mono (by omega), hl, hq⟩
      | succ m =>
        simp (disch := omega) only [cpos]
        refine EvP.bind (entry_b hc1 (by omega)) fun r hr => ?_
        obtain ⟨h1, g1, g2, g3, g4, g5, g6, g7, g8⟩ := hr
        refine EvP.bind (num_ev i (by omega)) fun t ht => ?_
        have e120 : (⟨#[120]⟩ : ByteArray).size = 1 := rfl
        have hk : ((⟨#[120]⟩ : ByteArray) ++ t).size ≤ 200 := by rw [size_app2, e120]; omega
        have hr : ∀ e : Entry, room (l.length + ([e] : List Entry).length) .entry = true := fun e => roomE (by simp; omega)
        simp (disch := (try simp only [e120]); omega) only [cble, hr, cond_true, wrap_in]
        refine EvP.mono (anyLib_l1 m h1 (by omega) z _ (i + 1) (by omega) (by simp; omega) (libOk_put (m := 0) hq (n := ⟨⟨#[120]⟩ ++ t, r.2.kind, r.2.authors, r.2.editors, r.2.title, r.2.container, r.2.publisher, r.2.date, r.2.volume, r.2.pages, r.2.cross⟩) ⟨hk, g2, g3, g4, g5, g6, g7, g8⟩)) fun y hy => ⟨hy.1.mono (by omega), hy.2⟩
    · simp (disch := omega) only [cneg, wrap_in]
      exact EvP.pure _ ⟨hc1.mono (by omega), hl, hq⟩
theorem anyLib_b {n : Int} {c : Cur} (h : cu n c) (hn : n ≤ 150000) : EvP (fun k => spec_l1Cur_anyLibrary.F k c) fun r => cu (n + 10000) r.1 ∧ libOk 10 r.2.entries := by
  unfold spec_l1Cur_anyLibrary.F
  refine EvP.bind (library_b h (by omega)) fun r hr => ?_
  obtain ⟨h1, hl, hq⟩ := hr
  by_cases c0 : (r.2.entries.length : Int) = 0
  · simp (disch := exact c0) only [ceq]
    exact EvP.pure _ ⟨h1.mono (by omega), by show r.2.entries.length ≤ 10; omega, hq⟩
  · simp (disch := exact c0) only [cne]
    refine pick_b h1 (by omega) (by omega) (by omega) fun c1 x hc1 x0 x1 => ?_
    dsimp only
    refine EvP.cond (fun _ => ?_) (fun _ => EvP.cond (fun _ => ?_) (fun _ => EvP.cond (fun _ => ?_) (fun _ => ?_)))
    · refine pick_b hc1 (by omega) (by omega) (by omega) fun c2 x2 hc2 y0 y1 => ?_
      refine EvP.bind (anyEntry_b hc2 (by omega)) fun y hy => ?_
      simp (disch := omega) only [cpos]
      exact EvP.pure _ ⟨hy.1.mono (by omega), by show (r.2.entries.set _ _).length ≤ 10; rw [List.length_set]; omega, libOk_set hq hy.2⟩
    · simp (disch := omega) only [cpos]
      rw [roomE (by simp; omega)]
      refine EvP.pure _ ⟨hc1.mono (by omega), ?_, libOk_put (m := 0) hq (libOk_getD hq (by show (0 : Int).toNat < _; have : (0 : Int).toNat = 0 := rfl; omega) _)⟩
      show (r.2.entries ++ _).length ≤ 10
      simp; omega
    · refine EvP.bind (anyLib_l1 10 hc1 (by omega) [] r.2.entries 0 (by omega) (by omega) hq) fun y hy => ?_
      exact EvP.pure _ ⟨hy.1.mono (by omega), hy.2⟩
    · exact EvP.pure _ ⟨hc1.mono (by omega), by show r.2.entries.length ≤ 10; omega, hq⟩
theorem crossed_l0 : ∀ m : Nat, ∀ {n : Int} {c : Cur}, cu n c → n + 10 * m ≤ 250000 → ∀ (z l : List Entry) (i : Nat), i + m = l.length → l.length ≤ 10 → (∀ e ∈ l, entryOk 50 e) → EvP (fun k => spec_l1Cur_crossed.l0 k c z l i) fun r => cu (n + 10 * m) r.1 ∧ libOk 10 r.2.2
  | 0, n, c, hc, hn, z, l, i, hi, hl, hq => by
    refine EvP.step (fun k => by rw [spec_l1Cur_crossed.l0]) ?_
    simp (disch := omega) only [cneg]
    exact EvP.pure _ ⟨hc.mono (by omega), hl, hq⟩
  | m + 1, n, c, hc, hn, z, l, i, hi, hl, hq => by
    have hlt : i < l.length := by omega
    obtain ⟨g1, g2, g3, g4, g5, g6, g7, g8⟩ := hq _ (List.getElem_mem hlt)
    have w1 : IntKind.wrap .i64 ((i : Int) + 1) = ((i + 1 : Nat) : Int) := by rw [wrap_in (by omega) (by omega)]; omega
    have n0 := names0 8
    have z0 := zero200
    have fin : ∀ {n' : Int} {c' : Cur} (e : Entry), cu n' c' → n' ≤ n + 10 → entryOk 50 e → EvP (fun k => spec_l1Cur_crossed.l0 k c' z (l.set i e) ((i + 1 : Nat) : Int)) fun r => cu (n + 10 * (m + 1 : Nat)) r.1 ∧ libOk 10 r.2.2 := fun {n' c'} e hc' hn' he =>
      EvP.mono (crossed_l0 m hc' (by omega) z (l.set i e) (i + 1) (by rw [List.length_set]; omega) (by rw [List.length_set]; omega) (libOk_set hq he)) fun y hy => ⟨hy.1.mono (by omega), hy.2⟩
    refine EvP.step (fun k => by rw [spec_l1Cur_crossed.l0]) ?_
    simp (disch := omega) only [cpos, Int.toNat_natCast, getD_at hlt, w1]
    refine one_b hc (by omega) (by decide) (by decide) fun c3 b3 hc3 => ?_
    dsimp only
    refine EvP.cond (fun _ => ?_) (fun _ => ?_)
    · refine pick_b hc3 (by omega) (by omega) (by omega) fun c4 x4 hc4 y0 y1 => ?_
      have hx4 : x4.toNat < l.length := by omega
      have hcr := (hq _ (List.getElem_mem hx4)).1
      dsimp only
      simp (disch := omega) only [cpos, getD_at hx4]
      refine EvP.cond (fun _ => ?_) (fun _ => ?_)
      · refine of_b hc4 (by omega) (by decide) (by decide) (by decide) fun c5 x5 hc5 hx5 => ?_
        have hx5 := ok50 hx5
        refine one_b hc5 (by omega) (by decide) (by decide) fun c6 b6 hc6 => ?_
        dsimp only
        refine EvP.cond (fun _ => ?_) (fun _ => ?_) <;> refine one_b hc6 (by omega) (by decide) (by decide) fun c7 b7 hc7 => ?_ <;> refine EvP.cond (fun _ => ?_) (fun _ => ?_)
        · exact fin _ hc7 (by omega) ⟨g1, g2, z0, z0, g5, hx5, g7, n0⟩
        · exact fin _ hc7 (by omega) ⟨g1, g2, z0, g4, g5, hx5, g7, n0⟩
        · exact fin _ hc7 (by omega) ⟨g1, g2, g3, z0, g5, hx5, g7, g8⟩
        · exact fin _ hc7 (by omega) ⟨g1, g2, g3, g4, g5, hx5, g7, g8⟩
      · refine one_b hc4 (by omega) (by decide) (by decide) fun c6 b6 hc6 => ?_
        dsimp only
        refine EvP.cond (fun _ => ?_) (fun _ => ?_) <;> refine one_b hc6 (by omega) (by decide) (by decide) fun c7 b7 hc7 => ?_ <;> refine EvP.cond (fun _ => ?_) (fun _ => ?_)
        · exact fin _ hc7 (by omega) ⟨g1, g2, z0, z0, g5, hcr, g7, n0⟩
        · exact fin _ hc7 (by omega) ⟨g1, g2, z0, g4, g5, hcr, g7, n0⟩
        · exact fin _ hc7 (by omega) ⟨g1, g2, g3, z0, g5, hcr, g7, g8⟩
        · exact fin _ hc7 (by omega) ⟨g1, g2, g3, g4, g5, hcr, g7, g8⟩
    · refine EvP.cond (fun _ => ?_) (fun _ => ?_)
      · refine of_b hc3 (by omega) (by decide) (by decide) (by decide) fun c5 x5 hc5 hx5 => ?_
        have hx5 := ok50 hx5
        refine one_b hc5 (by omega) (by decide) (by decide) fun c6 b6 hc6 => ?_
        dsimp only
        refine EvP.cond (fun _ => ?_) (fun _ => ?_) <;> refine one_b hc6 (by omega) (by decide) (by decide) fun c7 b7 hc7 => ?_ <;> refine EvP.cond (fun _ => ?_) (fun _ => ?_)
        · exact fin _ hc7 (by omega) ⟨g1, g2, z0, z0, g5, hx5, g7, n0⟩
        · exact fin _ hc7 (by omega) ⟨g1, g2, z0, g4, g5, hx5, g7, n0⟩
        · exact fin _ hc7 (by omega) ⟨g1, g2, g3, z0, g5, hx5, g7, g8⟩
        · exact fin _ hc7 (by omega) ⟨g1, g2, g3, g4, g5, hx5, g7, g8⟩
      · refine one_b hc3 (by omega) (by decide) (by decide) fun c6 b6 hc6 => ?_
        dsimp only
        refine EvP.cond (fun _ => ?_) (fun _ => ?_) <;> refine one_b hc6 (by omega) (by decide) (by decide) fun c7 b7 hc7 => ?_ <;> refine EvP.cond (fun _ => ?_) (fun _ => ?_)
        · exact fin _ hc7 (by omega) ⟨g1, g2, z0, z0, g5, g6, g7, n0⟩
        · exact fin _ hc7 (by omega) ⟨g1, g2, z0, g4, g5, g6, g7, n0⟩
        · exact fin _ hc7 (by omega) ⟨g1, g2, g3, z0, g5, g6, g7, g8⟩
        · exact fin _ hc7 (by omega) ⟨g1, g2, g3, g4, g5, g6, g7, g8⟩
theorem crossed_b {n : Int} {c : Cur} (h : cu n c) (hn : n ≤ 100000) : EvP (fun k => spec_l1Cur_crossed.F k c) fun r => cu (n + 20000) r.1 ∧ libOk 10 r.2.entries := by
  unfold spec_l1Cur_crossed.F
  refine EvP.bind (anyLib_b h (by omega)) fun r hr => ?_
  obtain ⟨h1, hl⟩ := hr
  have hs : smallL r.2 := libOk_small hl (by omega)
  refine EvP.of (specLib_ev r.2 hs) ?_
  refine EvP.cond (fun _ => ?_) (fun _ => ?_)
  · exact EvP.pure _ ⟨h1.mono (by omega), hl⟩
  · have := hl.1
    refine EvP.bind (crossed_l0 r.2.entries.length h1 (by omega) [] r.2.entries 0 (by omega) hl.1 hl.2) fun y hy => ?_
    exact EvP.pure _ ⟨hy.1.mono (by omega), hy.2⟩
theorem keyOf_b {n : Int} {c : Cur} (h : cu n c) (hn : n ≤ 400000) {l : Library} (hl : libOk 10 l.entries) : EvP (fun _ => spec_l1Cur_keyOf.F c l) fun r => cu (n + 5) r.1 ∧ r.2.size ≤ 200 := by
  unfold spec_l1Cur_keyOf.F
  have hlen := hl.1
  by_cases c0 : (l.entries.length : Int) = 0
  · simp (disch := exact c0) only [ceq]
    refine of_b h (by omega) (by decide) (by decide) (by decide) fun c5 x5 hc5 hx5 => ?_
    exact EvP.pure _ ⟨hc5.mono (by omega), ok50 hx5⟩
  · simp (disch := exact c0) only [cne]
    refine one_b h (by omega) (by decide) (by decide) fun c6 b6 hc6 => ?_
    refine EvP.cond (fun _ => ?_) (fun _ => ?_)
    · refine of_b hc6 (by omega) (by decide) (by decide) (by decide) fun c5 x5 hc5 hx5 => ?_
      exact EvP.pure _ ⟨hc5.mono (by omega), ok50 hx5⟩
    · refine pick_b hc6 (by omega) (by omega) (by omega) fun c2 x2 hc2 y0 y1 => ?_
      dsimp only
      simp (disch := omega) only [cpos]
      exact EvP.pure _ ⟨hc2.mono (by omega), (libOk_getD hl.2 (by omega) _).1⟩
theorem drawParent_b {code : List Int} (h : byt code) : EvP (fun k => spec_DrawParentOf.F k code) fun r => libOk 10 r.1.entries ∧ r.2.size ≤ 200 := by
  unfold spec_DrawParentOf.F
  refine EvP.bind (crossed_b (cu.start h) (by omega)) fun r hr => ?_
  obtain ⟨r2, ⟨K, hK⟩, h2⟩ := keyOf_b hr.1 (by omega) hr.2
  exact EvP.of0 (hK K (Nat.le_refl _)) (EvP.pure _ ⟨hr.2, h2.2⟩)
end Go.Proofs.YtckcichnmiifkaaGreatDoor
end
section
/- The plain law of FnCrosses. -/
namespace Go.Proofs.YtckcichnmiifkaaGreatDoor
open Go.Gx
set_option linter.unusedVariables false
set_option linter.unusedSimpArgs false

/-! ### Chains, link by link -/
abbrev PI (l : Library) (i p : Int) : Prop := Ev (fun k => impl_parentIndex.F k l i) p
def lastV (c : List Int) : Int := c.getD (c.length - 1) 0
def Lk (l : Library) (c : List Int) : Prop := ∀ j, j + 1 < c.length → PI l (c.getD j 0) (c.getD (j + 1) 0)
theorem getD_app1 {c : List Int} {x : Int} {j : Nat} (h : j < c.length) : (c ++ [x]).getD j 0 = c.getD j 0 := by
  rw [List.getD_eq_getElem?_getD, List.getElem?_append_left h, ← List.getD_eq_getElem?_getD]
theorem getD_app2 {c : List Int} {x : Int} : (c ++ [x]).getD c.length 0 = x := by
  rw [List.getD_eq_getElem?_getD, List.getElem?_append_right (Nat.le_refl _), Nat.sub_self]; rfl
theorem lastV_app {c : List Int} {x : Int} : lastV (c ++ [x]) = x := by
  unfold lastV
  rw [show (c ++ [x]).length - 1 = c.length by simp]
  exact getD_app2
theorem Lk.put {l : Library} {c : List Int} {x : Int} (h : Lk l c) (hp : 0 < c.length → PI l (lastV c) x) : Lk l (c ++ [x]) := fun j hj => by
  have hj : j + 1 < c.length + 1 := by simpa using hj
  by_cases e : j + 1 = c.length
  · rw [getD_app1 (by omega), e, getD_app2]
    have := hp (by omega)
    unfold lastV at this
    rw [show c.length - 1 = j by omega] at this
    exact this
  · rw [getD_app1 (by omega), getD_app1 (by omega)]
    exact h j (by omega)
def chE (l : Library) : Sum (List Int × Bool) (List Int) → Prop
  | .inl p => ∃ z, z ∈ p.1 ∧ PI l (lastV p.1) z
  | .inr c => c ≠ [] → ∃ z, z < 0 ∧ PI l (lastV c) z
theorem chain_k (l : Library) (hl : l.entries.length ≤ 8) : ∀ (d : Nat) (acc : List Int) (i : Int), acc.length + d = l.entries.length + 1 → -1 ≤ i → i < l.entries.length → acc.Nodup → (∀ x ∈ acc, 0 ≤ x ∧ x < l.entries.length) → Lk l acc → (0 < acc.length → PI l (lastV acc) i) →
    ∃ r, Ev (fun k => impl_chainOf.l0 k i l acc) r ∧ chR l r ∧ Lk l (chL r) ∧ chE l r ∧ ∃ t, chL r = acc ++ t ∧ (0 ≤ i → i ∉ acc → ∃ t', t = i :: t')
  | 0, acc, i, hd, _, _, hn, ha, _, _ => by have := pigeon _ _ hn ha; omega
  | d + 1, acc, i, hd, h0, h1, hn, ha, hk, hp => by
    have hlen := pigeon _ _ hn ha
    by_cases hi : i < 0
    · refine ⟨.inr acc, Ev.step (fun k => by rw [impl_chainOf.l0]) ?_, ⟨hn, ha⟩, hk, fun hne => ⟨i, hi, hp (by cases acc with | nil => exact absurd rfl hne | cons a b => simp)⟩, [], by simp [chL], fun h => absurd hi (by omega)⟩
      simp (disch := omega) only [cneg]; exact Ev.pure _
    · obtain ⟨e1, e2⟩ := has_ev acc i (by omega)
      by_cases hm : i ∈ acc
      · rw [decide_eq_true hm] at e2
        refine ⟨.inl (acc, true), Ev.step (fun k => by rw [impl_chainOf.l0]) ?_, ⟨rfl, hn, ha⟩, hk, ⟨i, hm, hp (by cases acc with | nil => cases hm | cons a b => simp)⟩, [], by simp [chL], fun _ h => absurd hm h⟩
        simp (disch := omega) only [cpos]; exact Ev.bind e2 (Ev.pure _)
      · rw [decide_eq_false hm] at e2
        obtain ⟨p, p1, p2, p3, p4⟩ := parent_ev l (by omega) i (by omega) h1
        obtain ⟨r, r2, r3, r4, r5, t, r6, _⟩ := chain_k l hl d (acc ++ [i]) p (by simp; omega) p3 p4 (List.nodup_append.2 ⟨hn, by simp, fun a ha' b hb => by simp at hb; subst hb; exact fun e => hm (e ▸ ha')⟩) (fun x hx => by
          rcases List.mem_append.1 hx with hx | hx
          · exact ha x hx
          · simp at hx; subst hx; omega) (hk.put hp) (fun _ => by rw [lastV_app]; exact p2)
        have hr : room (acc.length + ([i] : List Int).length) (.int .i64) = true := room_i8 (by simp; omega)
        refine ⟨r, Ev.step (fun k => by rw [impl_chainOf.l0]) ?_, r3, r4, r5, i :: t, by rw [r6]; simp, fun _ _ => ⟨t, rfl⟩⟩
        simp (disch := omega) only [cpos]
        refine Ev.bind e2 ?_
        simp only [cond_false, hr, cond_true]
        exact Ev.bind p2 r2
theorem chain_kv (l : Library) (hl : l.entries.length ≤ 8) (i : Int) (h0 : 0 ≤ i) (h1 : i < l.entries.length) :
    ∃ c b, Ev (fun k => impl_chainOf.F k l i) (c, b) ∧ (∃ t, c = i :: t) ∧ (∀ x ∈ c, 0 ≤ x ∧ x < l.entries.length) ∧ c.length ≤ 8 ∧ Lk l c ∧ (b = true → ∃ z, z ∈ c ∧ PI l (lastV c) z) ∧ (b = false → ∃ z, z < 0 ∧ PI l (lastV c) z) := by
  obtain ⟨r, r2, r3, r4, r5, t, r6, r7⟩ := chain_k l hl (l.entries.length + 1) [] i (by simp) (by omega) h1 List.nodup_nil (fun x hx => by cases hx) (fun j hj => by simp at hj) (fun h => by simp at h)
  obtain ⟨t', rfl⟩ := r7 h0 (by simp)
  have r6 : chL r = i :: t' := by simpa using r6
  unfold impl_chainOf.F
  cases r with
  | inl p =>
    obtain ⟨c, b⟩ := p
    obtain ⟨hb, hn, ha⟩ := r3
    have hb : b = true := hb
    subst hb
    exact ⟨c, true, Ev.bind r2 (Ev.pure _), ⟨t', r6⟩, ha, Nat.le_trans (pigeon _ _ hn ha) hl, r4, fun _ => r5, fun h => by cases h⟩
  | inr c =>
    have r6 : c = i :: t' := r6
    exact ⟨c, false, Ev.bind r2 (Ev.pure _), ⟨t', r6⟩, r3.2, Nat.le_trans (pigeon _ _ r3.1 r3.2) hl, r4, (fun h => by cases h), fun _ => r5 (by rw [r6]; simp)⟩

/-! ### Entries by their keys -/
section
variable {l : Library} (hs : smallL l) (hB : libB l = true)
set_option linter.unusedSectionVars false
include hs hB
theorem idx_ev {i : Int} (h0 : 0 ≤ i) (h1 : i < l.entries.length) : Ev (fun k => impl_entryIndex.F k l (kAt l i)) i := by
  obtain ⟨r, r1, r2, r3, r4, r5, r6⟩ := findK_ev l (kAt l i) (smallL_len hs)
  have hi : i.toNat < l.entries.length := by omega
  by_cases hr : r < 0
  · exact absurd rfl (r6 hr i.toNat hi)
  · have := r5 (by omega)
    have := keys_ne hB (i := r.toNat) (j := i.toNat) (by omega) hi this
    have : r = i := by omega
    exact Ev.eq r2 this
theorem parentOf_at {i p : Int} (h0 : 0 ≤ i) (h1 : i < l.entries.length) (hp : PI l i p) : p < l.entries.length ∧ Ev (fun k => impl_ParentOf.F k l (kAt l i)) (bif decide (p < 0) then (⟨#[]⟩, false, true) else (kAt l p, true, true)) := by
  obtain ⟨q, q1, q2, q3, q4⟩ := parent_ev l (smallL_len hs) i h0 h1
  have e := Ev.uniq hp q2
  subst e
  refine ⟨q4, ?_⟩
  unfold impl_ParentOf.F
  have v := isLib_ev l hs
  rw [hB] at v
  refine Ev.bind (idx_ev hs hB h0 h1) (Ev.bind v ?_)
  simp (disch := omega) only [Bool.not_true, cond_false, cneg]
  refine Ev.bind q2 ?_
  by_cases hn : p < 0
  · simp (disch := omega) only [cpos]
    exact Ev.pure _
  · simp (disch := omega) only [cpos, cneg]
    exact Ev.pure _
theorem valid_at {j : Nat} (hj : j < l.entries.length) : entryB l.entries[j] = true := by
  have h := hB
  unfold libB at h
  rw [Bool.and_eq_true, List.all_eq_true] at h
  have := h.1 j (by rw [List.mem_range'_1]; omega)
  unfold okL at this
  rw [Bool.and_eq_true, getD_at hj] at this
  exact this.1
/-- An entry whose cross is another one's key. -/
theorem child_parent {j : Nat} (hj : j < l.entries.length) {i : Int} (h0 : 0 ≤ i) (h1 : i < l.entries.length) (hc : l.entries[j].cross = kAt l i) : PI l j i ∧ (j : Int) ≠ i := by
  have hi : i.toNat < l.entries.length := by omega
  have hk : kAt l i = l.entries[i.toNat].key := by unfold kAt; rw [getD_at hi]
  have hv := valid_at hs hB hi
  have hw := valid_at hs hB hj
  have hne : 1 ≤ (kAt l i).size := by
    rw [hk]
    unfold entryB keyB at hv
    simp only [Bool.and_eq_true] at hv
    have := ins_le hv.1.1
    omega
  have hxk : l.entries[j].cross ≠ l.entries[j].key := by
    unfold entryB crossB at hw
    simp only [Bool.and_eq_true, Bool.or_eq_true, decide_eq_true_eq, Bool.not_eq_true'] at hw
    rcases hw.2.2.2.2.2.2.2.2.2.2 with h | h
    · rw [hc] at h; omega
    · intro e
      rw [e, beqS_self] at h
      cases h.2
  refine ⟨?_, fun e => ?_⟩
  · show Ev _ _
    unfold impl_parentIndex.F
    have hb : beqS l.entries[j].cross ⟨#[]⟩ = false := by
      cases h : beqS l.entries[j].cross ⟨#[]⟩ with
      | false => rfl
      | true =>
        have := beqS_iff.1 h
        rw [hc] at this
        rw [this] at hne
        exact absurd hne (by decide)
    simp (disch := omega) only [cpos, Int.toNat_natCast, getD_at hj, hb, cond_false]
    rw [hc]
    exact Ev.bind (idx_ev hs hB h0 h1) (Ev.pure _)
  · apply hxk
    rw [hc, hk]
    have : i.toNat = j := by omega
    subst this
    rfl
theorem child_chain {j : Nat} (hj : j < l.entries.length) {i : Int} (h0 : 0 ≤ i) (h1 : i < l.entries.length) (hc : l.entries[j].cross = kAt l i) : (j : Int) ≠ i ∧ ∀ c b, Ev (fun k => impl_chainOf.F k l j) (c, b) → i ∈ c := by
  obtain ⟨hp, hne⟩ := child_parent hs hB hj h0 h1 hc
  refine ⟨hne, fun c b he => ?_⟩
  obtain ⟨c', b', e1, ⟨t, e2⟩, e3, e4, e5, e6, e7⟩ := chain_kv l (libB_len hB) j (by omega) (by omega)
  have := Ev.uniq he e1
  cases this
  subst e2
  cases t with
  | nil =>
    exfalso
    have hlast : lastV [(j : Int)] = j := rfl
    cases b with
    | true =>
      obtain ⟨z, hz, hz2⟩ := e6 rfl
      rw [hlast] at hz2
      have := Ev.uniq hz2 hp
      simp at hz
      omega
    | false =>
      obtain ⟨z, hz, hz2⟩ := e7 rfl
      rw [hlast] at hz2
      have := Ev.uniq hz2 hp
      omega
  | cons x t =>
    have := e5 0 (by simp)
    have := Ev.uniq this hp
    have : x = i := this
    subst this
    simp

/-! ### What the program answers -/
def chP (l : Library) (key x : ByteArray) : Prop := ∃ j : Nat, ∃ h : j < l.entries.length, x = kAt l j ∧ l.entries[j].cross = key
def brP (l : Library) (x : ByteArray) : Prop := ∃ j : Nat, j < l.entries.length ∧ x = kAt l j ∧ ∃ z, z < 0 ∧ PI l j z
def cyP (l : Library) (y : List ByteArray) : Prop := ∃ c : List Int, y = c.map (kAt l) ∧ c ≠ [] ∧ (∀ x ∈ c, 0 ≤ x ∧ x < l.entries.length) ∧ Lk l c ∧ PI l (lastV c) (c.getD 0 0) ∧ c.length ≤ 8
omit hs hB in
theorem kAt_nat {j : Nat} (hj : j < l.entries.length) : kAt l j = l.entries[j].key := by unfold kAt; rw [Int.toNat_natCast, getD_at hj]
omit hs hB in
theorem children_k (hl : l.entries.length ≤ 8) (key : ByteArray) : ∀ n i : Nat, i + n = l.entries.length → ∀ acc : List ByteArray, acc.length + n ≤ 100 → (∀ x ∈ acc, chP l key x) →
    EvP (fun k => impl_ChildrenOf.l0 k key acc l.entries l.entries.length i) fun r => (∀ x ∈ r, chP l key x) ∧ r.length ≤ acc.length + n
  | 0, i, h, acc, ha, hp => by
    refine EvP.step (fun k => by rw [impl_ChildrenOf.l0]) ?_
    simp (disch := omega) only [cneg]
    exact EvP.pure _ ⟨hp, by omega⟩
  | n + 1, i, h, acc, ha, hp => by
    have hi : i < l.entries.length := by omega
    have hr : ∀ z : ByteArray, room (acc.length + ([z] : List ByteArray).length) .str = true := fun z => room_s8 (by simp; omega)
    refine EvP.step (fun k => by rw [impl_ChildrenOf.l0]) ?_
    simp (disch := omega) only [cpos, Int.toNat_natCast, getD_at hi, hr, cond_true, wrap_in]
    refine EvP.cond (fun hb => ?_) (fun _ => ?_)
    · refine EvP.mono (children_k hl key n (i + 1) (by omega) (acc ++ [l.entries[i].key]) (by simp; omega) fun x hx => ?_) fun r hr => ⟨hr.1, by have := hr.2; simp at this; omega⟩
      rcases List.mem_append.1 hx with hx | hx
      · exact hp x hx
      · rw [List.mem_singleton.1 hx]
        exact ⟨i, hi, (kAt_nat hi).symm, beqS_iff.1 hb⟩
    · exact EvP.mono (children_k hl key n (i + 1) (by omega) acc (by omega) hp) fun r hr => ⟨hr.1, by have := hr.2; omega⟩
omit hs hB in
theorem broken_k (hl : l.entries.length ≤ 8) : ∀ n i : Nat, i + n = l.entries.length → ∀ acc : List ByteArray, acc.length + n ≤ 100 → (∀ x ∈ acc, brP l x) →
    EvP (fun k => impl_BrokenCrosses.l0 k l acc l.entries l.entries.length i) fun r => (∀ x ∈ r, brP l x) ∧ r.length ≤ acc.length + n
  | 0, i, h, acc, ha, hp => by
    refine EvP.step (fun k => by rw [impl_BrokenCrosses.l0]) ?_
    simp (disch := omega) only [cneg]
    exact EvP.pure _ ⟨hp, by omega⟩
  | n + 1, i, h, acc, ha, hp => by
    have hi : i < l.entries.length := by omega
    have hr : ∀ z : ByteArray, room (acc.length + ([z] : List ByteArray).length) .str = true := fun z => room_s8 (by simp; omega)
    obtain ⟨p, p1, p2, p3, p4⟩ := parent_ev l (by omega) i (by omega) (by omega)
    have skip : EvP (fun k => impl_BrokenCrosses.l0 k l acc l.entries l.entries.length ((i : Int) + 1)) fun r => (∀ x ∈ r, brP l x) ∧ r.length ≤ acc.length + (n + 1) := EvP.mono (broken_k hl n (i + 1) (by omega) acc (by omega) hp) fun r hr => ⟨hr.1, by have := hr.2; omega⟩
    refine EvP.step (fun k => by rw [impl_BrokenCrosses.l0]) ?_
    simp (disch := omega) only [cpos, Int.toNat_natCast, getD_at hi, hr, cond_true, wrap_in]
    refine EvP.cond (fun hb => ?_) (fun _ => ?_)
    · refine EvP.of p2 ?_
      by_cases hn : p < 0
      · simp (disch := omega) only [cpos]
        refine EvP.mono (broken_k hl n (i + 1) (by omega) (acc ++ [l.entries[i].key]) (by simp; omega) fun x hx => ?_) fun r hr => ⟨hr.1, by have := hr.2; simp at this; omega⟩
        rcases List.mem_append.1 hx with hx | hx
        · exact hp x hx
        · rw [List.mem_singleton.1 hx]
          exact ⟨i, hi, (kAt_nat hi).symm, p, hn, p2⟩
      · simp (disch := omega) only [cneg]
        exact skip
    · exact skip
omit hs hB in
theorem dep_k (hl : l.entries.length ≤ 8) (q : Int) : ∀ n i : Nat, i + n = l.entries.length → ∀ acc : List ByteArray, acc.length + n ≤ 100 →
    EvP (fun k => impl_DependentsOf.l0 k l q acc l.entries l.entries.length i) fun r => (∀ x ∈ acc, x ∈ r) ∧ ∀ j : Nat, i ≤ j → j < l.entries.length → (j : Int) ≠ q → (∀ c b, Ev (fun k => impl_chainOf.F k l j) (c, b) → q ∈ c) → kAt l j ∈ r
  | 0, i, h, acc, ha => by
    refine EvP.step (fun k => by rw [impl_DependentsOf.l0]) ?_
    simp (disch := omega) only [cneg]
    exact EvP.pure _ ⟨fun x hx => hx, fun j h1 h2 => by omega⟩
  | n + 1, i, h, acc, ha => by
    have hi : i < l.entries.length := by omega
    have hr : ∀ z : ByteArray, room (acc.length + ([z] : List ByteArray).length) .str = true := fun z => room_s8 (by simp; omega)
    obtain ⟨c, b, e1, _, e3, e4, _⟩ := chain_kv l hl i (by omega) (by omega)
    obtain ⟨_, f2⟩ := has_ev c q (by omega)
    have skip : ((i : Int) = q ∨ q ∉ c) → EvP (fun k => impl_DependentsOf.l0 k l q acc l.entries l.entries.length ((i : Int) + 1)) fun r => (∀ x ∈ acc, x ∈ r) ∧ ∀ j : Nat, i ≤ j → j < l.entries.length → (j : Int) ≠ q → (∀ c b, Ev (fun k => impl_chainOf.F k l j) (c, b) → q ∈ c) → kAt l j ∈ r := fun hsk =>
      EvP.mono (dep_k hl q n (i + 1) (by omega) acc (by omega)) fun r hr => ⟨hr.1, fun j h1 h2 h3 h4 => by
        by_cases hj : j = i
        · subst hj
          rcases hsk with hsk | hsk
          · exact absurd hsk h3
          · exact absurd (h4 _ _ e1) hsk
        · exact hr.2 j (by omega) h2 h3 h4⟩
    refine EvP.step (fun k => by rw [impl_DependentsOf.l0]) ?_
    simp (disch := omega) only [cpos]
    refine EvP.of e1 ?_
    by_cases hq : (i : Int) = q
    · simp (disch := omega) only [cbeq, wrap_in]
      exact skip (.inl hq)
    · simp (disch := omega) only [cbne]
      refine EvP.of f2 ?_
      by_cases hm : q ∈ c
      · rw [decide_eq_true hm]
        simp (disch := omega) only [cond_true, cpos, Int.toNat_natCast, getD_at hi, hr, wrap_in]
        refine EvP.mono (dep_k hl q n (i + 1) (by omega) (acc ++ [l.entries[i].key]) (by simp; omega)) fun r hr => ⟨fun x hx => hr.1 x (List.mem_append_left _ hx), fun j h1 h2 h3 h4 => ?_⟩
        by_cases hj : j = i
        · subst hj
          rw [kAt_nat hi]
          exact hr.1 _ (List.mem_append_right _ (by simp))
        · exact hr.2 j (by omega) h2 h3 h4
      · rw [decide_eq_false hm]
        simp (disch := omega) only [cond_false, wrap_in]
        exact skip (.inr hm)
omit hs hB in
theorem min_l (xs : List Int) (hl : xs.length ≤ 1000) : ∀ n i : Nat, i + n = xs.length → ∀ m : Int, EvP (fun k => slices_Min_int.l0 k xs m i) fun _ => True
  | 0, i, h, m => by
    refine EvP.step (fun k => by rw [slices_Min_int.l0]) ?_
    simp (disch := omega) only [cneg]
    exact EvP.pure _ trivial
  | n + 1, i, h, m => by
    refine EvP.step (fun k => by rw [slices_Min_int.l0]) ?_
    simp (disch := omega) only [cpos, wrap_in]
    exact min_l xs hl n (i + 1) (by omega) _
omit hs hB in
theorem min_b (xs : List Int) (h1 : 1 ≤ xs.length) (hl : xs.length ≤ 1000) : EvP (fun k => slices_Min_int.F k xs) fun _ => True := by
  unfold slices_Min_int.F
  simp (disch := omega) only [cpos, cneg]
  exact EvP.bind (min_l xs hl (xs.length - 1) 1 (by omega) _) fun r _ => EvP.pure _ trivial
omit hs hB in
theorem keysOf_ev (c : List Int) (hc : ∀ x ∈ c, 0 ≤ x ∧ x < l.entries.length) (hlen : c.length ≤ 8) : Ev (fun k => impl_keysOf.F k l c) (c.map (kAt l)) := by
  unfold impl_keysOf.F
  have := (keys_l l c true hc hlen c.length 0 (by omega) [] (by simp; omega)).2
  refine Ev.bind this ((Ev.pure _).eq (by simp))
omit hs hB in
theorem cycles_k (hl : l.entries.length ≤ 8) : ∀ n i : Nat, i + n = l.entries.length → ∀ acc : List (List ByteArray), acc.length + n ≤ 100 → (∀ x ∈ acc, cyP l x) →
    EvP (fun k => impl_CrossCycles.l0 k l acc l.entries.length i) fun r => (∀ x ∈ r, cyP l x) ∧ r.length ≤ acc.length + n
  | 0, i, h, acc, ha, hp => by
    refine EvP.step (fun k => by rw [impl_CrossCycles.l0]) ?_
    simp (disch := omega) only [cneg]
    exact EvP.pure _ ⟨hp, by omega⟩
  | n + 1, i, h, acc, ha, hp => by
    have hi : i < l.entries.length := by omega
    have hr : ∀ z : List ByteArray, room (acc.length + ([z] : List (List ByteArray)).length) (.sl .str) = true := fun z => room8 (by simp; omega) (by decide)
    obtain ⟨c, b, e1, ⟨t, e2⟩, e3, e4, e5, e6, e7⟩ := chain_kv l hl i (by omega) (by omega)
    have hc1 : 1 ≤ c.length := by rw [e2]; simp
    have skip : EvP (fun k => impl_CrossCycles.l0 k l acc l.entries.length ((i : Int) + 1)) fun r => (∀ x ∈ r, cyP l x) ∧ r.length ≤ acc.length + (n + 1) := EvP.mono (cycles_k hl n (i + 1) (by omega) acc (by omega) hp) fun r hr => ⟨hr.1, by have := hr.2; omega⟩
    refine EvP.step (fun k => by rw [impl_CrossCycles.l0]) ?_
    simp (disch := omega) only [cpos]
    refine EvP.of e1 ?_
    cases b with
    | false =>
      simp (disch := omega) only [cond_false, wrap_in]
      exact skip
    | true =>
      obtain ⟨z, z1, z2⟩ := e6 rfl
      have hln : (((c.length : Int) - 1)).toNat = c.length - 1 := by omega
      simp (disch := omega) only [cond_true, cpos, wrap_in, hln]
      refine EvP.of z2 ?_
      refine EvP.cond (fun hz => ?_) (fun _ => skip)
      have hz : z = (i : Int) := by simpa using hz
      refine EvP.bind (min_b c hc1 (by omega)) fun m _ => ?_
      refine EvP.cond (fun _ => ?_) (fun _ => skip)
      refine EvP.of (keysOf_ev c e3 e4) ?_
      simp only [hr, cond_true]
      refine EvP.mono (cycles_k hl n (i + 1) (by omega) (acc ++ [c.map (kAt l)]) (by simp; omega) fun x hx => ?_) fun r hr => ⟨hr.1, by have := hr.2; simp at this; omega⟩
      rcases List.mem_append.1 hx with hx | hx
      · exact hp x hx
      · rw [List.mem_singleton.1 hx]
        refine ⟨c, rfl, by rw [e2]; simp, e3, e5, ?_, e4⟩
        rw [show c.getD 0 0 = z by rw [hz, e2]; rfl]
        exact z2
end

/-! ### The law's own checks -/
theorem rTexts_l0 (xs : List ByteArray) (hlen : xs.length ≤ 1048576) : ∀ n i : Nat, i + n = xs.length → Ev (fun k => laws_rTexts.l0 k xs xs i) (.inr ())
  | 0, i, h => by
    refine Ev.step (fun k => by rw [laws_rTexts.l0]) ?_
    simp (disch := omega) only [cneg]
    exact Ev.pure _
  | n + 1, i, h => by
    refine Ev.step (fun k => by rw [laws_rTexts.l0]) ?_
    simp (disch := omega) only [cpos, Int.toNat_natCast, beqS_self, Bool.not_true, cond_false, wrap_in]
    exact rTexts_l0 xs hlen n (i + 1) (by omega)
theorem rTexts_ev (xs : List ByteArray) (hlen : xs.length ≤ 1048576) : Ev (fun k => laws_rTexts.F k xs xs) true := by
  unfold laws_rTexts.F
  simp (disch := omega) only [cbeq]
  exact Ev.bind (rTexts_l0 xs hlen xs.length 0 (by omega)) (Ev.pure _)
theorem rHas_l0 (xs : List ByteArray) (x : ByteArray) (hlen : xs.length ≤ 1048576) : ∀ n i : Nat, i + n = xs.length → x ∈ xs.drop i → Ev (fun k => laws_rHas.l0 k xs x i) (.inl true)
  | 0, i, h, hx => by
    rw [List.drop_eq_nil_of_le (by omega)] at hx
    cases hx
  | n + 1, i, h, hx => by
    have hi : i < xs.length := by omega
    rw [List.drop_eq_getElem_cons hi] at hx
    refine Ev.step (fun k => by rw [laws_rHas.l0]) ?_
    simp (disch := omega) only [cpos, Int.toNat_natCast, getD_at hi]
    refine Ev.cond (fun _ => Ev.pure _) (fun hb => ?_)
    simp (disch := omega) only [wrap_in]
    refine rHas_l0 xs x hlen n (i + 1) (by omega) ?_
    rcases List.mem_cons.1 hx with e | hx
    · rw [← e, beqS_self] at hb; cases hb
    · exact hx
theorem rHas_ev (xs : List ByteArray) (x : ByteArray) (hlen : xs.length ≤ 1048576) (hx : x ∈ xs) : Ev (fun k => laws_rHas.F k xs x) true := by
  unfold laws_rHas.F
  exact Ev.bind (rHas_l0 xs x hlen xs.length 0 (by omega) (by simpa using hx)) (Ev.pure _)
theorem check0 (l : Library) (ch dep br : List ByteArray) (hl : ch.length ≤ 1000) (hd : dep.length ≤ 1000) (hs : ∀ x ∈ ch, x ∈ dep) : ∀ n i : Nat, i + n = ch.length → Ev (fun k => laws_FnCrosses.l0 k l ch dep br i) (.inr (l, br))
  | 0, i, h => by
    refine Ev.step (fun k => by rw [laws_FnCrosses.l0]) ?_
    simp (disch := omega) only [cneg]
    exact Ev.pure _
  | n + 1, i, h => by
    have hi : i < ch.length := by omega
    refine Ev.step (fun k => by rw [laws_FnCrosses.l0]) ?_
    simp (disch := omega) only [cpos, Int.toNat_natCast, getD_at hi]
    refine Ev.bind (rHas_ev dep _ (by omega) (hs _ (List.getElem_mem hi))) ?_
    simp (disch := omega) only [Bool.not_true, cond_false, wrap_in]
    exact check0 l ch dep br hl hd hs n (i + 1) (by omega)
theorem check2 {l : Library} (hs : smallL l) (hB : libB l = true) (br : List ByteArray) (hl : br.length ≤ 1000) (hp : ∀ x ∈ br, brP l x) : ∀ n i : Nat, i + n = br.length → Ev (fun k => laws_FnCrosses.l2 k l br i) (.inr l)
  | 0, i, h => by
    refine Ev.step (fun k => by rw [laws_FnCrosses.l2]) ?_
    simp (disch := omega) only [cneg]
    exact Ev.pure _
  | n + 1, i, h => by
    have hi : i < br.length := by omega
    obtain ⟨j, hj, e, z, hz, hpz⟩ := hp _ (List.getElem_mem hi)
    have := (parentOf_at hs hB (by omega) (by omega) hpz).2
    rw [decide_eq_true hz] at this
    refine Ev.step (fun k => by rw [laws_FnCrosses.l2]) ?_
    simp (disch := omega) only [cpos, Int.toNat_natCast, getD_at hi]
    rw [e]
    refine Ev.bind this ?_
    simp (disch := omega) only [cond_true, cond_false, Bool.not_true, wrap_in]
    exact check2 hs hB br hl hp n (i + 1) (by omega)
theorem check6 {l : Library} (hs : smallL l) (hB : libB l = true) (cs : List (List ByteArray)) (hl : cs.length ≤ 1000) (b : Bool) (i : Nat) (hi : i < cs.length) (c : List Int) (hc : cs[i] = c.map (kAt l)) (hr : ∀ x ∈ c, 0 ≤ x ∧ x < l.entries.length) (hk : Lk l c) (hlast : PI l (lastV c) (c.getD 0 0)) (h8 : c.length ≤ 8) :
    ∀ n j : Nat, j + n = c.length → Ev (fun k => laws_FnCrosses.l6 k l cs b i j) (.inr (l, cs, b, (i : Int)))
  | 0, j, h => by
    have hm : (cs[i]).length = c.length := by rw [hc, List.length_map]
    refine Ev.step (fun k => by rw [laws_FnCrosses.l6]) ?_
    simp (disch := omega) only [cpos, cneg, Int.toNat_natCast, getD_at hi, hm]
    exact Ev.pure _
  | n + 1, j, h => by
    have hm : (cs[i]).length = c.length := by rw [hc, List.length_map]
    have hj : j < c.length := by omega
    have hx := hr _ (List.getElem_mem hj)
    have hnz : ((c.length : Int) == 0) = false := by rw [beq_eq_false_iff_ne]; omega
    -- the one behind
    obtain ⟨q, q0, q1, q2⟩ : ∃ q : Nat, Int.tmod ((j : Int) + 1) (c.length : Int) = q ∧ q < c.length ∧ PI l c[j] (c.getD q 0) := by
      by_cases e : j + 1 = c.length
      · refine ⟨0, ?_, by omega, ?_⟩
        · rw [show ((j : Int) + 1) = (c.length : Int) by omega]; exact Int.tmod_self
        · have : lastV c = c[j] := by
            unfold lastV
            rw [show c.length - 1 = j by omega, getD_at hj]
          rw [← this]; exact hlast
      · refine ⟨j + 1, ?_, by omega, ?_⟩
        · rw [show ((j : Int) + 1) = ((j + 1 : Nat) : Int) by omega]
          exact Int.tmod_eq_of_lt (by omega) (by omega)
        · have := hk j (by omega)
          rw [getD_at hj] at this
          exact this
    rw [getD_at q1] at q2
    have hq := hr _ (List.getElem_mem q1)
    have hpo := (parentOf_at hs hB hx.1 hx.2 q2).2
    rw [decide_eq_false (by omega)] at hpo
    have ej : (cs[i]).getD j ⟨#[]⟩ = kAt l c[j] := by
      rw [getD_at (by omega)]
      simp [hc]
    have eq : (cs[i]).getD q ⟨#[]⟩ = kAt l c[q] := by
      rw [getD_at (by omega)]
      simp [hc]
    refine Ev.step (fun k => by rw [laws_FnCrosses.l6]) ?_
    simp (disch := omega) only [cpos, Int.toNat_natCast, getD_at hi, hm, ej]
    refine Ev.bind hpo ?_
    simp (disch := omega) only [cond_true, cond_false, Bool.not_true, cpos, wrap_in, hnz, q0, Int.toNat_natCast, eq, beqS_self]
    exact check6 hs hB cs hl b i hi c hc hr hk hlast h8 n (j + 1) (by omega)
theorem check4 {l : Library} (hs : smallL l) (hB : libB l = true) (cs : List (List ByteArray)) (hl : cs.length ≤ 1000) (hp : ∀ x ∈ cs, cyP l x) (b : Bool) : ∀ n i : Nat, i + n = cs.length → Ev (fun k => laws_FnCrosses.l4 k l cs b i) (.inr b)
  | 0, i, h => by
    refine Ev.step (fun k => by rw [laws_FnCrosses.l4]) ?_
    simp (disch := omega) only [cneg]
    exact Ev.pure _
  | n + 1, i, h => by
    have hi : i < cs.length := by omega
    obtain ⟨c, c1, c2, c3, c4, c5, c6⟩ := hp _ (List.getElem_mem hi)
    refine Ev.step (fun k => by rw [laws_FnCrosses.l4]) ?_
    simp (disch := omega) only [cpos]
    refine Ev.bind (check6 hs hB cs hl b i hi c c1 c3 c4 c5 c6 c.length 0 (by omega)) ?_
    simp (disch := omega) only [wrap_in]
    exact check4 hs hB cs hl hp b n (i + 1) (by omega)

/-! ### The law -/
theorem crosses_law (code : List Int) (hw : WF (.sl (.int .u8)) code) : ∃ k, laws_FnCrosses.F k code = some true := by
  refine Ev.get (?_ : Ev (fun k => laws_FnCrosses.F k code) true)
  unfold laws_FnCrosses.F laws_rBig.F
  by_cases c0 : (code.length : Int) > 65536
  · simp (disch := omega) only [cpos, Option.bind_some]
    exact Ev.pure _
  simp (disch := omega) only [cneg, Option.bind_some]
  have hc : byt code := byt_of hw (by omega)
  obtain ⟨⟨l, key⟩, d1, d2, _⟩ := drawParent_b hc
  have d3 : Ev (fun k => spec_DrawCrossChain.F k code) (l, key) := by unfold spec_DrawCrossChain.F; exact Ev.bind d1 (Ev.pure _)
  have hs : smallL l := libOk_small d2 (by omega)
  obtain ⟨r, b, v, x1, x2, x3⟩ := crossChain_ev l hs key
  have tr := rTexts_ev r (by omega)
  refine Ev.bind d3 (Ev.bind x2 (Ev.bind x1 ?_))
  simp only [beq_self_eq_true, Bool.not_true, cond_false]
  refine Ev.bind tr ?_
  simp only [Bool.not_true, cond_false]
  cases v with
  | false =>
    simp only [Bool.not_false, cond_true]
    exact Ev.bind tr (Ev.pure _)
  | true =>
    simp only [Bool.not_true, cond_false]
    obtain ⟨v, i, a1, a2, a3, a4, a5, a6, a7, a8, a9⟩ := asked_ev l hs key
    -- it is asked of a library
    have good : v = true ∧ 0 ≤ i := by
      apply Classical.byContradiction
      intro hn
      have : Ev (fun k => impl_CrossChain.F k l key) (([] : List ByteArray), false, false) := by
        unfold impl_CrossChain.F
        refine Ev.bind a5 (Ev.bind a3 ?_)
        cases v with
        | false => exact Ev.pure _
        | true =>
          have : ¬ 0 ≤ i := fun h => hn ⟨rfl, h⟩
          simp (disch := omega) only [Bool.not_true, cond_false, cpos]
          exact Ev.pure _
      have := Ev.uniq x2 this
      cases this
    obtain ⟨rfl, hi⟩ := good
    obtain ⟨hl, hB⟩ := a8 rfl
    have hkey := a9 hi
    obtain ⟨c, b', e1, ⟨t, e2⟩, e3, e4, e5, e6, e7⟩ := chain_kv l hl i hi a7
    have hval : Ev (fun k => impl_CrossChain.F k l key) (c.map (kAt l), b', true) := by
      unfold impl_CrossChain.F
      refine Ev.bind a5 (Ev.bind a3 ?_)
      simp (disch := omega) only [Bool.not_true, cond_false, cneg]
      exact Ev.bind e1 (Ev.bind (keysOf_ev c e3 e4) (Ev.pure _))
    have := Ev.uniq x2 hval
    simp only [Prod.mk.injEq] at this
    obtain ⟨rfl, rfl, _⟩ := this
    obtain ⟨p, p1, p2, p3, p4⟩ := parent_ev l (by omega) i hi a7
    have hpo := (parentOf_at hs hB hi a7 p2).2
    rw [hkey] at hpo
    -- the other answers
    obtain ⟨ch, ch1, ch2, ch3⟩ := children_k hl key l.entries.length 0 (by omega) [] (by simp; omega) (by simp)
    have hch : Ev (fun k => impl_ChildrenOf.F k l key) (ch, true) := by
      unfold impl_ChildrenOf.F
      refine Ev.bind a3 ?_
      simp only [Bool.not_true, cond_false]
      refine Ev.bind a5 ?_
      simp (disch := omega) only [cneg]
      exact Ev.bind ch1 (Ev.pure _)
    obtain ⟨dp, dp1, dp2, dp3⟩ := dep_k hl i l.entries.length 0 (by omega) [] (by simp; omega)
    have hdp : Ev (fun k => impl_DependentsOf.F k l key) (dp, true) := by
      unfold impl_DependentsOf.F
      refine Ev.bind a5 (Ev.bind a3 ?_)
      simp (disch := omega) only [Bool.not_true, cond_false, cneg]
      exact Ev.bind dp1 (Ev.pure _)
    obtain ⟨dq, dv, dq1, dq2, dq3⟩ := dependentsOf_ev l hs key
    have := Ev.uniq hdp dq2
    simp only [Prod.mk.injEq] at this
    obtain ⟨rfl, rfl⟩ := this
    obtain ⟨br, br1, br2, br3⟩ := broken_k hl l.entries.length 0 (by omega) [] (by simp; omega) (by simp)
    have hbr : Ev (fun k => impl_BrokenCrosses.F k l) (br, true) := by
      unfold impl_BrokenCrosses.F
      refine Ev.bind a3 ?_
      simp only [Bool.not_true, cond_false]
      exact Ev.bind br1 (Ev.pure _)
    obtain ⟨cy, cy1, cy2, cy3⟩ := cycles_k hl l.entries.length 0 (by omega) [] (by simp; omega) (by simp)
    have hcy : Ev (fun k => impl_CrossCycles.F k l) (cy, true) := by
      unfold impl_CrossCycles.F
      refine Ev.bind a3 ?_
      simp only [Bool.not_true, cond_false]
      exact Ev.bind cy1 (Ev.pure _)
    have ch3 : ch.length ≤ 0 + l.entries.length := ch3
    have br3 : br.length ≤ 0 + l.entries.length := br3
    have cy3 : cy.length ≤ 0 + l.entries.length := cy3
    have k0 := check0 l ch dp br (by omega) (by omega) (fun x hx => by
      obtain ⟨j, hj, rfl, hcr⟩ := ch2 x hx
      obtain ⟨n1, n2⟩ := child_chain hs hB hj hi a7 (by rw [hcr, hkey])
      exact dp3 j (by omega) hj n1 n2) ch.length 0 (by omega)
    have k2 := check2 hs hB br (by omega) br2 br.length 0 (by omega)
    have k4 := check4 hs hB cy (by omega) cy2 true cy.length 0 (by omega)
    have td := rTexts_ev dp (by omega)
    refine Ev.bind hpo ?_
    have hlen : (c.map (kAt l)).length = t.length + 1 := by rw [e2]; simp
    have h00 : (c.map (kAt l)).getD 0 ⟨#[]⟩ = key := by rw [e2]; exact hkey
    have z0 : (0 : Int).toNat = 0 := rfl
    have z1 : (1 : Int).toNat = 1 := rfl
    have told : (bif decide (p < 0) then ((⟨#[]⟩ : ByteArray), false, true) else (kAt l p, true, true)).2.2 = true := by cases decide (p < 0) <;> rfl
    simp only [told, Bool.not_true, cond_false]
    simp (disch := omega) only [cneg, cpos, z0, h00, beqS_self, Bool.not_true, cond_false]
    by_cases h1 : ((c.map (kAt l)).length : Int) > 1
    · cases t with
      | nil =>
        exfalso
        have : (c.map (kAt l)).length = 1 := hlen
        omega
      | cons x t =>
        have hx := e5 0 (by rw [e2]; simp)
        rw [e2] at hx
        have hx : PI l i x := hx
        have hpx := Ev.uniq p2 hx
        subst hpx
        have hx2 := e3 p (by rw [e2]; simp)
        have h01 : (c.map (kAt l)).getD 1 ⟨#[]⟩ = kAt l p := by rw [e2]; rfl
        have hd : decide (p < 0) = false := decide_eq_false (by omega)
        simp (disch := omega) only [cpos, hd, cond_false, Bool.not_true, z1, h01, beqS_self]
        refine Ev.bind hch (Ev.bind hdp (Ev.bind hbr (Ev.bind dq1 ?_)))
        simp only [Bool.not_true, cond_false]
        refine Ev.bind td ?_
        simp only [Bool.not_true, cond_false]
        exact Ev.bind k0 (Ev.bind k2 (Ev.bind hcy (Ev.bind k4 (Ev.pure _))))
    · simp (disch := omega) only [cneg]
      refine Ev.bind hch (Ev.bind hdp (Ev.bind hbr (Ev.bind dq1 ?_)))
      simp only [Bool.not_true, cond_false]
      refine Ev.bind td ?_
      simp only [Bool.not_true, cond_false]
      exact Ev.bind k0 (Ev.bind k2 (Ev.bind hcy (Ev.bind k4 (Ev.pure _))))
end Go.Proofs.YtckcichnmiifkaaGreatDoor
end
section
/- The law FnCrosses returns true for every input, the listed package variables being as the program's text lays it: the card. -/
namespace Go.Proofs.YtckcichnmiifkaaGreatDoor
open Go.Gx Go.RowKit Go.ChangeShapes Go.WideShapes Go.ChangeAt
set_option linter.unusedVariables false
theorem fnCrosses_own : ownKnob Tryz.prog.godebug = none := by kernel_rfl
set_option maxRecDepth 100000 in
theorem fnCrosses_contract (H : Type) (enc : TypeId × Value → H) (W : World) (base : Nat) (args : Array Value) (ds gs : List (DataW H)) (before : List MemPlace)
    (hval : ∀ (j : Nat) t v, Tryz.f3.params[j]? = some t → args[j]? = some v → Value.okWide Tryz.prog W .any base t v)
    (hW : DataW.Whole enc Tryz.prog Tryz.f3.params.toList Rows.fnCrossesSpec.vars false W args.toList ds gs before) (hsh : W.ShapedOpen Tryz.prog) :
    Calls Tryz.prog 3 args W fun e W' => ∃ v, e = .returned v ∧ Rows.fnCrossesSpec.post enc Tryz.prog Tryz.f3 false true false false W args v W' := by
  have hgs : gs = [] := by
    obtain ⟨p, q, _, hV, _⟩ := hW
    exact (trodVars_none hV).1
  subst hgs
  have hds : ∃ d1, ds = [d1] := by
    obtain ⟨p, q, hA, _⟩ := hW
    obtain ⟨_, _, d1, e0, _, _, _, rfl, _, _, h0⟩ := trodAll_cons hA
    obtain ⟨_, rfl, _⟩ := trodAll_nil h0
    exact ⟨d1, rfl⟩
  obtain ⟨d1, rfl⟩ := hds
  have hgl : GlOk envX (fun _ => undef) (Lt W) W := by
    refine GlOk.mk0 (fun g b h => (by cases h)) (fun g hg => ?_)
    have hg' : giT g = true := hg
    unfold giT at hg'
    split at hg'
    · obtain ⟨m, hm⟩ := cell_of_shapedOpen_int (P := Tryz.prog) (g := 0) (t := 3) (zero := #[.int .i64 0]) hsh (of_decide_eq_true (by kernel_rfl)) (by kernel_rfl) rfl (by kernel_rfl) (by kernel_rfl) (by kernel_rfl)
      exact ⟨World.block_lt_of_cell? _ _ hm, m, hm⟩
    · cases hg'
  refine law_contract (τs := [(.sl (.int .u8))]) (r := .t .bool true) envOk (by kernel_rfl) rfl (by kernel_rfl) (by kernel_rfl) rfl (by kernel_rfl) (by kernel_rfl) (fun t ht => ?_) rfl (fun x hx => by
      obtain ⟨k, hk⟩ := crosses_law x.1 hx.1
      exact laws_FnCrosses.good envOk _ k _ hk) rfl hval hW hgl (fun q hq W' _ => ?_)
  · have : t ∈ [22] := ht
    simp only [List.mem_cons, List.not_mem_nil, or_false] at this
    rcases this with rfl <;> exact ⟨by kernel_rfl, Nat.le_of_ble_eq_true (by kernel_rfl)⟩
  · obtain ⟨_, rfl⟩ := trodVars_none hq
    exact rfl
set_option maxRecDepth 100000 in
noncomputable def fnCrosses_world (os : Os) : World :=
  { World.holding Tryz.prog os ⟨#[], #[], []⟩ with heap := (((World.holding Tryz.prog os ⟨#[], #[], []⟩).heap.modify 2 fun
      | .cells _ t frozen => .cells #[.int .u8 128, .int .u8 191, .int .u8 160, .int .u8 191, .int .u8 128, .int .u8 159, .int .u8 144, .int .u8 191, .int .u8 128, .int .u8 143, .int .u8 0, .int .u8 0, .int .u8 0, .int .u8 0, .int .u8 0, .int .u8 0, .int .u8 0, .int .u8 0, .int .u8 0, .int .u8 0, .int .u8 0, .int .u8 0, .int .u8 0, .int .u8 0, .int .u8 0, .int .u8 0, .int .u8 0, .int .u8 0, .int .u8 0, .int .u8 0, .int .u8 0, .int .u8 0] t frozen
      | o => o).modify 1 fun
      | .cells _ t frozen => .cells (Pinned.utf8FirstZ.map fun (n : Nat) => Value.int .u8 (n : Int)).toArray t frozen
      | o => o) }
theorem fnCrosses_met (os : Os) : laidMet Tryz.prog Rows.fnCrossesRow.laid ((fnCrosses_world os).forCall (fun _ _ => 0) ⟨#[], #[.slice none 0 0], []⟩).memory :=
  laidMet_of_run' 8 (by kernel_rfl) (by kernel_rfl)
theorem fnCrosses_reads (os : Os) {H : Type} (enc : TypeId × Value → H) : ∃ places, DataW.whole enc Tryz.prog ((fnCrosses_world os).forCall (fun _ _ => 0) ⟨#[], #[.slice none 0 0], []⟩).memory Tryz.f3.params.toList Rows.fnCrossesSpec.vars false #[.slice none 0 0].toList 8 = some ([.nil], [], places) :=
  ⟨[], by kernel_rfl⟩
set_option maxRecDepth 100000 in
theorem fnCrosses_lifted (os : Os) (started : os.Started) (H : Type) (enc : TypeId × Value → H) (F : Stop.Interp) :
    ReturnsInHanded {} Tryz.checked os 3 .any ((OpenSpec.ofChange Rows.fnCrossesSpec).preRow enc Tryz.prog Tryz.f3 Rows.fnCrossesRow.domain false Rows.fnCrossesRow.laid) (((OpenSpec.ofChange Rows.fnCrossesSpec).at F).post enc Tryz.prog Tryz.f3 false true false false) := by
  obtain ⟨places, hx⟩ := fnCrosses_reads os enc
  refine returnsInHanded_of_row (C := Tryz.checked) (s := OpenSpec.ofChange Rows.fnCrossesSpec) fnCrosses_own started (by kernel_rfl) (by kernel_rfl)
    (witness_row_at (enc := enc) (C := Tryz.checked) false (fnCrosses_world os) #[.slice none 0 0] rfl (by kernel_rfl) (by kernel_rfl) (by kernel_rfl)
      (OpenSpec.preRow_of_cond 8 hx (by kernel_rfl) (fun k hk => by cases hk) (by kernel_rfl) (fnCrosses_met os))) ?_
  intro W base args ds gs before hval hW _ _ _ _ hsh _
  exact fnCrosses_contract H enc W base args ds gs before hval hW hsh
theorem fnCrosses_said : Rows.FnCrossesSaid :=
  OpenClaim.holds_of_cond 3 Tryz.f3 rfl rfl rfl rfl rfl rfl rfl ⟨rfl, rfl, rfl, rfl, rfl⟩ rfl rfl rfl rfl rfl (by kernel_rfl) (by kernel_rfl) (by kernel_rfl)
    (of_decide_eq_true (by kernel_rfl)) (by unfold Func.isWrapper; first | (rw [if_pos (by decide +kernel)]; kernel_rfl) | (rw [if_neg (by decide +kernel)]; exact ⟨rfl, rfl⟩))
    (fun os started H enc _ F => by rw [OpenClaim.pre_eq_preRow]; exact fnCrosses_lifted os started H enc F)
theorem fnCrosses_plain (f : FuncId) (fn : Func) (hf : Tryz.pinned.checked.prog.funcNamed "loop.example/g00896/laws.FnCrosses" = some f) (hfn : Tryz.pinned.checked.prog.funcs[f]? = some fn) :
    false = Tryz.pinned.checked.prog.looks [] ∧ ∀ (j : Nat) t, fn.params[j]? = some t → Tryz.pinned.checked.prog.wantsStandIn t = false := by
  obtain rfl : f = 3 := (Option.some.inj ((show Tryz.prog.funcNamed "loop.example/g00896/laws.FnCrosses" = some 3 by kernel_rfl).symm.trans hf)).symm
  obtain rfl : fn = Tryz.f3 := (Option.some.inj ((show Tryz.prog.funcs[3]? = some Tryz.f3 by kernel_rfl).symm.trans hfn)).symm
  refine ⟨by kernel_rfl, fun j t ht => ?_⟩
  have ht' : t ∈ [22] := by simpa using Array.mem_of_getElem? (show (#[22] : Array Nat)[j]? = some t from ht)
  simp only [List.mem_cons, List.not_mem_nil, or_false] at ht'
  rcases ht' with rfl
  · exact (show Tryz.prog.wantsStandIn 22 = false by kernel_rfl)
theorem FnCrosses_holds : Rows.FnCrossesCardSaid :=
  Claim7.holds_tied_plain_at .later [] _ _ _ _ fnCrosses_said (fun _ h => by cases h) (by kernel_rfl) (fun _ h => by cases h) fnCrosses_row_tie rfl ⟨rfl, rfl⟩ (by kernel_rfl) rfl fnCrosses_plain (by kernel_rfl)
#print axioms FnCrosses_holds
end Go.Proofs.YtckcichnmiifkaaGreatDoor
end
