/- The law FnDistances returns true for every input, the listed package variables being as the program's text lays it: the card. -/
import Derived.Test.YtckcichnmiifkaaGreatDoorMdi3
import Derived.Lib.IndexBytes
import Derived.Lib.IndexLaws
import Derived.Lib.CountLaws
import Derived.Lib.Split
import Derived.Lib.SplitLaws
import Derived.Lib.TrimByte
import Derived.Lib.Join
import Derived.Test.YtckcichnmiifkaaGreatDoorMdi5
import Derived.Test.YtckcichnmiifkaaGreatDoorCards
import Derived.Test.YtckcichnmiifkaaGreatDoorTie
import Derived.Shelf.Vars
import Derived.WalkKit
import Derived.ProofKit
import Derived.OpenShut
import Derived.Deep.DeepHandedRow
import Derived.Lib.LaidTab
section
namespace Go.Proofs.YtckcichnmiifkaaGreatDoor
open Go.Gx
set_option linter.unusedVariables false
set_option linter.unusedSimpArgs false

theorem getD_at {α : Type} {xs : List α} {i : Nat} (h : i < xs.length) (d : α) : xs.getD i d = xs[i] := by simp [List.getD, List.getElem?_eq_getElem h]
theorem size_pos {s : ByteArray} : (!beqS s ⟨#[]⟩) = decide (0 < s.size) := by
  rw [beqS_eq]
  have : L ⟨#[]⟩ = [] := rfl
  rw [this, ← L_size]
  cases L s <;> rfl
theorem size_app (s t : ByteArray) : (s ++ t).size = s.size + t.size := by
  rw [← L_size, L_append, List.length_append, L_size, L_size]
theorem bytesL_len (s : ByteArray) : (bytesL s).length = s.size := by
  simp only [bytesL, List.length_map, Array.length_toList]; rfl
theorem bytesL_map (s : ByteArray) : bytesL s = (L s).map fun b => (b.toNat : Int) := rfl
theorem bt_bytes (s : ByteArray) (i : Nat) (h : i < (bytesL s).length) : bt s i = (bytesL s)[i] := by
  rw [L_bt]
  have h' : i < (L s).length := by simpa [bytesL_map] using h
  simp [bytesL_map, List.getD, h']
theorem bytes_range (s : ByteArray) (i : Nat) (h : i < (bytesL s).length) : 0 ≤ (bytesL s)[i] ∧ (bytesL s)[i] ≤ 255 := by
  rw [← bt_bytes s i h]; exact bt_range s i
theorem all_bytes {s : ByteArray} {i : Nat} (h : i < (bytesL s).length) (p : Int → Bool) : ((bytesL s).drop i).all p = (p (bytesL s)[i] && ((bytesL s).drop (i + 1)).all p) := by
  rw [List.drop_eq_getElem_cons h]; rfl
theorem sub_tail (s : ByteArray) (st a : Nat) : (s.extract st s.size).extract a (s.extract st s.size).size = s.extract (st + a) s.size := by
  apply L_inj
  have e : (L s).take s.size = L s := List.take_of_length_le (Nat.le_refl _)
  rw [L_extract, L_extract s (st + a), ← L_size (s.extract st s.size), L_extract, List.take_length, List.drop_drop, e]
theorem sub_head (s : ByteArray) (st i : Nat) (h : st ≤ i) (hi : i ≤ s.size) : (s.extract st s.size).extract 0 (i - st) = s.extract st i := by
  apply L_inj
  rw [L_extract, L_extract, L_extract, List.drop_zero, List.take_of_length_le (show (L s).length ≤ s.size from Nat.le_refl _), List.drop_take]
def sp : ByteArray := ⟨#[32]⟩
theorem ib_hit {l : List UInt8} {c : UInt8} {i : Nat} (h : l[i]? = some c) (hn : ∀ j, j < i → l[j]? ≠ some c) : Lib.indexByte l c = i := by
  have hg := Lib.indexByte_ge l c
  by_cases e : Lib.indexByte l c = -1
  · exact absurd h (Lib.indexByte_none e i)
  · obtain ⟨o, ho⟩ : ∃ o : Nat, Lib.indexByte l c = o := ⟨(Lib.indexByte l c).toNat, by omega⟩
    obtain ⟨h1, h2⟩ := Lib.indexByte_some ho
    rcases Nat.lt_trichotomy o i with h3 | h3 | h3
    · exact absurd h1 (hn o h3)
    · rw [ho, h3]
    · exact absurd h (h2 i h3)
theorem ib_miss {l : List UInt8} {c : UInt8} (hn : ∀ j : Nat, l[j]? ≠ some c) : Lib.indexByte l c = -1 := by
  have hg := Lib.indexByte_ge l c
  by_cases e : Lib.indexByte l c = -1
  · exact e
  · obtain ⟨o, ho⟩ : ∃ o : Nat, Lib.indexByte l c = o := ⟨(Lib.indexByte l c).toNat, by omega⟩
    exact absurd (Lib.indexByte_some ho).1 (hn o)
theorem indexB_sp (s : ByteArray) : Lib.indexB s sp = Lib.indexByte (L s) 32 := Lib.one s sp rfl
theorem sub_at (s : ByteArray) (st j : Nat) : (L (s.extract st s.size))[j]? = (L s)[st + j]? := by
  rw [L_extract, List.take_of_length_le (show (L s).length ≤ s.size from Nat.le_refl _), List.getElem?_drop]
def wordsFrom (s : ByteArray) (st : Nat) : List ByteArray := Lib.splitB sp 0 (Lib.countB (s.extract st s.size) sp) (s.extract st s.size)
theorem words_end (s : ByteArray) (st : Nat) (h : ∀ j, st ≤ j → (L s)[j]? ≠ some 32) : wordsFrom s st = [s.extract st s.size] := by
  unfold wordsFrom
  rw [Lib.countB_miss _ _ ((indexB_sp _).trans (ib_miss fun j => by rw [sub_at]; exact h _ (by omega)))]
  rfl
theorem words_hit (s : ByteArray) (st i : Nat) (h1 : st ≤ i) (hi : i < s.size) (hb : (L s)[i]? = some 32) (h : ∀ j, st ≤ j → j < i → (L s)[j]? ≠ some 32) : wordsFrom s st = s.extract st i :: wordsFrom s (i + 1) := by
  have e : Lib.indexB (s.extract st s.size) sp = ((i - st : Nat) : Int) := (indexB_sp _).trans (ib_hit (by rw [sub_at, show st + (i - st) = i by omega]; exact hb) fun j hj => by rw [sub_at]; exact h _ (by omega) (by omega))
  have e1 : sp.size = 1 := rfl
  unfold wordsFrom
  rw [Lib.countB_hit _ _ _ (by rw [e1]; exact Nat.le_refl _) e, Nat.add_comm 1, Lib.splitB_hit _ _ _ _ _ e, Nat.add_zero, sub_head s st i h1 (by omega), e1, sub_tail, show st + (i - st + 1) = i + 1 by omega]
theorem sub_self (s : ByteArray) : s.extract 0 s.size = s := by
  apply L_inj
  rw [L_extract, List.take_of_length_le (show (L s).length ≤ s.size from Nat.le_refl _), List.drop_zero]
def words (s : ByteArray) : List ByteArray := Lib.splitB sp 0 (Lib.countB s sp) s
theorem words_from (s : ByteArray) : wordsFrom s 0 = words s := by unfold wordsFrom words; rw [sub_self]
theorem words_small : ∀ (k : Nat) (s : ByteArray), ∀ x ∈ Lib.splitB sp 0 k s, x.size ≤ s.size
  | 0, s, x, hx => by
    rw [Lib.splitB_zero] at hx
    simp only [List.mem_singleton] at hx
    rw [hx]; exact Nat.le_refl _
  | k + 1, s, x, hx => by
    unfold Lib.splitB at hx
    split at hx
    · simp only [List.mem_singleton] at hx
      rw [hx]; exact Nat.le_refl _
    · rcases List.mem_cons.1 hx with rfl | hx
      · rw [ByteArray.size_extract]; omega
      · have := words_small k _ x hx
        rw [ByteArray.size_extract] at this
        omega
theorem words_len (s : ByteArray) : 1 ≤ (words s).length ∧ (words s).length ≤ s.size + 1 := by
  unfold words
  have h1 : 1 ≤ sp.size := Nat.le_refl 1
  rw [Lib.splitB_all sp h1 0 _ s rfl]
  have := Lib.countB_le sp h1 s.size s (Nat.le_refl _)
  omega
theorem dropWhile_self {α : Type} (p : α → Bool) : ∀ l : List α, l.dropWhile p = l ↔ (∀ a, l.head? = some a → p a = false)
  | [] => by simp
  | a :: l => by
    have hl : (l.dropWhile p).length ≤ l.length := (List.dropWhile_sublist p).length_le
    cases h : p a with
    | true =>
      rw [List.dropWhile_cons_of_pos h]
      constructor
      · intro e
        have := congrArg List.length e
        simp at this
        omega
      · intro e
        have := e a rfl
        rw [h] at this; cases this
    | false =>
      rw [List.dropWhile_cons_of_neg (by rw [h]; exact Bool.noConfusion)]
      simp [h]
theorem trimB_self (l : List UInt8) (c : UInt8) : Lib.trimB l c = l ↔ l.head? ≠ some c ∧ l.getLast? ≠ some c := by
  unfold Lib.trimB Lib.trimLeftB Lib.trimRightB
  have h1 : ∀ m : List UInt8, m.dropWhile (· == c) = m ↔ m.head? ≠ some c := fun m => by
    rw [dropWhile_self]
    constructor
    · intro h e; have := h c e; simp at this
    · intro h a e
      have : a ≠ c := fun e' => h (e' ▸ e)
      simpa using this
  constructor
  · intro h
    have h2 : ((l.reverse.dropWhile (· == c)).reverse).length ≤ l.length := by
      have := (List.dropWhile_sublist (p := (· == c)) (l := l.reverse)).length_le
      simpa using this
    have h3 := (List.dropWhile_sublist (p := (· == c)) (l := (l.reverse.dropWhile (· == c)).reverse))
    have h4 : (l.reverse.dropWhile (· == c)).reverse = l := by
      have h5 : (l.reverse.dropWhile (· == c)).reverse.length = l.length := by
        have := h3.length_le
        rw [h] at this
        omega
      have h6 : l.reverse.dropWhile (· == c) = l.reverse := (List.dropWhile_sublist (p := (· == c)) (l := l.reverse)).eq_of_length (by simpa using h5)
      rw [h6, List.reverse_reverse]
    rw [h4] at h
    refine ⟨(h1 l).1 h, ?_⟩
    have h6 : l.reverse.dropWhile (· == c) = l.reverse := by rw [← List.reverse_inj, h4, List.reverse_reverse]
    have := (h1 _).1 h6
    simpa using this
  · rintro ⟨ha, hb⟩
    have h6 : l.reverse.dropWhile (· == c) = l.reverse := (h1 _).2 (by simpa using hb)
    rw [h6, List.reverse_reverse]
    exact (h1 l).2 ha
def vis (lo b : Int) : Bool := decide (lo ≤ b) && decide (b ≤ 126)
theorem bt_sp {s : ByteArray} {i : Nat} (hi : i < s.size) : bt s i = 32 ↔ (L s)[i]? = some 32 := by
  have hi' : i < (L s).length := hi
  have hbt : bt s i = ((L s)[i].toNat : Int) := by rw [L_bt, getD_at hi']
  rw [List.getElem?_eq_getElem hi', hbt]
  have : (32 : UInt8).toNat = 32 := rfl
  constructor
  · intro h
    congr 1
    apply UInt8.toNat_inj.1
    omega
  · intro h
    rw [Option.some.inj h]; rfl
def edge (s : ByteArray) : Bool := (decide (s.size = 0)) || (bt s 0 != 32 && bt s (s.size - 1) != 32)
theorem edge_eq (s : ByteArray) : beqS ⟨(Lib.trimB (L s) 32).toArray⟩ s = edge s := by
  rw [Bool.eq_iff_iff, beqS_iff]
  have h1 : (⟨(Lib.trimB (L s) 32).toArray⟩ : ByteArray) = s ↔ Lib.trimB (L s) 32 = L s := by
    constructor
    · intro h
      have := congrArg L h
      rwa [L_mk] at this
    · intro h
      apply L_inj
      rw [L_mk, h]
  rw [h1, trimB_self]
  unfold edge
  by_cases hz : s.size = 0
  · have : L s = [] := List.eq_nil_of_length_eq_zero hz
    rw [this]
    simp [hz]
  · have h2 : (L s).head? = (L s)[0]? := List.head?_eq_getElem?
    have h3 : (L s).getLast? = (L s)[s.size - 1]? := by rw [List.getLast?_eq_getElem?]; rfl
    rw [h2, h3, Bool.or_eq_true, decide_eq_true_eq, Bool.and_eq_true, bne_iff_ne, bne_iff_ne, Ne, Ne, Ne, Ne, bt_sp (by omega), bt_sp (by omega)]
    simp [hz]
def pos (s : ByteArray) : Bool := decide (0 < s.size)
theorem ext_size {s : ByteArray} {a b : Nat} (h : a ≤ b) (hb : b ≤ s.size) : (s.extract a b).size = b - a := by
  rw [ByteArray.size_extract]; omega
theorem fpos_one (s : ByteArray) (a b : Nat) (hab : a ≤ b) (hb : b ≤ s.size) (l : List ByteArray) : (s.extract a b :: l).filter pos = (if a < b then [s.extract a b] else []) ++ l.filter pos := by
  rw [List.filter_cons]
  unfold pos
  rw [ext_size hab hb]
  by_cases c : a < b
  · rw [if_pos c, decide_eq_true (by omega)]; rfl
  · rw [if_neg c, decide_eq_false (by omega)]; rfl
theorem tail_cons (x : List UInt8) (r : List (List UInt8)) : Lib.joinTail [32] (x :: r) = 32 :: (x ++ Lib.joinTail [32] r) := by simp [Lib.joinTail]
theorem e32 : (⟨#[32]⟩ : ByteArray).size = 1 := rfl
theorem L32 : L ⟨#[32]⟩ = [32] := rfl
/-! ### A list, changed from its begin -/
def ms {α : Type} (f : α → α) (W : List α) (i : Nat) : List α := (W.take i).map f ++ W.drop i
section
variable {α : Type} (f : α → α) (W : List α)
end
end Go.Proofs.YtckcichnmiifkaaGreatDoor
end
section
/- Plain laws: texts of an entry. -/
namespace Go.Proofs.YtckcichnmiifkaaGreatDoor
open Go.Gx
set_option linter.unusedVariables false
set_option linter.unusedSimpArgs false

theorem edge_trim (s : ByteArray) (hs : s.size ≤ 1048576) : strings_Trim.F s ⟨#[32]⟩ = some ⟨(Lib.trimB (L s) 32).toArray⟩ := by
  unfold strings_Trim.F xTrim1
  rw [Nat.ble_eq_true_of_le (by omega)]
  rfl
theorem specText_l0 (s : ByteArray) (hs : s.size ≤ 1048576) : ∀ n i : Nat, i + n = s.size → Ev (fun k => spec_l4Text.l0 k s i) (if ((bytesL s).drop i).all (vis 32) = true then .inr s else .inl false)
  | 0, i, h => by
    refine Ev.step (fun k => by rw [spec_l4Text.l0]) ?_
    simp (disch := omega) only [cneg]
    rw [List.drop_eq_nil_of_le (by rw [bytesL_len]; omega)]
    exact Ev.pure _
  | n + 1, i, h => by
    have hl := bytesL_len s
    have hi : i < (bytesL s).length := by omega
    refine Ev.step (fun k => by rw [spec_l4Text.l0]) ?_
    simp (disch := omega) only [cpos, Int.toNat_natCast, bt_bytes s i hi]
    rw [all_bytes hi]
    unfold vis
    by_cases c1 : (bytesL s)[i] < 32
    · simp (disch := omega) only [cpos, dneg, Bool.false_and]; exact Ev.pure _
    · by_cases c2 : (bytesL s)[i] > 126
      · simp (disch := omega) only [cpos, cneg, dneg, Bool.and_false, Bool.false_and]; exact Ev.pure _
      · simp (disch := omega) only [cpos, cneg, dpos, Bool.and_self, Bool.true_and, wrap_in]
        exact specText_l0 s hs n (i + 1) (by omega)
theorem isPrint_l0 (s : ByteArray) (hs : s.size ≤ 1048576) : ∀ n i : Nat, i + n = s.size → Ev (fun k => impl_isPrintable.l0 k s i) (if ((bytesL s).drop i).all (vis 32) = true then .inr s else .inl false)
  | 0, i, h => by
    refine Ev.step (fun k => by rw [impl_isPrintable.l0]) ?_
    simp (disch := omega) only [cneg]
    rw [List.drop_eq_nil_of_le (by rw [bytesL_len]; omega)]
    exact Ev.pure _
  | n + 1, i, h => by
    have hl := bytesL_len s
    have hi : i < (bytesL s).length := by omega
    refine Ev.step (fun k => by rw [impl_isPrintable.l0]) ?_
    simp (disch := omega) only [cpos, Int.toNat_natCast, bt_bytes s i hi]
    rw [all_bytes hi]
    unfold vis
    by_cases c1 : (bytesL s)[i] < 32
    · simp (disch := omega) only [cpos, dneg, Bool.false_and]; exact Ev.pure _
    · by_cases c2 : (bytesL s)[i] > 126
      · simp (disch := omega) only [cpos, cneg, dneg, Bool.and_false, Bool.false_and]; exact Ev.pure _
      · simp (disch := omega) only [cpos, cneg, dpos, Bool.and_self, Bool.true_and, wrap_in]
        exact isPrint_l0 s hs n (i + 1) (by omega)
def textB (s : ByteArray) : Bool := decide (s.size ≤ 40) && ((bytesL s).all (vis 32) && edge s)
theorem specText_ev (s : ByteArray) : Ev (fun k => spec_l4Text.F k s) (textB s) := by
  unfold spec_l4Text.F textB
  by_cases c : (s.size : Int) > 40
  · simp (disch := omega) only [cpos, dneg, Bool.false_and]
    exact Ev.pure _
  · simp (disch := omega) only [cneg, dpos, Bool.true_and]
    have := specText_l0 s (by omega) s.size 0 (by omega)
    rw [List.drop_zero] at this
    cases h : (bytesL s).all (vis 32) with
    | false => rw [h] at this; exact Ev.bind this (Ev.pure _)
    | true =>
      rw [h] at this
      refine Ev.bind (a := .inr s) this ?_
      dsimp only
      have he : beqS s ⟨#[]⟩ = decide (s.size = 0) := by
        rw [← Bool.not_not (b := beqS s ⟨#[]⟩), size_pos]
        by_cases hz : s.size = 0
        · simp [hz]
        · rw [decide_eq_true (by omega : 0 < s.size), decide_eq_false hz]; rfl
      rw [he]
      unfold edge
      by_cases hz : s.size = 0
      · rw [decide_eq_true hz]; exact Ev.pure _
      · rw [decide_eq_false hz]
        simp (disch := omega) only [cond_false, cond_true, cpos, wrap_in]
        rw [show ((s.size : Int) - 1).toNat = s.size - 1 by omega, show (0 : Int).toNat = 0 from rfl, Bool.false_or, Bool.true_and]
        cases (bt s 0 != 32) with
        | true => exact Ev.pure _
        | false => exact Ev.pure _
theorem isText_ev (s : ByteArray) : Ev (fun k => impl_isText.F k s) (textB s) := by
  unfold impl_isText.F textB
  by_cases c : (s.size : Int) ≤ 40
  · simp (disch := omega) only [cpos, dpos, Bool.true_and]
    refine Ev.bind ?_ (Ev.pure _)
    unfold impl_isPrintable.F
    have := isPrint_l0 s (by omega) s.size 0 (by omega)
    rw [List.drop_zero] at this
    cases h : (bytesL s).all (vis 32) with
    | false => rw [h] at this; exact Ev.bind this (Ev.pure _)
    | true =>
      rw [h] at this
      refine Ev.bind (a := .inr s) this ?_
      dsimp only
      refine Ev.bind0 (edge_trim s (by omega)) ?_
      simp only [edge_eq, Bool.true_and]
      exact Ev.pure _
  · simp (disch := omega) only [cneg, dneg, Bool.false_and]
    exact Ev.pure _
end Go.Proofs.YtckcichnmiifkaaGreatDoor
end
section
/- Plain laws: a text split at its spaces. -/
namespace Go.Proofs.YtckcichnmiifkaaGreatDoor
open Go.Gx
set_option linter.unusedVariables false
set_option linter.unusedSimpArgs false

theorem split_ev (s : ByteArray) (hs : s.size ≤ 1048576) : strings_Split.F s ⟨#[32]⟩ = some (words s) := by
  unfold strings_Split.F xSplit
  rw [Nat.ble_eq_true_of_le (by omega)]
  rfl
end Go.Proofs.YtckcichnmiifkaaGreatDoor
end
section
/- Plain laws: a text split at its spaces, the other way. -/
namespace Go.Proofs.YtckcichnmiifkaaGreatDoor
open Go.Gx
set_option linter.unusedVariables false
set_option linter.unusedSimpArgs false

theorem split_l0 (s : ByteArray) (hs : s.size ≤ 1048576) : ∀ n i : Nat, i + n = s.size → ∀ st : Nat, st ≤ i → (∀ j, st ≤ j → j < i → (L s)[j]? ≠ some 32) → ∀ acc : List ByteArray, acc.length ≤ i →
    ∃ acc' st', Ev (fun k => spec_l1Split.l0 k s 32 acc st i) (s, acc', ((st' : Nat) : Int)) ∧ st' ≤ s.size ∧ acc'.length ≤ s.size ∧ acc' ++ [s.extract st' s.size] = acc ++ wordsFrom s st
  | 0, i, h, st, h1, hn, acc, ha => by
    refine ⟨acc, st, Ev.step (fun k => by rw [spec_l1Split.l0]) ?_, by omega, by omega, ?_⟩
    · simp (disch := omega) only [cneg]
      exact Ev.pure _
    · rw [words_end s st fun j hj => ?_]
      by_cases hj2 : j < i
      · exact hn j hj hj2
      · rw [List.getElem?_eq_none (by rw [L_size]; omega)]; exact fun h => by cases h
  | n + 1, i, h, st, h1, hn, acc, ha => by
    have hi : i < (L s).length := by rw [L_size]; omega
    have hbt : bt s i = ((L s)[i].toNat : Int) := by rw [L_bt, getD_at hi]
    by_cases c : bt s i = 32
    · have hb : (L s)[i]? = some 32 := by
        rw [List.getElem?_eq_getElem hi]
        congr 1
        apply UInt8.toNat_inj.1
        have : (32 : UInt8).toNat = 32 := rfl
        omega
      obtain ⟨acc', st', r1, r2, r3, r4⟩ := split_l0 s hs n (i + 1) (by omega) (i + 1) (Nat.le_refl _) (fun j h1 h2 => by omega) (acc ++ [s.extract st i]) (by simp; omega)
      refine ⟨acc', st', Ev.step (fun k => by rw [spec_l1Split.l0]) ?_, r2, r3, ?_⟩
      · have hr : room (acc.length + ([s.extract st i] : List ByteArray).length) .str = true := by
          unfold room
          rw [Nat.ble_eq]
          have : nb .str = 16 := rfl
          rw [this]
          simp; omega
        simp (disch := omega) only [cpos, Int.toNat_natCast, ceq, hr, cond_true, wrap_in]
        exact r1
      · rw [r4, words_hit s st i h1 (by omega) hb hn]; simp
    · obtain ⟨acc', st', r1, r2, r3, r4⟩ := split_l0 s hs n (i + 1) (by omega) st (by omega) (fun j h1 h2 => by
        rcases Nat.lt_or_ge j i with h3 | h3
        · exact hn j h1 h3
        · obtain rfl : j = i := by omega
          rw [List.getElem?_eq_getElem hi]
          intro e
          apply c
          rw [hbt, Option.some.inj e]; rfl) acc (by omega)
      refine ⟨acc', st', Ev.step (fun k => by rw [spec_l1Split.l0]) ?_, r2, r3, r4⟩
      simp (disch := omega) only [cpos, Int.toNat_natCast, cne, wrap_in]
      exact r1
theorem specSplit_ev (s : ByteArray) (hs : s.size ≤ 1048576) : Ev (fun k => spec_l1Split.F k s 32) (words s) := by
  unfold spec_l1Split.F
  obtain ⟨acc', st', r1, r2, r3, r4⟩ := split_l0 s hs s.size 0 (by omega) 0 (Nat.le_refl _) (fun j h1 h2 => by omega) [] (Nat.le_refl _)
  refine Ev.bind r1 ?_
  have hr : room (acc'.length + ([s.extract st' s.size] : List ByteArray).length) .str = true := by
    unfold room
    rw [Nat.ble_eq]
    have : nb .str = 16 := rfl
    rw [this]
    simp; omega
  simp (disch := omega) only [cpos, Int.toNat_natCast, hr, cond_true, r4, words_from, List.nil_append]
  exact Ev.pure _
end Go.Proofs.YtckcichnmiifkaaGreatDoor
end
section
/- Plain laws: lists of texts: size, copy, equality. -/
namespace Go.Proofs.YtckcichnmiifkaaGreatDoor
open Go.Gx
set_option linter.unusedVariables false
set_option linter.unusedSimpArgs false

def totS (xs : List ByteArray) : Nat := (xs.map ByteArray.size).sum
end Go.Proofs.YtckcichnmiifkaaGreatDoor
end
section
/- Plain laws: names, entries, libraries: size, copy, equality. -/
namespace Go.Proofs.YtckcichnmiifkaaGreatDoor
open Go.Gx
set_option linter.unusedVariables false
set_option linter.unusedSimpArgs false

def totN (n : Name) : Nat := n.given.length + totS n.given + n.particle.size + n.family.size + n.suffix.size
def totNs (xs : List Name) : Nat := xs.length + (xs.map totN).sum
def totE (e : Entry) : Nat := e.key.size + totNs e.authors + totNs e.editors + e.title.size + e.container.size + e.publisher.size + e.pages.size + e.cross.size
theorem sum_mem {α : Type} (f : α → Nat) {xs : List α} {x : α} (h : x ∈ xs) : f x ≤ (xs.map f).sum := by
  induction xs with
  | nil => cases h
  | cons b l ih =>
    simp only [List.map_cons, List.sum_cons]
    rcases List.mem_cons.1 h with rfl | h
    · omega
    · have := ih h; omega
def smallN (n : Name) : Prop := totN n ≤ 1048576
def smallE (e : Entry) : Prop := totE e ≤ 1048576
theorem smallNs_at {xs : List Name} (h : totNs xs ≤ 1048576) {n : Name} (hn : n ∈ xs) : smallN n := by
  have := sum_mem totN hn
  unfold totNs at h
  unfold smallN
  omega
theorem smallE_a {e : Entry} (h : smallE e) : totNs e.authors ≤ 1048576 := by unfold smallE totE at h; omega
theorem smallE_e {e : Entry} (h : smallE e) : totNs e.editors ≤ 1048576 := by unfold smallE totE at h; omega
theorem smallNs_len {xs : List Name} (h : totNs xs ≤ 1048576) : xs.length ≤ 1048576 := by unfold totNs at h; omega
/-! ### Copies -/
/-! ### Equality -/
end Go.Proofs.YtckcichnmiifkaaGreatDoor
end
section
/- Plain laws: slices.IndexFunc, slices.DeleteFunc, as they are printed for a function value. -/
namespace Go.Gx
set_option linter.unusedVariables false
set_option linter.unusedSimpArgs false

section
variable {α : Type} {d : α} {p : α → Bool} {q : Nat → α → Option Bool} {xs : List α}
theorem getDat {α : Type} {xs : List α} {i : Nat} (h : i < xs.length) (d : α) : xs.getD i d = xs[i] := by simp [List.getD, List.getElem?_eq_getElem h]
theorem idx_l0 {l0 : Nat → List α → Int → Int → Option (Sum Int Unit)} (H : ∀ k x0 x7 x8, l0 (k + 1) x0 x7 x8 = bif (decide (x8 < x7)) then (bif decide (0 ≤ x8) then (bif decide (x8 < (x0.length : Int)) then ((q k (x0.getD (x8 : Int).toNat d)).bind fun r1 => bif r1 then (some (.inl x8)) else (l0 k x0 x7 (IntKind.wrap .i64 (x8 + 1)))) else none) else none) else (some (.inr ())))
    (hq : ∀ x, x ∈ xs → Ev (fun k => q k x) (p x)) (hl : xs.length ≤ 4611686018427387904) : ∀ n i : Nat, i + n = xs.length → (∀ x ∈ xs.take i, p x = false) →
    ∃ r, Ev (fun k => l0 k xs xs.length i) r ∧ ((r = .inr () ∧ ∀ x ∈ xs, p x = false) ∨ ∃ j : Nat, r = .inl j ∧ j < xs.length ∧ p (xs.getD j d) = true ∧ ∀ x ∈ xs.take j, p x = false)
  | 0, i, h, ht => by
    refine ⟨.inr (), Ev.step (fun k => by rw [H]) ?_, .inl ⟨rfl, by rw [List.take_of_length_le (by omega)] at ht; exact ht⟩⟩
    simp (disch := omega) only [cneg]
    exact Ev.pure _
  | n + 1, i, h, ht => by
    have hi : i < xs.length := by omega
    cases hp : p xs[i] with
    | true =>
      refine ⟨.inl i, Ev.step (fun k => by rw [H]) ?_, .inr ⟨i, rfl, hi, by rw [getDat hi, hp], ht⟩⟩
      simp (disch := omega) only [cpos, Int.toNat_natCast, getDat hi]
      refine Ev.bind (hq _ (List.getElem_mem hi)) ?_
      rw [hp]
      exact Ev.pure _
    | false =>
      obtain ⟨r, h1, h2⟩ := idx_l0 H hq hl n (i + 1) (by omega) (by
        intro x hx
        rw [List.take_add_one, List.getElem?_eq_getElem hi] at hx
        rcases List.mem_append.1 hx with hx | hx
        · exact ht x hx
        · simp only [Option.toList_some, List.mem_singleton] at hx
          rw [hx, hp])
      refine ⟨r, Ev.step (fun k => by rw [H]) ?_, h2⟩
      simp (disch := omega) only [cpos, Int.toNat_natCast, getDat hi]
      refine Ev.bind (hq _ (List.getElem_mem hi)) ?_
      rw [hp]
      simp (disch := omega) only [cond_false, wrap_in]
      exact h1
theorem idx_ev {l0 : Nat → List α → Int → Int → Option (Sum Int Unit)} (H : ∀ k x0 x7 x8, l0 (k + 1) x0 x7 x8 = bif (decide (x8 < x7)) then (bif decide (0 ≤ x8) then (bif decide (x8 < (x0.length : Int)) then ((q k (x0.getD (x8 : Int).toNat d)).bind fun r1 => bif r1 then (some (.inl x8)) else (l0 k x0 x7 (IntKind.wrap .i64 (x8 + 1)))) else none) else none) else (some (.inr ())))
    (hq : ∀ x, x ∈ xs → Ev (fun k => q k x) (p x)) (hl : xs.length ≤ 4611686018427387904) {F : Nat → List α → Option Int} (HF : ∀ k a0, F k a0 = (l0 k a0 (a0.length : Int) 0).bind fun y2 => match y2 with | .inl z3 => some z3 | .inr z3 => some (-1)) :
    ∃ r, Ev (fun k => F k xs) r ∧ ((r = -1 ∧ ∀ x ∈ xs, p x = false) ∨ ∃ j : Nat, r = j ∧ j < xs.length ∧ p (xs.getD j d) = true ∧ ∀ x ∈ xs.take j, p x = false) := by
  obtain ⟨r, h1, h2⟩ := idx_l0 H hq hl xs.length 0 (by omega) (fun x hx => by simp at hx)
  rcases h2 with ⟨rfl, h2⟩ | ⟨j, rfl, h2⟩
  · exact ⟨-1, Ev.congr (Ev.bind h1 (Ev.pure _)) (fun k => HF k xs), .inl ⟨rfl, h2⟩⟩
  · exact ⟨j, Ev.congr (Ev.bind h1 (Ev.pure _)) (fun k => HF k xs), .inr ⟨j, rfl, h2⟩⟩
theorem del_l0 {l0 : Nat → List α → Int → Int → Option (List α × Int)} (H : ∀ k x0 x5 x6, l0 (k + 1) x0 x5 x6 = bif (decide (x6 < (x0.length : Int))) then (bif decide (0 ≤ x6) then (bif decide (x6 < (x0.length : Int)) then ((q k (x0.getD ((x6 : Int).toNat) d)).bind fun r2 => bif (!r2) then (bif decide (0 ≤ x5) then (bif decide (x5 < (x0.length : Int)) then (l0 k (x0.set ((x5 : Int).toNat) (x0.getD ((x6 : Int).toNat) d)) (IntKind.wrap .i64 (x5 + 1)) (IntKind.wrap .i64 (x6 + 1))) else none) else none) else (l0 k x0 x5 (IntKind.wrap .i64 (x6 + 1)))) else none) else none) else (some (x0, x5)))
    (hq : ∀ x, x ∈ xs → Ev (fun k => q k x) (p x)) (hl : xs.length ≤ 4611686018427387904) : ∀ n j : Nat, j + n = xs.length → ∀ (ys : List α) (i : Nat), ys.length = xs.length → i ≤ j → ys.drop j = xs.drop j →
    ∃ zs, ∃ i' : Nat, Ev (fun k => l0 k ys i j) (zs, (i' : Int)) ∧ i' ≤ xs.length ∧ zs.length = xs.length ∧ zs.take i' = ys.take i ++ (xs.drop j).filter fun x => !p x
  | 0, j, h, ys, i, hy, hij, hd => by
    refine ⟨ys, i, Ev.step (fun k => by rw [H]) ?_, by omega, hy, ?_⟩
    · simp (disch := omega) only [cneg]
      exact Ev.pure _
    · rw [List.drop_eq_nil_of_le (by omega), List.filter_nil, List.append_nil]
  | n + 1, j, h, ys, i, hy, hij, hd => by
    have hj : j < xs.length := by omega
    have hj' : j < ys.length := by omega
    have hx : ys[j] = xs[j] := by
      have h0 := congrArg (·[0]?) hd
      simpa [hj, hj'] using h0
    have hd1 : ys.drop (j + 1) = xs.drop (j + 1) := by
      have := congrArg (List.drop 1) hd
      simpa [List.drop_drop] using this
    cases hp : p xs[j] with
    | true =>
      obtain ⟨zs, i', h1, h2, h3, h4⟩ := del_l0 H hq hl n (j + 1) (by omega) ys i hy (by omega) hd1
      refine ⟨zs, i', Ev.step (fun k => by rw [H]) ?_, h2, h3, ?_⟩
      · simp (disch := omega) only [cpos, Int.toNat_natCast, getDat hj', hx]
        refine Ev.bind (hq _ (List.getElem_mem hj)) ?_
        rw [hp]
        simp (disch := omega) only [Bool.not_true, cond_false, wrap_in]
        exact h1
      · rw [h4, List.drop_eq_getElem_cons hj, List.filter_cons_of_neg (by rw [hp]; decide)]
    | false =>
      obtain ⟨zs, i', h1, h2, h3, h4⟩ := del_l0 H hq hl n (j + 1) (by omega) (ys.set i xs[j]) (i + 1) (by simpa using hy) (by omega) (by rw [List.drop_set_of_lt (by omega)]; exact hd1)
      refine ⟨zs, i', Ev.step (fun k => by rw [H]) ?_, h2, h3, ?_⟩
      · simp (disch := omega) only [cpos, Int.toNat_natCast, getDat hj', hx]
        refine Ev.bind (hq _ (List.getElem_mem hj)) ?_
        rw [hp]
        simp (disch := omega) only [Bool.not_false, cond_true, cpos, Int.toNat_natCast, wrap_in]
        exact h1
      · rw [h4, List.drop_eq_getElem_cons hj, List.filter_cons_of_pos (by rw [hp]; decide), List.take_add_one, List.take_set_of_le (Nat.le_refl i)]
        have : (ys.set i xs[j])[i]? = some xs[j] := by rw [List.getElem?_set_self (by omega)]
        rw [this]
        simp
theorem delete_ev {l0 : Nat → List α → Int → Int → Option (List α × Int)} (H : ∀ k x0 x5 x6, l0 (k + 1) x0 x5 x6 = bif (decide (x6 < (x0.length : Int))) then (bif decide (0 ≤ x6) then (bif decide (x6 < (x0.length : Int)) then ((q k (x0.getD ((x6 : Int).toNat) d)).bind fun r2 => bif (!r2) then (bif decide (0 ≤ x5) then (bif decide (x5 < (x0.length : Int)) then (l0 k (x0.set ((x5 : Int).toNat) (x0.getD ((x6 : Int).toNat) d)) (IntKind.wrap .i64 (x5 + 1)) (IntKind.wrap .i64 (x6 + 1))) else none) else none) else (l0 k x0 x5 (IntKind.wrap .i64 (x6 + 1)))) else none) else none) else (some (x0, x5)))
    (hq : ∀ x, x ∈ xs → Ev (fun k => q k x) (p x)) (hl : xs.length ≤ 4611686018427387904) {I F : Nat → List α → Option _} {e : α}
    (hI : ∃ r : Int, Ev (fun k => I k xs) r ∧ ((r = -1 ∧ ∀ x ∈ xs, p x = false) ∨ ∃ j : Nat, r = j ∧ j < xs.length ∧ p (xs.getD j d) = true ∧ ∀ x ∈ xs.take j, p x = false))
    (HF : ∀ k a0, F k a0 = (I k a0).bind fun r1 => bif (r1 == (-1)) then (some a0) else ((l0 k a0 r1 (IntKind.wrap .i64 (r1 + 1))).bind fun y3 => bif decide (0 ≤ y3.2) then (bif decide (y3.2 ≤ (y3.1.length : Int)) then (bif decide (0 ≤ y3.2) then (bif decide (y3.2 ≤ ((y3.1.take ((y3.2 : Int).toNat) ++ List.replicate (y3.1.length - ((y3.2 : Int).toNat)) e).length : Int)) then (some ((y3.1.take ((y3.2 : Int).toNat) ++ List.replicate (y3.1.length - ((y3.2 : Int).toNat)) e).take (y3.2 : Int).toNat)) else none) else none) else none) else none)) :
    Ev (fun k => F k xs) (xs.filter fun x => !p x) := by
  obtain ⟨r, h1, h2⟩ := hI
  refine Ev.congr (?_ : Ev _ _) (fun k => HF k xs)
  refine Ev.bind h1 ?_
  rcases h2 with ⟨rfl, h2⟩ | ⟨j, rfl, hj, hp, h2⟩
  · have : (xs.filter fun x => !p x) = xs := List.filter_eq_self.2 fun x hx => by rw [h2 x hx]; rfl
    rw [this]
    exact Ev.pure _
  · obtain ⟨zs, i', h3, h4, h5, h6⟩ := del_l0 H hq hl (xs.length - (j + 1)) (j + 1) (by omega) xs j rfl (by omega) rfl
    rw [getDat hj] at hp
    have hz : zs.take i' = xs.filter fun x => !p x := by
      rw [h6]
      conv => rhs; rw [← List.take_append_drop j xs, List.filter_append, List.drop_eq_getElem_cons hj, List.filter_cons_of_neg (by rw [hp]; decide)]
      congr 1
      exact (List.filter_eq_self.2 fun x hx => by rw [h2 x hx]; rfl).symm
    simp (disch := omega) only [cne, wrap_in]
    refine Ev.bind h3 ?_
    have e1 : ((zs.take i' ++ List.replicate (zs.length - i') e)).length = zs.length := by simp; omega
    simp (disch := (try simp only [Int.toNat_natCast, e1]); omega) only [cpos, Int.toNat_natCast, e1]
    rw [List.take_append_of_le_length (by simp; omega), List.take_take, Nat.min_self, hz]
    exact Ev.pure _
end
end Go.Gx
end
section
/- Plain laws: keys, names, dates, entries, libraries: are they valid? -/
namespace Go.Proofs.YtckcichnmiifkaaGreatDoor
open Go.Gx
set_option linter.unusedVariables false
set_option linter.unusedSimpArgs false

theorem in_ev (a b c : Int) : spec_l1In.F a b c = some (decide (a ≥ b) && decide (a ≤ c)) := by
  unfold spec_l1In.F
  cases decide (a ≥ b) <;> rfl
theorem inside_ev (a b c : Int) : impl_inside.F a b c = some (decide (a ≥ b) && decide (a ≤ c)) := by
  unfold impl_inside.F
  cases decide (a ≥ b) <;> rfl
theorem and_step {f : Nat → Option Bool} {b c : Bool} (h : b = true → Ev f c) : Ev (fun k => bif (!b) then some false else f k) (b && c) := by
  cases b with
  | false => exact Ev.pure _
  | true => exact h rfl
theorem and_step' {f : Nat → Option Bool} {b c : Bool} (h : b = true → Ev f c) : Ev (fun k => bif b then f k else some false) (b && c) := by
  cases b with
  | false => exact Ev.pure _
  | true => exact h rfl
/-! ### Bytes -/
def lowc (b : Int) : Bool := decide (97 ≤ b) && decide (b ≤ 122)
def upc (b : Int) : Bool := decide (65 ≤ b) && decide (b ≤ 90)
def ltr (b : Int) : Bool := upc b || lowc b
def dig (b : Int) : Bool := decide (48 ≤ b) && decide (b ≤ 57)
theorem sLower (b : Int) : spec_l2Lower.F b = some (lowc b) := by
  unfold spec_l2Lower.F lowc
  simp only [ge_iff_le]
  cases decide (97 ≤ b) <;> rfl
theorem sUpper (b : Int) : spec_l2Upper.F b = some (upc b) := by
  unfold spec_l2Upper.F upc
  simp only [ge_iff_le]
  cases decide (65 ≤ b) <;> rfl
theorem sLetter (b : Int) : spec_l2Letter.F b = some (ltr b) := by
  unfold spec_l2Letter.F ltr
  rw [sUpper, sLower]
  cases upc b <;> rfl
theorem iLower (b : Int) : impl_isLower.F b = some (lowc b) := by
  unfold impl_isLower.F lowc
  simp only [ge_iff_le]
  cases decide (97 ≤ b) <;> rfl
theorem iUpper (b : Int) : impl_isUpper.F b = some (upc b) := by
  unfold impl_isUpper.F upc
  simp only [ge_iff_le]
  cases decide (65 ≤ b) <;> rfl
theorem iLetter (b : Int) : impl_isLetter.F b = some (ltr b) := by
  unfold impl_isLetter.F ltr
  rw [iUpper, iLower]
  cases upc b <;> rfl
theorem iDigit (b : Int) : impl_isDigit.F b = some (dig b) := by
  unfold impl_isDigit.F dig
  simp only [ge_iff_le]
  cases decide (48 ≤ b) <;> rfl
def ins (n : Nat) (lo hi : Int) : Bool := decide ((n : Int) ≥ lo) && decide ((n : Int) ≤ hi)
theorem ins_le {n : Nat} {lo hi : Int} (h : ins n lo hi = true) : lo ≤ n ∧ (n : Int) ≤ hi := by
  unfold ins at h
  simp only [Bool.and_eq_true, decide_eq_true_eq] at h
  exact h

/-! ### Keys -/
def kb (s : ByteArray) (i : Nat) : Bool := lowc (bt s i) || dig (bt s i)
def keyB (s : ByteArray) : Bool := ins s.size 1 10 && (lowc (bt s 0) && (List.range' 0 s.size).all (kb s))
theorem specKey_l0 (s : ByteArray) (hs : s.size ≤ 10) : Ev (fun k => spec_l4Key.l0 k s ((0 : Nat) : Int)) (if (List.range' 0 s.size).all (kb s) = true then .inr () else .inl false) := by
  refine loop_all (f := fun k i => spec_l4Key.l0 k s i) (n := s.size) (fun i hi hp => ?_) (fun i r hi hp ih => ?_) ?_ s.size 0 (by omega)
  · refine Ev.step (fun k => by rw [spec_l4Key.l0]) ?_
    unfold kb at hp
    rw [Bool.or_eq_false_iff] at hp
    simp (disch := omega) only [cpos, Int.toNat_natCast]
    refine Ev.bind0 (sLower _) ?_
    rw [hp.1]
    have h2 := hp.2
    unfold dig at h2
    by_cases c : bt s i < 48
    · simp (disch := omega) only [cpos, Bool.not_false, cond_true]
      exact Ev.pure _
    · have c2 : bt s i > 57 := by
        rw [decide_eq_true (show 48 ≤ bt s i by omega), Bool.true_and, decide_eq_false_iff_not] at h2
        omega
      simp (disch := omega) only [cpos, cneg, Bool.not_false, cond_true]
      exact Ev.pure _
  · refine Ev.step (fun k => by rw [spec_l4Key.l0]) ?_
    simp (disch := omega) only [cpos, Int.toNat_natCast]
    refine Ev.bind0 (sLower _) ?_
    cases hl : lowc (bt s i) with
    | true =>
      simp (disch := omega) only [Bool.not_true, cond_false, wrap_in]
      exact ih
    | false =>
      unfold kb at hp
      rw [hl, Bool.false_or] at hp
      unfold dig at hp
      simp only [Bool.and_eq_true, decide_eq_true_eq] at hp
      simp (disch := omega) only [Bool.not_false, cond_true, cpos, cneg, wrap_in]
      exact ih
  · refine Ev.step (fun k => by rw [spec_l4Key.l0]) ?_
    simp (disch := omega) only [cneg]
    exact Ev.pure _
theorem isKey_l0 (s : ByteArray) (hs : s.size ≤ 10) : Ev (fun k => impl_isKey.l0 k s ((0 : Nat) : Int)) (if (List.range' 0 s.size).all (kb s) = true then .inr () else .inl false) := by
  refine loop_all (f := fun k i => impl_isKey.l0 k s i) (n := s.size) (fun i hi hp => ?_) (fun i r hi hp ih => ?_) ?_ s.size 0 (by omega)
  · refine Ev.step (fun k => by rw [impl_isKey.l0]) ?_
    unfold kb at hp
    rw [Bool.or_eq_false_iff] at hp
    simp (disch := omega) only [cpos, Int.toNat_natCast]
    refine Ev.bind0 (iLower _) ?_
    rw [hp.1]
    simp (disch := omega) only [Bool.not_false, cond_true, cpos]
    refine Ev.bind0 (iDigit _) ?_
    rw [hp.2]
    exact Ev.pure _
  · refine Ev.step (fun k => by rw [impl_isKey.l0]) ?_
    simp (disch := omega) only [cpos, Int.toNat_natCast]
    refine Ev.bind0 (iLower _) ?_
    cases hl : lowc (bt s i) with
    | true =>
      simp (disch := omega) only [Bool.not_true, cond_false, wrap_in]
      exact ih
    | false =>
      unfold kb at hp
      rw [hl, Bool.false_or] at hp
      simp (disch := omega) only [Bool.not_false, cond_true, cpos]
      refine Ev.bind0 (iDigit _) ?_
      rw [hp]
      simp (disch := omega) only [Bool.not_true, cond_false, wrap_in]
      exact ih
  · refine Ev.step (fun k => by rw [impl_isKey.l0]) ?_
    simp (disch := omega) only [cneg]
    exact Ev.pure _
theorem specKey_ev (s : ByteArray) : Ev (fun k => spec_l4Key.F k s) (keyB s) := by
  unfold spec_l4Key.F keyB
  refine Ev.bind0 (in_ev _ _ _) (and_step fun h => ?_)
  obtain ⟨h1, h2⟩ := ins_le h
  simp (disch := omega) only [cpos, show (0 : Int).toNat = 0 from rfl]
  refine Ev.bind0 (sLower _) (and_step fun _ => ?_)
  have := specKey_l0 s (by omega)
  cases ha : (List.range' 0 s.size).all (kb s) with
  | true => rw [ha] at this; exact Ev.bind this (Ev.pure _)
  | false => rw [ha] at this; exact Ev.bind this (Ev.pure _)
theorem isKey_ev (s : ByteArray) : Ev (fun k => impl_isKey.F k s) (keyB s) := by
  unfold impl_isKey.F keyB
  refine Ev.bind0 (inside_ev _ _ _) (and_step fun h => ?_)
  obtain ⟨h1, h2⟩ := ins_le h
  simp (disch := omega) only [cpos, show (0 : Int).toNat = 0 from rfl]
  refine Ev.bind0 (iLower _) (and_step fun _ => ?_)
  have := isKey_l0 s (by omega)
  cases ha : (List.range' 0 s.size).all (kb s) with
  | true => rw [ha] at this; exact Ev.bind this (Ev.pure _)
  | false => rw [ha] at this; exact Ev.bind this (Ev.pure _)

/-! ### Words of names -/
def wp (s : ByteArray) (i : Nat) : Bool := ltr (bt s i) || ((bt s i == 45 || bt s i == 39) && ltr (bt s (i - 1)))
def wordB (s : ByteArray) : Bool := ins s.size 1 12 && (ltr (bt s 0) && (ltr (bt s (s.size - 1)) && (List.range' 1 (s.size - 1)).all (wp s)))
theorem wcase {s : ByteArray} {i : Nat} (h : ltr (bt s i) = false) (h1 : bt s i ≠ 45) (h2 : bt s i ≠ 39) : wp s i = false := by
  unfold wp
  rw [h, show (bt s i == 45) = false by simpa using h1, show (bt s i == 39) = false by simpa using h2]; rfl
theorem wcase' {s : ByteArray} {i : Nat} (h : ltr (bt s i) = false) (h1 : bt s i = 45 ∨ bt s i = 39) : wp s i = ltr (bt s (i - 1)) := by
  unfold wp
  rw [h]
  rcases h1 with h1 | h1 <;> rw [h1] <;> simp
theorem specWord_l0 (s : ByteArray) (hs : s.size ≤ 12) : ∀ m i : Nat, i + m = s.size → 1 ≤ i → Ev (fun k => spec_l2Word.l0 k s i) (if (List.range' i m).all (wp s) = true then .inr () else .inl false)
  | 0, i, h, h1 => by
    refine Ev.step (fun k => by rw [spec_l2Word.l0]) ?_
    simp (disch := omega) only [cneg]
    exact Ev.pure _
  | m + 1, i, h, h1 => by
    have ih := specWord_l0 s hs m (i + 1) (by omega) (by omega)
    have et : ((i : Int) - 1).toNat = i - 1 := by omega
    refine Ev.step (fun k => by rw [spec_l2Word.l0]) ?_
    rw [List.range'_succ, List.all_cons]
    simp (disch := omega) only [cpos, Int.toNat_natCast]
    refine Ev.bind0 (sLetter _) ?_
    cases hl : ltr (bt s i) with
    | true =>
      have : wp s i = true := by unfold wp; rw [hl]; rfl
      rw [this]
      simp (disch := omega) only [Bool.not_true, cond_false, Bool.true_and, wrap_in]
      exact ih
    | false =>
      have fin : (bt s i = 45 ∨ bt s i = 39) → Ev (fun k => (spec_l2Letter.F (bt s (i - 1))).bind fun r5 => bif (!r5) then (some (.inl false)) else (spec_l2Word.l0 k s ((i : Int) + 1))) (if (wp s i && (List.range' (i + 1) m).all (wp s)) = true then .inr () else .inl false) := fun hh => by
        refine Ev.bind0 (sLetter _) ?_
        rw [wcase' hl hh]
        cases ltr (bt s (i - 1)) with
        | true => exact ih
        | false => exact Ev.pure _
      by_cases c1 : bt s i = 45
      · simp (disch := first | exact c1 | omega) only [Bool.not_false, cond_true, cpos, cbeq, wrap_in, et]
        exact fin (.inl c1)
      · by_cases c2 : bt s i = 39
        · simp (disch := first | exact c1 | exact c2 | omega) only [Bool.not_false, cond_true, cpos, cbne, cbeq, wrap_in, et]
          exact fin (.inr c2)
        · rw [wcase hl c1 c2]
          simp (disch := first | exact c1 | exact c2 | omega) only [Bool.not_false, cond_true, cpos, cbne]
          exact Ev.pure _
theorem isWord_l0 (s : ByteArray) (hs : s.size ≤ 12) : ∀ m i : Nat, i + m = s.size → 1 ≤ i → Ev (fun k => impl_isNameWord.l0 k s i) (if (List.range' i m).all (wp s) = true then .inr () else .inl false)
  | 0, i, h, h1 => by
    refine Ev.step (fun k => by rw [impl_isNameWord.l0]) ?_
    simp (disch := omega) only [cneg]
    exact Ev.pure _
  | m + 1, i, h, h1 => by
    have ih := isWord_l0 s hs m (i + 1) (by omega) (by omega)
    have et : ((i : Int) - 1).toNat = i - 1 := by omega
    refine Ev.step (fun k => by rw [impl_isNameWord.l0]) ?_
    rw [List.range'_succ, List.all_cons]
    simp (disch := omega) only [cpos, Int.toNat_natCast]
    refine Ev.bind0 (iLetter _) ?_
    cases hl : ltr (bt s i) with
    | true =>
      have : wp s i = true := by unfold wp; rw [hl]; rfl
      rw [this]
      simp (disch := omega) only [Bool.not_true, cond_false, Bool.true_and, wrap_in]
      exact ih
    | false =>
      have fin : (bt s i = 45 ∨ bt s i = 39) → Ev (fun k => (impl_isLetter.F (bt s (i - 1))).bind fun r5 => bif (!r5) then (some (.inl false)) else (impl_isNameWord.l0 k s ((i : Int) + 1))) (if (wp s i && (List.range' (i + 1) m).all (wp s)) = true then .inr () else .inl false) := fun hh => by
        refine Ev.bind0 (iLetter _) ?_
        rw [wcase' hl hh]
        cases ltr (bt s (i - 1)) with
        | true => exact ih
        | false => exact Ev.pure _
      by_cases c1 : bt s i = 45
      · simp (disch := first | exact c1 | omega) only [Bool.not_false, cond_true, cpos, cbeq, wrap_in, et]
        exact fin (.inl c1)
      · by_cases c2 : bt s i = 39
        · simp (disch := first | exact c1 | exact c2 | omega) only [Bool.not_false, cond_true, cpos, cbne, cbeq, wrap_in, et]
          exact fin (.inr c2)
        · rw [wcase hl c1 c2]
          simp (disch := first | exact c1 | exact c2 | omega) only [Bool.not_false, cond_true, cpos, cbne]
          exact Ev.pure _
theorem specWord_ev (s : ByteArray) : Ev (fun k => spec_l2Word.F k s) (wordB s) := by
  unfold spec_l2Word.F wordB
  refine Ev.bind0 (in_ev _ _ _) (and_step fun h => ?_)
  obtain ⟨h1, h2⟩ := ins_le h
  have et : ((s.size : Int) - 1).toNat = s.size - 1 := by omega
  simp (disch := omega) only [cpos, show (0 : Int).toNat = 0 from rfl, wrap_in, et]
  refine Ev.bind0 (sLetter _) (and_step fun _ => ?_)
  refine Ev.bind0 (sLetter _) (and_step fun _ => ?_)
  have := specWord_l0 s (by omega) (s.size - 1) 1 (by omega) (Nat.le_refl _)
  cases ha : (List.range' 1 (s.size - 1)).all (wp s) with
  | true => rw [ha] at this; exact Ev.bind this (Ev.pure _)
  | false => rw [ha] at this; exact Ev.bind this (Ev.pure _)
theorem isWord_ev (s : ByteArray) : Ev (fun k => impl_isNameWord.F k s) (wordB s) := by
  unfold impl_isNameWord.F wordB
  refine Ev.bind0 (inside_ev _ _ _) (and_step fun h => ?_)
  obtain ⟨h1, h2⟩ := ins_le h
  have et : ((s.size : Int) - 1).toNat = s.size - 1 := by omega
  simp (disch := omega) only [cpos, show (0 : Int).toNat = 0 from rfl, wrap_in, et]
  refine (Ev.bind0 (iLetter _) (and_step (c := ltr (bt s 0) && (List.range' 1 (s.size - 1)).all (wp s)) fun _ => ?_)).eq (Bool.and_left_comm _ _ _)
  refine Ev.bind0 (iLetter _) (and_step fun h0 => ?_)
  have := isWord_l0 s (by omega) (s.size - 1) 1 (by omega) (Nat.le_refl _)
  refine Ev.bind (a := if (List.range' 1 (s.size - 1)).all (wp s) = true then .inr () else .inl false) ?_ ?_
  · refine Ev.step (fun k => by rw [impl_isNameWord.l0]) ?_
    simp (disch := omega) only [cpos, show (0 : Int).toNat = 0 from rfl]
    refine Ev.bind0 (iLetter _) ?_
    rw [h0]
    simp (disch := omega) only [Bool.not_true, cond_false, wrap_in]
    exact this
  · cases (List.range' 1 (s.size - 1)).all (wp s) <;> exact Ev.pure _

/-! ### Particles -/
def lowA (s : ByteArray) : Bool := (List.range' 0 s.size).all fun i => lowc (bt s i)
theorem lowA_word {s : ByteArray} (h : lowA s = true) : wordB s = ins s.size 1 12 := by
  unfold lowA at h
  rw [List.all_eq_true] at h
  have hl : ∀ i, i < s.size → ltr (bt s i) = true := fun i hi => by
    unfold ltr
    rw [h i (by rw [List.mem_range'_1]; omega), Bool.or_true]
  unfold wordB
  cases hi : ins s.size 1 12 with
  | false => rfl
  | true =>
    obtain ⟨h1, h2⟩ := ins_le hi
    rw [hl 0 (by omega), hl (s.size - 1) (by omega)]
    have : (List.range' 1 (s.size - 1)).all (wp s) = true := by
      rw [List.all_eq_true]
      intro i hi
      rw [List.mem_range'_1] at hi
      unfold wp
      rw [hl i (by omega)]; rfl
    rw [this]; rfl
def pw (s : ByteArray) : Bool := ins s.size 1 12 && lowA s
theorem pw_eq (s : ByteArray) : (wordB s && lowA s) = pw s := by
  unfold pw
  cases h : lowA s with
  | false => rw [Bool.and_false, Bool.and_false]
  | true => rw [lowA_word h]
def particleB (s : ByteArray) : Bool := decide (s.size = 0) || ((words s).all pw && decide ((words s).length ≤ 2))
theorem empty_eq (s : ByteArray) : beqS s ⟨#[]⟩ = decide (s.size = 0) := by
  rw [← Bool.not_not (b := beqS s ⟨#[]⟩), size_pos]
  by_cases hz : s.size = 0
  · simp [hz]
  · rw [decide_eq_true (by omega : 0 < s.size), decide_eq_false hz]; rfl
theorem specPart_l2 (W : List ByteArray) (i : Nat) (hi : i < W.length) (hs : W[i].size ≤ 1048576) : Ev (fun k => spec_l2Particle.l2 k W i ((0 : Nat) : Int)) (if lowA W[i] = true then .inr (W, (i : Int)) else .inl false) := by
  refine loop_all (f := fun k j => spec_l2Particle.l2 k W i j) (n := W[i].size) (p := fun j => lowc (bt W[i] j)) (fun j hj hp => ?_) (fun j r hj hp ih => ?_) ?_ W[i].size 0 (by omega)
  · refine Ev.step (fun k => by rw [spec_l2Particle.l2]) ?_
    simp (disch := omega) only [cpos, Int.toNat_natCast, getD_at hi]
    refine Ev.bind0 (sLower _) ?_
    rw [hp]
    exact Ev.pure _
  · refine Ev.step (fun k => by rw [spec_l2Particle.l2]) ?_
    simp (disch := omega) only [cpos, Int.toNat_natCast, getD_at hi]
    refine Ev.bind0 (sLower _) ?_
    rw [hp]
    simp (disch := omega) only [Bool.not_true, cond_false, wrap_in]
    exact ih
  · refine Ev.step (fun k => by rw [spec_l2Particle.l2]) ?_
    simp (disch := omega) only [cpos, cneg, Int.toNat_natCast, getD_at hi]
    exact Ev.pure _
theorem isPart_l2 (W : List ByteArray) (w : ByteArray) (n i : Int) (hs : w.size ≤ 1048576) : Ev (fun k => impl_isParticle.l2 k W w ((0 : Nat) : Int) n i) (if lowA w = true then .inr (W, n, i) else .inl false) := by
  refine loop_all (f := fun k j => impl_isParticle.l2 k W w j n i) (n := w.size) (p := fun j => lowc (bt w j)) (fun j hj hp => ?_) (fun j r hj hp ih => ?_) ?_ w.size 0 (by omega)
  · refine Ev.step (fun k => by rw [impl_isParticle.l2]) ?_
    simp (disch := omega) only [cpos, Int.toNat_natCast]
    refine Ev.bind0 (iLower _) ?_
    rw [hp]
    exact Ev.pure _
  · refine Ev.step (fun k => by rw [impl_isParticle.l2]) ?_
    simp (disch := omega) only [cpos, Int.toNat_natCast]
    refine Ev.bind0 (iLower _) ?_
    rw [hp]
    simp (disch := omega) only [Bool.not_true, cond_false, wrap_in]
    exact ih
  · refine Ev.step (fun k => by rw [impl_isParticle.l2]) ?_
    simp (disch := omega) only [cneg]
    exact Ev.pure _
theorem specPart_l0 (W : List ByteArray) (hl : W.length ≤ 1048577) (hW : ∀ x ∈ W, x.size ≤ 1048576) : Ev (fun k => spec_l2Particle.l0 k W ((0 : Nat) : Int)) (if (List.range' 0 W.length).all (fun i => pw (W.getD i ⟨#[]⟩)) = true then .inr W else .inl false) := by
  refine loop_all (f := fun k j => spec_l2Particle.l0 k W j) (n := W.length) (p := fun i => pw (W.getD i ⟨#[]⟩)) (fun j hj hp => ?_) (fun j r hj hp ih => ?_) ?_ W.length 0 (by omega)
  · rw [getD_at hj, ← pw_eq] at hp
    refine Ev.step (fun k => by rw [spec_l2Particle.l0]) ?_
    simp (disch := omega) only [cpos, Int.toNat_natCast, getD_at hj]
    refine Ev.bind (specWord_ev _) ?_
    cases hw : wordB W[j] with
    | false => exact Ev.pure _
    | true =>
      rw [hw, Bool.true_and] at hp
      have := specPart_l2 W j hj (hW _ (List.getElem_mem hj))
      rw [hp] at this
      exact Ev.bind this (Ev.pure _)
  · rw [getD_at hj, ← pw_eq, Bool.and_eq_true] at hp
    refine Ev.step (fun k => by rw [spec_l2Particle.l0]) ?_
    simp (disch := omega) only [cpos, Int.toNat_natCast, getD_at hj]
    refine Ev.bind (specWord_ev _) ?_
    rw [hp.1]
    have := specPart_l2 W j hj (hW _ (List.getElem_mem hj))
    rw [hp.2] at this
    refine Ev.bind (a := .inr (W, (j : Int))) this ?_
    simp (disch := omega) only [wrap_in]
    exact ih
  · refine Ev.step (fun k => by rw [spec_l2Particle.l0]) ?_
    simp (disch := omega) only [cneg]
    exact Ev.pure _
theorem isPart_l0 (W : List ByteArray) (hl : W.length ≤ 1048577) (hW : ∀ x ∈ W, x.size ≤ 1048576) : Ev (fun k => impl_isParticle.l0 k W W.length ((0 : Nat) : Int)) (if (List.range' 0 W.length).all (fun i => pw (W.getD i ⟨#[]⟩)) = true then .inr W else .inl false) := by
  refine loop_all (f := fun k j => impl_isParticle.l0 k W W.length j) (n := W.length) (p := fun i => pw (W.getD i ⟨#[]⟩)) (fun j hj hp => ?_) (fun j r hj hp ih => ?_) ?_ W.length 0 (by omega)
  · rw [getD_at hj] at hp
    unfold pw at hp
    refine Ev.step (fun k => by rw [impl_isParticle.l0]) ?_
    simp (disch := omega) only [cpos, Int.toNat_natCast, getD_at hj]
    refine Ev.bind0 (inside_ev _ _ _) ?_
    cases hw : ins W[j].size 1 12 with
    | false =>
      unfold ins at hw
      rw [hw]
      exact Ev.pure _
    | true =>
      rw [hw, Bool.true_and] at hp
      unfold ins at hw
      rw [hw]
      have := isPart_l2 W W[j] W.length j (hW _ (List.getElem_mem hj))
      rw [hp] at this
      exact Ev.bind this (Ev.pure _)
  · rw [getD_at hj] at hp
    unfold pw at hp
    rw [Bool.and_eq_true] at hp
    obtain ⟨hp1, hp2⟩ := hp
    unfold ins at hp1
    refine Ev.step (fun k => by rw [impl_isParticle.l0]) ?_
    simp (disch := omega) only [cpos, Int.toNat_natCast, getD_at hj]
    refine Ev.bind0 (inside_ev _ _ _) ?_
    rw [hp1]
    have := isPart_l2 W W[j] W.length j (hW _ (List.getElem_mem hj))
    rw [hp2] at this
    refine Ev.bind (a := .inr (W, (W.length : Int), (j : Int))) this ?_
    simp (disch := omega) only [wrap_in]
    exact ih
  · refine Ev.step (fun k => by rw [impl_isParticle.l0]) ?_
    simp (disch := omega) only [cneg]
    exact Ev.pure _
theorem specPart_ev (s : ByteArray) (hs : s.size ≤ 1048576) : Ev (fun k => spec_l2Particle.F k s) (particleB s) := by
  unfold spec_l2Particle.F particleB
  rw [empty_eq]
  cases decide (s.size = 0) with
  | true => exact Ev.pure _
  | false =>
    refine Ev.bind (specSplit_ev s hs) ?_
    have := specPart_l0 (words s) (by have := (words_len s).2; omega) (fun x hx => by have := words_small _ _ x hx; omega)
    rw [range_all (words s) ⟨#[]⟩ pw] at this
    rw [Bool.false_or]
    cases ha : (words s).all pw with
    | true =>
      rw [ha] at this
      refine Ev.bind this ((Ev.pure _).eq ?_)
      rw [Bool.true_and]; exact decide_eq_decide.2 (by omega)
    | false => rw [ha] at this; exact Ev.bind this (Ev.pure _)
theorem isPart_ev (s : ByteArray) (hs : s.size ≤ 1048576) : Ev (fun k => impl_isParticle.F k s) (particleB s) := by
  unfold impl_isParticle.F particleB
  rw [empty_eq]
  cases decide (s.size = 0) with
  | true => exact Ev.pure _
  | false =>
    refine Ev.bind0 (split_ev s hs) ?_
    have := isPart_l0 (words s) (by have := (words_len s).2; omega) (fun x hx => by have := words_small _ _ x hx; omega)
    rw [range_all (words s) ⟨#[]⟩ pw] at this
    rw [Bool.false_or]
    cases ha : (words s).all pw with
    | true =>
      rw [ha] at this
      refine Ev.bind this ((Ev.pure _).eq ?_)
      rw [Bool.true_and]; exact decide_eq_decide.2 (by omega)
    | false => rw [ha] at this; exact Ev.bind this (Ev.pure _)

/-! ### Names -/
def gw (s : ByteArray) : Bool := wordB s && upc (bt s 0)
theorem word_size {s : ByteArray} (h : wordB s = true) : 1 ≤ s.size := by
  unfold wordB at h
  rw [Bool.and_eq_true] at h
  have := (ins_le h.1).1
  omega
theorem isGreat_ev (s : ByteArray) : Ev (fun k => impl_isGreatWord.F k s) (gw s) := by
  unfold impl_isGreatWord.F gw
  refine Ev.bind (isWord_ev s) (and_step' fun h => ?_)
  have := word_size h
  simp (disch := omega) only [cpos, show (0 : Int).toNat = 0 from rfl]
  exact Ev.bind0 (iUpper _) (Ev.pure _)
def suffB (s : ByteArray) : Bool := decide (s.size = 0) || wordB s
def nameB (n : Name) : Bool := n.given.all gw && (decide (n.given.length ≤ 3) && (particleB n.particle && (gw n.family && suffB n.suffix)))
theorem specGood_l0 (n : Name) (hn : n.given.length ≤ 1048576) : Ev (fun k => spec_l2Good.l0 k n ((0 : Nat) : Int)) (if (List.range' 0 n.given.length).all (fun i => gw (n.given.getD i ⟨#[]⟩)) = true then .inr n else .inl false) := by
  refine loop_all (f := fun k j => spec_l2Good.l0 k n j) (n := n.given.length) (p := fun i => gw (n.given.getD i ⟨#[]⟩)) (fun j hj hp => ?_) (fun j r hj hp ih => ?_) ?_ n.given.length 0 (by omega)
  · rw [getD_at hj] at hp
    unfold gw at hp
    refine Ev.step (fun k => by rw [spec_l2Good.l0]) ?_
    simp (disch := omega) only [cpos, Int.toNat_natCast, getD_at hj]
    refine Ev.bind (specWord_ev _) ?_
    cases hw : wordB n.given[j] with
    | false => exact Ev.pure _
    | true =>
      rw [hw, Bool.true_and] at hp
      have := word_size hw
      simp (disch := omega) only [cpos, show (0 : Int).toNat = 0 from rfl, Bool.not_true, cond_false]
      refine Ev.bind0 (sUpper _) ?_
      rw [hp]
      exact Ev.pure _
  · rw [getD_at hj] at hp
    unfold gw at hp
    rw [Bool.and_eq_true] at hp
    have := word_size hp.1
    refine Ev.step (fun k => by rw [spec_l2Good.l0]) ?_
    simp (disch := omega) only [cpos, Int.toNat_natCast, getD_at hj]
    refine Ev.bind (specWord_ev _) ?_
    rw [hp.1]
    simp (disch := omega) only [cpos, show (0 : Int).toNat = 0 from rfl, Bool.not_true, cond_false]
    refine Ev.bind0 (sUpper _) ?_
    rw [hp.2]
    simp (disch := omega) only [Bool.not_true, cond_false, wrap_in]
    exact ih
  · refine Ev.step (fun k => by rw [spec_l2Good.l0]) ?_
    simp (disch := omega) only [cneg]
    exact Ev.pure _
theorem specName_ev (n : Name) (hs : smallN n) : Ev (fun k => spec_l2Good.F k n) (nameB n) := by
  have hg : n.given.length ≤ 1048576 := by unfold smallN totN at hs; omega
  have hp : n.particle.size ≤ 1048576 := by unfold smallN totN at hs; omega
  unfold spec_l2Good.F nameB
  have := specGood_l0 n hg
  rw [range_all n.given ⟨#[]⟩ gw] at this
  cases ha : n.given.all gw with
  | false => rw [ha] at this; exact Ev.bind this (Ev.pure _)
  | true =>
    rw [ha] at this
    refine Ev.bind (a := .inr n) this ?_
    dsimp only
    rw [Bool.true_and, show decide (n.given.length ≤ 3) = decide ((n.given.length : Int) ≤ 3) from decide_eq_decide.2 (by omega)]
    refine and_step' fun _ => ?_
    refine Ev.bind (specPart_ev _ hp) (and_step' fun _ => ?_)
    unfold gw
    rw [Bool.and_assoc]
    refine Ev.bind (specWord_ev _) (and_step' fun h => ?_)
    have := word_size h
    simp (disch := omega) only [cpos, show (0 : Int).toNat = 0 from rfl]
    refine Ev.bind0 (sUpper _) (and_step' fun _ => ?_)
    unfold suffB
    rw [empty_eq]
    cases decide (n.suffix.size = 0) with
    | true => exact Ev.pure _
    | false => exact Ev.bind (specWord_ev _) (Ev.pure _)
theorem isName_ev (n : Name) (hs : smallN n) : Ev (fun k => impl_IsValidName.F k n) (nameB n) := by
  have hg : n.given.length ≤ 1048576 := by unfold smallN totN at hs; omega
  have hp : n.particle.size ≤ 1048576 := by unfold smallN totN at hs; omega
  unfold impl_IsValidName.F nameB
  by_cases c : n.given.length ≤ 3
  · simp (disch := omega) only [cneg, dpos, Bool.true_and]
    have hq : ∀ x, x ∈ n.given → Ev (fun k => impl_IsValidName_1.F k x) (!gw x) := fun x _ => by
      unfold impl_IsValidName_1.F
      exact Ev.bind (isGreat_ev x) (Ev.pure _)
    obtain ⟨r, h1, h2⟩ := idx_ev (d := (⟨#[]⟩ : ByteArray)) (p := fun x => !gw x) (q := impl_IsValidName_1.F) (xs := n.given) (l0 := slices_IndexFunc_string_f172.l0) (fun k x0 x7 x8 => by rw [slices_IndexFunc_string_f172.l0]) hq (by omega) (F := slices_IndexFunc_string_f172.F) (fun k a0 => rfl)
    refine Ev.bind (a := !n.given.all gw) ?_ ?_
    · unfold slices_ContainsFunc_string_f172.F
      refine Ev.bind h1 ((Ev.pure _).eq ?_)
      rcases h2 with ⟨rfl, h2⟩ | ⟨j, rfl, hj, hp, _⟩
      · have : n.given.all gw = true := List.all_eq_true.2 fun x hx => by have := h2 x hx; simpa using this
        rw [this]; rfl
      · have : n.given.all gw = false := by
          rw [List.all_eq_false]
          refine ⟨n.given[j], List.getElem_mem hj, ?_⟩
          rw [getD_at hj] at hp
          simpa using hp
        rw [this, decide_eq_true (by omega)]; rfl
    · cases n.given.all gw with
      | false => exact Ev.pure _
      | true =>
        rw [Bool.true_and]
        refine Ev.bind (isPart_ev _ hp) (and_step' fun _ => ?_)
        refine Ev.bind (isGreat_ev _) (and_step' fun _ => ?_)
        unfold suffB
        rw [empty_eq]
        cases decide (n.suffix.size = 0) with
        | true => exact Ev.pure _
        | false => exact Ev.bind (isWord_ev _) (Ev.pure _)
  · simp (disch := omega) only [cpos, dneg, Bool.false_and, Bool.and_false]
    exact Ev.pure _
def namesB (l : List Name) : Bool := l.all nameB && decide (l.length ≤ 4)
theorem specList_l0 (l : List Name) (hl : l.length ≤ 1048576) (hs : ∀ n ∈ l, smallN n) : ∀ m i : Nat, i + m = l.length → ∃ r, Ev (fun k => spec_l2List.l0 k l i) r ∧ (r = .inl false ∨ r = .inr l) ∧ (l.length ≤ 4 → r = if (l.drop i).all nameB = true then .inr l else .inl false)
  | 0, i, h => by
    refine ⟨.inr l, Ev.step (fun k => by rw [spec_l2List.l0]) ?_, .inr rfl, fun _ => by rw [List.drop_eq_nil_of_le (by omega)]; rfl⟩
    simp (disch := omega) only [cneg]
    exact Ev.pure _
  | m + 1, i, h => by
    have hi : i < l.length := by omega
    by_cases c4 : (i : Int) ≤ 4
    · cases hn : nameB l[i] with
      | false =>
        refine ⟨.inl false, Ev.step (fun k => by rw [spec_l2List.l0]) ?_, .inl rfl, fun _ => by rw [List.drop_eq_getElem_cons hi, List.all_cons, hn]; rfl⟩
        simp (disch := omega) only [cpos, Int.toNat_natCast, getD_at hi]
        refine Ev.bind (specName_ev _ (hs _ (List.getElem_mem hi))) ?_
        rw [hn]
        exact Ev.pure _
      | true =>
        obtain ⟨r, h1, h2, h3⟩ := specList_l0 l hl hs m (i + 1) (by omega)
        refine ⟨r, Ev.step (fun k => by rw [spec_l2List.l0]) ?_, h2, fun h4 => by rw [h3 h4, List.drop_eq_getElem_cons hi, List.all_cons, hn, Bool.true_and]⟩
        simp (disch := omega) only [cpos, Int.toNat_natCast, getD_at hi]
        refine Ev.bind (specName_ev _ (hs _ (List.getElem_mem hi))) ?_
        rw [hn]
        simp (disch := omega) only [Bool.not_true, cond_false, wrap_in]
        exact h1
    · refine ⟨.inr l, Ev.step (fun k => by rw [spec_l2List.l0]) ?_, .inr rfl, fun h4 => by omega⟩
      simp (disch := omega) only [cpos, cneg]
      exact Ev.pure _
theorem specNames_ev (l : List Name) (hl : totNs l ≤ 1048576) : Ev (fun k => spec_l2List.F k l) (namesB l) := by
  unfold spec_l2List.F namesB
  obtain ⟨r, h1, h2, h3⟩ := specList_l0 l (smallNs_len hl) (fun n hn => smallNs_at hl hn) l.length 0 (by omega)
  rw [List.drop_zero] at h3
  have e : decide (l.length ≤ 4) = decide ((l.length : Int) ≤ 4) := decide_eq_decide.2 (by omega)
  rw [e]
  by_cases c : l.length ≤ 4
  · rw [h3 c] at h1
    cases ha : l.all nameB with
    | true => rw [ha] at h1; exact Ev.bind h1 (Ev.pure _)
    | false => rw [ha] at h1; exact Ev.bind h1 (Ev.pure _)
  · rw [decide_eq_false (show ¬ (l.length : Int) ≤ 4 by omega), Bool.and_false]
    rcases h2 with rfl | rfl
    · exact Ev.bind h1 (Ev.pure _)
    · exact Ev.bind h1 ((Ev.pure _).eq (decide_eq_false (by omega)))
theorem areNames_ev (l : List Name) (hl : totNs l ≤ 1048576) : Ev (fun k => impl_areNames.F k l) (namesB l) := by
  have hlen := smallNs_len hl
  unfold impl_areNames.F namesB
  by_cases c : l.length ≤ 4
  · simp (disch := omega) only [cpos, dpos, Bool.and_true]
    have hq : ∀ x, x ∈ l → Ev (fun k => impl_areNames_1.F k x) (!nameB x) := fun x hx => by
      unfold impl_areNames_1.F
      exact Ev.bind (isName_ev x (smallNs_at hl hx)) (Ev.pure _)
    obtain ⟨r, h1, h2⟩ := idx_ev (d := (dflt .name : Name)) (p := fun x => !nameB x) (q := impl_areNames_1.F) (xs := l) (l0 := slices_IndexFunc_Name_f134.l0) (fun k x0 x7 x8 => by rw [slices_IndexFunc_Name_f134.l0]) hq (by omega) (F := slices_IndexFunc_Name_f134.F) (fun k a0 => rfl)
    refine Ev.bind (a := !l.all nameB) ?_ ?_
    · unfold slices_ContainsFunc_Name_f134.F
      refine Ev.bind h1 ((Ev.pure _).eq ?_)
      rcases h2 with ⟨rfl, h2⟩ | ⟨j, rfl, hj, hp, _⟩
      · have : l.all nameB = true := List.all_eq_true.2 fun x hx => by have := h2 x hx; simpa using this
        rw [this]; rfl
      · have : l.all nameB = false := by
          rw [List.all_eq_false]
          refine ⟨l[j], List.getElem_mem hj, ?_⟩
          rw [getD_at hj] at hp
          simpa using hp
        rw [this, decide_eq_true (by omega)]; rfl
    · rw [Bool.not_not]; exact Ev.pure _
  · simp (disch := omega) only [cneg, dneg, Bool.and_false]
    exact Ev.pure _

/-! ### Dates -/
theorem days_eq (y m : Int) (hy : 0 ≤ y) : ∃ r, spec_l3Days.F y m = some r ∧ impl_daysInMonth.F y m = some r := by
  have e1 : Int.tmod y 4 = y % 4 := Int.tmod_eq_emod_of_nonneg hy
  have e2 : Int.tmod y 100 = y % 100 := Int.tmod_eq_emod_of_nonneg hy
  have e3 : Int.tmod y 400 = y % 400 := Int.tmod_eq_emod_of_nonneg hy
  have z1 : ((4 : Nat) == 0) = false := rfl
  have z2 : ((100 : Nat) == 0) = false := rfl
  have z3 : ((400 : Nat) == 0) = false := rfl
  unfold spec_l3Days.F impl_daysInMonth.F
  rw [e1, e2, e3]
  by_cases c2 : m = 2
  · by_cases d1 : y % 4 = 0
    · by_cases d2 : y % 100 = 0
      · by_cases d3 : y % 400 = 0
        · exact ⟨29, by simp (disch := first | assumption | omega) only [ceq, cbeq, z1, z2, z3, cond_false], by simp (disch := first | assumption | omega) only [ceq, cbeq, z1, z2, z3, cond_false]⟩
        · exact ⟨28, by simp (disch := first | assumption | omega) only [ceq, cne, cbeq, z1, z2, z3, cond_false], by simp (disch := first | assumption | omega) only [ceq, cne, cbeq, z1, z2, z3, cond_false]⟩
      · exact ⟨29, by simp (disch := first | assumption | omega) only [ceq, cbne, z1, z2, z3, cond_false], by simp (disch := first | assumption | omega) only [ceq, cbne, z1, z2, z3, cond_false]⟩
    · have d3 : y % 400 ≠ 0 := by omega
      exact ⟨28, by simp (disch := first | assumption | omega) only [ceq, cne, z1, z2, z3, cond_false], by simp (disch := first | assumption | omega) only [ceq, cne, z1, z2, z3, cond_false]⟩
  · by_cases a : m = 4
    · exact ⟨30, by simp (disch := first | assumption | omega) only [ceq, cne], by simp (disch := first | assumption | omega) only [ceq, cne]⟩
    · by_cases b : m = 6
      · exact ⟨30, by simp (disch := first | assumption | omega) only [ceq, cne], by simp (disch := first | assumption | omega) only [ceq, cne]⟩
      · by_cases c : m = 9
        · exact ⟨30, by simp (disch := first | assumption | omega) only [ceq, cne], by simp (disch := first | assumption | omega) only [ceq, cne]⟩
        · by_cases d : m = 11
          · exact ⟨30, by simp (disch := first | assumption | omega) only [ceq, cne], by simp (disch := first | assumption | omega) only [ceq, cne]⟩
          · exact ⟨31, by simp (disch := first | assumption | omega) only [cne], by simp (disch := first | assumption | omega) only [cne]⟩
theorem date_eq2 (d : Date) : ∃ b, spec_l3Good.F d = some b ∧ impl_IsValidDate.F d = some b := by
  unfold spec_l3Good.F impl_IsValidDate.F
  cases (d.y == 0 && (d.m == 0 && (d.d == 0 && d.c == false))) with
  | true => exact ⟨true, rfl, rfl⟩
  | false =>
    rw [in_ev, inside_ev]
    simp only [Option.bind_some, cond_false]
    cases h1 : (decide (d.y ≥ 1) && decide (d.y ≤ 2999)) with
    | false => exact ⟨false, rfl, rfl⟩
    | true =>
      have hy : 0 ≤ d.y := by
        simp only [Bool.and_eq_true, decide_eq_true_eq] at h1; omega
      rw [in_ev, inside_ev]
      simp only [Option.bind_some, Bool.not_true, cond_false]
      cases h2 : (decide (d.m ≥ 0) && decide (d.m ≤ 12)) with
      | false => exact ⟨false, rfl, rfl⟩
      | true =>
        obtain ⟨r, r1, r2⟩ := days_eq d.y d.m hy
        rw [r1, r2]
        simp only [Option.bind_some, Bool.not_true, cond_false, in_ev, inside_ev]
        cases d.c with
        | true =>
          by_cases c : d.m = 0
          · exact ⟨d.d == 0, by simp (disch := first | assumption | omega) only [cond_true, ceq], by simp (disch := first | assumption | omega) only [cond_true, ceq, cbeq]⟩
          · exact ⟨false, by simp (disch := first | assumption | omega) only [cond_true, cne], by simp (disch := first | assumption | omega) only [cond_true, cbne]⟩
        | false => exact ⟨bif d.m == 0 then (d.d == 0) else (decide (d.d ≥ 0) && decide (d.d ≤ r)), by cases (d.m == 0) <;> rfl, by cases (d.m == 0) <;> rfl⟩
open Classical in
noncomputable def dateB (d : Date) : Bool := (date_eq2 d).choose
theorem specDate_ev (d : Date) : spec_l3Good.F d = some (dateB d) := (date_eq2 d).choose_spec.1
theorem isDate_ev (d : Date) : impl_IsValidDate.F d = some (dateB d) := (date_eq2 d).choose_spec.2

/-! ### Entries -/
def insI (n lo hi : Int) : Bool := decide (n ≥ lo) && decide (n ≤ hi)
def crossB (e : Entry) : Bool := decide (e.cross.size = 0) || (keyB e.cross && !beqS e.cross e.key)
noncomputable def entryB (e : Entry) : Bool := keyB e.key && (insI e.kind 1 4 && (namesB e.authors && (namesB e.editors && (textB e.title && (textB e.container && (textB e.publisher && (textB e.pages && (dateB e.date && (insI e.volume 0 9999 && crossB e)))))))))
theorem specEntry_ev (e : Entry) (hs : smallE e) : Ev (fun k => spec_l4Entry.F k e) (entryB e) := by
  unfold spec_l4Entry.F entryB
  refine Ev.bind (specKey_ev _) (and_step fun _ => ?_)
  refine Ev.bind0 (in_ev _ _ _) (and_step fun _ => ?_)
  refine Ev.bind (specNames_ev _ (smallE_a hs)) (and_step fun _ => ?_)
  refine Ev.bind (specNames_ev _ (smallE_e hs)) (and_step fun _ => ?_)
  refine Ev.bind (specText_ev _) (and_step fun _ => ?_)
  refine Ev.bind (specText_ev _) (and_step fun _ => ?_)
  refine Ev.bind (specText_ev _) (and_step fun _ => ?_)
  refine Ev.bind (specText_ev _) (and_step fun _ => ?_)
  refine Ev.bind0 (specDate_ev _) (and_step' fun _ => ?_)
  refine Ev.bind0 (in_ev _ _ _) (and_step' fun _ => ?_)
  unfold crossB
  rw [empty_eq]
  cases decide (e.cross.size = 0) with
  | true => exact Ev.pure _
  | false =>
    refine (Ev.bind (specKey_ev _) (and_step' fun _ => ?_)).eq (Bool.false_or _).symm
    exact Ev.pure _
theorem isEntry_ev (e : Entry) (hs : smallE e) : Ev (fun k => impl_IsValidEntry.F k e) (entryB e) := by
  have key : Ev (fun k => impl_IsValidEntry.F k e) (keyB e.key && (insI e.kind 1 4 && (namesB e.authors && (namesB e.editors && (dateB e.date && (insI e.volume 0 9999 && (textB e.title && (textB e.container && (textB e.publisher && (textB e.pages && crossB e)))))))))) := by
    unfold impl_IsValidEntry.F
    refine Ev.bind (isKey_ev _) (and_step fun _ => ?_)
    refine Ev.bind0 (a := insI e.kind 1 4) ?_ (and_step fun _ => ?_)
    · unfold impl_isKind.F; rw [inside_ev]; rfl
    refine Ev.bind (areNames_ev _ (smallE_a hs)) (and_step fun _ => ?_)
    refine Ev.bind (areNames_ev _ (smallE_e hs)) (and_step fun _ => ?_)
    refine Ev.bind0 (isDate_ev _) (and_step fun _ => ?_)
    refine Ev.bind0 (inside_ev _ _ _) (and_step fun _ => ?_)
    refine Ev.bind (isText_ev _) (and_step' fun _ => ?_)
    refine Ev.bind (isText_ev _) (and_step' fun _ => ?_)
    refine Ev.bind (isText_ev _) (and_step' fun _ => ?_)
    refine Ev.bind (isText_ev _) (and_step' fun _ => ?_)
    unfold crossB
    rw [empty_eq]
    cases decide (e.cross.size = 0) with
    | true => exact Ev.pure _
    | false =>
      refine (Ev.bind (isKey_ev _) (and_step' fun _ => ?_)).eq (Bool.false_or _).symm
      exact Ev.pure _
  refine key.eq ?_
  unfold entryB
  ac_rfl

/-! ### Libraries -/
end Go.Proofs.YtckcichnmiifkaaGreatDoor
end
section
/- Plain laws: lower case. -/
namespace Go.Proofs.YtckcichnmiifkaaGreatDoor
open Go.Gx
set_option linter.unusedVariables false
set_option linter.unusedSimpArgs false

theorem L_strL (ys : List Int) : L (strL ys) = ys.map fun n => UInt8.ofNat n.toNat := L_mk _
theorem strL_size (ys : List Int) : (strL ys).size = ys.length := by
  rw [← L_size, L_strL, List.length_map]
def ltrI (b : Int) : Bool := (decide (65 ≤ b) && decide (b ≤ 90)) || (decide (97 ≤ b) && decide (b ≤ 122))
theorem specLetter_ev (b : Int) : spec_l6Letter.F b = some (ltrI b) := by
  unfold spec_l6Letter.F ltrI
  simp only [ge_iff_le]
  cases decide (65 ≤ b) <;> cases decide (b ≤ 90) <;> cases decide (97 ≤ b) <;> cases decide (b ≤ 122) <;> rfl
theorem isUpper_ev (b : Int) : impl_isUpper.F b = some (decide (65 ≤ b) && decide (b ≤ 90)) := by
  unfold impl_isUpper.F
  simp only [ge_iff_le]
  cases decide (65 ≤ b) <;> rfl
def lowI (b : Int) : Int := bif decide (65 ≤ b) && decide (b ≤ 90) then b + 32 else b
theorem specLowerByte_ev (b : Int) : spec_l6LowerByte.F b = some (lowI b) := by
  unfold spec_l6LowerByte.F lowI
  simp only [ge_iff_le]
  by_cases h1 : 65 ≤ b
  · by_cases h2 : b ≤ 90
    · have : IntKind.wrap .u8 (b + 32) = b + 32 := by rw [IntKind.wrap_u8]; omega
      simp only [dpos h1, dpos h2, cond_true, Bool.and_self, this]
    · simp only [dpos h1, dneg h2, cond_true, cond_false, Bool.and_false]
  · simp only [dneg h1, cond_false, Bool.false_and]
def mix (s : ByteArray) (i : Nat) : List Int := ((bytesL s).take i).map lowI ++ (bytesL s).drop i
theorem mix_len (s : ByteArray) (i : Nat) : (mix s i).length = (bytesL s).length := by
  unfold mix; simp; omega
theorem mix_at (s : ByteArray) (i : Nat) (h : i < (bytesL s).length) : (mix s i).getD i 0 = (bytesL s)[i] := by
  unfold mix
  rw [List.getD_eq_getElem?_getD, List.getElem?_append_right (by simp; omega)]
  simp [Nat.min_eq_left (Nat.le_of_lt h), h]
theorem mix_set (s : ByteArray) (i : Nat) (h : i < (bytesL s).length) : (mix s i).set i (lowI (bytesL s)[i]) = mix s (i + 1) := by
  unfold mix
  rw [List.set_append_right _ _ (by simp; omega)]
  simp only [List.length_map, List.length_take, Nat.min_eq_left (Nat.le_of_lt h), Nat.sub_self]
  rw [List.drop_eq_getElem_cons h, List.set_cons_zero, List.take_add_one, List.getElem?_eq_getElem h]
  simp only [Option.toList_some, List.map_append, List.map_cons, List.map_nil, List.append_assoc, List.cons_append, List.nil_append]
theorem mix_same (s : ByteArray) (i : Nat) (h : i < (bytesL s).length) (e : lowI (bytesL s)[i] = (bytesL s)[i]) : mix s (i + 1) = mix s i := by
  rw [← mix_set s i h, e]
  apply List.ext_getElem?
  intro j
  by_cases hj : i = j
  · subst hj
    have := mix_at s i h
    rw [List.getD_eq_getElem?_getD] at this
    rw [List.getElem?_set_self (by rw [mix_len]; exact h)]
    rw [List.getElem?_eq_getElem (by rw [mix_len]; exact h)] at this ⊢
    rw [← this]; rfl
  · rw [List.getElem?_set_ne hj]
theorem lower_l0 (s : ByteArray) (hs : s.size ≤ 1048576) : ∀ n i : Nat, i + n = s.size → Ev (fun k => impl_lower.l0 k (mix s i) s.size i) ((bytesL s).map lowI)
  | 0, i, h => by
    refine Ev.step (fun k => by rw [impl_lower.l0]) ?_
    simp (disch := omega) only [cneg]
    unfold mix
    rw [List.take_of_length_le (by rw [bytesL_len]; omega), List.drop_eq_nil_of_le (by rw [bytesL_len]; omega), List.append_nil]
    exact Ev.pure _
  | n + 1, i, h => by
    have hl := bytesL_len s
    have hi : i < (bytesL s).length := by omega
    have hm := mix_len s i
    have ih := lower_l0 s hs n (i + 1) (by omega)
    have hb := bytes_range s i hi
    refine Ev.step (fun k => by rw [impl_lower.l0]) ?_
    simp (disch := omega) only [cpos, Int.toNat_natCast, mix_at s i hi]
    refine Ev.bind0 (isUpper_ev _) ?_
    cases hu : decide (65 ≤ (bytesL s)[i]) && decide ((bytesL s)[i] ≤ 90) with
    | true =>
      have hu' := hu
      simp only [Bool.and_eq_true, decide_eq_true_eq] at hu'
      have e : IntKind.wrap .u8 (IntKind.wrap .u8 ((bytesL s)[i] + 97) - 65) = lowI (bytesL s)[i] := by
        unfold lowI
        rw [hu, cond_true, IntKind.wrap_u8, IntKind.wrap_u8]; omega
      simp (disch := omega) only [cond_true, cpos, e, mix_set s i hi, wrap_in]
      exact ih
    | false =>
      have e : lowI (bytesL s)[i] = (bytesL s)[i] := by unfold lowI; rw [hu, cond_false]
      rw [mix_same s i hi e] at ih
      simp (disch := omega) only [cond_false, wrap_in]
      exact ih
def lowS (s : ByteArray) : ByteArray := strL ((bytesL s).map lowI)
theorem lowS_size (s : ByteArray) : (lowS s).size = s.size := by unfold lowS; rw [strL_size, List.length_map, bytesL_len]
theorem lower_ev (s : ByteArray) (hs : s.size ≤ 1048576) : Ev (fun k => impl_lower.F k s) (lowS s) := by
  unfold impl_lower.F
  rw [bytesL_len]
  simp (disch := omega) only [cble]
  have := lower_l0 s hs s.size 0 (by omega)
  unfold mix at this
  rw [List.take_zero, List.map_nil, List.nil_append, List.drop_zero] at this
  exact Ev.bind this (Ev.pure _)
end Go.Proofs.YtckcichnmiifkaaGreatDoor
end
section
/- Plain laws: the words of a text; words put together. -/
namespace Go.Proofs.YtckcichnmiifkaaGreatDoor
open Go.Gx
set_option linter.unusedVariables false
set_option linter.unusedSimpArgs false

def kw (s : ByteArray) : List ByteArray := (words s).filter pos
theorem notEmpty : (fun x : ByteArray => !beqS x ⟨#[]⟩) = pos := by
  funext x
  rw [size_pos]; rfl
theorem wordsOf_ev (s : ByteArray) (hs : s.size ≤ 1048576) : Ev (fun k => impl_wordsOf.F k s) (kw s) := by
  unfold impl_wordsOf.F
  refine Ev.bind0 (split_ev s hs) (Ev.bind (a := kw s) ?_ (Ev.pure _))
  have hlen := (words_len s).2
  have hq : ∀ x, x ∈ words s → Ev (fun k => (fun (_ : Nat) (x : ByteArray) => impl_wordsOf_1.F x) k x) (beqS x ⟨#[]⟩) := fun x _ => Ev.const rfl
  have := delete_ev (d := (⟨#[]⟩ : ByteArray)) (p := fun x => beqS x ⟨#[]⟩) (q := fun _ x => impl_wordsOf_1.F x) (xs := words s) (l0 := slices_DeleteFunc_string_f167.l0) (fun k x0 x5 x6 => by rw [slices_DeleteFunc_string_f167.l0]) hq (by omega) (I := slices_IndexFunc_string_f167.F) (F := slices_DeleteFunc_string_f167.F)
    (idx_ev (d := (⟨#[]⟩ : ByteArray)) (p := fun x => beqS x ⟨#[]⟩) (q := fun _ x => impl_wordsOf_1.F x) (l0 := slices_IndexFunc_string_f167.l0) (fun k x0 x7 x8 => by rw [slices_IndexFunc_string_f167.l0]) hq (by omega) (fun k a0 => rfl)) (fun k a0 => rfl)
  rw [notEmpty] at this
  exact this
theorem kw_small (s : ByteArray) : ∀ x ∈ kw s, 0 < x.size ∧ x.size ≤ s.size := fun x hx => by
  obtain ⟨h1, h2⟩ := List.mem_filter.1 hx
  exact ⟨by simpa [pos] using h2, words_small _ _ x h1⟩
theorem kw_len (s : ByteArray) : (kw s).length ≤ s.size + 1 := Nat.le_trans (List.length_filter_le _ _) (words_len s).2
theorem join_l0 (W : List ByteArray) (hW : ∀ x ∈ W, x.size ≤ 1048576) (hl : W.length ≤ 8192) : ∀ n i : Nat, i + n = W.length → 1 ≤ i → ∀ acc : ByteArray, acc.size ≤ 1048577 * i →
    ∃ r, Ev (fun k => spec_l6Join.l0 k W acc i) r ∧ L r = L acc ++ Lib.joinTail [32] ((W.drop i).map L) ∧ r.size ≤ 1048577 * W.length
  | 0, i, h, h0, acc, ha => by
    refine ⟨acc, Ev.step (fun k => by rw [spec_l6Join.l0]) ?_, ?_, by rw [show W.length = i by omega]; exact ha⟩
    · simp (disch := omega) only [cneg]; exact Ev.pure _
    · rw [List.drop_eq_nil_of_le (by omega)]; simp [Lib.joinTail]
  | n + 1, i, h, h0, acc, ha => by
    have hi : i < W.length := by omega
    have hx := hW _ (List.getElem_mem hi)
    obtain ⟨r, r1, r2, r3⟩ := join_l0 W hW hl n (i + 1) (by omega) (by omega) (acc ++ ⟨#[32]⟩ ++ W[i]) (by rw [size_app, size_app, e32]; omega)
    refine ⟨r, Ev.step (fun k => by rw [spec_l6Join.l0]) ?_, ?_, r3⟩
    · simp (disch := (try simp only [size_app, e32]); omega) only [cpos, Int.toNat_natCast, getD_at hi, cble, wrap_in]
      exact r1
    · rw [r2, List.drop_eq_getElem_cons hi, List.map_cons, tail_cons, L_append, L_append, L32]
      simp
theorem join_ev (W : List ByteArray) (hW : ∀ x ∈ W, x.size ≤ 1048576) (hl : W.length ≤ 8192) : ∃ r, Ev (fun k => spec_l6Join.F k W) r ∧ strings_Join.F W ⟨#[32]⟩ = some r ∧ L r = Lib.join (W.map L) [32] ∧ r.size ≤ 1048577 * W.length := by
  have key : ∃ r, Ev (fun k => spec_l6Join.F k W) r ∧ L r = Lib.join (W.map L) [32] ∧ r.size ≤ 1048577 * W.length := by
    unfold spec_l6Join.F
    match W, hW, hl with
    | [], _, _ =>
      refine ⟨⟨#[]⟩, Ev.bind (a := ⟨#[]⟩) ?_ (Ev.pure _), rfl, Nat.zero_le _⟩
      refine Ev.step (fun k => by rw [spec_l6Join.l0]) ?_
      exact Ev.pure _
    | x :: W, hW, hl =>
      have hx := hW x List.mem_cons_self
      have e00 : ∀ t : ByteArray, (⟨#[]⟩ : ByteArray) ++ t = t := fun t => L_inj (by rw [L_append]; rfl)
      have e0 : (⟨#[]⟩ : ByteArray).size = 0 := rfl
      obtain ⟨r, r1, r2, r3⟩ := join_l0 (x :: W) hW hl W.length 1 (by rw [List.length_cons]; omega) (Nat.le_refl _) x (by omega)
      refine ⟨r, Ev.bind (a := r) ?_ (Ev.pure _), ?_, r3⟩
      · refine Ev.step (fun k => by rw [spec_l6Join.l0]) ?_
        have r1' : Ev (fun k => spec_l6Join.l0 k (x :: W) x (0 + 1)) r := r1
        have hlen : (0 : Int) < ((x :: W).length : Int) := by rw [List.length_cons]; omega
        have hg : (x :: W).getD (0 : Int).toNat (⟨#[]⟩ : ByteArray) = x := rfl
        simp (disch := (try simp only [e0]); omega) only [cpos, cneg, hg, e00, cble, wrap_in]
        exact r1'
      · rw [r2, List.map_cons, Lib.join_cons]; rfl
  obtain ⟨r, r1, r2, r3⟩ := key
  refine ⟨r, r1, ?_, r2, r3⟩
  unfold strings_Join.F xJoin
  have e1 : Lib.join (W.map (·.data.toList)) (⟨#[32]⟩ : ByteArray).data.toList = L r := by rw [r2]; rfl
  rw [e1, Nat.ble_eq_true_of_le (by omega), Nat.ble_eq_true_of_le (by rw [L_size]; omega)]
  show some _ = some r
  congr 1
end Go.Proofs.YtckcichnmiifkaaGreatDoor
end
section
/- Plain laws: the plain form of a text, two ways. -/
namespace Go.Proofs.YtckcichnmiifkaaGreatDoor
open Go.Gx
set_option linter.unusedVariables false
set_option linter.unusedSimpArgs false

/-! ### Lists of bytes cut at spaces -/
def bit1 (cur : List Int) : List (List Int) := if cur = [] then [] else [cur]
def grp : List Int → List Int → List (List Int)
  | cur, [] => bit1 cur
  | cur, b :: l => if b = 32 then bit1 cur ++ grp [] l else grp (cur ++ [b]) l
def kpI (b : Int) : Bool := ltrI b || (decide (48 ≤ b) && decide (b ≤ 57))
def spW : List Int → List Int → List (List Int)
  | cur, [] => bit1 cur
  | cur, b :: l => if b = 32 then bit1 cur ++ spW [] l else if kpI b = true then spW (cur ++ [lowI b]) l else spW cur l
/-- What stays of a byte in lower case. -/
def kpL (b : Int) : Bool := (decide (97 ≤ b) && decide (b ≤ 122)) || ((decide (48 ≤ b) && decide (b ≤ 57)) || (b == 32))
theorem kpL_low (b : Int) : kpL (lowI b) = (kpI b || (b == 32)) := by
  rw [Bool.eq_iff_iff]
  unfold kpL kpI ltrI lowI
  cases h : decide (65 ≤ b) && decide (b ≤ 90) with
  | true =>
    simp only [Bool.and_eq_true, decide_eq_true_eq] at h
    simp only [cond_true, Bool.true_or, Bool.or_eq_true, Bool.and_eq_true, decide_eq_true_eq, beq_iff_eq, true_or, iff_true]
    omega
  | false =>
    simp only [cond_false, Bool.false_or, Bool.or_eq_true, Bool.and_eq_true, decide_eq_true_eq, beq_iff_eq, or_assoc]
theorem lowI_sp (b : Int) : lowI b = 32 ↔ b = 32 := by
  unfold lowI
  cases h : decide (65 ≤ b) && decide (b ≤ 90) with
  | true =>
    simp only [Bool.and_eq_true, decide_eq_true_eq] at h
    simp only [cond_true]
    omega
  | false => simp only [cond_false]
theorem grp_spW : ∀ (l cur : List Int), grp cur ((l.map lowI).filter kpL) = spW cur l
  | [], cur => rfl
  | b :: l, cur => by
    rw [List.map_cons, List.filter_cons, kpL_low]
    unfold spW
    by_cases h : b = 32
    · subst h
      rw [if_pos rfl]
      have e : (kpI 32 || ((32 : Int) == 32)) = true := by decide
      rw [if_pos e]
      have e2 : lowI 32 = 32 := by decide
      rw [e2]
      unfold grp
      rw [if_pos rfl, grp_spW l []]
    · rw [if_neg h]
      have e : (b == 32) = false := by simpa using h
      rw [e, Bool.or_false]
      cases hk : kpI b with
      | true =>
        rw [if_pos rfl, if_pos rfl]
        conv => lhs; unfold grp
        rw [if_neg (fun e => h ((lowI_sp b).1 e)), grp_spW l _]
      | false =>
        rw [if_neg (by decide), if_neg (by decide)]
        exact grp_spW l cur
theorem strL_sub (s : ByteArray) (st i : Nat) : strL (((bytesL s).take i).drop st) = s.extract st i := by
  apply L_inj
  rw [L_strL, L_extract, bytesL_map, List.map_drop, List.map_take, List.map_map]
  have : ((fun n : Int => UInt8.ofNat n.toNat) ∘ fun b : UInt8 => (b.toNat : Int)) = id := by
    funext b; simp
  rw [this, List.map_id]
theorem bit1_pos (s : ByteArray) (st i : Nat) (h : st ≤ i) (hi : i ≤ s.size) : (if st < i then [s.extract st i] else []) = (bit1 (((bytesL s).take i).drop st)).map strL := by
  have hl := bytesL_len s
  unfold bit1
  by_cases c : st < i
  · have hne : ¬ ((bytesL s).take i).drop st = [] := fun e => by
      have := congrArg List.length e
      simp at this
      omega
    rw [if_pos c, if_neg hne, List.map_cons, List.map_nil, strL_sub]
  · have he : ((bytesL s).take i).drop st = [] := List.drop_eq_nil_of_le (by simp; omega)
    rw [if_neg c, if_pos he]; rfl
theorem kw_grp_l (s : ByteArray) : ∀ n i : Nat, i + n = s.size → ∀ st : Nat, st ≤ i → (∀ j, st ≤ j → j < i → (L s)[j]? ≠ some 32) → (wordsFrom s st).filter pos = (grp (((bytesL s).take i).drop st) ((bytesL s).drop i)).map strL
  | 0, i, h, st, h1, hn => by
    have hl := bytesL_len s
    rw [words_end s st fun j hj => by
      by_cases hj2 : j < i
      · exact hn j hj hj2
      · rw [List.getElem?_eq_none (by rw [L_size]; omega)]; exact fun h => by cases h]
    have e0 : (bytesL s).drop s.size = [] := List.drop_eq_nil_of_le (by omega)
    rw [fpos_one s st s.size (by omega) (Nat.le_refl _), List.filter_nil, List.append_nil, show i = s.size by omega, e0]
    exact bit1_pos s st s.size (by omega) (Nat.le_refl _)
  | n + 1, i, h, st, h1, hn => by
    have hl := bytesL_len s
    have hi : i < s.size := by omega
    have hib : i < (bytesL s).length := by omega
    rw [List.drop_eq_getElem_cons hib]
    unfold grp
    have hbt : (bytesL s)[i] = bt s i := (bt_bytes s i hib).symm
    by_cases c : bt s i = 32
    · have e1 : (bytesL s)[i] = 32 := hbt.trans c
      rw [words_hit s st i h1 hi ((bt_sp hi).1 c) hn, fpos_one s st i h1 (by omega), if_pos e1, List.map_append, bit1_pos s st i h1 (by omega)]
      congr 1
      have := kw_grp_l s n (i + 1) (by omega) (i + 1) (Nat.le_refl _) (fun j h1 h2 => by omega)
      have e2 : ((bytesL s).take (i + 1)).drop (i + 1) = [] := List.drop_eq_nil_of_le (by simp; omega)
      rw [this, e2]
    · rw [if_neg (by rw [hbt]; exact c)]
      have := kw_grp_l s n (i + 1) (by omega) st (by omega) (fun j h3 h4 => by
        rcases Nat.lt_or_ge j i with h5 | h5
        · exact hn j h3 h5
        · obtain rfl : j = i := by omega
          exact fun e => c ((bt_sp hi).2 e))
      rw [this, List.take_add_one, List.getElem?_eq_getElem hib, List.drop_append_of_le_length (by simp; omega)]
      rfl
theorem kw_grp (s : ByteArray) : kw s = (grp [] (bytesL s)).map strL := by
  have := kw_grp_l s s.size 0 (by omega) 0 (Nat.le_refl _) (fun j h1 h2 => by omega)
  rw [words_from] at this
  simpa [kw] using this
theorem bytes_str (ys : List Int) (h : ∀ y ∈ ys, 0 ≤ y ∧ y ≤ 255) : bytesL (strL ys) = ys := by
  rw [bytesL_map, L_strL, List.map_map]
  conv => rhs; rw [← List.map_id ys]
  refine List.map_congr_left fun y hy => ?_
  have := h y hy
  simp only [Function.comp, id]
  rw [UInt8.toNat_ofNat_of_lt' (show y.toNat < UInt8.size by have : UInt8.size = 256 := rfl; omega)]
  omega
theorem lowI_range {b : Int} (h : 0 ≤ b ∧ b ≤ 255) : 0 ≤ lowI b ∧ lowI b ≤ 255 := by
  unfold lowI
  cases h2 : decide (65 ≤ b) && decide (b ≤ 90) with
  | true =>
    simp only [Bool.and_eq_true, decide_eq_true_eq] at h2
    simp only [cond_true]; omega
  | false => simp only [cond_false]; exact h
theorem bytes_mem {s : ByteArray} {b : Int} (h : b ∈ bytesL s) : 0 ≤ b ∧ b ≤ 255 := by
  obtain ⟨i, hi, rfl⟩ := List.getElem_of_mem h
  exact bytes_range s i hi
/-- The text of what stays. -/
def plT (s : ByteArray) : ByteArray := strL (((bytesL s).map lowI).filter kpL)
theorem plT_words (s : ByteArray) : kw (plT s) = (spW [] (bytesL s)).map strL := by
  rw [kw_grp, ← grp_spW]
  unfold plT
  rw [bytes_str]
  intro y hy
  obtain ⟨b, hb, rfl⟩ := List.mem_map.1 (List.mem_filter.1 hy).1
  exact lowI_range (bytes_mem hb)
theorem plT_size (s : ByteArray) : (plT s).size ≤ s.size := by
  unfold plT
  rw [strL_size]
  refine Nat.le_trans (List.length_filter_le _ _) ?_
  rw [List.length_map, bytesL_len]
  exact Nat.le_refl _
end Go.Proofs.YtckcichnmiifkaaGreatDoor
end
section
/- Edit distances: symmetric, zero from a text to itself, and no shorter by a way round. -/
namespace Go.Proofs.YtckcichnmiifkaaGreatDoor
open Go.Gx
set_option linter.unusedVariables false
set_option linter.unusedSimpArgs false

def lv (a b : Nat → Int) : Nat → Nat → Nat
  | 0, j => j
  | i + 1, 0 => i + 1
  | i + 1, j + 1 => min (min (lv a b i (j + 1)) (lv a b (i + 1) j) + 1) (lv a b i j + if a i = b j then 0 else 1)
termination_by i j => i + j
theorem lv_0 (a b : Nat → Int) (j : Nat) : lv a b 0 j = j := by rw [lv]
theorem lv_s0 (a b : Nat → Int) (i : Nat) : lv a b i 0 = i := by cases i <;> rw [lv]
theorem lv_ss (a b : Nat → Int) (i j : Nat) : lv a b (i + 1) (j + 1) = min (min (lv a b i (j + 1)) (lv a b (i + 1) j) + 1) (lv a b i j + if a i = b j then 0 else 1) := by rw [lv]
theorem lv_symm (a b : Nat → Int) : ∀ s i j : Nat, i + j ≤ s → lv a b i j = lv b a j i
  | s, 0, j, _ => by rw [lv_0, lv_s0]
  | s, i + 1, 0, _ => by rw [lv_0, lv_s0]
  | 0, i + 1, j + 1, h => by omega
  | s + 1, i + 1, j + 1, h => by
    rw [lv_ss, lv_ss, lv_symm a b s i (j + 1) (by omega), lv_symm a b s (i + 1) j (by omega), lv_symm a b s i j (by omega)]
    have e : (if a i = b j then 0 else 1) = (if b j = a i then 0 else (1 : Nat)) := by
      by_cases c : a i = b j
      · rw [if_pos c, if_pos c.symm]
      · rw [if_neg c, if_neg fun h => c h.symm]
    rw [e, Nat.min_comm (lv b a (j + 1) i)]
theorem lv_self (a : Nat → Int) : ∀ i : Nat, lv a a i i = 0
  | 0 => lv_0 a a 0
  | i + 1 => by
    have := lv_self a i
    rw [lv_ss, if_pos rfl]
    omega
/-- A way from one text to another. -/
inductive Ed (a b : Nat → Int) : Nat → Nat → Nat → Prop
  | nil : Ed a b 0 0 0
  | del (i j n : Nat) (h : Ed a b i j n) : Ed a b (i + 1) j (n + 1)
  | ins (i j n : Nat) (h : Ed a b i j n) : Ed a b i (j + 1) (n + 1)
  | sub (i j n : Nat) (h : Ed a b i j n) : Ed a b (i + 1) (j + 1) (n + if a i = b j then 0 else 1)
theorem ed_0 (a b : Nat → Int) : ∀ j, Ed a b 0 j j
  | 0 => .nil
  | j + 1 => .ins _ _ _ (ed_0 a b j)
theorem ed_s0 (a b : Nat → Int) : ∀ i, Ed a b i 0 i
  | 0 => .nil
  | i + 1 => .del _ _ _ (ed_s0 a b i)
theorem lv_ed (a b : Nat → Int) : ∀ s i j : Nat, i + j ≤ s → Ed a b i j (lv a b i j)
  | s, 0, j, _ => by rw [lv_0]; exact ed_0 a b j
  | s, i + 1, 0, _ => by rw [lv_s0]; exact ed_s0 a b _
  | 0, i + 1, j + 1, h => by omega
  | s + 1, i + 1, j + 1, h => by
    have h1 := Ed.del _ _ _ (lv_ed a b s i (j + 1) (by omega))
    have h2 := Ed.ins _ _ _ (lv_ed a b s (i + 1) j (by omega))
    have h3 := Ed.sub _ _ _ (lv_ed a b s i j (by omega))
    rw [lv_ss]
    generalize (if a i = b j then 0 else 1 : Nat) = d at h3 ⊢
    generalize lv a b i (j + 1) = x at h1 ⊢
    generalize lv a b (i + 1) j = y at h2 ⊢
    generalize lv a b i j = z at h3 ⊢
    by_cases c : min x y + 1 ≤ z + d
    · rw [Nat.min_eq_left c]
      by_cases c2 : x ≤ y
      · rw [Nat.min_eq_left c2]; exact h1
      · rw [Nat.min_eq_right (by omega)]; exact h2
    · rw [Nat.min_eq_right (by omega)]; exact h3
theorem lv_le1 (a b : Nat → Int) (i j : Nat) : lv a b (i + 1) j ≤ lv a b i j + 1 := by
  cases j with
  | zero => rw [lv_s0, lv_s0]; omega
  | succ j => rw [lv_ss]; omega
theorem lv_le2 (a b : Nat → Int) (i j : Nat) : lv a b i (j + 1) ≤ lv a b i j + 1 := by
  cases i with
  | zero => rw [lv_0, lv_0]; omega
  | succ i => rw [lv_ss]; omega
theorem ed_lv {a b : Nat → Int} {i j n : Nat} (h : Ed a b i j n) : lv a b i j ≤ n := by
  induction h with
  | nil => rw [lv_0]; exact Nat.le_refl _
  | del i j n _ ih => have := lv_le1 a b i j; omega
  | ins i j n _ ih => have := lv_le2 a b i j; omega
  | sub i j n _ ih => rw [lv_ss]; omega
theorem ed_trans {a b c : Nat → Int} : ∀ s i j k n m : Nat, i + j + k ≤ s → Ed a b i j n → Ed b c j k m → ∃ p, p ≤ n + m ∧ Ed a c i k p
  | s, i, j, k, n, m, hs, h1, h2 => by
    cases s with
    | zero =>
      obtain rfl : i = 0 := by omega
      obtain rfl : k = 0 := by omega
      exact ⟨0, Nat.zero_le _, .nil⟩
    | succ s =>
      cases h1 with
      | del i j n h1 =>
        obtain ⟨p, h3, h4⟩ := ed_trans s i j k n m (by omega) h1 h2
        exact ⟨p + 1, by omega, .del _ _ _ h4⟩
      | nil =>
        cases h2 with
        | nil => exact ⟨0, Nat.zero_le _, .nil⟩
        | ins _ k m h2 =>
          obtain ⟨p, h3, h4⟩ := ed_trans s 0 0 k 0 m (by omega) .nil h2
          exact ⟨p + 1, by omega, .ins _ _ _ h4⟩
      | ins i j n h1 =>
        cases h2 with
        | del _ _ m h2 =>
          obtain ⟨p, h3, h4⟩ := ed_trans s i j k n m (by omega) h1 h2
          exact ⟨p, by omega, h4⟩
        | ins _ k m h2 =>
          obtain ⟨p, h3, h4⟩ := ed_trans s i (j + 1) k (n + 1) m (by omega) (.ins _ _ _ h1) h2
          exact ⟨p + 1, by omega, .ins _ _ _ h4⟩
        | sub _ k m h2 =>
          obtain ⟨p, h3, h4⟩ := ed_trans s i j k n m (by omega) h1 h2
          exact ⟨p + 1, by omega, .ins _ _ _ h4⟩
      | sub i j n h1 =>
        cases h2 with
        | del _ _ m h2 =>
          obtain ⟨p, h3, h4⟩ := ed_trans s i j k n m (by omega) h1 h2
          exact ⟨p + 1, by omega, .del _ _ _ h4⟩
        | ins _ k m h2 =>
          obtain ⟨p, h3, h4⟩ := ed_trans s (i + 1) (j + 1) k _ m (by omega) (.sub _ _ _ h1) h2
          exact ⟨p + 1, by omega, .ins _ _ _ h4⟩
        | sub _ k m h2 =>
          obtain ⟨p, h3, h4⟩ := ed_trans s i j k n m (by omega) h1 h2
          refine ⟨p + if a i = c k then 0 else 1, ?_, .sub _ _ _ h4⟩
          by_cases c1 : a i = b j
          · by_cases c2 : b j = c k
            · rw [if_pos (c1.trans c2)]; omega
            · rw [if_neg c2]; split <;> omega
          · rw [if_neg c1]; split <;> omega
theorem lv_tri (a b c : Nat → Int) (i j k : Nat) : lv a c i k ≤ lv a b i j + lv b c j k := by
  obtain ⟨p, h1, h2⟩ := ed_trans (i + j + k) i j k _ _ (Nat.le_refl _) (lv_ed a b (i + j) i j (Nat.le_refl _)) (lv_ed b c (j + k) j k (Nat.le_refl _))
  exact Nat.le_trans (ed_lv h2) h1
theorem lv_le (a b : Nat → Int) : ∀ s i j : Nat, i + j ≤ s → lv a b i j ≤ i + j
  | s, 0, j, _ => by rw [lv_0]; omega
  | s, i + 1, 0, _ => by rw [lv_s0]; omega
  | 0, i + 1, j + 1, h => by omega
  | s + 1, i + 1, j + 1, h => by
    have := lv_le a b s i (j + 1) (by omega)
    rw [lv_ss]; omega
end Go.Proofs.YtckcichnmiifkaaGreatDoor
end
section
/- Plain laws: the distance of two texts, two ways. -/
namespace Go.Proofs.YtckcichnmiifkaaGreatDoor
open Go.Gx
set_option linter.unusedVariables false
set_option linter.unusedSimpArgs false

/-! ### The words of the plain form -/
theorem dLower (b : Int) : impl_isLower.F b = some (decide (97 ≤ b) && decide (b ≤ 122)) := by
  unfold impl_isLower.F
  simp only [ge_iff_le]
  cases decide (97 ≤ b) <;> rfl
theorem dDigit (b : Int) : impl_isDigit.F b = some (decide (48 ≤ b) && decide (b ≤ 57)) := by
  unfold impl_isDigit.F
  simp only [ge_iff_le]
  cases decide (48 ≤ b) <;> rfl
theorem sDigit (b : Int) : spec_l6Digit.F b = some (decide (48 ≤ b) && decide (b ≤ 57)) := by
  unfold spec_l6Digit.F
  simp only [ge_iff_le]
  cases decide (48 ≤ b) <;> rfl
theorem roomT {n : Nat} (h : n ≤ 8388608) : room n .str = true := by
  unfold room
  rw [Nat.ble_eq]
  have : nb .str = 16 := rfl
  rw [this]; omega
theorem roomB {n : Nat} (h : n ≤ 8388608) : room n (.int .u8) = true := by
  unfold room
  rw [Nat.ble_eq]
  have : nb (.int .u8) = 1 := rfl
  rw [this]; omega
theorem roomI {n : Nat} (h : n ≤ 1000000000) : room n (.int .i64) = true := by
  unfold room
  rw [Nat.ble_eq]
  have : nb (.int .i64) = 8 := rfl
  rw [this]; omega
theorem simple_cut (s : ByteArray) (acc : List ByteArray) (cur : List Int) (i : Int) (h0 : 0 ≤ i) (h1 : i ≤ 1048576) (ha : acc.length ≤ 1048576) {r : List ByteArray} (ih : Ev (fun k => spec_l6Simple.l0 k s (acc ++ (bit1 cur).map strL) [] (i + 1)) r) :
    Ev (fun k => bif (decide ((cur.length : Int) > 0)) then (bif room (acc.length + ([(strL cur)] : List ByteArray).length) .str then (spec_l6Simple.l0 k s (acc ++ ([(strL cur)] : List ByteArray)) ([] : List Int) (IntKind.wrap .i64 (i + 1))) else none) else (spec_l6Simple.l0 k s acc ([] : List Int) (IntKind.wrap .i64 (i + 1)))) r := by
  by_cases c : cur = []
  · subst c
    have : ¬ (([] : List Int).length : Int) > 0 := by simp
    simp (disch := first | exact this | omega) only [cneg, wrap_in]
    unfold bit1 at ih
    rw [if_pos rfl, List.map_nil, List.append_nil] at ih
    exact ih
  · have : (cur.length : Int) > 0 := by
      have := List.length_pos_iff.2 c
      omega
    have hr : room (acc.length + ([strL cur] : List ByteArray).length) .str = true := roomT (by simp; omega)
    simp (disch := first | exact this | omega) only [cpos, hr, cond_true, wrap_in]
    unfold bit1 at ih
    rw [if_neg c] at ih
    exact ih
theorem simple_l0 (s : ByteArray) (hs : s.size ≤ 1048575) : ∀ n i : Nat, i + n = s.size → ∀ (acc : List ByteArray) (cur : List Int), acc.length ≤ i → cur.length ≤ i → Ev (fun k => spec_l6Simple.l0 k s acc cur i) (acc ++ (spW cur ((bytesL s).drop i)).map strL)
  | 0, i, h, acc, cur, ha, hc => by
    have hl := bytesL_len s
    have e0 : (bytesL s).drop i = [] := List.drop_eq_nil_of_le (by omega)
    refine Ev.step (fun k => by rw [spec_l6Simple.l0]) ?_
    rw [e0]
    simp (disch := omega) only [cpos, ceq]
    refine simple_cut s acc cur i (by omega) (by omega) (by omega) ?_
    refine Ev.step (fun k => by rw [spec_l6Simple.l0]) ?_
    simp (disch := omega) only [cneg]
    exact Ev.pure _
  | n + 1, i, h, acc, cur, ha, hc => by
    have hl := bytesL_len s
    have hi : i < (bytesL s).length := by omega
    refine Ev.step (fun k => by rw [spec_l6Simple.l0]) ?_
    rw [List.drop_eq_getElem_cons hi]
    simp (disch := omega) only [cpos, cne, Int.toNat_natCast, bt_bytes s i hi]
    by_cases c : (bytesL s)[i] = 32
    · simp (disch := first | exact c | omega) only [ceq]
      unfold spW
      rw [if_pos c, List.map_append, ← List.append_assoc]
      refine simple_cut s acc cur i (by omega) (by omega) (by omega) ?_
      exact simple_l0 s hs n (i + 1) (by omega) _ [] (by unfold bit1; split <;> simp <;> omega) (by simp)
    · simp (disch := first | exact c | omega) only [cne]
      conv => rhs; unfold spW
      rw [if_neg c]
      refine Ev.bind0 (specLetter_ev _) ?_
      have put : kpI (bytesL s)[i] = true → Ev (fun k => (spec_l6LowerByte.F (bytesL s)[i]).bind fun r2 => bif room (cur.length + ([r2] : List Int).length) (.int .u8) then (spec_l6Simple.l0 k s acc (cur ++ ([r2] : List Int)) (IntKind.wrap .i64 ((i : Int) + 1))) else none) (acc ++ (if kpI (bytesL s)[i] = true then spW (cur ++ [lowI (bytesL s)[i]]) ((bytesL s).drop (i + 1)) else spW cur ((bytesL s).drop (i + 1))).map strL) := fun hk => by
        rw [if_pos hk]
        refine Ev.bind0 (specLowerByte_ev _) ?_
        have hr : room (cur.length + ([lowI (bytesL s)[i]] : List Int).length) (.int .u8) = true := roomB (by simp; omega)
        simp (disch := omega) only [hr, cond_true, wrap_in]
        exact simple_l0 s hs n (i + 1) (by omega) acc _ (by omega) (by simp; omega)
      cases hlt : ltrI (bytesL s)[i] with
      | true =>
        simp only [cond_true]
        exact put (by unfold kpI; rw [hlt]; rfl)
      | false =>
        simp only [cond_false]
        refine Ev.bind0 (sDigit _) ?_
        cases hd : decide (48 ≤ (bytesL s)[i]) && decide ((bytesL s)[i] ≤ 57) with
        | true =>
          simp only [cond_true]
          exact put (by unfold kpI; rw [hlt, hd]; rfl)
        | false =>
          have hk : ¬ kpI (bytesL s)[i] = true := by unfold kpI; rw [hlt, hd]; decide
          rw [if_neg hk]
          simp (disch := omega) only [cond_false, wrap_in]
          exact simple_l0 s hs n (i + 1) (by omega) acc cur (by omega) (by omega)
theorem simple_ev (s : ByteArray) (hs : s.size ≤ 1048575) : Ev (fun k => spec_l6Simple.F k s) (kw (plT s)) := by
  unfold spec_l6Simple.F
  have := simple_l0 s hs s.size 0 (by omega) [] [] (Nat.le_refl _) (Nat.le_refl _)
  rw [List.drop_zero, List.nil_append, ← plT_words] at this
  exact Ev.bind this (Ev.pure _)
theorem pf_l0 (ys : List Int) (hl : ys.length ≤ 1048576) : ∀ n i : Nat, i + n = ys.length → ∀ acc : List Int, acc.length ≤ i → Ev (fun k => impl_plainForm.l0 k acc ys ys.length i) (acc ++ (ys.drop i).filter kpL)
  | 0, i, h, acc, ha => by
    refine Ev.step (fun k => by rw [impl_plainForm.l0]) ?_
    simp (disch := omega) only [cneg]
    rw [List.drop_eq_nil_of_le (by omega), List.filter_nil, List.append_nil]
    exact Ev.pure _
  | n + 1, i, h, acc, ha => by
    have hi : i < ys.length := by omega
    refine Ev.step (fun k => by rw [impl_plainForm.l0]) ?_
    rw [List.drop_eq_getElem_cons hi, List.filter_cons]
    simp (disch := omega) only [cpos, Int.toNat_natCast, getD_at hi]
    have hr : room (acc.length + ([ys[i]] : List Int).length) (.int .u8) = true := roomB (by simp; omega)
    have put : Ev (fun k => impl_plainForm.l0 k (acc ++ [ys[i]]) ys ys.length ((i : Int) + 1)) (acc ++ ys[i] :: (ys.drop (i + 1)).filter kpL) := by
      have := pf_l0 ys hl n (i + 1) (by omega) (acc ++ [ys[i]]) (by simp; omega)
      rw [List.append_assoc] at this
      exact this
    refine Ev.bind0 (dLower _) ?_
    cases h1 : decide (97 ≤ ys[i]) && decide (ys[i] ≤ 122) with
    | true =>
      have hk : kpL ys[i] = true := by unfold kpL; rw [h1]; rfl
      rw [if_pos hk]
      simp (disch := omega) only [cond_true, hr, wrap_in]
      exact put
    | false =>
      simp only [cond_false]
      refine Ev.bind0 (dDigit _) ?_
      cases h2 : decide (48 ≤ ys[i]) && decide (ys[i] ≤ 57) with
      | true =>
        have hk : kpL ys[i] = true := by unfold kpL; rw [h1, h2]; rfl
        rw [if_pos hk]
        simp (disch := omega) only [cond_true, hr, wrap_in]
        exact put
      | false =>
        by_cases c : ys[i] = 32
        · have hk : kpL ys[i] = true := by unfold kpL; rw [h1, h2, c]; rfl
          rw [if_pos hk]
          simp (disch := first | exact c | omega) only [cond_false, ceq, hr, cond_true, wrap_in]
          exact put
        · have hk : ¬ kpL ys[i] = true := by
            unfold kpL
            rw [h1, h2, show (ys[i] == 32) = false by simpa using c]; decide
          rw [if_neg hk]
          simp (disch := first | exact c | omega) only [cond_false, cne, wrap_in]
          exact pf_l0 ys hl n (i + 1) (by omega) acc (by omega)
theorem plain_ev (s : ByteArray) (hs : s.size ≤ 40) : ∃ t, Ev (fun k => spec_l20Plain.F k s) t ∧ Ev (fun k => impl_plainForm.F k s) t ∧ t.size ≤ 100000000 := by
  have hw := kw_small (plT s)
  have hl := kw_len (plT s)
  have hp := plT_size s
  obtain ⟨t, t1, t2, _, t3⟩ := join_ev (kw (plT s)) (fun x hx => by have := (hw x hx).2; omega) (by omega)
  have hlow := lowS_size s
  have eb : bytesL (lowS s) = (bytesL s).map lowI := by
    unfold lowS
    exact bytes_str _ fun y hy => by
      obtain ⟨b, hb, rfl⟩ := List.mem_map.1 hy
      exact lowI_range (bytes_mem hb)
  refine ⟨t, ?_, ?_, ?_⟩
  · unfold spec_l20Plain.F
    exact Ev.bind (simple_ev s (by omega)) (Ev.bind t1 (Ev.pure _))
  · unfold impl_plainForm.F
    refine Ev.bind (lower_ev s (by omega)) ?_
    simp (disch := omega) only [cble]
    have hlen : (bytesL (lowS s)).length ≤ 1048576 := by rw [bytesL_len]; omega
    have := pf_l0 (bytesL (lowS s)) hlen _ 0 (Nat.zero_add _) [] (Nat.le_refl _)
    rw [List.drop_zero, List.nil_append, eb] at this
    rw [eb]
    refine Ev.bind this (Ev.bind (a := kw (plT s)) (wordsOf_ev (plT s) (by omega)) (Ev.bind0 t2 (Ev.pure _)))
  · refine Nat.le_trans t3 ?_
    have : (kw (plT s)).length ≤ 41 := by omega
    calc 1048577 * (kw (plT s)).length ≤ 1048577 * 41 := Nat.mul_le_mul_left _ this
      _ ≤ 100000000 := by decide

/-! ### Rows of distances -/
def rowI (n : Nat) : List Int := (List.range n).map fun (j : Nat) => (j : Int)
theorem rowI_len (n : Nat) : (rowI n).length = n := by simp [rowI]
theorem rowI_next (n : Nat) : rowI n ++ [(n : Int)] = rowI (n + 1) := by
  unfold rowI
  rw [List.range_succ, List.map_append]; rfl
theorem rowI_get {n j : Nat} (h : j < n) : (rowI n).getD j 0 = j := by
  simp [rowI, List.getD, h]
theorem specRow (a b : ByteArray) (hb : b.size ≤ 100000000) : ∀ m i : Nat, i + m = b.size + 1 → Ev (fun k => spec_l20Edit.l0 k a b (rowI i) i) (a, b, rowI (b.size + 1))
  | 0, i, h => by
    refine Ev.step (fun k => by rw [spec_l20Edit.l0]) ?_
    simp (disch := omega) only [cneg]
    rw [show i = b.size + 1 by omega]
    exact Ev.pure _
  | m + 1, i, h => by
    refine Ev.step (fun k => by rw [spec_l20Edit.l0]) ?_
    have hr : room ((rowI i).length + ([(i : Int)] : List Int).length) (.int .i64) = true := roomI (by rw [rowI_len]; simp; omega)
    simp (disch := omega) only [cpos, hr, cond_true, wrap_in, rowI_next]
    exact specRow a b hb m (i + 1) (by omega)
theorem implRow (a b : ByteArray) (hb : b.size ≤ 100000000) : ∀ m i : Nat, i + m = b.size + 1 → Ev (fun k => impl_textDistance.l0 k a b (rowI i) ((b.size : Int) + 1) i) (a, b, rowI (b.size + 1))
  | 0, i, h => by
    refine Ev.step (fun k => by rw [impl_textDistance.l0]) ?_
    simp (disch := omega) only [cneg]
    rw [show i = b.size + 1 by omega]
    exact Ev.pure _
  | m + 1, i, h => by
    refine Ev.step (fun k => by rw [impl_textDistance.l0]) ?_
    have hr : room ((rowI i).length + ([(i : Int)] : List Int).length) (.int .i64) = true := roomI (by rw [rowI_len]; simp; omega)
    simp (disch := omega) only [cpos, hr, cond_true, wrap_in, rowI_next]
    exact implRow a b hb m (i + 1) (by omega)
theorem least_ev (a b : Int) : spec_l1Least.F a b = some (if a < b then a else b) := by
  unfold spec_l1Least.F
  by_cases c : a < b
  · simp (disch := omega) only [cpos]; rw [if_pos c]
  · simp (disch := omega) only [cneg]; rw [if_neg c]
def Bd (row : List Int) (n : Nat) (c : Int) : Prop := row.length = n ∧ ∀ j, j < n → 0 ≤ row.getD j 0 ∧ row.getD j 0 ≤ c
theorem bd_put {row : List Int} {n : Nat} {c x : Int} (h : Bd row n c) (h0 : 0 ≤ x) (h1 : x ≤ c) : Bd (row ++ [x]) (n + 1) c := by
  refine ⟨by simp [h.1], fun j hj => ?_⟩
  have hl := h.1
  by_cases c1 : j < n
  · have e : (row ++ [x]).getD j 0 = row.getD j 0 := by
      rw [List.getD_eq_getElem?_getD, List.getElem?_append_left (by omega), ← List.getD_eq_getElem?_getD]
    rw [e]; exact h.2 j c1
  · have e : (row ++ [x]).getD j 0 = x := by
      rw [List.getD_eq_getElem?_getD, List.getElem?_append_right (by omega), show j - row.length = 0 by omega]; rfl
    rw [e]; exact ⟨h0, h1⟩
/-- A row of distances. -/
def Rv (a b : ByteArray) (row : List Int) (n i : Nat) : Prop := ∀ j, j < n → row.getD j 0 = ((lv (bt a) (bt b) i j : Nat) : Int)
theorem rv_put {a b : ByteArray} {row : List Int} {n i : Nat} {x : Int} (hl : row.length = n) (h : Rv a b row n i) (hx : x = ((lv (bt a) (bt b) i n : Nat) : Int)) : Rv a b (row ++ [x]) (n + 1) i := fun j hj => by
  by_cases c1 : j < n
  · have e : (row ++ [x]).getD j 0 = row.getD j 0 := by
      rw [List.getD_eq_getElem?_getD, List.getElem?_append_left (by omega), ← List.getD_eq_getElem?_getD]
    rw [e]; exact h j c1
  · have e : (row ++ [x]).getD j 0 = x := by
      rw [List.getD_eq_getElem?_getD, List.getElem?_append_right (by omega), show j - row.length = 0 by omega]; rfl
    rw [e, hx, show j = n by omega]
theorem dp_l4 (a b : ByteArray) (hb : b.size ≤ 100000000) (row : List Int) (c : Int) (hc : 0 ≤ c) (hc2 : c ≤ 10000000000) (hrow : Bd row (b.size + 1) c) (i : Nat) (hi : 1 ≤ i) (hi2 : i ≤ a.size) (ha : a.size ≤ 4200000000) (hv : Rv a b row (b.size + 1) (i - 1)) : ∀ m q : Nat, q + m = b.size + 1 → 1 ≤ q → ∀ nx : List Int, Bd nx q (c + 1) → Rv a b nx q i →
    ∃ r, Ev (fun k => spec_l20Edit.l4 k a b row i nx q) (a, b, (i : Int), r) ∧ Ev (fun k => impl_textDistance.l4 k a b row i nx q) (a, b, (i : Int), r) ∧ Bd r (b.size + 1) (c + 1) ∧ Rv a b r (b.size + 1) i
  | 0, q, h, h1, nx, hn, hnv => by
    refine ⟨nx, Ev.step (fun k => by rw [spec_l20Edit.l4]) ?_, Ev.step (fun k => by rw [impl_textDistance.l4]) ?_, by rw [← h]; exact hn, by rw [← h]; exact hnv⟩
    · simp (disch := omega) only [cneg]; exact Ev.pure _
    · simp (disch := omega) only [cneg]; exact Ev.pure _
  | m + 1, q, h, h1, nx, hn, hnv => by
    have v1 := hv q (by omega)
    have v2 := hv (q - 1) (by omega)
    have v3 := hnv (q - 1) (by omega)
    have v4 := lv_ss (bt a) (bt b) (i - 1) (q - 1)
    rw [show i - 1 + 1 = i by omega, show q - 1 + 1 = q by omega] at v4
    have hrl := hrow.1
    have hnl := hn.1
    obtain ⟨p1, p2⟩ := hrow.2 q (by omega)
    obtain ⟨r1, r2⟩ := hrow.2 (q - 1) (by omega)
    obtain ⟨n1, n2⟩ := hn.2 (q - 1) (by omega)
    have eq1 : ((q : Int) - 1).toNat = q - 1 := by omega
    have ei1 : ((i : Int) - 1).toNat = i - 1 := by omega
    have hr : ∀ x : Int, room (nx.length + ([x] : List Int).length) (.int .i64) = true := fun x => roomI (by simp; omega)
    by_cases cb : bt a (i - 1) = bt b (q - 1)
    · obtain ⟨x, x1, x2, x3, x4, x5⟩ : ∃ x : Int, (if (if row.getD q 0 < nx.getD (q - 1) 0 then row.getD q 0 else nx.getD (q - 1) 0) + 1 < row.getD (q - 1) 0 then (if row.getD q 0 < nx.getD (q - 1) 0 then row.getD q 0 else nx.getD (q - 1) 0) + 1 else row.getD (q - 1) 0) = x ∧
          (if row.getD (q - 1) 0 + 0 < (if nx.getD (q - 1) 0 + 1 < row.getD q 0 + 1 then nx.getD (q - 1) 0 + 1 else row.getD q 0 + 1) then row.getD (q - 1) 0 + 0 else (if nx.getD (q - 1) 0 + 1 < row.getD q 0 + 1 then nx.getD (q - 1) 0 + 1 else row.getD q 0 + 1)) = x ∧ 0 ≤ x ∧ x ≤ c + 1 ∧ x = ((lv (bt a) (bt b) i q : Nat) : Int) := by
        first
          | rw [if_pos cb] at v4
          | rw [if_neg cb] at v4
        refine ⟨_, rfl, ?_, ?_, ?_, ?_⟩
        · repeat' split
          all_goals omega
        · repeat' split
          all_goals omega
        · repeat' split
          all_goals omega
        · repeat' split
          all_goals omega
      obtain ⟨r, e1, e2, e3⟩ := dp_l4 a b hb row c hc hc2 hrow i hi hi2 ha hv m (q + 1) (by omega) (by omega) (nx ++ [x]) (bd_put hn x3 x4) (rv_put hn.1 hnv x5)
      refine ⟨r, Ev.step (fun k => by rw [spec_l20Edit.l4]) ?_, Ev.step (fun k => by rw [impl_textDistance.l4]) ?_, e3⟩
      · simp (disch := omega) only [cpos, Int.toNat_natCast, wrap_in, eq1]
        refine Ev.bind0 (least_ev _ _) ?_
        have b1 : 0 ≤ (if row.getD q 0 < nx.getD (q - 1) 0 then row.getD q 0 else nx.getD (q - 1) 0) ∧ (if row.getD q 0 < nx.getD (q - 1) 0 then row.getD q 0 else nx.getD (q - 1) 0) ≤ c + 1 := by split <;> omega
        simp (disch := first | exact cb | omega) only [cpos, Int.toNat_natCast, wrap_in, ei1, eq1, ceq]
        refine Ev.bind0 (least_ev _ _) ?_
        rw [x1]
        simp (disch := omega) only [hr, cond_true, wrap_in]
        exact e1
      · simp (disch := first | exact cb | omega) only [cpos, Int.toNat_natCast, wrap_in, ei1, eq1, ceq, x2, hr, cond_true]
        exact e2
    · obtain ⟨x, x1, x2, x3, x4, x5⟩ : ∃ x : Int, (if (if row.getD q 0 < nx.getD (q - 1) 0 then row.getD q 0 else nx.getD (q - 1) 0) + 1 < row.getD (q - 1) 0 + 1 then (if row.getD q 0 < nx.getD (q - 1) 0 then row.getD q 0 else nx.getD (q - 1) 0) + 1 else row.getD (q - 1) 0 + 1) = x ∧
          (if row.getD (q - 1) 0 + 1 < (if nx.getD (q - 1) 0 + 1 < row.getD q 0 + 1 then nx.getD (q - 1) 0 + 1 else row.getD q 0 + 1) then row.getD (q - 1) 0 + 1 else (if nx.getD (q - 1) 0 + 1 < row.getD q 0 + 1 then nx.getD (q - 1) 0 + 1 else row.getD q 0 + 1)) = x ∧ 0 ≤ x ∧ x ≤ c + 1 ∧ x = ((lv (bt a) (bt b) i q : Nat) : Int) := by
        first
          | rw [if_pos cb] at v4
          | rw [if_neg cb] at v4
        refine ⟨_, rfl, ?_, ?_, ?_, ?_⟩
        · repeat' split
          all_goals omega
        · repeat' split
          all_goals omega
        · repeat' split
          all_goals omega
        · repeat' split
          all_goals omega
      obtain ⟨r, e1, e2, e3⟩ := dp_l4 a b hb row c hc hc2 hrow i hi hi2 ha hv m (q + 1) (by omega) (by omega) (nx ++ [x]) (bd_put hn x3 x4) (rv_put hn.1 hnv x5)
      refine ⟨r, Ev.step (fun k => by rw [spec_l20Edit.l4]) ?_, Ev.step (fun k => by rw [impl_textDistance.l4]) ?_, e3⟩
      · simp (disch := omega) only [cpos, Int.toNat_natCast, wrap_in, eq1]
        refine Ev.bind0 (least_ev _ _) ?_
        have b1 : 0 ≤ (if row.getD q 0 < nx.getD (q - 1) 0 then row.getD q 0 else nx.getD (q - 1) 0) ∧ (if row.getD q 0 < nx.getD (q - 1) 0 then row.getD q 0 else nx.getD (q - 1) 0) ≤ c + 1 := by split <;> omega
        simp (disch := first | exact cb | omega) only [cpos, Int.toNat_natCast, wrap_in, ei1, eq1, cne]
        refine Ev.bind0 (least_ev _ _) ?_
        rw [x1]
        simp (disch := omega) only [hr, cond_true, wrap_in]
        exact e1
      · simp (disch := first | exact cb | omega) only [cpos, Int.toNat_natCast, wrap_in, ei1, eq1, cne, x2, hr, cond_true]
        exact e2
theorem dp_l2 (a b : ByteArray) (hb : b.size ≤ 100000000) (ha : a.size ≤ 100000000) : ∀ m i : Nat, i + m = a.size + 1 → 1 ≤ i → ∀ row : List Int, Bd row (b.size + 1) ((b.size + i : Nat) : Int) → Rv a b row (b.size + 1) (i - 1) →
    ∃ r, Ev (fun k => spec_l20Edit.l2 k a b row i) (b, r) ∧ Ev (fun k => impl_textDistance.l2 k a b row i) (b, r) ∧ r.length = b.size + 1 ∧ 0 ≤ r.getD b.size 0 ∧ r.getD b.size 0 ≤ 400000000 ∧ r.getD b.size 0 = ((lv (bt a) (bt b) a.size b.size : Nat) : Int)
  | 0, i, h, h1, row, hr, hv => by
    have := hr.2 b.size (by omega)
    refine ⟨row, Ev.step (fun k => by rw [spec_l20Edit.l2]) ?_, Ev.step (fun k => by rw [impl_textDistance.l2]) ?_, hr.1, this.1, by omega, by rw [show a.size = i - 1 by omega]; exact hv _ (by omega)⟩
    · simp (disch := omega) only [cneg]; exact Ev.pure _
    · simp (disch := omega) only [cneg]; exact Ev.pure _
  | m + 1, i, h, h1, row, hr, hv => by
    have hv1 : Rv a b [(i : Int)] 1 i := fun j hj => by
      obtain rfl : j = 0 := by omega
      rw [lv_s0]; rfl
    have hb1 : Bd [(i : Int)] 1 (((b.size + i : Nat) : Int) + 1) := ⟨rfl, fun j hj => by
      obtain rfl : j = 0 := by omega
      show 0 ≤ (i : Int) ∧ (i : Int) ≤ _
      omega⟩
    obtain ⟨nx, n1, n2, n3, n4⟩ := dp_l4 a b hb row ((b.size + i : Nat) : Int) (by omega) (by omega) hr i h1 (by omega) (by omega) hv b.size 1 (by omega) (Nat.le_refl _) [(i : Int)] hb1 hv1
    obtain ⟨r, r1, r2, r3⟩ := dp_l2 a b hb ha m (i + 1) (by omega) (by omega) nx (by
      rw [show ((b.size + (i + 1) : Nat) : Int) = ((b.size + i : Nat) : Int) + 1 by omega]
      exact n3) n4
    refine ⟨r, Ev.step (fun k => by rw [spec_l20Edit.l2]) ?_, Ev.step (fun k => by rw [impl_textDistance.l2]) ?_, r3⟩
    · simp (disch := omega) only [cpos]
      refine Ev.bind n1 ?_
      simp (disch := omega) only [wrap_in]
      exact r1
    · simp (disch := omega) only [cpos]
      refine Ev.bind n2 ?_
      simp (disch := omega) only [wrap_in]
      exact r2
open Classical in
noncomputable def pW (s : ByteArray) : ByteArray := if h : s.size ≤ 40 then (plain_ev s h).choose else ⟨#[]⟩
theorem pW_ev (s : ByteArray) (h : s.size ≤ 40) : Ev (fun k => spec_l20Plain.F k s) (pW s) ∧ Ev (fun k => impl_plainForm.F k s) (pW s) ∧ (pW s).size ≤ 100000000 := by
  unfold pW
  rw [dif_pos h]
  exact (plain_ev s h).choose_spec
noncomputable def dV (s t : ByteArray) : Nat := lv (bt (pW s)) (bt (pW t)) (pW s).size (pW t).size
theorem distv_ev (s t : ByteArray) (hs : s.size ≤ 40) (ht : t.size ≤ 40) : Ev (fun k => spec_l20Distance.F k s t) ((dV s t : Nat) : Int) ∧ Ev (fun k => impl_textDistance.F k s t) ((dV s t : Nat) : Int) := by
  obtain ⟨a1, a2, a3⟩ := pW_ev s hs
  obtain ⟨b1, b2, b3⟩ := pW_ev t ht
  unfold dV
  generalize pW s = a at *
  generalize pW t = b at *
  have h0 : Bd (rowI (b.size + 1)) (b.size + 1) ((b.size + 1 : Nat) : Int) := ⟨rowI_len _, fun j hj => by rw [rowI_get hj]; omega⟩
  have hv : Rv a b (rowI (b.size + 1)) (b.size + 1) (1 - 1) := fun j hj => by rw [rowI_get hj, lv_0]
  obtain ⟨r, r1, r2, r3, r4, r5, r6⟩ := dp_l2 a b b3 a3 a.size 1 (by omega) (Nat.le_refl _) (rowI (b.size + 1)) h0 hv
  rw [← r6]
  refine ⟨?_, ?_⟩
  · unfold spec_l20Distance.F
    refine Ev.bind a1 (Ev.bind b1 (Ev.bind (a := r.getD b.size 0) ?_ (Ev.pure _)))
    unfold spec_l20Edit.F
    refine Ev.bind (specRow a b b3 (b.size + 1) 0 (by omega)) (Ev.bind r1 ?_)
    simp (disch := omega) only [cpos, Int.toNat_natCast]
    exact Ev.pure _
  · unfold impl_textDistance.F
    refine Ev.bind a2 (Ev.bind b2 ?_)
    simp (disch := omega) only [wrap_in]
    refine Ev.bind (implRow a b b3 (b.size + 1) 0 (by omega)) (Ev.bind r2 ?_)
    simp (disch := omega) only [cpos, Int.toNat_natCast]
    exact Ev.pure _
theorem dV_symm (s t : ByteArray) : dV s t = dV t s := lv_symm _ _ _ _ _ (Nat.le_refl _)
theorem dV_self (s : ByteArray) : dV s s = 0 := lv_self _ _
theorem dV_tri (s t u : ByteArray) : dV s u ≤ dV s t + dV t u := lv_tri _ _ _ _ _ _
theorem dV_le (s t : ByteArray) (hs : s.size ≤ 40) (ht : t.size ≤ 40) : dV s t ≤ 200000000 := by
  have h1 := (pW_ev s hs).2.2
  have h2 := (pW_ev t ht).2.2
  have := lv_le (bt (pW s)) (bt (pW t)) _ _ _ (Nat.le_refl ((pW s).size + (pW t).size))
  unfold dV
  omega
end Go.Proofs.YtckcichnmiifkaaGreatDoor
end
section
/- Plain laws: entries that are alike; the parts of a valid entry. -/
namespace Go.Proofs.YtckcichnmiifkaaGreatDoor
open Go.Gx
set_option linter.unusedVariables false
set_option linter.unusedSimpArgs false

/-! ### The parts of a valid entry -/
theorem entryB_parts {e : Entry} (h : entryB e = true) : namesB e.authors = true ∧ textB e.title = true := by
  unfold entryB at h
  simp only [Bool.and_eq_true] at h
  exact ⟨h.2.2.1, h.2.2.2.2.1⟩
theorem textB_size {s : ByteArray} (h : textB s = true) : s.size ≤ 40 := by
  unfold textB at h
  simp only [Bool.and_eq_true, decide_eq_true_eq] at h
  exact h.1
theorem namesB_parts {l : List Name} (h : namesB l = true) : l.length ≤ 4 ∧ ∀ n ∈ l, n.given.length ≤ 3 ∧ ∀ w ∈ n.given, 1 ≤ w.size ∧ w.size ≤ 12 := by
  unfold namesB at h
  rw [Bool.and_eq_true, decide_eq_true_eq, List.all_eq_true] at h
  refine ⟨h.2, fun n hn => ?_⟩
  have := h.1 n hn
  unfold nameB at this
  simp only [Bool.and_eq_true, decide_eq_true_eq, List.all_eq_true] at this
  refine ⟨this.2.1, fun w hw => ?_⟩
  have := this.1 w hw
  unfold gw at this
  rw [Bool.and_eq_true] at this
  have h1 := this.1
  unfold wordB at h1
  rw [Bool.and_eq_true] at h1
  have := ins_le h1.1
  omega

/-! ### Names -/
theorem i1 {n : Nat} (h : n ≠ 1) : ((n : Int) == 1) = false := by rw [beq_eq_false_iff_ne]; omega
theorem ieq {n m : Nat} (h : n ≠ m) : ((n : Int) == (m : Int)) = false := by rw [beq_eq_false_iff_ne]; omega
def fitB (a b : ByteArray) : Bool := beqS a b || ((decide (a.size = 1) && (bt a 0 == bt b 0)) || (decide (b.size = 1) && (bt a 0 == bt b 0)))
theorem fits_ev (a b : ByteArray) (ha : 1 ≤ a.size) (hb : 1 ≤ b.size) : spec_l2Fits.F a b = some (fitB a b) := by
  unfold spec_l2Fits.F fitB
  have z : (0 : Int).toNat = 0 := rfl
  have ea : ((a.size : Int) == 1) = decide (a.size = 1) := by
    by_cases c : a.size = 1
    · rw [decide_eq_true c, c]; rfl
    · rw [decide_eq_false c]; exact i1 c
  have eb : ((b.size : Int) == 1) = decide (b.size = 1) := by
    by_cases c : b.size = 1
    · rw [decide_eq_true c, c]; rfl
    · rw [decide_eq_false c]; exact i1 c
  rw [ea, eb]
  simp (disch := omega) only [cpos, z]
  cases beqS a b <;> cases decide (a.size = 1) <;> cases decide (b.size = 1) <;> cases (bt a 0 == bt b 0) <;> rfl
theorem pre_ev (s p : ByteArray) : strings_HasPrefix.F s p = some (decide ((p.size : Int) ≤ (s.size : Int)) && beqS (s.extract 0 p.size) p) := by
  unfold strings_HasPrefix.F stringslite_HasPrefix.F
  by_cases c : (p.size : Int) ≤ (s.size : Int)
  · simp (disch := omega) only [dpos, cond_true, Int.toNat_natCast, Option.bind_some, Bool.true_and]
  · simp (disch := omega) only [dneg, cond_false, Option.bind_some, Bool.false_and]
theorem pre_one (s p : ByteArray) (hp : p.size = 1) (hs : 1 ≤ s.size) : strings_HasPrefix.F s p = some (bt p 0 == bt s 0) := by
  rw [pre_ev, decide_eq_true (by omega), Bool.true_and, hp]
  congr 1
  rw [beqS_eq, L_extract, List.drop_zero]
  have h1 : ∃ x, L p = [x] := List.length_eq_one_iff.1 hp
  obtain ⟨x, hx⟩ := h1
  obtain ⟨y, l, hy⟩ : ∃ y l, L s = y :: l := by
    cases h : L s with
    | nil => have := L_size s; rw [h] at this; simp at this; omega
    | cons y l => exact ⟨y, l, rfl⟩
  rw [L_bt, L_bt, hx, hy]
  show ([y] == [x]) = ((x.toNat : Int) == (y.toNat : Int))
  by_cases e : x = y
  · subst e; simp
  · have : (x.toNat : Int) ≠ (y.toNat : Int) := fun h => e (UInt8.toNat_inj.1 (by omega))
    rw [show ((x.toNat : Int) == (y.toNat : Int)) = false by simpa using this]
    have : ¬ y = x := fun h => e h.symm
    simpa using this
def mayG (a b : Name) (i : Nat) : Bool := fitB (a.given.getD i ⟨#[]⟩) (b.given.getD i ⟨#[]⟩)
def mayB (a b : Name) : Bool := (List.range' 0 (min a.given.length b.given.length)).all (mayG a b) && (beqS a.particle b.particle && (beqS a.family b.family && beqS a.suffix b.suffix))
theorem getD_mem {xs : List ByteArray} {i : Nat} (h : i < xs.length) : xs.getD i ⟨#[]⟩ ∈ xs := by rw [getD_at h]; exact List.getElem_mem h
theorem specMay_l0 (a b : Name) (ha : a.given.length ≤ 3) (wa : ∀ w ∈ a.given, 1 ≤ w.size ∧ w.size ≤ 12) (wb : ∀ w ∈ b.given, 1 ≤ w.size ∧ w.size ≤ 12) : Ev (fun k => spec_l2May.l0 k a b ((0 : Nat) : Int)) (if (List.range' 0 (min a.given.length b.given.length)).all (mayG a b) = true then .inr (a, b) else .inl false) := by
  refine loop_all (f := fun k i => spec_l2May.l0 k a b i) (n := min a.given.length b.given.length) (fun i hi hp => ?_) (fun i r hi hp ih => ?_) ?_ _ 0 (by omega)
  · refine Ev.step (fun k => by rw [spec_l2May.l0]) ?_
    simp (disch := omega) only [cpos, Int.toNat_natCast]
    refine Ev.bind0 (fits_ev _ _ (wa _ (getD_mem (by omega))).1 (wb _ (getD_mem (by omega))).1) ?_
    unfold mayG at hp
    rw [hp]
    exact Ev.pure _
  · refine Ev.step (fun k => by rw [spec_l2May.l0]) ?_
    simp (disch := omega) only [cpos, Int.toNat_natCast]
    refine Ev.bind0 (fits_ev _ _ (wa _ (getD_mem (by omega))).1 (wb _ (getD_mem (by omega))).1) ?_
    unfold mayG at hp
    rw [hp]
    simp (disch := omega) only [Bool.not_true, cond_false, wrap_in]
    exact ih
  · refine Ev.step (fun k => by rw [spec_l2May.l0]) ?_
    by_cases c : a.given.length ≤ b.given.length
    · simp (disch := omega) only [cneg]
      exact Ev.pure _
    · simp (disch := omega) only [cpos, cneg]
      exact Ev.pure _
theorem isMay_l0 (a b : Name) (ha : a.given.length ≤ 3) (wa : ∀ w ∈ a.given, 1 ≤ w.size ∧ w.size ≤ 12) (wb : ∀ w ∈ b.given, 1 ≤ w.size ∧ w.size ≤ 12) : Ev (fun k => impl_mayBeSame.l0 k a b ((0 : Nat) : Int)) (if (List.range' 0 (min a.given.length b.given.length)).all (mayG a b) = true then .inr () else .inl false) := by
  have hm : (if (b.given.length : Int) < (a.given.length : Int) then (b.given.length : Int) else (a.given.length : Int)) = ((min a.given.length b.given.length : Nat) : Int) := by split <;> omega
  have body : ∀ i : Nat, i < min a.given.length b.given.length → ∀ r, (mayG a b i = true → Ev (fun k => impl_mayBeSame.l0 k a b ((i : Int) + 1)) r) → (mayG a b i = false → r = .inl false) → Ev (fun k => impl_mayBeSame.l0 k a b i) r := fun i hi r h1 h2 => by
    have xa := wa _ (getD_mem (show i < a.given.length by omega))
    have xb := wb _ (getD_mem (show i < b.given.length by omega))
    refine Ev.step (fun k => by rw [impl_mayBeSame.l0]) ?_
    rw [hm]
    simp (disch := omega) only [cpos, Int.toNat_natCast]
    unfold mayG fitB at h1 h2
    revert h1 h2
    generalize a.given.getD i ⟨#[]⟩ = x at xa ⊢
    generalize b.given.getD i ⟨#[]⟩ = y at xb ⊢
    intro h1 h2
    cases e : beqS x y with
    | true =>
      rw [e] at h1
      simp (disch := omega) only [Bool.not_true, cond_false, wrap_in]
      exact h1 rfl
    | false =>
      rw [e, Bool.false_or] at h1 h2
      have q : (bt x 0 == bt y 0) = (bt y 0 == bt x 0) := Bool.eq_iff_iff.2 (by rw [beq_iff_eq, beq_iff_eq]; exact eq_comm)
      by_cases cx : x.size = 1
      · have hx1 : ((x.size : Int) == 1) = true := by rw [cx]; rfl
        simp only [hx1, Bool.not_false, cond_true]
        refine Ev.bind0 (pre_one y x cx xb.1) ?_
        rw [decide_eq_true cx] at h1 h2
        cases eb : (bt x 0 == bt y 0) with
        | true =>
          rw [eb] at h1
          simp (disch := omega) only [Bool.not_true, cond_false, wrap_in]
          exact h1 rfl
        | false =>
          rw [eb] at h2
          have := h2 (by simp)
          subst this
          simp only [Bool.not_false, cond_true]
          by_cases cy : y.size = 1
          · have hy1 : ((y.size : Int) == 1) = true := by rw [cy]; rfl
            simp only [hy1, cond_true]
            refine Ev.bind0 (pre_one x y cy xa.1) ?_
            rw [← q, eb]
            exact Ev.pure _
          · have hy1 : ((y.size : Int) == 1) = false := i1 cy
            simp only [hy1, cond_false]
            exact Ev.pure _
      · have hx1 : ((x.size : Int) == 1) = false := i1 cx
        simp only [hx1, Bool.not_false, cond_true, cond_false]
        rw [decide_eq_false cx] at h1 h2
        by_cases cy : y.size = 1
        · have hy1 : ((y.size : Int) == 1) = true := by rw [cy]; rfl
          rw [decide_eq_true cy] at h1 h2
          simp only [hy1, cond_true]
          refine Ev.bind0 (pre_one x y cy xa.1) ?_
          rw [← q]
          cases eb : (bt x 0 == bt y 0) with
          | true =>
            rw [eb] at h1
            simp (disch := omega) only [Bool.not_true, cond_false, wrap_in]
            exact h1 rfl
          | false =>
            rw [eb] at h2
            rw [h2 rfl]
            exact Ev.pure _
        · have hy1 : ((y.size : Int) == 1) = false := i1 cy
          rw [decide_eq_false cy] at h2
          simp only [hy1, cond_false]
          rw [h2 rfl]
          exact Ev.pure _
  refine loop_all (f := fun k i => impl_mayBeSame.l0 k a b i) (n := min a.given.length b.given.length) (fun i hi hp => ?_) (fun i r hi hp ih => ?_) ?_ _ 0 (by omega)
  · exact body i hi _ (fun h => by rw [hp] at h; cases h) (fun _ => rfl)
  · exact body i hi _ (fun _ => ih) (fun h => by rw [hp] at h; cases h)
  · refine Ev.step (fun k => by rw [impl_mayBeSame.l0]) ?_
    rw [hm]
    simp (disch := omega) only [cneg]
    exact Ev.pure _
theorem specMay_ev (a b : Name) (ha : a.given.length ≤ 3) (wa : ∀ w ∈ a.given, 1 ≤ w.size ∧ w.size ≤ 12) (wb : ∀ w ∈ b.given, 1 ≤ w.size ∧ w.size ≤ 12) : Ev (fun k => spec_l2May.F k a b) (mayB a b) := by
  unfold spec_l2May.F mayB
  have := specMay_l0 a b ha wa wb
  cases h : (List.range' 0 (min a.given.length b.given.length)).all (mayG a b) with
  | false => rw [h] at this; exact Ev.bind this (Ev.pure _)
  | true =>
    rw [h] at this
    refine Ev.bind (a := .inr (a, b)) this ?_
    dsimp only
    cases beqS a.particle b.particle <;> cases beqS a.family b.family <;> exact Ev.pure _
theorem isMay_ev (a b : Name) (ha : a.given.length ≤ 3) (wa : ∀ w ∈ a.given, 1 ≤ w.size ∧ w.size ≤ 12) (wb : ∀ w ∈ b.given, 1 ≤ w.size ∧ w.size ≤ 12) : Ev (fun k => impl_mayBeSame.F k a b) (mayB a b) := by
  unfold impl_mayBeSame.F mayB
  have := isMay_l0 a b ha wa wb
  have e : ∀ c : Bool, Ev (fun k => (impl_mayBeSame.l0 k a b 0).bind fun y4 => match y4 with | .inl z5 => some z5 | .inr z5 => some true) c ↔ Ev (fun k => (impl_mayBeSame.l0 k a b ((0 : Nat) : Int)).bind fun y4 => match y4 with | .inl z5 => some z5 | .inr z5 => some true) c := fun c => Iff.rfl
  have fin : Ev (fun k => (impl_mayBeSame.l0 k a b 0).bind fun y4 => match y4 with | .inl z5 => some z5 | .inr z5 => some true) ((List.range' 0 (min a.given.length b.given.length)).all (mayG a b)) := by
    rw [e]
    cases h : (List.range' 0 (min a.given.length b.given.length)).all (mayG a b) with
    | false => rw [h] at this; exact Ev.bind this (Ev.pure _)
    | true => rw [h] at this; exact Ev.bind this (Ev.pure _)
  cases beqS a.particle b.particle with
  | false => simp only [Bool.not_false, cond_true, Bool.false_and, Bool.and_false]; exact Ev.pure _
  | true =>
    cases beqS a.family b.family with
    | false => simp only [Bool.not_false, Bool.not_true, cond_true, cond_false, Bool.false_and, Bool.and_false]; exact Ev.pure _
    | true =>
      cases beqS a.suffix b.suffix with
      | false => simp only [Bool.not_false, Bool.not_true, cond_true, cond_false, Bool.and_false]; exact Ev.pure _
      | true => simp only [Bool.not_true, cond_false, Bool.and_true]; exact fin

/-! ### People -/
def peG (a b : List Name) (i : Nat) : Bool := mayB (a.getD i (dflt .name)) (b.getD i (dflt .name))
def peopleB (a b : List Name) : Bool := (List.range' 0 (min a.length b.length)).all (peG a b) && decide (a.length = b.length)
theorem nm_at {l : List Name} {i : Nat} (hl : ∀ n ∈ l, n.given.length ≤ 3 ∧ ∀ w ∈ n.given, 1 ≤ w.size ∧ w.size ≤ 12) (h : i < l.length) : (l.getD i (dflt .name)).given.length ≤ 3 ∧ ∀ w ∈ (l.getD i (dflt .name)).given, 1 ≤ w.size ∧ w.size ≤ 12 := by
  rw [getD_at h]; exact hl _ (List.getElem_mem h)
theorem specPeople_ev (a b : List Name) (ha : namesB a = true) (hb : namesB b = true) : Ev (fun k => spec_l2People.F k a b) (peopleB a b) := by
  obtain ⟨a1, a2⟩ := namesB_parts ha
  obtain ⟨b1, b2⟩ := namesB_parts hb
  have loop : Ev (fun k => spec_l2People.l0 k a b ((0 : Nat) : Int)) (if (List.range' 0 (min a.length b.length)).all (peG a b) = true then .inr (a, b) else .inl false) := by
    refine loop_all (f := fun k i => spec_l2People.l0 k a b i) (n := min a.length b.length) (fun i hi hp => ?_) (fun i r hi hp ih => ?_) ?_ _ 0 (by omega)
    · obtain ⟨x1, x2⟩ := nm_at a2 (show i < a.length by omega)
      obtain ⟨y1, y2⟩ := nm_at b2 (show i < b.length by omega)
      refine Ev.step (fun k => by rw [spec_l2People.l0]) ?_
      simp (disch := omega) only [cpos, Int.toNat_natCast]
      refine Ev.bind (specMay_ev _ _ x1 x2 y2) ?_
      unfold peG at hp
      rw [hp]
      exact Ev.pure _
    · obtain ⟨x1, x2⟩ := nm_at a2 (show i < a.length by omega)
      obtain ⟨y1, y2⟩ := nm_at b2 (show i < b.length by omega)
      refine Ev.step (fun k => by rw [spec_l2People.l0]) ?_
      simp (disch := omega) only [cpos, Int.toNat_natCast]
      refine Ev.bind (specMay_ev _ _ x1 x2 y2) ?_
      unfold peG at hp
      rw [hp]
      simp (disch := omega) only [Bool.not_true, cond_false, wrap_in]
      exact ih
    · refine Ev.step (fun k => by rw [spec_l2People.l0]) ?_
      by_cases c : a.length ≤ b.length
      · simp (disch := omega) only [cneg]
        exact Ev.pure _
      · simp (disch := omega) only [cpos, cneg]
        exact Ev.pure _
  unfold spec_l2People.F peopleB
  cases h : (List.range' 0 (min a.length b.length)).all (peG a b) with
  | false => rw [h] at loop; exact Ev.bind loop (Ev.pure _)
  | true =>
    rw [h] at loop
    refine Ev.bind loop ((Ev.pure _).eq ?_)
    show ((a.length : Int) == (b.length : Int)) = _
    by_cases c : a.length = b.length
    · rw [c]; simp
    · rw [ieq c, decide_eq_false c]; rfl
theorem samePeople_ev (a b : List Name) (ha : namesB a = true) (hb : namesB b = true) : Ev (fun k => impl_samePeople.F k a b) (peopleB a b) := by
  obtain ⟨a1, a2⟩ := namesB_parts ha
  obtain ⟨b1, b2⟩ := namesB_parts hb
  unfold impl_samePeople.F peopleB
  by_cases c : a.length = b.length
  · have loop : Ev (fun k => impl_samePeople.l0 k a b a.length ((0 : Nat) : Int)) (if (List.range' 0 (min a.length b.length)).all (peG a b) = true then .inr (a, b) else .inl false) := by
      refine loop_all (f := fun k i => impl_samePeople.l0 k a b a.length i) (n := min a.length b.length) (fun i hi hp => ?_) (fun i r hi hp ih => ?_) ?_ _ 0 (by omega)
      · obtain ⟨x1, x2⟩ := nm_at a2 (show i < a.length by omega)
        obtain ⟨y1, y2⟩ := nm_at b2 (show i < b.length by omega)
        refine Ev.step (fun k => by rw [impl_samePeople.l0]) ?_
        simp (disch := omega) only [cpos, cbeq, Int.toNat_natCast]
        refine Ev.bind (isMay_ev _ _ x1 x2 y2) ?_
        unfold peG at hp
        rw [hp]
        exact Ev.pure _
      · obtain ⟨x1, x2⟩ := nm_at a2 (show i < a.length by omega)
        obtain ⟨y1, y2⟩ := nm_at b2 (show i < b.length by omega)
        refine Ev.step (fun k => by rw [impl_samePeople.l0]) ?_
        simp (disch := omega) only [cpos, cbeq, Int.toNat_natCast]
        refine Ev.bind (isMay_ev _ _ x1 x2 y2) ?_
        unfold peG at hp
        rw [hp]
        simp (disch := omega) only [Bool.not_true, cond_false, wrap_in]
        exact ih
      · refine Ev.step (fun k => by rw [impl_samePeople.l0]) ?_
        simp (disch := omega) only [cneg]
        exact Ev.pure _
    cases h : (List.range' 0 (min a.length b.length)).all (peG a b) with
    | false => rw [h] at loop; exact Ev.bind loop (Ev.pure _)
    | true =>
      rw [h] at loop
      refine Ev.bind loop ((Ev.pure _).eq ?_)
      show ((a.length : Int) == (b.length : Int)) = _
      rw [c]; simp
  · rw [decide_eq_false c, Bool.and_false]
    by_cases z : a.length = 0
    · refine Ev.bind (a := .inr (a, b)) ?_ ?_
      · refine Ev.step (fun k => by rw [impl_samePeople.l0]) ?_
        simp (disch := omega) only [cneg]
        exact Ev.pure _
      · exact (Ev.pure _).eq (ieq c)
    · refine Ev.bind (a := .inl false) ?_ ?_
      · refine Ev.step (fun k => by rw [impl_samePeople.l0]) ?_
        simp (disch := omega) only [cpos, cbne]
        exact Ev.pure _
      · exact Ev.pure _

/-! ### Dates, entries -/
end Go.Proofs.YtckcichnmiifkaaGreatDoor
end
section
/- What the laws draw: cursors, texts, names, dates, entries. -/
namespace Go.Proofs.YtckcichnmiifkaaGreatDoor
open Go.Gx
set_option linter.unusedVariables false
set_option linter.unusedSimpArgs false

theorem EvP.cond {α : Type} {b : Bool} {f g : Nat → Option α} {Q : α → Prop} (h1 : b = true → EvP f Q) (h2 : b = false → EvP g Q) : EvP (fun k => cond b (f k) (g k)) Q := by
  cases b with
  | true => exact h1 rfl
  | false => exact h2 rfl
theorem and255 (z : Int) : 0 ≤ IntKind.wrap .i64 (IntKind.wrap .u64 ((BitVec.ofInt (IntKind.bits .u64) z &&& BitVec.ofInt (IntKind.bits .u64) 255).toNat : Int)) ∧ IntKind.wrap .i64 (IntKind.wrap .u64 ((BitVec.ofInt (IntKind.bits .u64) z &&& BitVec.ofInt (IntKind.bits .u64) 255).toNat : Int)) ≤ 255 := by
  have h1 : (BitVec.ofInt (IntKind.bits .u64) z &&& BitVec.ofInt (IntKind.bits .u64) 255).toNat ≤ 255 := by
    rw [BitVec.toNat_and]
    exact Nat.le_trans Nat.and_le_right (Nat.le_of_eq rfl)
  generalize (BitVec.ofInt (IntKind.bits .u64) z &&& BitVec.ofInt (IntKind.bits .u64) 255).toNat = m at h1
  have h2 : IntKind.wrap .u64 (m : Int) = m := by rw [IntKind.wrap_u64]; omega
  rw [h2, wrap_in (by omega) (by omega)]
  omega
def byt (l : List Int) : Prop := (∀ b ∈ l, 0 ≤ b ∧ b ≤ 255) ∧ l.length ≤ 65536
theorem byt_of {code : List Int} (hw : WF (.sl (.int .u8)) code) (hl : (code.length : Int) ≤ 65536) : byt code := by
  refine ⟨fun b hb => ?_, by omega⟩
  obtain ⟨i, hi, rfl⟩ := List.getElem_of_mem hb
  cases hw with
  | sl _ _ _ h =>
    have := h i hi
    cases this with
    | int _ _ h =>
      have h1 : IntKind.u8.min = 0 := rfl
      have h2 : IntKind.u8.max = 255 := rfl
      simp only [Lit.wf, Bool.and_eq_true, decide_eq_true_eq] at h
      omega
theorem next_ev (c : Cur) (hc : byt c.code) (h0 : 0 ≤ c.at_) (h1 : c.at_ ≤ 1000000) : ∃ c' x, spec_l1Cur_next.F c = some (c', x) ∧ c'.code = c.code ∧ c'.at_ = c.at_ + 1 ∧ 0 ≤ x ∧ x ≤ 255 := by
  unfold spec_l1Cur_next.F
  have hl := hc.2
  have z40 : (decide ((0 : Nat) ≤ 40)) = true := rfl
  by_cases c1 : c.at_ < (c.code.length : Int)
  · have hi : c.at_.toNat < c.code.length := by omega
    have hb : 0 ≤ c.code.getD c.at_.toNat 0 ∧ c.code.getD c.at_.toNat 0 ≤ 255 := by
      have : c.code.getD c.at_.toNat 0 = c.code[c.at_.toNat] := by simp [List.getD, hi]
      rw [this]; exact hc.1 _ (List.getElem_mem hi)
    by_cases c2 : c.at_ + 1 ≤ (c.code.length : Int)
    · refine ⟨⟨c.code, c.at_ + 1, _⟩, _, by simp (disch := omega) only [cpos, wrap_in]; rfl, rfl, rfl, hb⟩
    · omega
  · have c2 : ¬ c.at_ + 1 ≤ (c.code.length : Int) := by omega
    refine ⟨⟨c.code, c.at_ + 1, _⟩, _, by simp (disch := omega) only [cneg, wrap_in, z40, cond_true]; rfl, rfl, rfl, and255 _⟩
theorem pick_ev (c : Cur) (hc : byt c.code) (h0 : 0 ≤ c.at_) (h1 : c.at_ ≤ 1000000) (n : Int) (hn : 1 ≤ n) (hn2 : n ≤ 200) : ∃ c' x, spec_l1Cur_pick.F c n = some (c', x) ∧ c'.code = c.code ∧ 0 ≤ c'.at_ ∧ c'.at_ ≤ c.at_ + 1 ∧ 0 ≤ x ∧ x < n := by
  unfold spec_l1Cur_pick.F
  by_cases c1 : n ≤ 1
  · refine ⟨c, 0, by simp (disch := omega) only [cpos], rfl, h0, by omega, by omega, by omega⟩
  · obtain ⟨c', x, e1, e2, e3, e4, e5⟩ := next_ev c hc h0 h1
    refine ⟨c', Int.tmod x n, ?_, e2, by omega, by omega, Int.tmod_nonneg _ e4, Int.tmod_lt_of_pos _ (by omega)⟩
    have hz : (n == 0) = false := by rw [beq_eq_false_iff_ne]; omega
    simp (disch := omega) only [cneg, e1, Option.bind_some, hz, cond_false]

/-! ### Cursors -/
/-- A cursor that has drawn at most n times. -/
def cu (n : Int) (c : Cur) : Prop := byt c.code ∧ 0 ≤ c.at_ ∧ c.at_ ≤ n
theorem cu.mono {n m : Int} {c : Cur} (h : cu n c) (hn : n ≤ m) : cu m c := ⟨h.1, h.2.1, Int.le_trans h.2.2 hn⟩
theorem cu.start {code : List Int} (h : byt code) : cu 0 ⟨code, 0, 0⟩ := ⟨h, Int.le_refl 0, Int.le_refl 0⟩
section
variable {β : Type} {Q : β → Prop} {n : Int} {c : Cur}
theorem pick_b {m : Int} {g : Nat → Cur × Int → Option β} (h : cu n c) (hn : n ≤ 900000) (h1 : 1 ≤ m) (h2 : m ≤ 200) (hg : ∀ c' x, cu (n + 1) c' → 0 ≤ x → x < m → EvP (fun k => g k (c', x)) Q) : EvP (fun k => (spec_l1Cur_pick.F c m).bind (g k)) Q := by
  obtain ⟨h3, h4, h5⟩ := h
  obtain ⟨c', x, e1, e2, e3, e4, e5, e6⟩ := pick_ev c h3 h4 (by omega) m h1 h2
  exact EvP.of0 e1 (hg c' x ⟨by rw [e2]; exact h3, e3, by omega⟩ e5 e6)
theorem one_b {m : Int} {g : Nat → Cur × Bool → Option β} (h : cu n c) (hn : n ≤ 900000) (h1 : 1 ≤ m) (h2 : m ≤ 200) (hg : ∀ c' x, cu (n + 1) c' → EvP (fun k => g k (c', x)) Q) : EvP (fun k => (spec_l1Cur_one.F c m).bind (g k)) Q := by
  obtain ⟨h3, h4, h5⟩ := h
  obtain ⟨c', x, e1, e2, e3, e4, e5, e6⟩ := pick_ev c h3 h4 (by omega) m h1 h2
  refine EvP.of0 (a := (c', x == 0)) ?_ (hg c' (x == 0) ⟨by rw [e2]; exact h3, e3, by omega⟩)
  unfold spec_l1Cur_one.F
  rw [e1]; rfl
theorem of_b {l : List ByteArray} {g : Nat → Cur × ByteArray → Option β} (h : cu n c) (hn : n ≤ 900000) (h1 : 1 ≤ l.length) (h2 : l.length ≤ 200) (hs : ∀ y ∈ l, y.size ≤ 50) (hg : ∀ c' x, cu (n + 1) c' → x.size ≤ 50 → EvP (fun k => g k (c', x)) Q) : EvP (fun k => (spec_l1Cur_of.F c l).bind (g k)) Q := by
  obtain ⟨h3, h4, h5⟩ := h
  obtain ⟨c', x, e1, e2, e3, e4, e5, e6⟩ := pick_ev c h3 h4 (by omega) (l.length : Int) (by omega) (by omega)
  have hi : x.toNat < l.length := by omega
  refine EvP.of0 (a := (c', l.getD x.toNat ⟨#[]⟩)) ?_ (hg c' _ ⟨by rw [e2]; exact h3, e3, by omega⟩ (by rw [getD_at hi]; exact hs _ (List.getElem_mem hi)))
  unfold spec_l1Cur_of.F
  simp (disch := omega) only [e1, Option.bind_some, cpos]
theorem among_b {l : List Int} {g : Nat → Cur × Int → Option β} (h : cu n c) (hn : n ≤ 900000) (h1 : 1 ≤ l.length) (h2 : l.length ≤ 200) (hg : ∀ c' x, cu (n + 1) c' → EvP (fun k => g k (c', x)) Q) : EvP (fun k => (spec_l1Cur_among.F c l).bind (g k)) Q := by
  obtain ⟨h3, h4, h5⟩ := h
  obtain ⟨c', x, e1, e2, e3, e4, e5, e6⟩ := pick_ev c h3 h4 (by omega) (l.length : Int) (by omega) (by omega)
  have hi : x.toNat < l.length := by omega
  refine EvP.of0 (a := (c', l.getD x.toNat 0)) ?_ (hg c' _ ⟨by rw [e2]; exact h3, e3, by omega⟩)
  unfold spec_l1Cur_among.F
  simp (disch := omega) only [e1, Option.bind_some, cpos]
end
theorem size_app2 (s t : ByteArray) : (s ++ t).size = s.size + t.size := by rw [← L_size, L_append, List.length_append]; rfl
theorem size_ext (s : ByteArray) (a b : Nat) : (s.extract a b).size ≤ s.size := by
  rw [← L_size, L_extract, List.length_drop, List.length_take, L_size]
  omega

/-! ### Dates, texts -/
theorem date_b {n : Int} {c : Cur} (h : cu n c) (hn : n ≤ 800000) : EvP (fun _ => spec_l1Cur_date.F c) fun r => cu (n + 5) r.1 := by
  unfold spec_l1Cur_date.F
  refine among_b h (by omega) (by decide) (by decide) fun c1 x hc1 => ?_
  refine pick_b hc1 (by omega) (by omega) (by omega) fun c2 y hc2 y0 y1 => ?_
  dsimp only
  repeat' refine EvP.cond (fun _ => ?_) (fun _ => ?_)
  all_goals first
    | exact EvP.pure _ (hc2.mono (by omega))
    | (refine pick_b hc2 (by omega) (by omega) (by omega) fun c3 z hc3 z0 z1 => ?_
       dsimp only
       first
         | exact EvP.pure _ (hc3.mono (by omega))
         | (refine pick_b hc3 (by omega) (by omega) (by omega) fun c4 u hc4 u0 u1 => ?_
            exact EvP.pure _ (hc4.mono (by omega))))
theorem date_ev {n : Int} {c : Cur} (h : cu n c) (hn : n ≤ 800000) : ∃ r, spec_l1Cur_date.F c = some r ∧ cu (n + 5) r.1 := by
  obtain ⟨r, ⟨K, hK⟩, hr⟩ := date_b h hn
  exact ⟨r, hK K (Nat.le_refl _), hr⟩
theorem anyDate_b {n : Int} {c : Cur} (h : cu n c) (hn : n ≤ 800000) : EvP (fun _ => spec_l1Cur_anyDate.F c) fun r => cu (n + 10) r.1 := by
  unfold spec_l1Cur_anyDate.F
  obtain ⟨r, e1, h1⟩ := date_ev h hn
  refine EvP.of0 e1 ?_
  refine pick_b h1 (by omega) (by omega) (by omega) fun c2 y hc2 y0 y1 => ?_
  dsimp only
  repeat' refine EvP.cond (fun _ => ?_) (fun _ => ?_)
  all_goals first
    | exact EvP.pure _ (hc2.mono (by omega))
    | (refine among_b hc2 (by omega) (by decide) (by decide) fun c3 z hc3 => ?_
       exact EvP.pure _ (hc3.mono (by omega)))
theorem anyDate_ev {n : Int} {c : Cur} (h : cu n c) (hn : n ≤ 800000) : ∃ r, spec_l1Cur_anyDate.F c = some r ∧ cu (n + 10) r.1 := by
  obtain ⟨r, ⟨K, hK⟩, hr⟩ := anyDate_b h hn
  exact ⟨r, hK K (Nat.le_refl _), hr⟩
theorem spoilt_ev {n : Int} {c : Cur} (h : cu n c) (hn : n ≤ 800000) {t w : ByteArray} (ht : t.size ≤ 100) (hw1 : 1 ≤ w.size) (hw : w.size ≤ 20) : EvP (fun _ => spec_l1Cur_spoilt.F c t w) fun r => cu (n + 3) r.1 ∧ r.2.size ≤ t.size + 20 := by
  unfold spec_l1Cur_spoilt.F
  have z1 : (1 : Int).toNat = 1 := rfl
  have hx := size_ext w
  refine EvP.cond (fun hb => ?_) (fun hb => ?_)
  · simp (disch := omega) only [cpos, z1]
    exact EvP.pure _ ⟨h.mono (by omega), by have := hx 0 1; show (w.extract 0 1).size ≤ _; omega⟩
  · have h0 : 1 ≤ t.size := by
      apply Classical.byContradiction
      intro hc
      have : t = ⟨#[]⟩ := L_inj (List.eq_nil_of_length_eq_zero (by rw [L_size]; omega))
      subst this
      rw [beqS_self] at hb
      cases hb
    refine pick_b h (by omega) (by omega) (by omega) fun c1 x hc1 x0 x1 => ?_
    refine pick_b hc1 (by omega) (by omega) (by omega) fun c2 y hc2 y0 y1 => ?_
    obtain ⟨x, rfl⟩ : ∃ m : Nat, x = m := ⟨x.toNat, by omega⟩
    obtain ⟨y, rfl⟩ : ∃ m : Nat, y = m := ⟨y.toNat, by omega⟩
    dsimp only
    have hy : (w.extract y w.size).size = w.size - y := by
      rw [← L_size, L_extract, List.length_drop, List.length_take, L_size]
      omega
    simp (disch := (try simp only [hy, Int.toNat_natCast]); omega) only [cpos, Int.toNat_natCast]
    refine pick_b hc2 (by omega) (by omega) (by omega) fun c3 u hc3 u0 u1 => ?_
    dsimp only
    have e1 : ∀ a b, (t.extract a b).size ≤ t.size := size_ext t
    have e2 : ∀ v : ByteArray, ((w.extract y w.size).extract 0 v.size).size ≤ w.size := fun v => Nat.le_trans (size_ext _ _ _) (hx _ _)
    have e3 : ((w.extract y w.size).extract 0 1).size ≤ w.size := Nat.le_trans (size_ext _ _ _) (hx _ _)
    have f1 := e1 0 x
    have f2 := e1 x t.size
    have f3 := e1 (x + 1) t.size
    have q1 : (t.extract 0 x).size ≤ x := by rw [← L_size, L_extract, List.length_drop, List.length_take]; omega
    have q2 : (t.extract x t.size).size ≤ t.size - x := by rw [← L_size, L_extract, List.length_drop, List.length_take, L_size]; omega
    have q3 : (t.extract (x + 1) t.size).size ≤ t.size - x := by rw [← L_size, L_extract, List.length_drop, List.length_take, L_size]; omega
    have w1 : IntKind.wrap .i64 ((x : Int) + 1) = ((x + 1 : Nat) : Int) := by rw [wrap_in (by omega) (by omega)]; omega
    refine EvP.cond (fun _ => ?_) (fun _ => EvP.cond (fun _ => ?_) (fun _ => ?_))
    · simp (disch := (try simp only [size_app2]); omega) only [cpos, cble, z1, Int.toNat_natCast]
      exact EvP.pure _ ⟨hc3.mono (by omega), by simp only [size_app2]; omega⟩
    · simp (disch := (try simp only [size_app2]); omega) only [cpos, cble, z1, Int.toNat_natCast, w1]
      exact EvP.pure _ ⟨hc3.mono (by omega), by simp only [size_app2]; omega⟩
    · simp (disch := (try simp only [size_app2]); omega) only [cpos, cble, z1, Int.toNat_natCast, w1]
      exact EvP.pure _ ⟨hc3.mono (by omega), by simp only [size_app2]; omega⟩

/-! ### Names -/
def nameOk (n : Name) : Prop := n.given.length ≤ 8 ∧ (∀ w ∈ n.given, w.size ≤ 50) ∧ n.particle.size ≤ 50 ∧ n.family.size ≤ 50 ∧ n.suffix.size ≤ 50
def namesOk (m : Nat) (l : List Name) : Prop := l.length ≤ m ∧ ∀ n ∈ l, nameOk n
theorem room8 {n : Nat} {τ : Ty} (hn : n ≤ 1000) (ht : nb τ ≤ 1000) : room n τ = true := by
  unfold room
  have : n * nb τ ≤ 1000 * 1000 := Nat.mul_le_mul hn ht
  exact Nat.ble_eq_true_of_le (by omega)
theorem name_l0 : ∀ m : Nat, m ≤ 5 → ∀ {n : Int} {c : Cur}, cu n c → n + m ≤ 800000 → ∀ (q : List ByteArray) (q1 q2 q3 : ByteArray) (g : List ByteArray) (p f s : ByteArray), g.length + m ≤ 6 → (∀ w ∈ g, w.size ≤ 50) →
    EvP (fun k => spec_l1Cur_name.l0 k c q q1 q2 q3 g p f s m) fun r => ∃ g', r.2 = (q, q1, q2, q3, g', p, f, s) ∧ cu (n + m) r.1 ∧ g'.length ≤ 6 ∧ ∀ w ∈ g', w.size ≤ 50
  | 0, _, n, c, hc, hn, q, q1, q2, q3, g, p, f, s, hg, hw => by
    refine EvP.step (fun k => by rw [spec_l1Cur_name.l0]) ?_
    simp (disch := omega) only [cneg]
    exact EvP.pure _ ⟨g, rfl, hc.mono (by omega), by omega, hw⟩
  | m + 1, hm, n, c, hc, hn, q, q1, q2, q3, g, p, f, s, hg, hw => by
    refine EvP.step (fun k => by rw [spec_l1Cur_name.l0]) ?_
    simp (disch := omega) only [cpos]
    refine of_b hc (by omega) (by decide) (by decide) (by decide) fun c1 x hc1 hx => ?_
    dsimp only
    have hr : room (g.length + ([x] : List ByteArray).length) .str = true := room8 (by simp; omega) (by decide)
    rw [show (((m + 1 : Nat) : Int) - 1) = (m : Int) by omega]
    simp (disch := omega) only [hr, cond_true, wrap_in]
    refine EvP.mono (name_l0 m (by omega) hc1 (by omega) q q1 q2 q3 (g ++ [x]) p f s (by simp; omega) fun w h => ?_) fun r hr => ?_
    · rcases List.mem_append.1 h with h | h
      · exact hw w h
      · rw [List.mem_singleton.1 h]; exact hx
    · obtain ⟨g', h1, h2, h3⟩ := hr
      exact ⟨g', h1, h2.mono (by omega), h3⟩
theorem name_b {n : Int} {c : Cur} (h : cu n c) (hn : n ≤ 700000) : EvP (fun k => spec_l1Cur_name.F k c) fun r => cu (n + 10) r.1 ∧ nameOk r.2 ∧ r.2.given.length ≤ 6 := by
  unfold spec_l1Cur_name.F
  simp (disch := decide) only [cpos]
  refine of_b h (by omega) (by decide) (by decide) (by decide) fun c1 x hc1 hx => ?_
  refine pick_b hc1 (by omega) (by omega) (by omega) fun c2 y hc2 y0 y1 => ?_
  obtain ⟨m, rfl⟩ : ∃ m : Nat, y = m := ⟨y.toNat, by omega⟩
  refine EvP.bind (name_l0 m (by omega) hc2 (by omega) [] _ _ _ [] ⟨#[]⟩ x ⟨#[]⟩ (by simp; omega) (by simp)) fun r hr => ?_
  obtain ⟨r1, r2⟩ := r
  obtain ⟨g, rfl, h2, h3, h4⟩ := hr
  have h2 : cu (n + 1 + 1 + m) r1 := h2
  dsimp only
  have z : (⟨#[]⟩ : ByteArray).size ≤ 50 := by decide
  refine one_b h2 (by omega) (by decide) (by decide) fun c3 b3 hc3 => ?_
  refine EvP.cond (fun _ => ?_) (fun _ => ?_)
  · refine of_b hc3 (by omega) (by decide) (by decide) (by decide) fun c4 x4 hc4 hx4 => ?_
    refine one_b hc4 (by omega) (by decide) (by decide) fun c5 b5 hc5 => ?_
    refine EvP.cond (fun _ => ?_) (fun _ => ?_)
    · refine of_b hc5 (by omega) (by decide) (by decide) (by decide) fun c6 x6 hc6 hx6 => ?_
      exact EvP.pure _ ⟨hc6.mono (by omega), ⟨by show g.length ≤ 8; omega, h4, hx4, hx, hx6⟩, h3⟩
    · exact EvP.pure _ ⟨hc5.mono (by omega), ⟨by show g.length ≤ 8; omega, h4, hx4, hx, z⟩, h3⟩
  · refine one_b hc3 (by omega) (by decide) (by decide) fun c5 b5 hc5 => ?_
    refine EvP.cond (fun _ => ?_) (fun _ => ?_)
    · refine of_b hc5 (by omega) (by decide) (by decide) (by decide) fun c6 x6 hc6 hx6 => ?_
      exact EvP.pure _ ⟨hc6.mono (by omega), ⟨by show g.length ≤ 8; omega, h4, z, hx, hx6⟩, h3⟩
    · exact EvP.pure _ ⟨hc5.mono (by omega), ⟨by show g.length ≤ 8; omega, h4, z, hx, z⟩, h3⟩
theorem names_put {m : Nat} {l : List Name} {n : Name} (h : namesOk m l) (hn : nameOk n) : namesOk (m + 1) (l ++ [n]) := by
  refine ⟨by have := h.1; simp; omega, fun x hx => ?_⟩
  rcases List.mem_append.1 hx with hx | hx
  · exact h.2 x hx
  · rw [List.mem_singleton.1 hx]; exact hn
theorem names_l0 : ∀ m : Nat, m ≤ 6 → ∀ {n : Int} {c : Cur}, cu n c → n + 10 * m ≤ 600000 → ∀ (q : Nat) (l : List Name), q + m ≤ 20 → namesOk q l → EvP (fun k => spec_l1Cur_names.l0 k c l m) fun r => cu (n + 10 * m) r.1 ∧ namesOk (q + m) r.2
  | 0, _, n, c, hc, hn, q, l, hq, hl => by
    refine EvP.step (fun k => by rw [spec_l1Cur_names.l0]) ?_
    simp (disch := omega) only [cneg]
    exact EvP.pure _ ⟨hc.mono (by omega), hl⟩
  | m + 1, hm, n, c, hc, hn, q, l, hq, hl => by
    refine EvP.step (fun k => by rw [spec_l1Cur_names.l0]) ?_
    simp (disch := omega) only [cpos]
    refine EvP.bind (name_b hc (by omega)) fun r hr => ?_
    obtain ⟨h1, h2, _⟩ := hr
    have hrm : room (l.length + ([(⟨r.2.given, r.2.particle, r.2.family, r.2.suffix⟩ : Name)] : List Name).length) .name = true := room8 (by have := hl.1; simp; omega) (by decide)
    rw [show (((m + 1 : Nat) : Int) - 1) = (m : Int) by omega]
    simp (disch := omega) only [hrm, cond_true, wrap_in]
    refine EvP.mono (names_l0 m (by omega) h1 (by omega) (q + 1) _ (by omega) (names_put hl (n := ⟨r.2.given, r.2.particle, r.2.family, r.2.suffix⟩) h2)) fun y hy => ⟨hy.1.mono (by omega), ?_⟩
    rw [show q + (m + 1) = q + 1 + m by omega]
    exact hy.2
theorem names_b {n : Int} {c : Cur} (h : cu n c) (hn : n ≤ 500000) : EvP (fun k => spec_l1Cur_names.F k c) fun r => cu (n + 60) r.1 ∧ namesOk 6 r.2 := by
  unfold spec_l1Cur_names.F
  refine pick_b h (by omega) (by omega) (by omega) fun c2 y hc2 y0 y1 => ?_
  obtain ⟨m, rfl⟩ : ∃ m : Nat, y = m := ⟨y.toNat, by omega⟩
  refine EvP.bind (names_l0 m (by omega) hc2 (by omega) 0 [] (by omega) ⟨Nat.le_refl _, fun n h => by cases h⟩) fun r hr => ?_
  exact EvP.pure _ ⟨hr.1.mono (by omega), by have := hr.2.1; show r.2.length ≤ 6; omega, hr.2.2⟩
theorem anyName_b {n : Int} {c : Cur} (h : cu n c) (hn : n ≤ 600000) : EvP (fun k => spec_l1Cur_anyName.F k c) fun r => cu (n + 20) r.1 ∧ nameOk r.2 := by
  unfold spec_l1Cur_anyName.F
  refine EvP.bind (name_b h (by omega)) fun r hr => ?_
  obtain ⟨h1, ⟨g1, g2, g3, g4, g5⟩, h3⟩ := hr
  refine pick_b h1 (by omega) (by omega) (by omega) fun c2 y hc2 y0 y1 => ?_
  dsimp only
  repeat' refine EvP.cond (fun _ => ?_) (fun _ => ?_)
  · refine of_b hc2 (by omega) (by decide) (by decide) (by decide) fun c6 x6 hc6 hx6 => ?_
    exact EvP.pure _ ⟨hc6.mono (by omega), g1, g2, g3, hx6, g5⟩
  · refine of_b hc2 (by omega) (by decide) (by decide) (by decide) fun c6 x6 hc6 hx6 => ?_
    exact EvP.pure _ ⟨hc6.mono (by omega), g1, g2, hx6, g4, g5⟩
  · refine of_b hc2 (by omega) (by decide) (by decide) (by decide) fun c6 x6 hc6 hx6 => ?_
    exact EvP.pure _ ⟨hc6.mono (by omega), g1, g2, g3, g4, hx6⟩
  · refine of_b hc2 (by omega) (by decide) (by decide) (by decide) fun c6 x6 hc6 hx6 => ?_
    dsimp only
    have hrm : room (r.2.given.length + ([x6, (⟨#[69, 118, 101]⟩ : ByteArray)] : List ByteArray).length) .str = true := room8 (by simp; omega) (by decide)
    rw [hrm]
    refine EvP.pure _ ⟨hc6.mono (by omega), ?_, fun w hw => ?_, g3, g4, g5⟩
    · show (r.2.given ++ _).length ≤ 8
      simp; omega
    · rcases List.mem_append.1 hw with hw | hw
      · exact g2 w hw
      · simp only [List.mem_cons, List.not_mem_nil, or_false] at hw
        rcases hw with rfl | rfl
        · exact hx6
        · decide
  · exact EvP.pure _ ⟨hc2.mono (by omega), g1, g2, g3, g4, g5⟩
theorem anyNames_l1 : ∀ m : Nat, m ≤ 6 → ∀ {n : Int} {c : Cur}, cu n c → n + 20 * m ≤ 550000 → ∀ (l : List Name), l.length + m = 6 → namesOk 6 l → EvP (fun k => spec_l1Cur_anyNames.l1 k c l) fun r => cu (n + 20 * m + 20) r.1 ∧ namesOk 7 r.2
  | m, hm, n, c, hc, hn, l, hl, hq => by
    refine EvP.step (fun k => by rw [spec_l1Cur_anyNames.l1]) ?_
    refine pick_b hc (by omega) (by omega) (by omega) fun c1 x hc1 x0 x1 => ?_
    dsimp only
    by_cases h1 : (l.length : Int) < 4 + x
    · simp (disch := omega) only [cpos, wrap_in]
      refine EvP.bind (name_b hc1 (by omega)) fun r hr => ?_
      obtain ⟨h2, h3, _⟩ := hr
      have hrm : room (l.length + ([(⟨r.2.given, r.2.particle, r.2.family, r.2.suffix⟩ : Name)] : List Name).length) .name = true := room8 (by simp; omega) (by decide)
      simp only [hrm, cond_true]
      cases m with
      | zero => omega
      | succ m =>
        have hp := names_put hq (n := ⟨r.2.given, r.2.particle, r.2.family, r.2.suffix⟩) h3
        refine EvP.mono (anyNames_l1 m (by omega) h2 (by omega) _ (by simp; omega) ⟨by simp; omega, hp.2⟩) fun y hy => ⟨hy.1.mono (by omega), hy.2⟩
    · simp (disch := omega) only [cneg, wrap_in]
      exact EvP.pure _ ⟨hc1.mono (by omega), by show l.length ≤ 7; omega, hq.2⟩
theorem anyNames_b {n : Int} {c : Cur} (h : cu n c) (hn : n ≤ 450000) : EvP (fun k => spec_l1Cur_anyNames.F k c) fun r => cu (n + 250) r.1 ∧ namesOk 7 r.2 := by
  unfold spec_l1Cur_anyNames.F
  refine EvP.bind (names_b h (by omega)) fun r hr => ?_
  obtain ⟨h1, h2⟩ := hr
  have hl := h2.1
  refine pick_b h1 (by omega) (by omega) (by omega) fun c1 x hc1 x0 x1 => ?_
  dsimp only
  refine EvP.cond (fun _ => ?_) (fun _ => EvP.cond (fun _ => ?_) (fun _ => ?_))
  · refine EvP.bind (anyName_b hc1 (by omega)) fun y hy => ?_
    have hrm : room (r.2.length + ([(⟨y.2.given, y.2.particle, y.2.family, y.2.suffix⟩ : Name)] : List Name).length) .name = true := room8 (by simp; omega) (by decide)
    simp only [hrm, cond_true]
    exact EvP.pure _ ⟨hy.1.mono (by omega), names_put h2 (n := ⟨y.2.given, y.2.particle, y.2.family, y.2.suffix⟩) hy.2⟩
  · refine EvP.bind (anyNames_l1 (6 - r.2.length) (by omega) hc1 (by omega) r.2 (by omega) h2) fun y hy => ?_
    exact EvP.pure _ ⟨hy.1.mono (by omega), hy.2⟩
  · exact EvP.pure _ ⟨hc1.mono (by omega), by show r.2.length ≤ 7; omega, h2.2⟩
end Go.Proofs.YtckcichnmiifkaaGreatDoor
end
section
/- Plain laws: lower case, the other way. -/
namespace Go.Proofs.YtckcichnmiifkaaGreatDoor
open Go.Gx
set_option linter.unusedVariables false
set_option linter.unusedSimpArgs false

theorem specLower_l0 (s : ByteArray) (hs : s.size ≤ 1048576) : ∀ n i : Nat, i + n = s.size → Ev (fun k => spec_l6Lower.l0 k s (((bytesL s).take i).map lowI) i) ((bytesL s).map lowI)
  | 0, i, h => by
    refine Ev.step (fun k => by rw [spec_l6Lower.l0]) ?_
    simp (disch := omega) only [cneg]
    rw [List.take_of_length_le (by rw [bytesL_len]; omega)]
    exact Ev.pure _
  | n + 1, i, h => by
    have hl := bytesL_len s
    have hi : i < (bytesL s).length := by omega
    refine Ev.step (fun k => by rw [spec_l6Lower.l0]) ?_
    simp (disch := omega) only [cpos, Int.toNat_natCast, bt_bytes s i hi]
    refine Ev.bind0 (specLowerByte_ev _) ?_
    have hr : room ((((bytesL s).take i).map lowI).length + ([lowI (bytesL s)[i]] : List Int).length) (.int .u8) = true := by
      unfold room
      rw [Nat.ble_eq]
      have : nb (.int .u8) = 1 := rfl
      rw [this]
      simp; omega
    simp (disch := omega) only [hr, cond_true, wrap_in]
    have e : ((bytesL s).take i).map lowI ++ [lowI (bytesL s)[i]] = ((bytesL s).take (i + 1)).map lowI := by
      rw [List.take_add_one, List.getElem?_eq_getElem hi]
      simp only [Option.toList_some, List.map_append, List.map_cons, List.map_nil]
    rw [e]
    exact specLower_l0 s hs n (i + 1) (by omega)
theorem specLower_ev (s : ByteArray) (hs : s.size ≤ 1048576) : Ev (fun k => spec_l6Lower.F k s) (lowS s) := by
  unfold spec_l6Lower.F
  exact Ev.bind (specLower_l0 s hs s.size 0 (by omega)) (Ev.pure _)
end Go.Proofs.YtckcichnmiifkaaGreatDoor
end
section
/- What the laws draw: entries, entries near to others, containers. -/
namespace Go.Proofs.YtckcichnmiifkaaGreatDoor
open Go.Gx
set_option linter.unusedVariables false
set_option linter.unusedSimpArgs false
set_option maxRecDepth 4000

/-! ### Entries -/
def entryOk (m : Nat) (e : Entry) : Prop := e.key.size ≤ 200 ∧ e.title.size ≤ m ∧ e.container.size ≤ 200 ∧ e.publisher.size ≤ 200 ∧ e.pages.size ≤ 200 ∧ e.cross.size ≤ 200 ∧ namesOk 8 e.authors ∧ namesOk 8 e.editors
theorem totS_le (l : List ByteArray) (h : ∀ w ∈ l, w.size ≤ 50) : totS l ≤ 50 * l.length := by
  induction l with
  | nil => exact Nat.le_refl _
  | cons x l ih =>
    have h1 := h x List.mem_cons_self
    have h2 := ih fun w hw => h w (List.mem_cons_of_mem _ hw)
    have : totS (x :: l) = x.size + totS l := by simp [totS]
    rw [this, List.length_cons]
    omega
theorem totN_le {n : Name} (h : nameOk n) : totN n ≤ 600 := by
  obtain ⟨h1, h2, h3, h4, h5⟩ := h
  have := totS_le _ h2
  unfold totN
  omega
theorem totNs_le {m : Nat} {l : List Name} (h : namesOk m l) (hm : m ≤ 10) : totNs l ≤ 10000 := by
  have : ∀ l : List Name, (∀ n ∈ l, nameOk n) → (l.map totN).sum ≤ 600 * l.length := fun l => by
    induction l with
    | nil => intro _; exact Nat.le_refl _
    | cons x l ih =>
      intro h
      have h1 := totN_le (h x List.mem_cons_self)
      have h2 := ih fun w hw => h w (List.mem_cons_of_mem _ hw)
      simp only [List.map_cons, List.sum_cons, List.length_cons]
      omega
  have h1 := this l h.2
  have h2 := h.1
  unfold totNs
  omega
theorem entryOk_tot {m : Nat} (hm : m ≤ 200) {e : Entry} (h : entryOk m e) : totE e ≤ 30000 := by
  obtain ⟨h1, h2, h3, h4, h5, h6, h7, h8⟩ := h
  have := totNs_le h7 (by omega)
  have := totNs_le h8 (by omega)
  unfold totE
  omega
theorem entryOk_small {m : Nat} (hm : m ≤ 200) {e : Entry} (h : entryOk m e) : smallE e := by have := entryOk_tot hm h; unfold smallE; omega
theorem ok50 {x : ByteArray} (h : x.size ≤ 50) : x.size ≤ 200 := by omega
theorem namesUp {m k : Nat} {l : List Name} (h : namesOk m l) (hk : m ≤ k) : namesOk k l := ⟨Nat.le_trans h.1 hk, h.2⟩
theorem names0 (k : Nat) : namesOk k ([] : List Name) := ⟨Nat.zero_le _, fun n h => by cases h⟩
/-- What is drawn from the container on. -/
theorem entry_b {n : Int} {c : Cur} (h : cu n c) (hn : n ≤ 400000) : EvP (fun k => spec_l1Cur_entry.F k c) fun r => cu (n + 200) r.1 ∧ entryOk 50 r.2 := by
  unfold spec_l1Cur_entry.F
  refine of_b h (by omega) (by decide) (by decide) (by decide) fun c1 x1 hc1 hx1 => ?_
  refine pick_b hc1 (by omega) (by omega) (by omega) fun c2 x2 hc2 _ _ => ?_
  refine EvP.bind (names_b hc2 (by omega)) fun r3 hr3 => ?_
  obtain ⟨hc3, hn3⟩ := hr3
  refine EvP.of0 (a := [(⟨#[79, 110, 32, 114, 105, 118, 101, 114, 115]⟩ : ByteArray), (⟨#[65, 32, 104, 105, 115, 116, 111, 114, 121, 32, 111, 102, 32, 109, 97, 112, 115]⟩ : ByteArray), (⟨#[84, 104, 101, 32, 110, 111, 114, 116, 104]⟩ : ByteArray), (⟨#[79, 108, 100, 32, 114, 111, 97, 100, 115, 58, 32, 97, 32, 103, 117, 105, 100, 101]⟩ : ByteArray), (⟨#[79, 110, 32, 114, 105, 118, 101, 114, 115]⟩ : ByteArray), (⟨#[]⟩ : ByteArray)]) rfl ?_
  refine of_b hc3 (by omega) (by decide) (by decide) (by decide) fun c5 x5 hc5 hx5 => ?_
  dsimp only
  obtain ⟨r6, e6, hc6⟩ := date_ev hc5 (by omega)
  refine EvP.of0 e6 ?_
  refine one_b hc6 (by omega) (by decide) (by decide) fun c7 b7 hc7 => ?_
  dsimp only
  have a1 := ok50 hx1
  have a5 := hx5
  have n3 := namesUp hn3 (show 6 ≤ 8 by omega)
  have z : (⟨#[]⟩ : ByteArray).size ≤ 200 := by decide
  have n0 := names0 8
  refine EvP.cond (fun _ => ?_) (fun _ => ?_)
  · refine EvP.bind (names_b hc7 (by omega)) fun r8 hr8 => ?_
    obtain ⟨hc8, hn8⟩ := hr8
    have n8 := namesUp hn8 (show 6 ≤ 8 by omega)
    refine one_b hc8 (by omega) (by decide) (by decide) fun c9 b9 hc9 => ?_
    refine EvP.cond (fun _ => ?_) (fun _ => ?_)
    · refine of_b hc9 (by omega) (by decide) (by decide) (by decide) fun c10 x10 hc10 hx10 => ?_
      refine among_b hc10 (by omega) (by decide) (by decide) fun c11 x11 hc11 => ?_
      refine of_b hc11 (by omega) (by decide) (by decide) (by decide) fun c12 x12 hc12 hx12 => ?_
      refine one_b hc12 (by omega) (by decide) (by decide) fun c13 b13 hc13 => ?_
      have a10 := ok50 hx10
      have a12 := ok50 hx12
      refine EvP.cond (fun _ => ?_) (fun _ => ?_)
      · refine of_b hc13 (by omega) (by decide) (by decide) (by decide) fun c14 x14 hc14 hx14 => ?_
        refine one_b hc14 (by omega) (by decide) (by decide) fun c15 b15 hc15 => ?_
        have a14 := ok50 hx14
        refine EvP.cond (fun _ => ?_) (fun _ => ?_)
        · refine of_b hc15 (by omega) (by decide) (by decide) (by decide) fun c16 x16 hc16 hx16 => ?_
          exact EvP.pure _ ⟨hc16.mono (by omega), a1, a5, a10, a14, a12, ok50 hx16, n3, n8⟩
        · exact EvP.pure _ ⟨hc15.mono (by omega), a1, a5, a10, a14, a12, z, n3, n8⟩
      · refine one_b hc13 (by omega) (by decide) (by decide) fun c15 b15 hc15 => ?_
        refine EvP.cond (fun _ => ?_) (fun _ => ?_)
        · refine of_b hc15 (by omega) (by decide) (by decide) (by decide) fun c16 x16 hc16 hx16 => ?_
          exact EvP.pure _ ⟨hc16.mono (by omega), a1, a5, a10, z, a12, ok50 hx16, n3, n8⟩
        · exact EvP.pure _ ⟨hc15.mono (by omega), a1, a5, a10, z, a12, z, n3, n8⟩
    · refine one_b hc9 (by omega) (by decide) (by decide) fun c13 b13 hc13 => ?_
      refine EvP.cond (fun _ => ?_) (fun _ => ?_)
      · refine of_b hc13 (by omega) (by decide) (by decide) (by decide) fun c14 x14 hc14 hx14 => ?_
        refine one_b hc14 (by omega) (by decide) (by decide) fun c15 b15 hc15 => ?_
        have a14 := ok50 hx14
        refine EvP.cond (fun _ => ?_) (fun _ => ?_)
        · refine of_b hc15 (by omega) (by decide) (by decide) (by decide) fun c16 x16 hc16 hx16 => ?_
          exact EvP.pure _ ⟨hc16.mono (by omega), a1, a5, z, a14, z, ok50 hx16, n3, n8⟩
        · exact EvP.pure _ ⟨hc15.mono (by omega), a1, a5, z, a14, z, z, n3, n8⟩
      · refine one_b hc13 (by omega) (by decide) (by decide) fun c15 b15 hc15 => ?_
        refine EvP.cond (fun _ => ?_) (fun _ => ?_)
        · refine of_b hc15 (by omega) (by decide) (by decide) (by decide) fun c16 x16 hc16 hx16 => ?_
          exact EvP.pure _ ⟨hc16.mono (by omega), a1, a5, z, z, z, ok50 hx16, n3, n8⟩
        · exact EvP.pure _ ⟨hc15.mono (by omega), a1, a5, z, z, z, z, n3, n8⟩
  · refine one_b hc7 (by omega) (by decide) (by decide) fun c9 b9 hc9 => ?_
    refine EvP.cond (fun _ => ?_) (fun _ => ?_)
    · refine of_b hc9 (by omega) (by decide) (by decide) (by decide) fun c10 x10 hc10 hx10 => ?_
      refine among_b hc10 (by omega) (by decide) (by decide) fun c11 x11 hc11 => ?_
      refine of_b hc11 (by omega) (by decide) (by decide) (by decide) fun c12 x12 hc12 hx12 => ?_
      refine one_b hc12 (by omega) (by decide) (by decide) fun c13 b13 hc13 => ?_
      have a10 := ok50 hx10
      have a12 := ok50 hx12
      refine EvP.cond (fun _ => ?_) (fun _ => ?_)
      · refine of_b hc13 (by omega) (by decide) (by decide) (by decide) fun c14 x14 hc14 hx14 => ?_
        refine one_b hc14 (by omega) (by decide) (by decide) fun c15 b15 hc15 => ?_
        have a14 := ok50 hx14
        refine EvP.cond (fun _ => ?_) (fun _ => ?_)
        · refine of_b hc15 (by omega) (by decide) (by decide) (by decide) fun c16 x16 hc16 hx16 => ?_
          exact EvP.pure _ ⟨hc16.mono (by omega), a1, a5, a10, a14, a12, ok50 hx16, n3, n0⟩
        · exact EvP.pure _ ⟨hc15.mono (by omega), a1, a5, a10, a14, a12, z, n3, n0⟩
      · refine one_b hc13 (by omega) (by decide) (by decide) fun c15 b15 hc15 => ?_
        refine EvP.cond (fun _ => ?_) (fun _ => ?_)
        · refine of_b hc15 (by omega) (by decide) (by decide) (by decide) fun c16 x16 hc16 hx16 => ?_
          exact EvP.pure _ ⟨hc16.mono (by omega), a1, a5, a10, z, a12, ok50 hx16, n3, n0⟩
        · exact EvP.pure _ ⟨hc15.mono (by omega), a1, a5, a10, z, a12, z, n3, n0⟩
    · refine one_b hc9 (by omega) (by decide) (by decide) fun c13 b13 hc13 => ?_
      refine EvP.cond (fun _ => ?_) (fun _ => ?_)
      · refine of_b hc13 (by omega) (by decide) (by decide) (by decide) fun c14 x14 hc14 hx14 => ?_
        refine one_b hc14 (by omega) (by decide) (by decide) fun c15 b15 hc15 => ?_
        have a14 := ok50 hx14
        refine EvP.cond (fun _ => ?_) (fun _ => ?_)
        · refine of_b hc15 (by omega) (by decide) (by decide) (by decide) fun c16 x16 hc16 hx16 => ?_
          exact EvP.pure _ ⟨hc16.mono (by omega), a1, a5, z, a14, z, ok50 hx16, n3, n0⟩
        · exact EvP.pure _ ⟨hc15.mono (by omega), a1, a5, z, a14, z, z, n3, n0⟩
      · refine one_b hc13 (by omega) (by decide) (by decide) fun c15 b15 hc15 => ?_
        refine EvP.cond (fun _ => ?_) (fun _ => ?_)
        · refine of_b hc15 (by omega) (by decide) (by decide) (by decide) fun c16 x16 hc16 hx16 => ?_
          exact EvP.pure _ ⟨hc16.mono (by omega), a1, a5, z, z, z, ok50 hx16, n3, n0⟩
        · exact EvP.pure _ ⟨hc15.mono (by omega), a1, a5, z, z, z, z, n3, n0⟩
theorem anyEntry_b {n : Int} {c : Cur} (h : cu n c) (hn : n ≤ 300000) : EvP (fun k => spec_l1Cur_anyEntry.F k c) fun r => cu (n + 500) r.1 ∧ entryOk 50 r.2 := by
  unfold spec_l1Cur_anyEntry.F
  refine EvP.bind (entry_b h (by omega)) fun r hr => ?_
  obtain ⟨h1, g1, g2, g3, g4, g5, g6, g7, g8⟩ := hr
  refine pick_b h1 (by omega) (by omega) (by omega) fun c2 y hc2 y0 y1 => ?_
  dsimp only
  refine EvP.cond (fun _ => ?_) (fun _ => EvP.cond (fun _ => ?_) (fun _ => EvP.cond (fun _ => ?_) (fun _ => EvP.cond (fun _ => ?_) (fun _ => EvP.cond (fun _ => ?_) (fun _ => EvP.cond (fun _ => ?_) (fun _ => EvP.cond (fun _ => ?_) (fun _ => EvP.cond (fun _ => ?_) (fun _ => ?_))))))))
  · refine of_b hc2 (by omega) (by decide) (by decide) (by decide) fun c6 x6 hc6 hx6 => ?_
    exact EvP.pure _ ⟨hc6.mono (by omega), ok50 hx6, g2, g3, g4, g5, g6, g7, g8⟩
  · refine pick_b hc2 (by omega) (by omega) (by omega) fun c6 x6 hc6 _ _ => ?_
    exact EvP.pure _ ⟨hc6.mono (by omega), g1, g2, g3, g4, g5, g6, g7, g8⟩
  · refine EvP.bind (anyNames_b hc2 (by omega)) fun q hq => ?_
    exact EvP.pure _ ⟨hq.1.mono (by omega), g1, g2, g3, g4, g5, g6, namesUp hq.2 (by omega), g8⟩
  · refine of_b hc2 (by omega) (by decide) (by decide) (by decide) fun c6 x6 hc6 hx6 => ?_
    exact EvP.pure _ ⟨hc6.mono (by omega), g1, hx6, g3, g4, g5, g6, g7, g8⟩
  · obtain ⟨r6, e6, hc6⟩ := anyDate_ev hc2 (by omega)
    refine EvP.of0 e6 ?_
    exact EvP.pure _ ⟨hc6.mono (by omega), g1, g2, g3, g4, g5, g6, g7, g8⟩
  · refine among_b hc2 (by omega) (by decide) (by decide) fun c6 x6 hc6 => ?_
    exact EvP.pure _ ⟨hc6.mono (by omega), g1, g2, g3, g4, g5, g6, g7, g8⟩
  · obtain ⟨k1, k2, k3⟩ := hc2
    obtain ⟨c', x, e1, e2, e3, e4, e5, e6⟩ := pick_ev c2 k1 k2 (by omega) 3 (by omega) (by omega)
    have hi : x.toNat < 3 := by omega
    refine EvP.of0 (a := (c', ([r.2.key, (⟨#[65]⟩ : ByteArray), (⟨#[98, 50]⟩ : ByteArray)]).getD x.toNat ⟨#[]⟩)) ?_ (EvP.pure _ ⟨⟨by rw [e2]; exact k1, e3, by show c'.at_ ≤ _; omega⟩, g1, g2, g3, g4, g5, ?_, g7, g8⟩)
    · unfold spec_l1Cur_of.F
      have hl : (([r.2.key, (⟨#[65]⟩ : ByteArray), (⟨#[98, 50]⟩ : ByteArray)]).length : Int) = 3 := rfl
      rw [hl, e1]
      simp (disch := omega) only [Option.bind_some, cpos]
    · show (([r.2.key, (⟨#[65]⟩ : ByteArray), (⟨#[98, 50]⟩ : ByteArray)]).getD x.toNat ⟨#[]⟩).size ≤ 200
      match x.toNat, hi with
      | 0, _ => exact g1
      | 1, _ => show (⟨#[65]⟩ : ByteArray).size ≤ 200; decide
      | 2, _ => show (⟨#[98, 50]⟩ : ByteArray).size ≤ 200; decide
  · refine EvP.bind (anyNames_b hc2 (by omega)) fun q hq => ?_
    exact EvP.pure _ ⟨hq.1.mono (by omega), g1, g2, g3, g4, g5, g6, g7, namesUp hq.2 (by omega)⟩
  · exact EvP.pure _ ⟨hc2.mono (by omega), g1, g2, g3, g4, g5, g6, g7, g8⟩

/-! ### Copies, entries near to others -/
theorem ownN_l0 (xs : List Name) (hx : namesOk 8 xs) : ∀ n i : Nat, i + n = xs.length → Ev (fun k => spec_l2Own.l0 k xs (xs.take i) i) xs
  | 0, i, h => by
    refine Ev.step (fun k => by rw [spec_l2Own.l0]) ?_
    simp (disch := omega) only [cneg]
    rw [List.take_of_length_le (by omega)]
    exact Ev.pure _
  | n + 1, i, h => by
    have hl := hx.1
    have hi : i < xs.length := by omega
    have hg := (hx.2 _ (List.getElem_mem hi)).1
    have e : xs.getD i (dflt .name) = xs[i] := getD_at hi _
    have r1 : ∀ (g : List ByteArray), g.length ≤ 8 → room (([] : List ByteArray).length + g.length) .str = true := fun g hg => room8 (by simp; omega) (by decide)
    have r2 : ∀ x : Name, room ((xs.take i).length + ([x] : List Name).length) .name = true := fun x => room8 (by simp; omega) (by decide)
    refine Ev.step (fun k => by rw [spec_l2Own.l0]) ?_
    simp (disch := omega) only [cpos, Int.toNat_natCast, e, r1 _ hg, r2, cond_true, wrap_in, List.nil_append]
    have : xs.take i ++ [xs[i]] = xs.take (i + 1) := by simp
    rw [show (⟨xs[i].given, xs[i].particle, xs[i].family, xs[i].suffix⟩ : Name) = xs[i] from rfl, this]
    exact ownN_l0 xs hx n (i + 1) (by omega)
theorem ownN_ev (xs : List Name) (hx : namesOk 8 xs) : Ev (fun k => spec_l2Own.F k xs) xs := by
  unfold spec_l2Own.F
  exact Ev.bind (ownN_l0 xs hx xs.length 0 (by omega)) (Ev.pure _)
theorem copyE_ev {m : Nat} (e : Entry) (h : entryOk m e) : Ev (fun k => spec_l4Copy.F k e) e := by
  obtain ⟨h1, h2, h3, h4, h5, h6, h7, h8⟩ := h
  unfold spec_l4Copy.F
  exact Ev.bind (ownN_ev _ h7) (Ev.bind (ownN_ev _ h8) (Ev.pure _))
theorem entryOk.up {m k : Nat} {e : Entry} (h : entryOk m e) (hk : m ≤ k) : entryOk k e := ⟨h.1, Nat.le_trans h.2.1 hk, h.2.2⟩
theorem near_b {n : Int} {c : Cur} (h : cu n c) (hn : n ≤ 200000) {m : Nat} (hm : m ≤ 100) (h50 : 50 ≤ m) {e : Entry} (he : entryOk m e) : EvP (fun k => spec_l1Cur_near20.F k c e) fun r => cu (n + 600) r.1 ∧ entryOk (m + 20) r.2 := by
  unfold spec_l1Cur_near20.F
  obtain ⟨g1, g2, g3, g4, g5, g6, g7, g8⟩ := he
  have g2' : e.title.size ≤ m + 20 := by omega
  have z : (⟨#[]⟩ : ByteArray).size ≤ 200 := by decide
  refine EvP.of (copyE_ev (m := m) e ⟨g1, g2, g3, g4, g5, g6, g7, g8⟩) ?_
  refine pick_b h (by omega) (by omega) (by omega) fun c2 y hc2 y0 y1 => ?_
  dsimp only
  refine EvP.cond (fun _ => ?_) (fun _ => EvP.cond (fun _ => ?_) (fun _ => EvP.cond (fun _ => ?_) (fun _ => EvP.cond (fun _ => ?_) (fun _ => EvP.cond (fun _ => ?_) (fun _ => EvP.cond (fun _ => ?_) (fun _ => ?_))))))
  · obtain ⟨r, ⟨K, hK⟩, hr1, hr2⟩ := spoilt_ev hc2 (by omega) (t := e.title) (w := ⟨#[97, 66, 32, 45]⟩) (by omega) (by decide) (by decide)
    refine EvP.of0 (hK K (Nat.le_refl _)) (EvP.pure _ ⟨hr1.mono (by omega), g1, ?_, g3, g4, g5, g6, g7, g8⟩)
    show r.2.size ≤ m + 20
    omega
  · refine EvP.of (specLower_ev e.title (by omega)) (EvP.pure _ ⟨hc2.mono (by omega), g1, ?_, g3, g4, g5, g6, g7, g8⟩)
    show (lowS e.title).size ≤ m + 20
    have : (lowS e.title).size = e.title.size := lowS_size _
    omega
  · obtain ⟨r6, e6, hc6⟩ := date_ev hc2 (by omega)
    exact EvP.of0 e6 (EvP.pure _ ⟨hc6.mono (by omega), g1, g2', g3, g4, g5, g6, g7, g8⟩)
  · refine EvP.bind (names_b hc2 (by omega)) fun q hq => ?_
    exact EvP.pure _ ⟨hq.1.mono (by omega), g1, g2', g3, g4, g5, g6, namesUp hq.2 (by omega), g8⟩
  · refine EvP.bind (anyEntry_b hc2 (by omega)) fun q hq => ?_
    exact EvP.pure _ ⟨hq.1.mono (by omega), hq.2.up (by omega)⟩
  · exact EvP.pure _ ⟨hc2.mono (by omega), g1, g2', g3, z, g5, g6, g7, g8⟩
  · exact EvP.pure _ ⟨hc2.mono (by omega), g1, g2', g3, g4, g5, g6, g7, g8⟩

/-! ### Containers -/
theorem container_l0 : ∀ m : Nat, m ≤ 6 → ∀ {n : Int} {c : Cur}, cu n c → n + m ≤ 500000 → ∀ (s : ByteArray), s.size + 60 * m ≤ 1000 → EvP (fun k => spec_l1Cur_container.l0 k c s m) fun r => cu (n + m) r.1 ∧ r.2.size ≤ s.size + 60 * m
  | 0, _, n, c, hc, hn, s, hs => by
    refine EvP.step (fun k => by rw [spec_l1Cur_container.l0]) ?_
    simp (disch := omega) only [cneg]
    exact EvP.pure _ ⟨hc.mono (by omega), by show s.size ≤ _; omega⟩
  | m + 1, hm, n, c, hc, hn, s, hs => by
    have e32 : (⟨#[32]⟩ : ByteArray).size = 1 := rfl
    refine EvP.step (fun k => by rw [spec_l1Cur_container.l0]) ?_
    simp (disch := omega) only [cpos]
    refine EvP.cond (fun _ => ?_) (fun _ => ?_)
    · simp (disch := (try simp only [e32]); omega) only [cble]
      refine of_b hc (by omega) (by decide) (by decide) (by decide) fun c1 x hc1 hx => ?_
      dsimp only
      rw [show (((m + 1 : Nat) : Int) - 1) = (m : Int) by omega]
      simp (disch := (try simp only [size_app2, e32]); omega) only [cble, wrap_in]
      refine EvP.mono (container_l0 m (by omega) hc1 (by omega) (s ++ ⟨#[32]⟩ ++ x) (by simp only [size_app2, e32]; omega)) fun r hr => ⟨hr.1.mono (by omega), ?_⟩
      have := hr.2
      simp only [size_app2, e32] at this
      omega
    · refine of_b hc (by omega) (by decide) (by decide) (by decide) fun c1 x hc1 hx => ?_
      dsimp only
      rw [show (((m + 1 : Nat) : Int) - 1) = (m : Int) by omega]
      simp (disch := (try simp only [size_app2, e32]); omega) only [cble, wrap_in]
      refine EvP.mono (container_l0 m (by omega) hc1 (by omega) (s ++ x) (by simp only [size_app2, e32]; omega)) fun r hr => ⟨hr.1.mono (by omega), ?_⟩
      have := hr.2
      simp only [size_app2, e32] at this
      omega
theorem container_b {n : Int} {c : Cur} (h : cu n c) (hn : n ≤ 400000) : EvP (fun k => spec_l1Cur_container.F k c) fun r => cu (n + 10) r.1 ∧ r.2.size ≤ 100 := by
  unfold spec_l1Cur_container.F
  have z20 : (20 : Int).toNat = 20 := rfl
  have e120 : (⟨#[120]⟩ : ByteArray).size = 1 := rfl
  refine pick_b h (by omega) (by omega) (by omega) fun c2 y hc2 y0 y1 => ?_
  obtain ⟨m, rfl⟩ : ∃ m : Nat, y = m := ⟨y.toNat, by omega⟩
  dsimp only
  rw [wrap_in (by omega) (by omega), show (1 + (m : Int)) = ((m + 1 : Nat) : Int) by omega]
  refine EvP.bind (container_l0 (m + 1) (by omega) hc2 (by omega) ⟨#[]⟩ (by have : (⟨#[]⟩ : ByteArray).size = 0 := rfl; omega)) fun r hr => ?_
  obtain ⟨h1, h2⟩ := hr
  have z0 : (⟨#[]⟩ : ByteArray).size = 0 := rfl
  have tail : ∀ (t : ByteArray), t.size ≤ 41 → ∀ {c : Cur}, cu (n + 1 + ((m + 1 : Nat) : Int)) c → EvP (fun k => (spec_l1Cur_pick.F c 40).bind fun r7 => bif (r7.2 == 0) then (some (r7.1, (⟨#[]⟩ : ByteArray))) else (bif (r7.2 == 1) then ((spec_l1Cur_of.F r7.1 ([(⟨#[32]⟩ : ByteArray), (⟨#[9]⟩ : ByteArray)] : List ByteArray)).bind fun r8 => bif Nat.ble (t.size + r8.2.size) 9223372036854775807 then (some (r8.1, (t ++ r8.2))) else none) else (bif (r7.2 == 2) then (some (r7.1, (⟨#[111, 102, 32, 32, 84, 104, 101]⟩ : ByteArray))) else (some (r7.1, t))))) fun r => cu (n + 10) r.1 ∧ r.2.size ≤ 100 := fun t ht {c} hc => by
    refine pick_b hc (by omega) (by omega) (by omega) fun c4 y4 hc4 _ _ => ?_
    dsimp only
    refine EvP.cond (fun _ => ?_) (fun _ => EvP.cond (fun _ => ?_) (fun _ => EvP.cond (fun _ => ?_) (fun _ => ?_)))
    · exact EvP.pure _ ⟨hc4.mono (by omega), by show (⟨#[]⟩ : ByteArray).size ≤ 100; decide⟩
    · refine of_b hc4 (by omega) (by decide) (by decide) (by decide) fun c5 x5 hc5 hx5 => ?_
      dsimp only
      simp (disch := omega) only [cble]
      exact EvP.pure _ ⟨hc5.mono (by omega), by show (t ++ x5).size ≤ 100; rw [size_app2]; omega⟩
    · exact EvP.pure _ ⟨hc4.mono (by omega), by show (⟨#[111, 102, 32, 32, 84, 104, 101]⟩ : ByteArray).size ≤ 100; decide⟩
    · exact EvP.pure _ ⟨hc4.mono (by omega), by show t.size ≤ 100; omega⟩
  by_cases c1 : (r.2.size : Int) > 40
  · have hx : (r.2.extract 0 20).size ≤ 20 := by rw [← L_size, L_extract, List.length_drop, List.length_take]; omega
    simp (disch := (try simp only [e120]); omega) only [cpos, z20, cble]
    have := tail (r.2.extract 0 20 ++ ⟨#[120]⟩) (by rw [size_app2, e120]; omega) h1
    exact this
  · simp (disch := omega) only [cneg]
    exact tail r.2 (by omega) h1
theorem drawTD_b {code : List Int} (h : byt code) : EvP (fun k => spec_DrawTextDistance.F k code) fun _ => True := by
  unfold spec_DrawTextDistance.F
  refine EvP.bind (container_b (cu.start h) (by omega)) fun r1 hr1 => ?_
  refine EvP.bind (container_b hr1.1 (by omega)) fun r2 hr2 => ?_
  refine one_b hr2.1 (by omega) (by decide) (by decide) fun c3 b3 hc3 => ?_
  refine EvP.cond (fun _ => ?_) (fun _ => EvP.pure _ trivial)
  obtain ⟨r, ⟨K, hK⟩, hr3, hr4⟩ := spoilt_ev hc3 (by omega) (t := r1.2) (w := ⟨#[84, 120, 32, 45]⟩) hr1.2 (by decide) (by decide)
  exact EvP.of0 (hK K (Nat.le_refl _)) (EvP.pure _ trivial)
theorem drawAA_b {code : List Int} (h : byt code) : EvP (fun k => spec_DrawAreAlike.F k code) fun r => entryOk 50 r.1 ∧ entryOk 70 r.2.1 := by
  unfold spec_DrawAreAlike.F
  refine EvP.bind (anyEntry_b (cu.start h) (by omega)) fun r1 hr1 => ?_
  refine EvP.bind (near_b hr1.1 (by omega) (by omega) (Nat.le_refl 50) hr1.2) fun r2 hr2 => ?_
  refine pick_b hr2.1 (by omega) (by omega) (by omega) fun c4 y4 hc4 y0 y1 => ?_
  dsimp only
  have hq : 0 ≤ Int.tdiv y4 11 ∧ Int.tdiv y4 11 ≤ 2 := by
    rw [Int.tdiv_eq_ediv_of_nonneg y0]
    omega
  simp only [show ((11 : Nat) == 0) = false from rfl, cond_false]
  rw [wrap_in (x := Int.tdiv y4 11) (by omega) (by omega), wrap_in (by omega) (by omega)]
  obtain ⟨m, hm⟩ : ∃ m : Nat, 5 + Int.tdiv y4 11 = m := ⟨(5 + Int.tdiv y4 11).toNat, by omega⟩
  have h7 : (([0, 1, 2, 5, 40, (-1), 41] : List Int).length : Int) = 7 := rfl
  rw [hm, h7]
  simp (disch := omega) only [cpos, Int.toNat_natCast]
  refine among_b hc4 (by omega) (by simp; omega) (by simp; omega) fun c5 x5 hc5 => ?_
  exact EvP.pure _ ⟨hr1.2, hr2.2⟩
theorem drawDA_b {code : List Int} (h : byt code) : EvP (fun _ => spec_DrawDatesAgree.F code) fun _ => True := by
  unfold spec_DrawDatesAgree.F
  obtain ⟨r, e1, h1⟩ := anyDate_ev (cu.start h) (by omega)
  refine EvP.of0 e1 ?_
  refine pick_b h1 (by omega) (by omega) (by omega) fun c2 y hc2 y0 y1 => ?_
  dsimp only
  refine EvP.cond (fun _ => ?_) (fun _ => EvP.cond (fun _ => ?_) (fun _ => EvP.cond (fun _ => ?_) (fun _ => EvP.cond (fun _ => ?_) (fun _ => ?_))))
  · exact EvP.pure _ trivial
  · exact EvP.pure _ trivial
  · obtain ⟨r2, e2, h2⟩ := anyDate_ev hc2 (by omega)
    exact EvP.of0 e2 (EvP.pure _ trivial)
  · exact EvP.pure _ trivial
  · exact EvP.pure _ trivial
end Go.Proofs.YtckcichnmiifkaaGreatDoor
end
section
/- The plain law of FnDistances. -/
namespace Go.Proofs.YtckcichnmiifkaaGreatDoor
open Go.Gx
set_option linter.unusedVariables false
set_option linter.unusedSimpArgs false

/-! ### Texts -/
noncomputable def tdV (s t : ByteArray) : Int × Bool := bif textB s && textB t then (((dV s t : Nat) : Int), true) else (0, false)
theorem td_ev (s t : ByteArray) : Ev (fun k => spec_TextDistance.F k s t) (tdV s t) ∧ Ev (fun k => impl_TextDistance.F k s t) (tdV s t) := by
  have s1 := specText_ev s
  have s2 := isText_ev s
  have t1 := specText_ev t
  have t2 := isText_ev t
  unfold spec_TextDistance.F impl_TextDistance.F tdV
  cases hs : textB s with
  | false =>
    rw [hs] at s1 s2
    exact ⟨Ev.bind s1 (Ev.pure _), Ev.bind s2 (Ev.pure _)⟩
  | true =>
    rw [hs] at s1 s2
    cases ht : textB t with
    | false =>
      rw [ht] at t1 t2
      exact ⟨Ev.bind s1 (Ev.bind t1 (Ev.pure _)), Ev.bind s2 (Ev.bind t2 (Ev.pure _))⟩
    | true =>
      rw [ht] at t1 t2
      obtain ⟨d1, d2⟩ := distv_ev s t (textB_size hs) (textB_size ht)
      exact ⟨Ev.bind s1 (Ev.bind t1 (Ev.bind d1 (Ev.pure _))), Ev.bind s2 (Ev.bind t2 (Ev.bind d2 (Ev.pure _)))⟩

/-! ### Names, dates -/
theorem beqS_symm (s t : ByteArray) : beqS s t = beqS t s := by
  rw [Bool.eq_iff_iff, beqS_iff, beqS_iff]
  exact ⟨Eq.symm, Eq.symm⟩
theorem beqI_symm (x y : Int) : (x == y) = (y == x) := by
  rw [Bool.eq_iff_iff]
  simp only [beq_iff_eq]
  exact ⟨Eq.symm, Eq.symm⟩
theorem fitB_symm (a b : ByteArray) : fitB a b = fitB b a := by
  unfold fitB
  rw [beqS_symm b a, beqI_symm (bt b 0)]
  cases beqS a b <;> cases decide (a.size = 1) <;> cases decide (b.size = 1) <;> cases (bt a 0 == bt b 0) <;> rfl
theorem mayB_symm (a b : Name) : mayB a b = mayB b a := by
  have : mayG a b = mayG b a := funext fun i => fitB_symm _ _
  unfold mayB
  rw [this, Nat.min_comm, beqS_symm a.particle, beqS_symm a.family, beqS_symm a.suffix]
theorem peopleB_symm (a b : List Name) : peopleB a b = peopleB b a := by
  have : peG a b = peG b a := funext fun i => mayB_symm _ _
  unfold peopleB
  rw [this, Nat.min_comm]
  congr 1
  rw [Bool.eq_iff_iff]
  simp only [decide_eq_true_eq]
  exact ⟨Eq.symm, Eq.symm⟩
theorem mayB_self (a : Name) : mayB a a = true := by
  unfold mayB
  rw [beqS_self, beqS_self, beqS_self]
  simp only [Bool.and_true, List.all_eq_true]
  intro i _
  unfold mayG fitB
  rw [beqS_self]; rfl
theorem peopleB_self (a : List Name) : peopleB a a = true := by
  unfold peopleB
  simp only [decide_true, Bool.and_true, List.all_eq_true]
  exact fun i _ => mayB_self _
def agB (a b : Date) : Bool := bif a.y == 0 then true else bif b.y == 0 then true else bif a.y != b.y then false else bif a.m == 0 then true else bif b.m == 0 then true else bif a.m == b.m then (bif a.d == b.d then true else bif a.d == 0 then true else b.d == 0) else false
theorem agree_ev (a b : Date) : spec_l20Agree.F a b = some (agB a b) ∧ impl_datesAgree.F a b = some (agB a b) := by
  unfold spec_l20Agree.F impl_datesAgree.F spec_l20Near.F agB
  unfold bne
  cases (a.y == 0) <;> cases (b.y == 0) <;> cases (a.y == b.y) <;> cases (a.m == b.m) <;> cases (a.m == 0) <;> cases (b.m == 0) <;> cases (a.d == b.d) <;> cases (a.d == 0) <;> exact ⟨rfl, rfl⟩
theorem agB_symm (a b : Date) : agB a b = agB b a := by
  unfold agB
  unfold bne
  rw [beqI_symm b.y a.y, beqI_symm b.m a.m, beqI_symm b.d a.d]
  cases (a.y == 0) <;> cases (b.y == 0) <;> cases (a.y == b.y) <;> cases (a.m == b.m) <;> cases (a.m == 0) <;> cases (b.m == 0) <;> cases (a.d == b.d) <;> cases (a.d == 0) <;> cases (b.d == 0) <;> rfl
theorem agB_self (a : Date) : agB a a = true := by
  unfold agB
  simp only [beq_self_eq_true, bne_self_eq_false, cond_true, cond_false]
  cases (a.y == 0) <;> cases (a.m == 0) <;> rfl

/-! ### Entries -/
noncomputable def alB (a b : Entry) (lim : Int) : Bool := (a.kind == b.kind) && (peopleB a.authors b.authors && (agB a.date b.date && decide (((dV a.title b.title : Nat) : Int) ≤ lim)))
theorem al_ev (a b : Entry) (lim : Int) (ha : entryB a = true) (hb : entryB b = true) : Ev (fun k => spec_l20Alike.F k a b lim) (alB a b lim) ∧ Ev (fun k => impl_areAlike.F k a b lim) (alB a b lim) := by
  obtain ⟨a1, a2⟩ := entryB_parts ha
  obtain ⟨b1, b2⟩ := entryB_parts hb
  have p1 := specPeople_ev _ _ a1 b1
  have p2 := samePeople_ev _ _ a1 b1
  obtain ⟨r1, r2⟩ := agree_ev a.date b.date
  obtain ⟨d1, d2⟩ := distv_ev _ _ (textB_size a2) (textB_size b2)
  unfold spec_l20Alike.F impl_areAlike.F alB
  cases (a.kind == b.kind) with
  | false => exact ⟨Ev.pure _, Ev.pure _⟩
  | true =>
    simp only [cond_true, Bool.true_and]
    cases hp : peopleB a.authors b.authors with
    | false => rw [hp] at p1 p2; exact ⟨Ev.bind p1 (Ev.pure _), Ev.bind p2 (Ev.pure _)⟩
    | true =>
      rw [hp] at p1 p2
      cases hr : agB a.date b.date with
      | false =>
        rw [hr] at r1 r2
        exact ⟨Ev.bind p1 (Ev.bind0 r1 (Ev.pure _)), Ev.bind p2 (Ev.bind0 r2 (Ev.pure _))⟩
      | true =>
        rw [hr] at r1 r2
        exact ⟨Ev.bind p1 (Ev.bind0 r1 (Ev.bind d1 (Ev.pure _))), Ev.bind p2 (Ev.bind0 r2 (Ev.bind d2 (Ev.pure _)))⟩
theorem alB_symm (a b : Entry) (lim : Int) : alB a b lim = alB b a lim := by
  unfold alB
  rw [beqI_symm a.kind, peopleB_symm a.authors, agB_symm a.date, dV_symm a.title]
theorem alB_self (a : Entry) : alB a a 0 = true := by
  unfold alB
  rw [peopleB_self, agB_self, dV_self]
  simp
def limB (l : Int) : Bool := decide (l ≥ 0) && decide (l ≤ 40)
noncomputable def aaV (a b : Entry) (lim : Int) : Bool × Bool := bif entryB a && (entryB b && limB lim) then (alB a b lim, true) else (false, false)
theorem aa_ev (a b : Entry) (lim : Int) (sa : smallE a) (sb : smallE b) : Ev (fun k => spec_AreAlike.F k a b lim) (aaV a b lim) ∧ Ev (fun k => impl_AreAlike.F k a b lim) (aaV a b lim) := by
  have a1 := specEntry_ev a sa
  have a2 := isEntry_ev a sa
  have b1 := specEntry_ev b sb
  have b2 := isEntry_ev b sb
  unfold spec_AreAlike.F impl_AreAlike.F aaV
  cases ha : entryB a with
  | false =>
    rw [ha] at a1 a2
    exact ⟨Ev.bind a1 (Ev.pure _), Ev.bind a2 (Ev.pure _)⟩
  | true =>
    rw [ha] at a1 a2
    cases hb : entryB b with
    | false =>
      rw [hb] at b1 b2
      exact ⟨Ev.bind a1 (Ev.bind b1 (Ev.pure _)), Ev.bind a2 (Ev.bind b2 (Ev.pure _))⟩
    | true =>
      rw [hb] at b1 b2
      have l1 : spec_l1In.F lim 0 40 = some (limB lim) := in_ev lim 0 40
      have l2 : impl_inside.F lim 0 40 = some (limB lim) := inside_ev lim 0 40
      obtain ⟨r1, r2⟩ := al_ev a b lim ha hb
      cases hl : limB lim with
      | false =>
        rw [hl] at l1 l2
        exact ⟨Ev.bind a1 (Ev.bind b1 (Ev.bind0 l1 (Ev.pure _))), Ev.bind a2 (Ev.bind b2 (Ev.bind0 l2 (Ev.pure _)))⟩
      | true =>
        rw [hl] at l1 l2
        exact ⟨Ev.bind a1 (Ev.bind b1 (Ev.bind0 l1 (Ev.bind r1 (Ev.pure _)))), Ev.bind a2 (Ev.bind b2 (Ev.bind0 l2 (Ev.bind r2 (Ev.pure _))))⟩
theorem dates_ev (a b : Date) : ∃ r, impl_DatesAgree.F a b = some r ∧ spec_DatesAgree.F a b = some r := by
  obtain ⟨r1, r2⟩ := agree_ev a b
  have g : ∀ d : Date, impl_IsValidDate.F d = spec_l3Good.F d ∧ ∃ x, impl_IsValidDate.F d = some x := fun d => ⟨by
    have h1 := isDate_ev d
    have h2 := specDate_ev d
    rw [h1, h2], _, isDate_ev d⟩
  obtain ⟨g1, x, hx⟩ := g a
  obtain ⟨g2, y, hy⟩ := g b
  unfold impl_DatesAgree.F spec_DatesAgree.F
  rw [← g1, ← g2, hx, hy, r1, r2]
  cases x <;> cases y <;> exact ⟨_, rfl, rfl⟩

/-! ### The law -/
theorem distances_law (code : List Int) (hw : WF (.sl (.int .u8)) code) : ∃ k, laws_FnDistances.F k code = some true := by
  refine Ev.get (?_ : Ev (fun k => laws_FnDistances.F k code) true)
  unfold laws_FnDistances.F laws_rBig.F
  by_cases c0 : (code.length : Int) > 65536
  · simp (disch := omega) only [cpos, Option.bind_some]
    exact Ev.pure _
  simp (disch := omega) only [cneg, Option.bind_some]
  have hc : byt code := byt_of hw (by omega)
  obtain ⟨d, d1, _⟩ := drawTD_b hc
  obtain ⟨s, t⟩ := d
  obtain ⟨p, p1, p2, p3⟩ := drawAA_b hc
  obtain ⟨a, b, lim⟩ := p
  obtain ⟨q, ⟨K, hq⟩, _⟩ := drawDA_b hc
  have hq := hq K (Nat.le_refl _)
  obtain ⟨x, y⟩ := q
  obtain ⟨r, e1, e2⟩ := dates_ev x y
  have sa := entryOk_small (by omega) p2
  have sb := entryOk_small (by omega) p3
  obtain ⟨v1, v2⟩ := aa_ev a b lim sa sb
  obtain ⟨v3, v4⟩ := aa_ev b a lim sb sa
  obtain ⟨v5, v6⟩ := aa_ev a a 0 sa sa
  obtain ⟨u1, u2⟩ := td_ev s t
  obtain ⟨u3, u4⟩ := td_ev t s
  refine Ev.bind d1 (Ev.bind u2 (Ev.bind u4 (Ev.bind u1 ?_)))
  have hs : (tdV t s) = tdV s t := by
    unfold tdV
    rw [dV_symm t s, Bool.and_comm]
  simp only [hs, bne_self_eq_false, beq_self_eq_true, Bool.not_true, cond_false]
  cases h0 : (tdV s t).2 with
  | false =>
    simp only [cond_false]
    refine Ev.bind p1 (Ev.bind v2 (Ev.bind v1 ?_))
    simp only [beq_self_eq_true, Bool.not_true, cond_false]
    cases h1 : (aaV a b lim).2 with
    | false =>
      refine Ev.bind0 hq (Ev.bind0 e1 (Ev.bind0 e2 ?_))
      simp only [beq_self_eq_true, cond_true]
      exact Ev.pure _
    | true =>
      have hv : entryB a = true ∧ aaV b a lim = aaV a b lim := by
        unfold aaV at h1 ⊢
        cases ha : entryB a <;> rw [ha] at h1 <;> cases hb : entryB b <;> rw [hb] at h1 <;> cases hl : limB lim <;> rw [hl] at h1 <;> first
          | (cases h1; done)
          | exact ⟨rfl, by rw [alB_symm b a]⟩
      have hself : aaV a a 0 = (true, true) := by
        unfold aaV
        rw [hv.1, alB_self]; rfl
      refine Ev.bind v6 (Ev.bind v4 ?_)
      rw [hself, hv.2]
      simp only [h1, beq_self_eq_true, Bool.not_true, cond_false]
      refine Ev.bind0 hq (Ev.bind0 e1 (Ev.bind0 e2 ?_))
      simp only [beq_self_eq_true, cond_true]
      exact Ev.pure _
  | true =>
    have htx : textB s = true ∧ textB t = true := by
      unfold tdV at h0
      cases hs : textB s <;> rw [hs] at h0 <;> cases ht : textB t <;> rw [ht] at h0 <;> first
        | (cases h0; done)
        | exact ⟨rfl, rfl⟩
    obtain ⟨hts, htt⟩ := htx
    have hx1 : textB ⟨#[120]⟩ = true := by
      have := isText_ev ⟨#[120]⟩
      have h2 := specText_ev ⟨#[120]⟩
      decide
    have t1 : tdV s ⟨#[120]⟩ = (((dV s ⟨#[120]⟩ : Nat) : Int), true) := by unfold tdV; rw [hts, hx1]; rfl
    have t2 : tdV ⟨#[120]⟩ t = (((dV ⟨#[120]⟩ t : Nat) : Int), true) := by unfold tdV; rw [htt, hx1]; rfl
    have t3 : tdV s s = (0, true) := by unfold tdV; rw [hts, dV_self]; rfl
    have t4 : (tdV s t).1 = ((dV s t : Nat) : Int) := by unfold tdV; rw [hts, htt]; rfl
    have w1 := (td_ev s ⟨#[120]⟩).2
    have w2 := (td_ev ⟨#[120]⟩ t).2
    have w3 := (td_ev s s).2
    rw [t1] at w1
    rw [t2] at w2
    rw [t3] at w3
    simp only [cond_true]
    refine Ev.bind w1 (Ev.bind w2 (Ev.bind w3 ?_))
    have b1 := dV_le s ⟨#[120]⟩ (textB_size hts) (by decide)
    have b2 := dV_le ⟨#[120]⟩ t (by decide) (textB_size htt)
    have b3 := dV_tri s ⟨#[120]⟩ t
    rw [t4]
    simp (disch := omega) only [Bool.not_true, cond_false, wrap_in, cneg, bne_self_eq_false]
    refine Ev.bind p1 (Ev.bind v2 (Ev.bind v1 ?_))
    simp only [beq_self_eq_true, Bool.not_true, cond_false]
    cases h1 : (aaV a b lim).2 with
    | false =>
      refine Ev.bind0 hq (Ev.bind0 e1 (Ev.bind0 e2 ?_))
      simp only [beq_self_eq_true, cond_true]
      exact Ev.pure _
    | true =>
      have hv : entryB a = true ∧ aaV b a lim = aaV a b lim := by
        unfold aaV at h1 ⊢
        cases ha : entryB a <;> rw [ha] at h1 <;> cases hb : entryB b <;> rw [hb] at h1 <;> cases hl : limB lim <;> rw [hl] at h1 <;> first
          | (cases h1; done)
          | exact ⟨rfl, by rw [alB_symm b a]⟩
      have hself : aaV a a 0 = (true, true) := by
        unfold aaV
        rw [hv.1, alB_self]; rfl
      refine Ev.bind v6 (Ev.bind v4 ?_)
      rw [hself, hv.2]
      simp only [h1, beq_self_eq_true, Bool.not_true, cond_false]
      refine Ev.bind0 hq (Ev.bind0 e1 (Ev.bind0 e2 ?_))
      simp only [beq_self_eq_true, cond_true]
      exact Ev.pure _
end Go.Proofs.YtckcichnmiifkaaGreatDoor
end
section
/- The law FnDistances returns true for every input, the listed package variables being as the program's text lays it: the card. -/
namespace Go.Proofs.YtckcichnmiifkaaGreatDoor
open Go.Gx Go.RowKit Go.ChangeShapes Go.WideShapes Go.ChangeAt
set_option linter.unusedVariables false
theorem fnDistances_own : ownKnob Tryz.prog.godebug = none := by kernel_rfl
set_option maxRecDepth 100000 in
theorem fnDistances_contract (H : Type) (enc : TypeId × Value → H) (W : World) (base : Nat) (args : Array Value) (ds gs : List (DataW H)) (before : List MemPlace)
    (hval : ∀ (j : Nat) t v, Tryz.f4.params[j]? = some t → args[j]? = some v → Value.okWide Tryz.prog W .any base t v)
    (hW : DataW.Whole enc Tryz.prog Tryz.f4.params.toList Rows.fnDistancesSpec.vars false W args.toList ds gs before) (hsh : W.ShapedOpen Tryz.prog) :
    Calls Tryz.prog 4 args W fun e W' => ∃ v, e = .returned v ∧ Rows.fnDistancesSpec.post enc Tryz.prog Tryz.f4 false true false false W args v W' := by
  have hgs : gs = [] := by
    obtain ⟨p, q, _, hV, _⟩ := hW
    exact (trodVars_none hV).1
  subst hgs
  have hds : ∃ d1, ds = [d1] := by
    obtain ⟨p, q, hA, _⟩ := hW
    obtain ⟨_, _, d1, e0, _, _, _, rfl, _, _, h0⟩ := trodAll_cons hA
    obtain ⟨_, rfl, _⟩ := trodAll_nil h0
    exact ⟨d1, rfl⟩
  obtain ⟨d1, rfl⟩ := hds
  have hgl : GlOk envX (fun _ => undef) (Lt W) W := by
    refine GlOk.mk0 (fun g b h => (by cases h)) (fun g hg => ?_)
    have hg' : giT g = true := hg
    unfold giT at hg'
    split at hg'
    · obtain ⟨m, hm⟩ := cell_of_shapedOpen_int (P := Tryz.prog) (g := 0) (t := 3) (zero := #[.int .i64 0]) hsh (of_decide_eq_true (by kernel_rfl)) (by kernel_rfl) rfl (by kernel_rfl) (by kernel_rfl) (by kernel_rfl)
      exact ⟨World.block_lt_of_cell? _ _ hm, m, hm⟩
    · cases hg'
  refine law_contract (τs := [(.sl (.int .u8))]) (r := .t .bool true) envOk (by kernel_rfl) rfl (by kernel_rfl) (by kernel_rfl) rfl (by kernel_rfl) (by kernel_rfl) (fun t ht => ?_) rfl (fun x hx => by
      obtain ⟨k, hk⟩ := distances_law x.1 hx.1
      exact laws_FnDistances.good envOk _ k _ hk) rfl hval hW hgl (fun q hq W' _ => ?_)
  · have : t ∈ [22] := ht
    simp only [List.mem_cons, List.not_mem_nil, or_false] at this
    rcases this with rfl <;> exact ⟨by kernel_rfl, Nat.le_of_ble_eq_true (by kernel_rfl)⟩
  · obtain ⟨_, rfl⟩ := trodVars_none hq
    exact rfl
set_option maxRecDepth 100000 in
noncomputable def fnDistances_world (os : Os) : World :=
  { World.holding Tryz.prog os ⟨#[], #[], []⟩ with heap := (((World.holding Tryz.prog os ⟨#[], #[], []⟩).heap.modify 2 fun
      | .cells _ t frozen => .cells #[.int .u8 128, .int .u8 191, .int .u8 160, .int .u8 191, .int .u8 128, .int .u8 159, .int .u8 144, .int .u8 191, .int .u8 128, .int .u8 143, .int .u8 0, .int .u8 0, .int .u8 0, .int .u8 0, .int .u8 0, .int .u8 0, .int .u8 0, .int .u8 0, .int .u8 0, .int .u8 0, .int .u8 0, .int .u8 0, .int .u8 0, .int .u8 0, .int .u8 0, .int .u8 0, .int .u8 0, .int .u8 0, .int .u8 0, .int .u8 0, .int .u8 0, .int .u8 0] t frozen
      | o => o).modify 1 fun
      | .cells _ t frozen => .cells (Pinned.utf8FirstZ.map fun (n : Nat) => Value.int .u8 (n : Int)).toArray t frozen
      | o => o) }
theorem fnDistances_met (os : Os) : laidMet Tryz.prog Rows.fnDistancesRow.laid ((fnDistances_world os).forCall (fun _ _ => 0) ⟨#[], #[.slice none 0 0], []⟩).memory :=
  laidMet_of_run' 8 (by kernel_rfl) (by kernel_rfl)
theorem fnDistances_reads (os : Os) {H : Type} (enc : TypeId × Value → H) : ∃ places, DataW.whole enc Tryz.prog ((fnDistances_world os).forCall (fun _ _ => 0) ⟨#[], #[.slice none 0 0], []⟩).memory Tryz.f4.params.toList Rows.fnDistancesSpec.vars false #[.slice none 0 0].toList 8 = some ([.nil], [], places) :=
  ⟨[], by kernel_rfl⟩
set_option maxRecDepth 100000 in
theorem fnDistances_lifted (os : Os) (started : os.Started) (H : Type) (enc : TypeId × Value → H) (F : Stop.Interp) :
    ReturnsInHanded {} Tryz.checked os 4 .any ((OpenSpec.ofChange Rows.fnDistancesSpec).preRow enc Tryz.prog Tryz.f4 Rows.fnDistancesRow.domain false Rows.fnDistancesRow.laid) (((OpenSpec.ofChange Rows.fnDistancesSpec).at F).post enc Tryz.prog Tryz.f4 false true false false) := by
  obtain ⟨places, hx⟩ := fnDistances_reads os enc
  refine returnsInHanded_of_row (C := Tryz.checked) (s := OpenSpec.ofChange Rows.fnDistancesSpec) fnDistances_own started (by kernel_rfl) (by kernel_rfl)
    (witness_row_at (enc := enc) (C := Tryz.checked) false (fnDistances_world os) #[.slice none 0 0] rfl (by kernel_rfl) (by kernel_rfl) (by kernel_rfl)
      (OpenSpec.preRow_of_cond 8 hx (by kernel_rfl) (fun k hk => by cases hk) (by kernel_rfl) (fnDistances_met os))) ?_
  intro W base args ds gs before hval hW _ _ _ _ hsh _
  exact fnDistances_contract H enc W base args ds gs before hval hW hsh
theorem fnDistances_said : Rows.FnDistancesSaid :=
  OpenClaim.holds_of_cond 4 Tryz.f4 rfl rfl rfl rfl rfl rfl rfl ⟨rfl, rfl, rfl, rfl, rfl⟩ rfl rfl rfl rfl rfl (by kernel_rfl) (by kernel_rfl) (by kernel_rfl)
    (of_decide_eq_true (by kernel_rfl)) (by unfold Func.isWrapper; first | (rw [if_pos (by decide +kernel)]; kernel_rfl) | (rw [if_neg (by decide +kernel)]; exact ⟨rfl, rfl⟩))
    (fun os started H enc _ F => by rw [OpenClaim.pre_eq_preRow]; exact fnDistances_lifted os started H enc F)
theorem fnDistances_plain (f : FuncId) (fn : Func) (hf : Tryz.pinned.checked.prog.funcNamed "loop.example/g00896/laws.FnDistances" = some f) (hfn : Tryz.pinned.checked.prog.funcs[f]? = some fn) :
    false = Tryz.pinned.checked.prog.looks [] ∧ ∀ (j : Nat) t, fn.params[j]? = some t → Tryz.pinned.checked.prog.wantsStandIn t = false := by
  obtain rfl : f = 4 := (Option.some.inj ((show Tryz.prog.funcNamed "loop.example/g00896/laws.FnDistances" = some 4 by kernel_rfl).symm.trans hf)).symm
  obtain rfl : fn = Tryz.f4 := (Option.some.inj ((show Tryz.prog.funcs[4]? = some Tryz.f4 by kernel_rfl).symm.trans hfn)).symm
  refine ⟨by kernel_rfl, fun j t ht => ?_⟩
  have ht' : t ∈ [22] := by simpa using Array.mem_of_getElem? (show (#[22] : Array Nat)[j]? = some t from ht)
  simp only [List.mem_cons, List.not_mem_nil, or_false] at ht'
  rcases ht' with rfl
  · exact (show Tryz.prog.wantsStandIn 22 = false by kernel_rfl)
theorem FnDistances_holds : Rows.FnDistancesCardSaid :=
  Claim7.holds_tied_plain_at .later [] _ _ _ _ fnDistances_said (fun _ h => by cases h) (by kernel_rfl) (fun _ h => by cases h) fnDistances_row_tie rfl ⟨rfl, rfl⟩ (by kernel_rfl) rfl fnDistances_plain (by kernel_rfl)
#print axioms FnDistances_holds
end Go.Proofs.YtckcichnmiifkaaGreatDoor
end
