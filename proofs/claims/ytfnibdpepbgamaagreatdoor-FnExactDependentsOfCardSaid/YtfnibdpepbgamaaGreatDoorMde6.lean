/- The law FnExactDependentsOf returns true for every input, the listed package variables being as the program's text lays it: the card. -/
import Derived.Test.YtfnibdpepbgamaaGreatDoorMde3
import Derived.Lib.IndexBytes
import Derived.Lib.IndexLaws
import Derived.Lib.CountLaws
import Derived.Lib.Split
import Derived.Lib.SplitLaws
import Derived.Lib.TrimByte
import Derived.Lib.Join
import Derived.Test.YtfnibdpepbgamaaGreatDoorMde5
import Derived.Test.YtfnibdpepbgamaaGreatDoorCards
import Derived.Test.YtfnibdpepbgamaaGreatDoorTie
import Derived.Shelf.Vars
import Derived.WalkKit
import Derived.ProofKit
import Derived.OpenShut
import Derived.Deep.DeepHandedRow
import Derived.Lib.LaidTab
section
namespace Go.Proofs.YtfnibdpepbgamaaGreatDoor
open Go.Gx
set_option linter.unusedVariables false
set_option linter.unusedSimpArgs false

theorem getD_at {α : Type} {xs : List α} {i : Nat} (h : i < xs.length) (d : α) : xs.getD i d = xs[i] := by simp [List.getD, List.getElem?_eq_getElem h]
theorem wf_len {e : Ty} {xs : List (den e)} (h : WF (.sl e) xs) : xs.length ≤ 9223372036854775807 := by
  cases h with | sl _ _ h _ => exact maxLen_eq ▸ h
theorem size_pos {s : ByteArray} : (!beqS s ⟨#[]⟩) = decide (0 < s.size) := by
  rw [beqS_eq]
  have : L ⟨#[]⟩ = [] := rfl
  rw [this, ← L_size]
  cases L s <;> rfl
theorem size_app (s t : ByteArray) : (s ++ t).size = s.size + t.size := by
  rw [← L_size, L_append, List.length_append, L_size, L_size]
theorem bytesL_len (s : ByteArray) : (bytesL s).length = s.size := by
  simp only [bytesL, List.length_map, Array.length_toList]; rfl
theorem bytesL_map (s : ByteArray) : bytesL s = (L s).map fun b => (b.toNat : Int) := rfl
theorem bt_bytes (s : ByteArray) (i : Nat) (h : i < (bytesL s).length) : bt s i = (bytesL s)[i] := by
  rw [L_bt]
  have h' : i < (L s).length := by simpa [bytesL_map] using h
  simp [bytesL_map, List.getD, h']
theorem bytes_range (s : ByteArray) (i : Nat) (h : i < (bytesL s).length) : 0 ≤ (bytesL s)[i] ∧ (bytesL s)[i] ≤ 255 := by
  rw [← bt_bytes s i h]; exact bt_range s i
theorem all_bytes {s : ByteArray} {i : Nat} (h : i < (bytesL s).length) (p : Int → Bool) : ((bytesL s).drop i).all p = (p (bytesL s)[i] && ((bytesL s).drop (i + 1)).all p) := by
  rw [List.drop_eq_getElem_cons h]; rfl
theorem sub_tail (s : ByteArray) (st a : Nat) : (s.extract st s.size).extract a (s.extract st s.size).size = s.extract (st + a) s.size := by
  apply L_inj
  have e : (L s).take s.size = L s := List.take_of_length_le (Nat.le_refl _)
  rw [L_extract, L_extract s (st + a), ← L_size (s.extract st s.size), L_extract, List.take_length, List.drop_drop, e]
theorem sub_head (s : ByteArray) (st i : Nat) (h : st ≤ i) (hi : i ≤ s.size) : (s.extract st s.size).extract 0 (i - st) = s.extract st i := by
  apply L_inj
  rw [L_extract, L_extract, L_extract, List.drop_zero, List.take_of_length_le (show (L s).length ≤ s.size from Nat.le_refl _), List.drop_take]
def sp : ByteArray := ⟨#[32]⟩
theorem ib_hit {l : List UInt8} {c : UInt8} {i : Nat} (h : l[i]? = some c) (hn : ∀ j, j < i → l[j]? ≠ some c) : Lib.indexByte l c = i := by
  have hg := Lib.indexByte_ge l c
  by_cases e : Lib.indexByte l c = -1
  · exact absurd h (Lib.indexByte_none e i)
  · obtain ⟨o, ho⟩ : ∃ o : Nat, Lib.indexByte l c = o := ⟨(Lib.indexByte l c).toNat, by omega⟩
    obtain ⟨h1, h2⟩ := Lib.indexByte_some ho
    rcases Nat.lt_trichotomy o i with h3 | h3 | h3
    · exact absurd h1 (hn o h3)
    · rw [ho, h3]
    · exact absurd h (h2 i h3)
theorem ib_miss {l : List UInt8} {c : UInt8} (hn : ∀ j : Nat, l[j]? ≠ some c) : Lib.indexByte l c = -1 := by
  have hg := Lib.indexByte_ge l c
  by_cases e : Lib.indexByte l c = -1
  · exact e
  · obtain ⟨o, ho⟩ : ∃ o : Nat, Lib.indexByte l c = o := ⟨(Lib.indexByte l c).toNat, by omega⟩
    exact absurd (Lib.indexByte_some ho).1 (hn o)
theorem indexB_sp (s : ByteArray) : Lib.indexB s sp = Lib.indexByte (L s) 32 := Lib.one s sp rfl
theorem sub_at (s : ByteArray) (st j : Nat) : (L (s.extract st s.size))[j]? = (L s)[st + j]? := by
  rw [L_extract, List.take_of_length_le (show (L s).length ≤ s.size from Nat.le_refl _), List.getElem?_drop]
def wordsFrom (s : ByteArray) (st : Nat) : List ByteArray := Lib.splitB sp 0 (Lib.countB (s.extract st s.size) sp) (s.extract st s.size)
theorem words_end (s : ByteArray) (st : Nat) (h : ∀ j, st ≤ j → (L s)[j]? ≠ some 32) : wordsFrom s st = [s.extract st s.size] := by
  unfold wordsFrom
  rw [Lib.countB_miss _ _ ((indexB_sp _).trans (ib_miss fun j => by rw [sub_at]; exact h _ (by omega)))]
  rfl
theorem words_hit (s : ByteArray) (st i : Nat) (h1 : st ≤ i) (hi : i < s.size) (hb : (L s)[i]? = some 32) (h : ∀ j, st ≤ j → j < i → (L s)[j]? ≠ some 32) : wordsFrom s st = s.extract st i :: wordsFrom s (i + 1) := by
  have e : Lib.indexB (s.extract st s.size) sp = ((i - st : Nat) : Int) := (indexB_sp _).trans (ib_hit (by rw [sub_at, show st + (i - st) = i by omega]; exact hb) fun j hj => by rw [sub_at]; exact h _ (by omega) (by omega))
  have e1 : sp.size = 1 := rfl
  unfold wordsFrom
  rw [Lib.countB_hit _ _ _ (by rw [e1]; exact Nat.le_refl _) e, Nat.add_comm 1, Lib.splitB_hit _ _ _ _ _ e, Nat.add_zero, sub_head s st i h1 (by omega), e1, sub_tail, show st + (i - st + 1) = i + 1 by omega]
theorem sub_self (s : ByteArray) : s.extract 0 s.size = s := by
  apply L_inj
  rw [L_extract, List.take_of_length_le (show (L s).length ≤ s.size from Nat.le_refl _), List.drop_zero]
def words (s : ByteArray) : List ByteArray := Lib.splitB sp 0 (Lib.countB s sp) s
theorem words_from (s : ByteArray) : wordsFrom s 0 = words s := by unfold wordsFrom words; rw [sub_self]
theorem words_small : ∀ (k : Nat) (s : ByteArray), ∀ x ∈ Lib.splitB sp 0 k s, x.size ≤ s.size
  | 0, s, x, hx => by
    rw [Lib.splitB_zero] at hx
    simp only [List.mem_singleton] at hx
    rw [hx]; exact Nat.le_refl _
  | k + 1, s, x, hx => by
    unfold Lib.splitB at hx
    split at hx
    · simp only [List.mem_singleton] at hx
      rw [hx]; exact Nat.le_refl _
    · rcases List.mem_cons.1 hx with rfl | hx
      · rw [ByteArray.size_extract]; omega
      · have := words_small k _ x hx
        rw [ByteArray.size_extract] at this
        omega
theorem words_len (s : ByteArray) : 1 ≤ (words s).length ∧ (words s).length ≤ s.size + 1 := by
  unfold words
  have h1 : 1 ≤ sp.size := Nat.le_refl 1
  rw [Lib.splitB_all sp h1 0 _ s rfl]
  have := Lib.countB_le sp h1 s.size s (Nat.le_refl _)
  omega
theorem dropWhile_self {α : Type} (p : α → Bool) : ∀ l : List α, l.dropWhile p = l ↔ (∀ a, l.head? = some a → p a = false)
  | [] => by simp
  | a :: l => by
    have hl : (l.dropWhile p).length ≤ l.length := (List.dropWhile_sublist p).length_le
    cases h : p a with
    | true =>
      rw [List.dropWhile_cons_of_pos h]
      constructor
      · intro e
        have := congrArg List.length e
        simp at this
        omega
      · intro e
        have := e a rfl
        rw [h] at this; cases this
    | false =>
      rw [List.dropWhile_cons_of_neg (by rw [h]; exact Bool.noConfusion)]
      simp [h]
theorem trimB_self (l : List UInt8) (c : UInt8) : Lib.trimB l c = l ↔ l.head? ≠ some c ∧ l.getLast? ≠ some c := by
  unfold Lib.trimB Lib.trimLeftB Lib.trimRightB
  have h1 : ∀ m : List UInt8, m.dropWhile (· == c) = m ↔ m.head? ≠ some c := fun m => by
    rw [dropWhile_self]
    constructor
    · intro h e; have := h c e; simp at this
    · intro h a e
      have : a ≠ c := fun e' => h (e' ▸ e)
      simpa using this
  constructor
  · intro h
    have h2 : ((l.reverse.dropWhile (· == c)).reverse).length ≤ l.length := by
      have := (List.dropWhile_sublist (p := (· == c)) (l := l.reverse)).length_le
      simpa using this
    have h3 := (List.dropWhile_sublist (p := (· == c)) (l := (l.reverse.dropWhile (· == c)).reverse))
    have h4 : (l.reverse.dropWhile (· == c)).reverse = l := by
      have h5 : (l.reverse.dropWhile (· == c)).reverse.length = l.length := by
        have := h3.length_le
        rw [h] at this
        omega
      have h6 : l.reverse.dropWhile (· == c) = l.reverse := (List.dropWhile_sublist (p := (· == c)) (l := l.reverse)).eq_of_length (by simpa using h5)
      rw [h6, List.reverse_reverse]
    rw [h4] at h
    refine ⟨(h1 l).1 h, ?_⟩
    have h6 : l.reverse.dropWhile (· == c) = l.reverse := by rw [← List.reverse_inj, h4, List.reverse_reverse]
    have := (h1 _).1 h6
    simpa using this
  · rintro ⟨ha, hb⟩
    have h6 : l.reverse.dropWhile (· == c) = l.reverse := (h1 _).2 (by simpa using hb)
    rw [h6, List.reverse_reverse]
    exact (h1 l).2 ha
def vis (lo b : Int) : Bool := decide (lo ≤ b) && decide (b ≤ 126)
theorem bt_sp {s : ByteArray} {i : Nat} (hi : i < s.size) : bt s i = 32 ↔ (L s)[i]? = some 32 := by
  have hi' : i < (L s).length := hi
  have hbt : bt s i = ((L s)[i].toNat : Int) := by rw [L_bt, getD_at hi']
  rw [List.getElem?_eq_getElem hi', hbt]
  have : (32 : UInt8).toNat = 32 := rfl
  constructor
  · intro h
    congr 1
    apply UInt8.toNat_inj.1
    omega
  · intro h
    rw [Option.some.inj h]; rfl
def edge (s : ByteArray) : Bool := (decide (s.size = 0)) || (bt s 0 != 32 && bt s (s.size - 1) != 32)
theorem edge_eq (s : ByteArray) : beqS ⟨(Lib.trimB (L s) 32).toArray⟩ s = edge s := by
  rw [Bool.eq_iff_iff, beqS_iff]
  have h1 : (⟨(Lib.trimB (L s) 32).toArray⟩ : ByteArray) = s ↔ Lib.trimB (L s) 32 = L s := by
    constructor
    · intro h
      have := congrArg L h
      rwa [L_mk] at this
    · intro h
      apply L_inj
      rw [L_mk, h]
  rw [h1, trimB_self]
  unfold edge
  by_cases hz : s.size = 0
  · have : L s = [] := List.eq_nil_of_length_eq_zero hz
    rw [this]
    simp [hz]
  · have h2 : (L s).head? = (L s)[0]? := List.head?_eq_getElem?
    have h3 : (L s).getLast? = (L s)[s.size - 1]? := by rw [List.getLast?_eq_getElem?]; rfl
    rw [h2, h3, Bool.or_eq_true, decide_eq_true_eq, Bool.and_eq_true, bne_iff_ne, bne_iff_ne, Ne, Ne, Ne, Ne, bt_sp (by omega), bt_sp (by omega)]
    simp [hz]
def pos (s : ByteArray) : Bool := decide (0 < s.size)
theorem ext_size {s : ByteArray} {a b : Nat} (h : a ≤ b) (hb : b ≤ s.size) : (s.extract a b).size = b - a := by
  rw [ByteArray.size_extract]; omega
theorem room_s {n : Nat} (h : n ≤ 8192) : room n .str = true := by
  unfold room
  rw [Nat.ble_eq]
  have : nb .str = 16 := rfl
  rw [this]
  omega
theorem fpos_one (s : ByteArray) (a b : Nat) (hab : a ≤ b) (hb : b ≤ s.size) (l : List ByteArray) : (s.extract a b :: l).filter pos = (if a < b then [s.extract a b] else []) ++ l.filter pos := by
  rw [List.filter_cons]
  unfold pos
  rw [ext_size hab hb]
  by_cases c : a < b
  · rw [if_pos c, decide_eq_true (by omega)]; rfl
  · rw [if_neg c, decide_eq_false (by omega)]; rfl
theorem tail_cons (x : List UInt8) (r : List (List UInt8)) : Lib.joinTail [32] (x :: r) = 32 :: (x ++ Lib.joinTail [32] r) := by simp [Lib.joinTail]
theorem e32 : (⟨#[32]⟩ : ByteArray).size = 1 := rfl
theorem L32 : L ⟨#[32]⟩ = [32] := rfl
/-! ### A list, changed from its begin -/
def ms {α : Type} (f : α → α) (W : List α) (i : Nat) : List α := (W.take i).map f ++ W.drop i
section
variable {α : Type} (f : α → α) (W : List α)
theorem ms_len (i : Nat) : (ms f W i).length = W.length := by unfold ms; simp; omega
theorem ms_zero : ms f W 0 = W := by simp [ms]
theorem ms_all : ms f W W.length = W.map f := by simp [ms]
theorem ms_at {i : Nat} (h : i < W.length) (d : α) : (ms f W i).getD i d = W[i] := by
  unfold ms
  rw [List.getD_eq_getElem?_getD, List.getElem?_append_right (by simp; omega)]
  simp [Nat.min_eq_left (Nat.le_of_lt h), h]
theorem ms_set {i : Nat} (h : i < W.length) : (ms f W i).set i (f W[i]) = ms f W (i + 1) := by
  unfold ms
  rw [List.set_append_right _ _ (by simp; omega)]
  simp only [List.length_map, List.length_take, Nat.min_eq_left (Nat.le_of_lt h), Nat.sub_self]
  rw [List.drop_eq_getElem_cons h, List.set_cons_zero, List.take_add_one, List.getElem?_eq_getElem h]
  simp only [Option.toList_some, List.map_append, List.map_cons, List.map_nil, List.append_assoc, List.cons_append, List.nil_append]
end
end Go.Proofs.YtfnibdpepbgamaaGreatDoor
end
section
/- Plain laws: texts of an entry. -/
namespace Go.Proofs.YtfnibdpepbgamaaGreatDoor
open Go.Gx
set_option linter.unusedVariables false
set_option linter.unusedSimpArgs false

theorem edge_trim (s : ByteArray) (hs : s.size ≤ 1048576) : strings_Trim.F s ⟨#[32]⟩ = some ⟨(Lib.trimB (L s) 32).toArray⟩ := by
  unfold strings_Trim.F xTrim1
  rw [Nat.ble_eq_true_of_le (by omega)]
  rfl
theorem specText_l0 (s : ByteArray) (hs : s.size ≤ 1048576) : ∀ n i : Nat, i + n = s.size → Ev (fun k => spec_l4Text.l0 k s i) (if ((bytesL s).drop i).all (vis 32) = true then .inr s else .inl false)
  | 0, i, h => by
    refine Ev.step (fun k => by rw [spec_l4Text.l0]) ?_
    simp (disch := omega) only [cneg]
    rw [List.drop_eq_nil_of_le (by rw [bytesL_len]; omega)]
    exact Ev.pure _
  | n + 1, i, h => by
    have hl := bytesL_len s
    have hi : i < (bytesL s).length := by omega
    refine Ev.step (fun k => by rw [spec_l4Text.l0]) ?_
    simp (disch := omega) only [cpos, Int.toNat_natCast, bt_bytes s i hi]
    rw [all_bytes hi]
    unfold vis
    by_cases c1 : (bytesL s)[i] < 32
    · simp (disch := omega) only [cpos, dneg, Bool.false_and]; exact Ev.pure _
    · by_cases c2 : (bytesL s)[i] > 126
      · simp (disch := omega) only [cpos, cneg, dneg, Bool.and_false, Bool.false_and]; exact Ev.pure _
      · simp (disch := omega) only [cpos, cneg, dpos, Bool.and_self, Bool.true_and, wrap_in]
        exact specText_l0 s hs n (i + 1) (by omega)
theorem isPrint_l0 (s : ByteArray) (hs : s.size ≤ 1048576) : ∀ n i : Nat, i + n = s.size → Ev (fun k => impl_isPrintable.l0 k s i) (if ((bytesL s).drop i).all (vis 32) = true then .inr s else .inl false)
  | 0, i, h => by
    refine Ev.step (fun k => by rw [impl_isPrintable.l0]) ?_
    simp (disch := omega) only [cneg]
    rw [List.drop_eq_nil_of_le (by rw [bytesL_len]; omega)]
    exact Ev.pure _
  | n + 1, i, h => by
    have hl := bytesL_len s
    have hi : i < (bytesL s).length := by omega
    refine Ev.step (fun k => by rw [impl_isPrintable.l0]) ?_
    simp (disch := omega) only [cpos, Int.toNat_natCast, bt_bytes s i hi]
    rw [all_bytes hi]
    unfold vis
    by_cases c1 : (bytesL s)[i] < 32
    · simp (disch := omega) only [cpos, dneg, Bool.false_and]; exact Ev.pure _
    · by_cases c2 : (bytesL s)[i] > 126
      · simp (disch := omega) only [cpos, cneg, dneg, Bool.and_false, Bool.false_and]; exact Ev.pure _
      · simp (disch := omega) only [cpos, cneg, dpos, Bool.and_self, Bool.true_and, wrap_in]
        exact isPrint_l0 s hs n (i + 1) (by omega)
def textB (s : ByteArray) : Bool := decide (s.size ≤ 40) && ((bytesL s).all (vis 32) && edge s)
theorem specText_ev (s : ByteArray) : Ev (fun k => spec_l4Text.F k s) (textB s) := by
  unfold spec_l4Text.F textB
  by_cases c : (s.size : Int) > 40
  · simp (disch := omega) only [cpos, dneg, Bool.false_and]
    exact Ev.pure _
  · simp (disch := omega) only [cneg, dpos, Bool.true_and]
    have := specText_l0 s (by omega) s.size 0 (by omega)
    rw [List.drop_zero] at this
    cases h : (bytesL s).all (vis 32) with
    | false => rw [h] at this; exact Ev.bind this (Ev.pure _)
    | true =>
      rw [h] at this
      refine Ev.bind (a := .inr s) this ?_
      dsimp only
      have he : beqS s ⟨#[]⟩ = decide (s.size = 0) := by
        rw [← Bool.not_not (b := beqS s ⟨#[]⟩), size_pos]
        by_cases hz : s.size = 0
        · simp [hz]
        · rw [decide_eq_true (by omega : 0 < s.size), decide_eq_false hz]; rfl
      rw [he]
      unfold edge
      by_cases hz : s.size = 0
      · rw [decide_eq_true hz]; exact Ev.pure _
      · rw [decide_eq_false hz]
        simp (disch := omega) only [cond_false, cond_true, cpos, wrap_in]
        rw [show ((s.size : Int) - 1).toNat = s.size - 1 by omega, show (0 : Int).toNat = 0 from rfl, Bool.false_or, Bool.true_and]
        cases (bt s 0 != 32) with
        | true => exact Ev.pure _
        | false => exact Ev.pure _
theorem isText_ev (s : ByteArray) : Ev (fun k => impl_isText.F k s) (textB s) := by
  unfold impl_isText.F textB
  by_cases c : (s.size : Int) ≤ 40
  · simp (disch := omega) only [cpos, dpos, Bool.true_and]
    refine Ev.bind ?_ (Ev.pure _)
    unfold impl_isPrintable.F
    have := isPrint_l0 s (by omega) s.size 0 (by omega)
    rw [List.drop_zero] at this
    cases h : (bytesL s).all (vis 32) with
    | false => rw [h] at this; exact Ev.bind this (Ev.pure _)
    | true =>
      rw [h] at this
      refine Ev.bind (a := .inr s) this ?_
      dsimp only
      refine Ev.bind0 (edge_trim s (by omega)) ?_
      simp only [edge_eq, Bool.true_and]
      exact Ev.pure _
  · simp (disch := omega) only [cneg, dneg, Bool.false_and]
    exact Ev.pure _
end Go.Proofs.YtfnibdpepbgamaaGreatDoor
end
section
/- Plain laws: a text split at its spaces. -/
namespace Go.Proofs.YtfnibdpepbgamaaGreatDoor
open Go.Gx
set_option linter.unusedVariables false
set_option linter.unusedSimpArgs false

theorem split_ev (s : ByteArray) (hs : s.size ≤ 1048576) : strings_Split.F s ⟨#[32]⟩ = some (words s) := by
  unfold strings_Split.F xSplit
  rw [Nat.ble_eq_true_of_le (by omega)]
  rfl
end Go.Proofs.YtfnibdpepbgamaaGreatDoor
end
section
/- Plain laws: a text split at its spaces, the other way. -/
namespace Go.Proofs.YtfnibdpepbgamaaGreatDoor
open Go.Gx
set_option linter.unusedVariables false
set_option linter.unusedSimpArgs false

theorem split_l0 (s : ByteArray) (hs : s.size ≤ 1048576) : ∀ n i : Nat, i + n = s.size → ∀ st : Nat, st ≤ i → (∀ j, st ≤ j → j < i → (L s)[j]? ≠ some 32) → ∀ acc : List ByteArray, acc.length ≤ i →
    ∃ acc' st', Ev (fun k => spec_l1Split.l0 k s 32 acc st i) (s, acc', ((st' : Nat) : Int)) ∧ st' ≤ s.size ∧ acc'.length ≤ s.size ∧ acc' ++ [s.extract st' s.size] = acc ++ wordsFrom s st
  | 0, i, h, st, h1, hn, acc, ha => by
    refine ⟨acc, st, Ev.step (fun k => by rw [spec_l1Split.l0]) ?_, by omega, by omega, ?_⟩
    · simp (disch := omega) only [cneg]
      exact Ev.pure _
    · rw [words_end s st fun j hj => ?_]
      by_cases hj2 : j < i
      · exact hn j hj hj2
      · rw [List.getElem?_eq_none (by rw [L_size]; omega)]; exact fun h => by cases h
  | n + 1, i, h, st, h1, hn, acc, ha => by
    have hi : i < (L s).length := by rw [L_size]; omega
    have hbt : bt s i = ((L s)[i].toNat : Int) := by rw [L_bt, getD_at hi]
    by_cases c : bt s i = 32
    · have hb : (L s)[i]? = some 32 := by
        rw [List.getElem?_eq_getElem hi]
        congr 1
        apply UInt8.toNat_inj.1
        have : (32 : UInt8).toNat = 32 := rfl
        omega
      obtain ⟨acc', st', r1, r2, r3, r4⟩ := split_l0 s hs n (i + 1) (by omega) (i + 1) (Nat.le_refl _) (fun j h1 h2 => by omega) (acc ++ [s.extract st i]) (by simp; omega)
      refine ⟨acc', st', Ev.step (fun k => by rw [spec_l1Split.l0]) ?_, r2, r3, ?_⟩
      · have hr : room (acc.length + ([s.extract st i] : List ByteArray).length) .str = true := by
          unfold room
          rw [Nat.ble_eq]
          have : nb .str = 16 := rfl
          rw [this]
          simp; omega
        simp (disch := omega) only [cpos, Int.toNat_natCast, ceq, hr, cond_true, wrap_in]
        exact r1
      · rw [r4, words_hit s st i h1 (by omega) hb hn]; simp
    · obtain ⟨acc', st', r1, r2, r3, r4⟩ := split_l0 s hs n (i + 1) (by omega) st (by omega) (fun j h1 h2 => by
        rcases Nat.lt_or_ge j i with h3 | h3
        · exact hn j h1 h3
        · obtain rfl : j = i := by omega
          rw [List.getElem?_eq_getElem hi]
          intro e
          apply c
          rw [hbt, Option.some.inj e]; rfl) acc (by omega)
      refine ⟨acc', st', Ev.step (fun k => by rw [spec_l1Split.l0]) ?_, r2, r3, r4⟩
      simp (disch := omega) only [cpos, Int.toNat_natCast, cne, wrap_in]
      exact r1
theorem specSplit_ev (s : ByteArray) (hs : s.size ≤ 1048576) : Ev (fun k => spec_l1Split.F k s 32) (words s) := by
  unfold spec_l1Split.F
  obtain ⟨acc', st', r1, r2, r3, r4⟩ := split_l0 s hs s.size 0 (by omega) 0 (Nat.le_refl _) (fun j h1 h2 => by omega) [] (Nat.le_refl _)
  refine Ev.bind r1 ?_
  have hr : room (acc'.length + ([s.extract st' s.size] : List ByteArray).length) .str = true := by
    unfold room
    rw [Nat.ble_eq]
    have : nb .str = 16 := rfl
    rw [this]
    simp; omega
  simp (disch := omega) only [cpos, Int.toNat_natCast, hr, cond_true, r4, words_from, List.nil_append]
  exact Ev.pure _
end Go.Proofs.YtfnibdpepbgamaaGreatDoor
end
section
/- Plain laws: lists of texts: size, copy, equality. -/
namespace Go.Proofs.YtfnibdpepbgamaaGreatDoor
open Go.Gx
set_option linter.unusedVariables false
set_option linter.unusedSimpArgs false

def totS (xs : List ByteArray) : Nat := (xs.map ByteArray.size).sum
theorem szS_l0 (xs : List ByteArray) (hw : WF (.sl .str) xs) (hlen : xs.length ≤ 1048576) : ∀ n i : Nat, i + n = xs.length → ∀ l : Int, 0 ≤ l → l ≤ 1048576 →
    Ev (fun k => laws_szStringS.l0 k xs l i) (if l - totS (xs.drop i) < 0 then .inl (-1) else .inr (l - totS (xs.drop i)))
  | 0, i, h, l, h0, h1 => by
    refine Ev.step (fun k => by rw [laws_szStringS.l0]) ?_
    simp (disch := omega) only [cneg]
    rw [List.drop_eq_nil_of_le (by omega)]
    simp only [totS, List.map_nil, List.sum_nil]
    rw [if_neg (by omega)]
    exact (Ev.pure _).eq (by congr 1; omega)
  | n + 1, i, h, l, h0, h1 => by
    have hi : i < xs.length := by omega
    have hwi : xs[i].size ≤ 9223372036854775807 := by cases hw with | sl _ _ _ h => exact wf_str (h i hi)
    have hd : totS (xs.drop i) = xs[i].size + totS (xs.drop (i + 1)) := by
      rw [List.drop_eq_getElem_cons hi]; unfold totS; rw [List.map_cons, List.sum_cons]
    refine Ev.step (fun k => by rw [laws_szStringS.l0]) ?_
    simp (disch := omega) only [cpos, Int.toNat_natCast, getD_at hi]
    by_cases c : l - (xs[i].size : Int) < 0
    · simp (disch := omega) only [wrap_in, cpos]
      rw [if_pos (by omega)]
      exact Ev.pure _
    · simp (disch := omega) only [wrap_in, cneg]
      have := szS_l0 xs hw hlen n (i + 1) (by omega) (l - xs[i].size) (by omega) (by omega)
      refine this.eq ?_
      rw [hd]
      by_cases c2 : l - (xs[i].size : Int) - (totS (xs.drop (i + 1)) : Int) < 0
      · rw [if_pos c2, if_pos (by omega)]
      · rw [if_neg c2, if_neg (by omega)]; congr 1; omega
theorem szS_ev (xs : List ByteArray) (l : Int) (h0 : 0 ≤ l) (h1 : l ≤ 1048576) (hw : WF (.sl .str) xs) : ∃ r, Ev (fun k => laws_szStringS.F k xs l) r ∧ (0 ≤ r → (xs.length : Int) + totS xs + r = l) := by
  have hl : xs.length ≤ 9223372036854775807 := wf_len hw
  unfold laws_szStringS.F
  by_cases c : l - (xs.length : Int) < 0
  · simp (disch := omega) only [wrap_in, cpos]
    exact ⟨-1, Ev.pure _, fun h => by omega⟩
  · simp (disch := omega) only [wrap_in, cneg]
    have := szS_l0 xs hw (by omega) xs.length 0 (by omega) (l - xs.length) (by omega) (by omega)
    simp only [List.drop_zero] at this
    by_cases c2 : l - (xs.length : Int) - (totS xs : Int) < 0
    · rw [if_pos c2] at this
      exact ⟨-1, Ev.bind this (Ev.pure _), fun h => by omega⟩
    · rw [if_neg c2] at this
      exact ⟨l - (xs.length : Int) - (totS xs : Int), Ev.bind this (Ev.pure _), fun h => by omega⟩
theorem totS_mem {xs : List ByteArray} {x : ByteArray} (h : x ∈ xs) : x.size ≤ totS xs := by
  unfold totS
  induction xs with
  | nil => cases h
  | cons b l ih =>
    simp only [List.map_cons, List.sum_cons]
    rcases List.mem_cons.1 h with rfl | h
    · omega
    · have := ih h; omega
theorem toS_l0 (xs : List ByteArray) (hlen : xs.length ≤ 1048576) : ∀ n i : Nat, i + n = xs.length → ∀ ys : List ByteArray, ys.length = xs.length → ys.take i = xs.take i → Ev (fun k => laws_toStringS.l0 k xs ys i) xs
  | 0, i, h, ys, hy, ht => by
    refine Ev.step (fun k => by rw [laws_toStringS.l0]) ?_
    simp (disch := omega) only [cneg]
    have : ys = xs := by
      rw [List.take_of_length_le (by omega), List.take_of_length_le (by omega)] at ht
      exact ht
    rw [this]; exact Ev.pure _
  | n + 1, i, h, ys, hy, ht => by
    have hi : i < xs.length := by omega
    refine Ev.step (fun k => by rw [laws_toStringS.l0]) ?_
    simp (disch := omega) only [cpos, Int.toNat_natCast, getD_at hi, wrap_in]
    exact toS_l0 xs hlen n (i + 1) (by omega) (ys.set i xs[i]) (by simpa using hy) (by
      rw [List.take_add_one, List.take_add_one, List.take_set_of_le (Nat.le_refl i), ht]
      simp [show i < ys.length by omega, hi])
theorem toS_ev (xs : List ByteArray) (hlen : xs.length ≤ 1048576) : Ev (fun k => laws_toStringS.F k xs) xs := by
  unfold laws_toStringS.F
  have hn : nb .str = 16 := rfl
  simp (disch := first | omega | (simp only [hn, Int.toNat_natCast]; omega)) only [ceq, cpos, cble]
  exact Ev.bind (a := xs) (toS_l0 xs hlen xs.length 0 (by omega) _ (by simp) (by simp)) (Ev.pure _)
theorem eqS_l0 (xs : List ByteArray) (hlen : xs.length ≤ 1048576) : ∀ n i : Nat, i + n = xs.length → Ev (fun k => laws_eqStringS.l0 k xs xs i) (.inr ())
  | 0, i, h => by
    refine Ev.step (fun k => by rw [laws_eqStringS.l0]) ?_
    simp (disch := omega) only [cneg]
    exact Ev.pure _
  | n + 1, i, h => by
    refine Ev.step (fun k => by rw [laws_eqStringS.l0]) ?_
    simp (disch := omega) only [cpos, Int.toNat_natCast, beqS_self, Bool.not_true, cond_false, wrap_in]
    exact eqS_l0 xs hlen n (i + 1) (by omega)
theorem eqS_ev (xs : List ByteArray) (hlen : xs.length ≤ 1048576) : Ev (fun k => laws_eqStringS.F k xs xs) true := by
  unfold laws_eqStringS.F
  simp (disch := omega) only [cbeq]
  exact Ev.bind (eqS_l0 xs hlen xs.length 0 (by omega)) (Ev.pure _)
end Go.Proofs.YtfnibdpepbgamaaGreatDoor
end
section
/- Plain laws: names, entries, libraries: size, copy, equality. -/
namespace Go.Proofs.YtfnibdpepbgamaaGreatDoor
open Go.Gx
set_option linter.unusedVariables false
set_option linter.unusedSimpArgs false

def totN (n : Name) : Nat := n.given.length + totS n.given + n.particle.size + n.family.size + n.suffix.size
def totNs (xs : List Name) : Nat := xs.length + (xs.map totN).sum
def totE (e : Entry) : Nat := e.key.size + totNs e.authors + totNs e.editors + e.title.size + e.container.size + e.publisher.size + e.pages.size + e.cross.size
def totEs (xs : List Entry) : Nat := xs.length + (xs.map totE).sum
theorem sum_mem {α : Type} (f : α → Nat) {xs : List α} {x : α} (h : x ∈ xs) : f x ≤ (xs.map f).sum := by
  induction xs with
  | nil => cases h
  | cons b l ih =>
    simp only [List.map_cons, List.sum_cons]
    rcases List.mem_cons.1 h with rfl | h
    · omega
    · have := ih h; omega
def smallN (n : Name) : Prop := totN n ≤ 1048576
def smallE (e : Entry) : Prop := totE e ≤ 1048576
def smallL (l : Library) : Prop := totEs l.entries ≤ 1048576
theorem smallL_at {l : Library} (h : smallL l) {e : Entry} (he : e ∈ l.entries) : smallE e := by
  have := sum_mem totE he
  unfold smallL totEs at h
  unfold smallE
  omega
theorem smallNs_at {xs : List Name} (h : totNs xs ≤ 1048576) {n : Name} (hn : n ∈ xs) : smallN n := by
  have := sum_mem totN hn
  unfold totNs at h
  unfold smallN
  omega
theorem smallE_a {e : Entry} (h : smallE e) : totNs e.authors ≤ 1048576 := by unfold smallE totE at h; omega
theorem smallE_e {e : Entry} (h : smallE e) : totNs e.editors ≤ 1048576 := by unfold smallE totE at h; omega
theorem smallNs_len {xs : List Name} (h : totNs xs ≤ 1048576) : xs.length ≤ 1048576 := by unfold totNs at h; omega
theorem smallL_len {l : Library} (h : smallL l) : l.entries.length ≤ 1048576 := by unfold smallL totEs at h; omega
theorem szN_ev (a : Name) (l : Int) (h0 : 0 ≤ l) (h1 : l ≤ 1048576) (hw : WF .name a) : EvP (fun k => laws_szName.F k a l) fun r => 0 ≤ r → (totN a : Int) + r = l := by
  obtain ⟨w1, w2, w3, w4⟩ : WF (.sl .str) a.given ∧ a.particle.size ≤ 9223372036854775807 ∧ a.family.size ≤ 9223372036854775807 ∧ a.suffix.size ≤ 9223372036854775807 := by
    cases hw with | name _ h1 h2 h3 h4 => exact ⟨h1, wf_str h2, wf_str h3, wf_str h4⟩
  unfold laws_szName.F totN
  obtain ⟨r, r1, r2⟩ := szS_ev a.given l h0 h1 w1
  refine EvP.of r1 ?_
  by_cases c : r < 0
  · simp (disch := omega) only [cpos]
    exact EvP.pure _ (fun h => by omega)
  simp (disch := omega) only [cneg]
  have r3 := r2 (by omega)
  by_cases c1 : r - (a.particle.size : Int) < 0
  · simp (disch := omega) only [wrap_in, cpos]
    exact EvP.pure _ (fun h => by omega)
  simp (disch := omega) only [wrap_in, cneg]
  by_cases c2 : r - (a.particle.size : Int) - (a.family.size : Int) < 0
  · simp (disch := omega) only [wrap_in, cpos]
    exact EvP.pure _ (fun h => by omega)
  simp (disch := omega) only [wrap_in, cneg]
  by_cases c3 : r - (a.particle.size : Int) - (a.family.size : Int) - (a.suffix.size : Int) < 0
  · simp (disch := omega) only [wrap_in, cpos]
    exact EvP.pure _ (fun h => by omega)
  simp (disch := omega) only [wrap_in, cneg]
  exact EvP.pure _ (fun h => by omega)
theorem szNs_l0 (xs : List Name) (hw : WF (.sl .name) xs) (hlen : xs.length ≤ 1048576) : ∀ n i : Nat, i + n = xs.length → ∀ l : Int, 0 ≤ l → l ≤ 1048576 →
    EvP (fun k => laws_szNameS.l0 k xs l i) fun r => r = .inl (-1) ∨ ∃ q : Int, r = .inr q ∧ 0 ≤ q ∧ (((xs.drop i).map totN).sum : Int) + q = l
  | 0, i, h, l, h0, h1 => by
    refine EvP.step (fun k => by rw [laws_szNameS.l0]) ?_
    simp (disch := omega) only [cneg]
    rw [List.drop_eq_nil_of_le (by omega)]
    exact EvP.pure _ (.inr ⟨l, rfl, h0, by simp⟩)
  | n + 1, i, h, l, h0, h1 => by
    have hi : i < xs.length := by omega
    have hwi : WF .name xs[i] := by cases hw with | sl _ _ _ h => exact h i hi
    refine EvP.step (fun k => by rw [laws_szNameS.l0]) ?_
    simp (disch := omega) only [cpos, Int.toNat_natCast, getD_at hi]
    refine EvP.bind (szN_ev _ l h0 h1 hwi) fun r hr => ?_
    by_cases c : r < 0
    · simp (disch := omega) only [cpos]
      exact EvP.pure _ (.inl rfl)
    · have hr := hr (by omega)
      simp (disch := omega) only [cneg, wrap_in]
      refine EvP.mono (szNs_l0 xs hw hlen n (i + 1) (by omega) r (by omega) (by omega)) fun q hq => ?_
      rcases hq with rfl | ⟨q, rfl, h2, h3⟩
      · exact .inl rfl
      · refine .inr ⟨q, rfl, h2, ?_⟩
        rw [List.drop_eq_getElem_cons hi, List.map_cons, List.sum_cons]
        omega
theorem szNs_ev (xs : List Name) (l : Int) (h0 : 0 ≤ l) (h1 : l ≤ 1048576) (hw : WF (.sl .name) xs) : EvP (fun k => laws_szNameS.F k xs l) fun r => 0 ≤ r → (totNs xs : Int) + r = l := by
  have hl : xs.length ≤ 9223372036854775807 := wf_len hw
  unfold laws_szNameS.F totNs
  by_cases c : l - (xs.length : Int) < 0
  · simp (disch := omega) only [wrap_in, cpos]
    exact EvP.pure _ fun h => by omega
  · simp (disch := omega) only [wrap_in, cneg]
    refine EvP.bind (szNs_l0 xs hw (by omega) xs.length 0 (by omega) (l - xs.length) (by omega) (by omega)) fun r hr => ?_
    rcases hr with rfl | ⟨q, rfl, h2, h3⟩
    · exact EvP.pure _ fun h => by omega
    · rw [List.drop_zero] at h3
      exact EvP.pure _ fun h => by omega
theorem szE_ev (a : Entry) (l : Int) (h0 : 0 ≤ l) (h1 : l ≤ 1048576) (hw : WF .entry a) : EvP (fun k => laws_szEntry.F k a l) fun r => 0 ≤ r → (totE a : Int) + r = l := by
  obtain ⟨w1, w2, w3, w4, w5, w6, w7, w8⟩ : a.key.size ≤ 9223372036854775807 ∧ WF (.sl .name) a.authors ∧ WF (.sl .name) a.editors ∧ a.title.size ≤ 9223372036854775807 ∧ a.container.size ≤ 9223372036854775807 ∧ a.publisher.size ≤ 9223372036854775807 ∧ a.pages.size ≤ 9223372036854775807 ∧ a.cross.size ≤ 9223372036854775807 := by
    cases hw with | entry _ h1 h2 h3 h4 h5 h6 h7 h8 h9 h10 h11 => exact ⟨wf_str h1, h3, h4, wf_str h5, wf_str h6, wf_str h7, wf_str h10, wf_str h11⟩
  unfold laws_szEntry.F totE
  by_cases c0 : l - (a.key.size : Int) < 0
  · simp (disch := omega) only [wrap_in, cpos]
    exact EvP.pure _ (fun h => by omega)
  simp (disch := omega) only [wrap_in, cneg]
  refine EvP.bind (szNs_ev a.authors _ (by omega) (by omega) w2) fun r hr => ?_
  by_cases c : r < 0
  · simp (disch := omega) only [cpos]
    exact EvP.pure _ (fun h => by omega)
  simp (disch := omega) only [cneg]
  have hr := hr (by omega)
  refine EvP.bind (szNs_ev a.editors r (by omega) (by omega) w3) fun q hq => ?_
  by_cases c' : q < 0
  · simp (disch := omega) only [cpos]
    exact EvP.pure _ (fun h => by omega)
  simp (disch := omega) only [cneg]
  have hq := hq (by omega)
  by_cases c1 : q - (a.title.size : Int) < 0
  · simp (disch := omega) only [wrap_in, cpos]
    exact EvP.pure _ (fun h => by omega)
  simp (disch := omega) only [wrap_in, cneg]
  by_cases c2 : q - (a.title.size : Int) - (a.container.size : Int) < 0
  · simp (disch := omega) only [wrap_in, cpos]
    exact EvP.pure _ (fun h => by omega)
  simp (disch := omega) only [wrap_in, cneg]
  by_cases c3 : q - (a.title.size : Int) - (a.container.size : Int) - (a.publisher.size : Int) < 0
  · simp (disch := omega) only [wrap_in, cpos]
    exact EvP.pure _ (fun h => by omega)
  simp (disch := omega) only [wrap_in, cneg]
  by_cases c4 : q - (a.title.size : Int) - (a.container.size : Int) - (a.publisher.size : Int) - (a.pages.size : Int) < 0
  · simp (disch := omega) only [wrap_in, cpos]
    exact EvP.pure _ (fun h => by omega)
  simp (disch := omega) only [wrap_in, cneg]
  by_cases c5 : q - (a.title.size : Int) - (a.container.size : Int) - (a.publisher.size : Int) - (a.pages.size : Int) - (a.cross.size : Int) < 0
  · simp (disch := omega) only [wrap_in, cpos]
    exact EvP.pure _ (fun h => by omega)
  simp (disch := omega) only [wrap_in, cneg]
  exact EvP.pure _ (fun h => by omega)
theorem szEs_l0 (xs : List Entry) (hw : WF (.sl .entry) xs) (hlen : xs.length ≤ 1048576) : ∀ n i : Nat, i + n = xs.length → ∀ l : Int, 0 ≤ l → l ≤ 1048576 →
    EvP (fun k => laws_szEntryS.l0 k xs l i) fun r => r = .inl (-1) ∨ ∃ q : Int, r = .inr q ∧ 0 ≤ q ∧ (((xs.drop i).map totE).sum : Int) + q = l
  | 0, i, h, l, h0, h1 => by
    refine EvP.step (fun k => by rw [laws_szEntryS.l0]) ?_
    simp (disch := omega) only [cneg]
    rw [List.drop_eq_nil_of_le (by omega)]
    exact EvP.pure _ (.inr ⟨l, rfl, h0, by simp⟩)
  | n + 1, i, h, l, h0, h1 => by
    have hi : i < xs.length := by omega
    have hwi : WF .entry xs[i] := by cases hw with | sl _ _ _ h => exact h i hi
    refine EvP.step (fun k => by rw [laws_szEntryS.l0]) ?_
    simp (disch := omega) only [cpos, Int.toNat_natCast, getD_at hi]
    refine EvP.bind (szE_ev _ l h0 h1 hwi) fun r hr => ?_
    by_cases c : r < 0
    · simp (disch := omega) only [cpos]
      exact EvP.pure _ (.inl rfl)
    · have hr := hr (by omega)
      simp (disch := omega) only [cneg, wrap_in]
      refine EvP.mono (szEs_l0 xs hw hlen n (i + 1) (by omega) r (by omega) (by omega)) fun q hq => ?_
      rcases hq with rfl | ⟨q, rfl, h2, h3⟩
      · exact .inl rfl
      · refine .inr ⟨q, rfl, h2, ?_⟩
        rw [List.drop_eq_getElem_cons hi, List.map_cons, List.sum_cons]
        omega
theorem szEs_ev (xs : List Entry) (l : Int) (h0 : 0 ≤ l) (h1 : l ≤ 1048576) (hw : WF (.sl .entry) xs) : EvP (fun k => laws_szEntryS.F k xs l) fun r => 0 ≤ r → (totEs xs : Int) + r = l := by
  have hl : xs.length ≤ 9223372036854775807 := wf_len hw
  unfold laws_szEntryS.F totEs
  by_cases c : l - (xs.length : Int) < 0
  · simp (disch := omega) only [wrap_in, cpos]
    exact EvP.pure _ fun h => by omega
  · simp (disch := omega) only [wrap_in, cneg]
    refine EvP.bind (szEs_l0 xs hw (by omega) xs.length 0 (by omega) (l - xs.length) (by omega) (by omega)) fun r hr => ?_
    rcases hr with rfl | ⟨q, rfl, h2, h3⟩
    · exact EvP.pure _ fun h => by omega
    · rw [List.drop_zero] at h3
      exact EvP.pure _ fun h => by omega
theorem szL_ev (a : Library) (l : Int) (h0 : 0 ≤ l) (h1 : l ≤ 1048576) (hw : WF .lib a) : EvP (fun k => laws_szLibrary.F k a l) fun r => 0 ≤ r → (totEs a.entries : Int) + r = l := by
  have w1 : WF (.sl .entry) a.entries := by cases hw with | lib _ h => exact h
  unfold laws_szLibrary.F
  refine EvP.bind (szEs_ev a.entries l h0 h1 w1) fun r hr => ?_
  by_cases c : r < 0
  · simp (disch := omega) only [cpos]
    exact EvP.pure _ (fun h => by omega)
  simp (disch := omega) only [cneg]
  exact EvP.pure _ hr

/-! ### Copies -/
theorem toSp_l0 (xs : List ByteArray) (hlen : xs.length ≤ 1048576) : ∀ n i : Nat, i + n = xs.length → ∀ ys : List ByteArray, ys.length = xs.length → ys.take i = xs.take i → Ev (fun k => laws_toStringS_p.l0 k xs ys i) xs
  | 0, i, h, ys, hy, ht => by
    refine Ev.step (fun k => by rw [laws_toStringS_p.l0]) ?_
    simp (disch := omega) only [cneg]
    have : ys = xs := by
      rw [List.take_of_length_le (by omega), List.take_of_length_le (by omega)] at ht
      exact ht
    rw [this]; exact Ev.pure _
  | n + 1, i, h, ys, hy, ht => by
    have hi : i < xs.length := by omega
    refine Ev.step (fun k => by rw [laws_toStringS_p.l0]) ?_
    simp (disch := omega) only [cpos, Int.toNat_natCast, getD_at hi, wrap_in]
    exact toSp_l0 xs hlen n (i + 1) (by omega) (ys.set i xs[i]) (by simpa using hy) (by
      rw [List.take_add_one, List.take_add_one, List.take_set_of_le (Nat.le_refl i), ht]
      simp [show i < ys.length by omega, hi])
theorem toSp_ev (xs : List ByteArray) (hlen : xs.length ≤ 1048576) : Ev (fun k => laws_toStringS_p.F k xs) xs := by
  unfold laws_toStringS_p.F
  have hn : nb .str = 16 := rfl
  simp (disch := first | omega | (simp only [hn, Int.toNat_natCast]; omega)) only [ceq, cpos, cble]
  exact Ev.bind (a := xs) (toSp_l0 xs hlen xs.length 0 (by omega) _ (by simp) (by simp)) (Ev.pure _)
theorem toN_ev (a : Name) (hs : smallN a) : Ev (fun k => laws_toName_p.F k a) a := by
  unfold laws_toName_p.F
  exact Ev.bind (toSp_ev a.given (by unfold smallN totN at hs; omega)) (Ev.pure _)
theorem toNs_l0 (xs : List Name) (hs : ∀ x ∈ xs, smallN x) (hlen : xs.length ≤ 1048576) : ∀ n i : Nat, i + n = xs.length → ∀ ys : List Name, ys.length = xs.length → ys.take i = xs.take i → Ev (fun k => laws_toNameS_p.l0 k xs ys i) xs
  | 0, i, h, ys, hy, ht => by
    refine Ev.step (fun k => by rw [laws_toNameS_p.l0]) ?_
    simp (disch := omega) only [cneg]
    have : ys = xs := by
      rw [List.take_of_length_le (by omega), List.take_of_length_le (by omega)] at ht
      exact ht
    rw [this]; exact Ev.pure _
  | n + 1, i, h, ys, hy, ht => by
    have hi : i < xs.length := by omega
    refine Ev.step (fun k => by rw [laws_toNameS_p.l0]) ?_
    simp (disch := omega) only [cpos, Int.toNat_natCast, getD_at hi]
    refine Ev.bind (toN_ev _ (hs _ (List.getElem_mem hi))) ?_
    simp (disch := omega) only [cpos, wrap_in]
    exact toNs_l0 xs hs hlen n (i + 1) (by omega) (ys.set i xs[i]) (by simpa using hy) (by
      rw [List.take_add_one, List.take_add_one, List.take_set_of_le (Nat.le_refl i), ht]
      simp [show i < ys.length by omega, hi])
theorem toNs_ev (xs : List Name) (hs : ∀ x ∈ xs, smallN x) (hlen : xs.length ≤ 1048576) : Ev (fun k => laws_toNameS_p.F k xs) xs := by
  unfold laws_toNameS_p.F
  have hn : nb .name = 72 := rfl
  simp (disch := first | omega | (simp only [hn, Int.toNat_natCast]; omega)) only [ceq, cpos, cble]
  exact Ev.bind (a := xs) (toNs_l0 xs hs hlen xs.length 0 (by omega) _ (by simp) (by simp)) (Ev.pure _)
theorem toE_ev (a : Entry) (hs : smallE a) : Ev (fun k => laws_toEntry_p.F k a) a := by
  unfold laws_toEntry_p.F
  have ha := smallE_a hs
  have he := smallE_e hs
  exact Ev.bind (toNs_ev a.authors (fun x hx => smallNs_at ha hx) (smallNs_len ha)) (Ev.bind (toNs_ev a.editors (fun x hx => smallNs_at he hx) (smallNs_len he)) (Ev.pure _))
theorem toEs_l0 (xs : List Entry) (hs : ∀ x ∈ xs, smallE x) (hlen : xs.length ≤ 1048576) : ∀ n i : Nat, i + n = xs.length → ∀ ys : List Entry, ys.length = xs.length → ys.take i = xs.take i → Ev (fun k => laws_toEntryS_p.l0 k xs ys i) xs
  | 0, i, h, ys, hy, ht => by
    refine Ev.step (fun k => by rw [laws_toEntryS_p.l0]) ?_
    simp (disch := omega) only [cneg]
    have : ys = xs := by
      rw [List.take_of_length_le (by omega), List.take_of_length_le (by omega)] at ht
      exact ht
    rw [this]; exact Ev.pure _
  | n + 1, i, h, ys, hy, ht => by
    have hi : i < xs.length := by omega
    refine Ev.step (fun k => by rw [laws_toEntryS_p.l0]) ?_
    simp (disch := omega) only [cpos, Int.toNat_natCast, getD_at hi]
    refine Ev.bind (toE_ev _ (hs _ (List.getElem_mem hi))) ?_
    simp (disch := omega) only [cpos, wrap_in]
    exact toEs_l0 xs hs hlen n (i + 1) (by omega) (ys.set i xs[i]) (by simpa using hy) (by
      rw [List.take_add_one, List.take_add_one, List.take_set_of_le (Nat.le_refl i), ht]
      simp [show i < ys.length by omega, hi])
theorem toEs_ev (xs : List Entry) (hs : ∀ x ∈ xs, smallE x) (hlen : xs.length ≤ 1048576) : Ev (fun k => laws_toEntryS_p.F k xs) xs := by
  unfold laws_toEntryS_p.F
  have hn : nb .entry = 192 := rfl
  simp (disch := first | omega | (simp only [hn, Int.toNat_natCast]; omega)) only [ceq, cpos, cble]
  exact Ev.bind (a := xs) (toEs_l0 xs hs hlen xs.length 0 (by omega) _ (by simp) (by simp)) (Ev.pure _)
theorem toL_ev (a : Library) (hs : smallL a) : Ev (fun k => laws_toLibrary_p.F k a) a := by
  unfold laws_toLibrary_p.F
  exact Ev.bind (toEs_ev a.entries (fun x hx => smallL_at hs hx) (smallL_len hs)) (Ev.pure _)

/-! ### Equality -/
theorem eqN_ev (a : Name) (hs : smallN a) : Ev (fun k => laws_eqName.F k a a) true := by
  unfold laws_eqName.F
  refine Ev.bind (eqS_ev a.given (by unfold smallN totN at hs; omega)) ?_
  simp only [beqS_self, Bool.not_true, cond_false]
  exact Ev.pure _
theorem eqD_ev (a : Date) : laws_eqDate.F a a = some true := by
  unfold laws_eqDate.F
  simp only [bne_self_eq_false, beq_self_eq_true, Bool.not_true, cond_false]
theorem eqNs_l0 (xs : List Name) (hs : ∀ x ∈ xs, smallN x) (hlen : xs.length ≤ 1048576) : ∀ n i : Nat, i + n = xs.length → Ev (fun k => laws_eqNameS.l0 k xs xs i) (.inr ())
  | 0, i, h => by
    refine Ev.step (fun k => by rw [laws_eqNameS.l0]) ?_
    simp (disch := omega) only [cneg]
    exact Ev.pure _
  | n + 1, i, h => by
    have hi : i < xs.length := by omega
    refine Ev.step (fun k => by rw [laws_eqNameS.l0]) ?_
    simp (disch := omega) only [cpos, Int.toNat_natCast, getD_at hi]
    refine Ev.bind (eqN_ev _ (hs _ (List.getElem_mem hi))) ?_
    simp (disch := omega) only [Bool.not_true, cond_false, wrap_in]
    exact eqNs_l0 xs hs hlen n (i + 1) (by omega)
theorem eqNs_ev (xs : List Name) (hs : ∀ x ∈ xs, smallN x) (hlen : xs.length ≤ 1048576) : Ev (fun k => laws_eqNameS.F k xs xs) true := by
  unfold laws_eqNameS.F
  simp (disch := omega) only [cbeq]
  exact Ev.bind (eqNs_l0 xs hs hlen xs.length 0 (by omega)) (Ev.pure _)
theorem eqE_ev (a : Entry) (hs : smallE a) : Ev (fun k => laws_eqEntry.F k a a) true := by
  unfold laws_eqEntry.F
  have ha := smallE_a hs
  have he := smallE_e hs
  simp only [beqS_self, bne_self_eq_false, Bool.not_true, cond_false]
  refine Ev.bind (eqNs_ev a.authors (fun x hx => smallNs_at ha hx) (smallNs_len ha)) ?_
  simp only [Bool.not_true, cond_false]
  refine Ev.bind (eqNs_ev a.editors (fun x hx => smallNs_at he hx) (smallNs_len he)) ?_
  simp only [Bool.not_true, cond_false]
  refine Ev.bind0 (eqD_ev _) ?_
  simp only [Bool.not_true, cond_false]
  exact Ev.pure _
theorem eqEs_l0 (xs : List Entry) (hs : ∀ x ∈ xs, smallE x) (hlen : xs.length ≤ 1048576) : ∀ n i : Nat, i + n = xs.length → Ev (fun k => laws_eqEntryS.l0 k xs xs i) (.inr ())
  | 0, i, h => by
    refine Ev.step (fun k => by rw [laws_eqEntryS.l0]) ?_
    simp (disch := omega) only [cneg]
    exact Ev.pure _
  | n + 1, i, h => by
    have hi : i < xs.length := by omega
    refine Ev.step (fun k => by rw [laws_eqEntryS.l0]) ?_
    simp (disch := omega) only [cpos, Int.toNat_natCast, getD_at hi]
    refine Ev.bind (eqE_ev _ (hs _ (List.getElem_mem hi))) ?_
    simp (disch := omega) only [Bool.not_true, cond_false, wrap_in]
    exact eqEs_l0 xs hs hlen n (i + 1) (by omega)
theorem eqEs_ev (xs : List Entry) (hs : ∀ x ∈ xs, smallE x) (hlen : xs.length ≤ 1048576) : Ev (fun k => laws_eqEntryS.F k xs xs) true := by
  unfold laws_eqEntryS.F
  simp (disch := omega) only [cbeq]
  exact Ev.bind (eqEs_l0 xs hs hlen xs.length 0 (by omega)) (Ev.pure _)
theorem eqL_ev (a : Library) (hs : smallL a) : Ev (fun k => laws_eqLibrary.F k a a) true := by
  unfold laws_eqLibrary.F
  refine Ev.bind (eqEs_ev a.entries (fun x hx => smallL_at hs hx) (smallL_len hs)) ?_
  simp only [Bool.not_true, cond_false]
  exact Ev.pure _
end Go.Proofs.YtfnibdpepbgamaaGreatDoor
end
section
/- Plain laws: slices.IndexFunc, slices.DeleteFunc, as they are printed for a function value. -/
namespace Go.Gx
set_option linter.unusedVariables false
set_option linter.unusedSimpArgs false

section
variable {α : Type} {d : α} {p : α → Bool} {q : Nat → α → Option Bool} {xs : List α}
theorem getDat {α : Type} {xs : List α} {i : Nat} (h : i < xs.length) (d : α) : xs.getD i d = xs[i] := by simp [List.getD, List.getElem?_eq_getElem h]
theorem idx_l0 {l0 : Nat → List α → Int → Int → Option (Sum Int Unit)} (H : ∀ k x0 x7 x8, l0 (k + 1) x0 x7 x8 = bif (decide (x8 < x7)) then (bif decide (0 ≤ x8) then (bif decide (x8 < (x0.length : Int)) then ((q k (x0.getD (x8 : Int).toNat d)).bind fun r1 => bif r1 then (some (.inl x8)) else (l0 k x0 x7 (IntKind.wrap .i64 (x8 + 1)))) else none) else none) else (some (.inr ())))
    (hq : ∀ x, x ∈ xs → Ev (fun k => q k x) (p x)) (hl : xs.length ≤ 4611686018427387904) : ∀ n i : Nat, i + n = xs.length → (∀ x ∈ xs.take i, p x = false) →
    ∃ r, Ev (fun k => l0 k xs xs.length i) r ∧ ((r = .inr () ∧ ∀ x ∈ xs, p x = false) ∨ ∃ j : Nat, r = .inl j ∧ j < xs.length ∧ p (xs.getD j d) = true ∧ ∀ x ∈ xs.take j, p x = false)
  | 0, i, h, ht => by
    refine ⟨.inr (), Ev.step (fun k => by rw [H]) ?_, .inl ⟨rfl, by rw [List.take_of_length_le (by omega)] at ht; exact ht⟩⟩
    simp (disch := omega) only [cneg]
    exact Ev.pure _
  | n + 1, i, h, ht => by
    have hi : i < xs.length := by omega
    cases hp : p xs[i] with
    | true =>
      refine ⟨.inl i, Ev.step (fun k => by rw [H]) ?_, .inr ⟨i, rfl, hi, by rw [getDat hi, hp], ht⟩⟩
      simp (disch := omega) only [cpos, Int.toNat_natCast, getDat hi]
      refine Ev.bind (hq _ (List.getElem_mem hi)) ?_
      rw [hp]
      exact Ev.pure _
    | false =>
      obtain ⟨r, h1, h2⟩ := idx_l0 H hq hl n (i + 1) (by omega) (by
        intro x hx
        rw [List.take_add_one, List.getElem?_eq_getElem hi] at hx
        rcases List.mem_append.1 hx with hx | hx
        · exact ht x hx
        · simp only [Option.toList_some, List.mem_singleton] at hx
          rw [hx, hp])
      refine ⟨r, Ev.step (fun k => by rw [H]) ?_, h2⟩
      simp (disch := omega) only [cpos, Int.toNat_natCast, getDat hi]
      refine Ev.bind (hq _ (List.getElem_mem hi)) ?_
      rw [hp]
      simp (disch := omega) only [cond_false, wrap_in]
      exact h1
theorem idx_ev {l0 : Nat → List α → Int → Int → Option (Sum Int Unit)} (H : ∀ k x0 x7 x8, l0 (k + 1) x0 x7 x8 = bif (decide (x8 < x7)) then (bif decide (0 ≤ x8) then (bif decide (x8 < (x0.length : Int)) then ((q k (x0.getD (x8 : Int).toNat d)).bind fun r1 => bif r1 then (some (.inl x8)) else (l0 k x0 x7 (IntKind.wrap .i64 (x8 + 1)))) else none) else none) else (some (.inr ())))
    (hq : ∀ x, x ∈ xs → Ev (fun k => q k x) (p x)) (hl : xs.length ≤ 4611686018427387904) {F : Nat → List α → Option Int} (HF : ∀ k a0, F k a0 = (l0 k a0 (a0.length : Int) 0).bind fun y2 => match y2 with | .inl z3 => some z3 | .inr z3 => some (-1)) :
    ∃ r, Ev (fun k => F k xs) r ∧ ((r = -1 ∧ ∀ x ∈ xs, p x = false) ∨ ∃ j : Nat, r = j ∧ j < xs.length ∧ p (xs.getD j d) = true ∧ ∀ x ∈ xs.take j, p x = false) := by
  obtain ⟨r, h1, h2⟩ := idx_l0 H hq hl xs.length 0 (by omega) (fun x hx => by simp at hx)
  rcases h2 with ⟨rfl, h2⟩ | ⟨j, rfl, h2⟩
  · exact ⟨-1, Ev.congr (Ev.bind h1 (Ev.pure _)) (fun k => HF k xs), .inl ⟨rfl, h2⟩⟩
  · exact ⟨j, Ev.congr (Ev.bind h1 (Ev.pure _)) (fun k => HF k xs), .inr ⟨j, rfl, h2⟩⟩
theorem del_l0 {l0 : Nat → List α → Int → Int → Option (List α × Int)} (H : ∀ k x0 x5 x6, l0 (k + 1) x0 x5 x6 = bif (decide (x6 < (x0.length : Int))) then (bif decide (0 ≤ x6) then (bif decide (x6 < (x0.length : Int)) then ((q k (x0.getD ((x6 : Int).toNat) d)).bind fun r2 => bif (!r2) then (bif decide (0 ≤ x5) then (bif decide (x5 < (x0.length : Int)) then (l0 k (x0.set ((x5 : Int).toNat) (x0.getD ((x6 : Int).toNat) d)) (IntKind.wrap .i64 (x5 + 1)) (IntKind.wrap .i64 (x6 + 1))) else none) else none) else (l0 k x0 x5 (IntKind.wrap .i64 (x6 + 1)))) else none) else none) else (some (x0, x5)))
    (hq : ∀ x, x ∈ xs → Ev (fun k => q k x) (p x)) (hl : xs.length ≤ 4611686018427387904) : ∀ n j : Nat, j + n = xs.length → ∀ (ys : List α) (i : Nat), ys.length = xs.length → i ≤ j → ys.drop j = xs.drop j →
    ∃ zs, ∃ i' : Nat, Ev (fun k => l0 k ys i j) (zs, (i' : Int)) ∧ i' ≤ xs.length ∧ zs.length = xs.length ∧ zs.take i' = ys.take i ++ (xs.drop j).filter fun x => !p x
  | 0, j, h, ys, i, hy, hij, hd => by
    refine ⟨ys, i, Ev.step (fun k => by rw [H]) ?_, by omega, hy, ?_⟩
    · simp (disch := omega) only [cneg]
      exact Ev.pure _
    · rw [List.drop_eq_nil_of_le (by omega), List.filter_nil, List.append_nil]
  | n + 1, j, h, ys, i, hy, hij, hd => by
    have hj : j < xs.length := by omega
    have hj' : j < ys.length := by omega
    have hx : ys[j] = xs[j] := by
      have h0 := congrArg (·[0]?) hd
      simpa [hj, hj'] using h0
    have hd1 : ys.drop (j + 1) = xs.drop (j + 1) := by
      have := congrArg (List.drop 1) hd
      simpa [List.drop_drop] using this
    cases hp : p xs[j] with
    | true =>
      obtain ⟨zs, i', h1, h2, h3, h4⟩ := del_l0 H hq hl n (j + 1) (by omega) ys i hy (by omega) hd1
      refine ⟨zs, i', Ev.step (fun k => by rw [H]) ?_, h2, h3, ?_⟩
      · simp (disch := omega) only [cpos, Int.toNat_natCast, getDat hj', hx]
        refine Ev.bind (hq _ (List.getElem_mem hj)) ?_
        rw [hp]
        simp (disch := omega) only [Bool.not_true, cond_false, wrap_in]
        exact h1
      · rw [h4, List.drop_eq_getElem_cons hj, List.filter_cons_of_neg (by rw [hp]; decide)]
    | false =>
      obtain ⟨zs, i', h1, h2, h3, h4⟩ := del_l0 H hq hl n (j + 1) (by omega) (ys.set i xs[j]) (i + 1) (by simpa using hy) (by omega) (by rw [List.drop_set_of_lt (by omega)]; exact hd1)
      refine ⟨zs, i', Ev.step (fun k => by rw [H]) ?_, h2, h3, ?_⟩
      · simp (disch := omega) only [cpos, Int.toNat_natCast, getDat hj', hx]
        refine Ev.bind (hq _ (List.getElem_mem hj)) ?_
        rw [hp]
        simp (disch := omega) only [Bool.not_false, cond_true, cpos, Int.toNat_natCast, wrap_in]
        exact h1
      · rw [h4, List.drop_eq_getElem_cons hj, List.filter_cons_of_pos (by rw [hp]; decide), List.take_add_one, List.take_set_of_le (Nat.le_refl i)]
        have : (ys.set i xs[j])[i]? = some xs[j] := by rw [List.getElem?_set_self (by omega)]
        rw [this]
        simp
theorem delete_ev {l0 : Nat → List α → Int → Int → Option (List α × Int)} (H : ∀ k x0 x5 x6, l0 (k + 1) x0 x5 x6 = bif (decide (x6 < (x0.length : Int))) then (bif decide (0 ≤ x6) then (bif decide (x6 < (x0.length : Int)) then ((q k (x0.getD ((x6 : Int).toNat) d)).bind fun r2 => bif (!r2) then (bif decide (0 ≤ x5) then (bif decide (x5 < (x0.length : Int)) then (l0 k (x0.set ((x5 : Int).toNat) (x0.getD ((x6 : Int).toNat) d)) (IntKind.wrap .i64 (x5 + 1)) (IntKind.wrap .i64 (x6 + 1))) else none) else none) else (l0 k x0 x5 (IntKind.wrap .i64 (x6 + 1)))) else none) else none) else (some (x0, x5)))
    (hq : ∀ x, x ∈ xs → Ev (fun k => q k x) (p x)) (hl : xs.length ≤ 4611686018427387904) {I F : Nat → List α → Option _} {e : α}
    (hI : ∃ r : Int, Ev (fun k => I k xs) r ∧ ((r = -1 ∧ ∀ x ∈ xs, p x = false) ∨ ∃ j : Nat, r = j ∧ j < xs.length ∧ p (xs.getD j d) = true ∧ ∀ x ∈ xs.take j, p x = false))
    (HF : ∀ k a0, F k a0 = (I k a0).bind fun r1 => bif (r1 == (-1)) then (some a0) else ((l0 k a0 r1 (IntKind.wrap .i64 (r1 + 1))).bind fun y3 => bif decide (0 ≤ y3.2) then (bif decide (y3.2 ≤ (y3.1.length : Int)) then (bif decide (0 ≤ y3.2) then (bif decide (y3.2 ≤ ((y3.1.take ((y3.2 : Int).toNat) ++ List.replicate (y3.1.length - ((y3.2 : Int).toNat)) e).length : Int)) then (some ((y3.1.take ((y3.2 : Int).toNat) ++ List.replicate (y3.1.length - ((y3.2 : Int).toNat)) e).take (y3.2 : Int).toNat)) else none) else none) else none) else none)) :
    Ev (fun k => F k xs) (xs.filter fun x => !p x) := by
  obtain ⟨r, h1, h2⟩ := hI
  refine Ev.congr (?_ : Ev _ _) (fun k => HF k xs)
  refine Ev.bind h1 ?_
  rcases h2 with ⟨rfl, h2⟩ | ⟨j, rfl, hj, hp, h2⟩
  · have : (xs.filter fun x => !p x) = xs := List.filter_eq_self.2 fun x hx => by rw [h2 x hx]; rfl
    rw [this]
    exact Ev.pure _
  · obtain ⟨zs, i', h3, h4, h5, h6⟩ := del_l0 H hq hl (xs.length - (j + 1)) (j + 1) (by omega) xs j rfl (by omega) rfl
    rw [getDat hj] at hp
    have hz : zs.take i' = xs.filter fun x => !p x := by
      rw [h6]
      conv => rhs; rw [← List.take_append_drop j xs, List.filter_append, List.drop_eq_getElem_cons hj, List.filter_cons_of_neg (by rw [hp]; decide)]
      congr 1
      exact (List.filter_eq_self.2 fun x hx => by rw [h2 x hx]; rfl).symm
    simp (disch := omega) only [cne, wrap_in]
    refine Ev.bind h3 ?_
    have e1 : ((zs.take i' ++ List.replicate (zs.length - i') e)).length = zs.length := by simp; omega
    simp (disch := (try simp only [Int.toNat_natCast, e1]); omega) only [cpos, Int.toNat_natCast, e1]
    rw [List.take_append_of_le_length (by simp; omega), List.take_take, Nat.min_self, hz]
    exact Ev.pure _
end
end Go.Gx
end
section
/- Plain laws: keys, names, dates, entries, libraries: are they valid? -/
namespace Go.Proofs.YtfnibdpepbgamaaGreatDoor
open Go.Gx
set_option linter.unusedVariables false
set_option linter.unusedSimpArgs false

theorem in_ev (a b c : Int) : spec_l1In.F a b c = some (decide (a ≥ b) && decide (a ≤ c)) := by
  unfold spec_l1In.F
  cases decide (a ≥ b) <;> rfl
theorem inside_ev (a b c : Int) : impl_inside.F a b c = some (decide (a ≥ b) && decide (a ≤ c)) := by
  unfold impl_inside.F
  cases decide (a ≥ b) <;> rfl
theorem and_step {f : Nat → Option Bool} {b c : Bool} (h : b = true → Ev f c) : Ev (fun k => bif (!b) then some false else f k) (b && c) := by
  cases b with
  | false => exact Ev.pure _
  | true => exact h rfl
theorem and_step' {f : Nat → Option Bool} {b c : Bool} (h : b = true → Ev f c) : Ev (fun k => bif b then f k else some false) (b && c) := by
  cases b with
  | false => exact Ev.pure _
  | true => exact h rfl
theorem cbx (b : Bool) {α : Type} (x : α) : (bif b then x else x) = x := by cases b <;> rfl

/-! ### Bytes -/
def lowc (b : Int) : Bool := decide (97 ≤ b) && decide (b ≤ 122)
def upc (b : Int) : Bool := decide (65 ≤ b) && decide (b ≤ 90)
def ltr (b : Int) : Bool := upc b || lowc b
def dig (b : Int) : Bool := decide (48 ≤ b) && decide (b ≤ 57)
theorem sLower (b : Int) : spec_l2Lower.F b = some (lowc b) := by
  unfold spec_l2Lower.F lowc
  simp only [ge_iff_le]
  cases decide (97 ≤ b) <;> rfl
theorem sUpper (b : Int) : spec_l2Upper.F b = some (upc b) := by
  unfold spec_l2Upper.F upc
  simp only [ge_iff_le]
  cases decide (65 ≤ b) <;> rfl
theorem sLetter (b : Int) : spec_l2Letter.F b = some (ltr b) := by
  unfold spec_l2Letter.F ltr
  rw [sUpper, sLower]
  cases upc b <;> rfl
theorem iLower (b : Int) : impl_isLower.F b = some (lowc b) := by
  unfold impl_isLower.F lowc
  simp only [ge_iff_le]
  cases decide (97 ≤ b) <;> rfl
theorem iUpper (b : Int) : impl_isUpper.F b = some (upc b) := by
  unfold impl_isUpper.F upc
  simp only [ge_iff_le]
  cases decide (65 ≤ b) <;> rfl
theorem iLetter (b : Int) : impl_isLetter.F b = some (ltr b) := by
  unfold impl_isLetter.F ltr
  rw [iUpper, iLower]
  cases upc b <;> rfl
theorem iDigit (b : Int) : impl_isDigit.F b = some (dig b) := by
  unfold impl_isDigit.F dig
  simp only [ge_iff_le]
  cases decide (48 ≤ b) <;> rfl
def ins (n : Nat) (lo hi : Int) : Bool := decide ((n : Int) ≥ lo) && decide ((n : Int) ≤ hi)
theorem ins_le {n : Nat} {lo hi : Int} (h : ins n lo hi = true) : lo ≤ n ∧ (n : Int) ≤ hi := by
  unfold ins at h
  simp only [Bool.and_eq_true, decide_eq_true_eq] at h
  exact h

/-! ### Keys -/
def kb (s : ByteArray) (i : Nat) : Bool := lowc (bt s i) || dig (bt s i)
def keyB (s : ByteArray) : Bool := ins s.size 1 10 && (lowc (bt s 0) && (List.range' 0 s.size).all (kb s))
theorem specKey_l0 (s : ByteArray) (hs : s.size ≤ 10) : Ev (fun k => spec_l4Key.l0 k s ((0 : Nat) : Int)) (if (List.range' 0 s.size).all (kb s) = true then .inr () else .inl false) := by
  refine loop_all (f := fun k i => spec_l4Key.l0 k s i) (n := s.size) (fun i hi hp => ?_) (fun i r hi hp ih => ?_) ?_ s.size 0 (by omega)
  · refine Ev.step (fun k => by rw [spec_l4Key.l0]) ?_
    unfold kb at hp
    rw [Bool.or_eq_false_iff] at hp
    simp (disch := omega) only [cpos, Int.toNat_natCast]
    refine Ev.bind0 (sLower _) ?_
    rw [hp.1]
    have h2 := hp.2
    unfold dig at h2
    by_cases c : bt s i < 48
    · simp (disch := omega) only [cpos, Bool.not_false, cond_true]
      exact Ev.pure _
    · have c2 : bt s i > 57 := by
        rw [decide_eq_true (show 48 ≤ bt s i by omega), Bool.true_and, decide_eq_false_iff_not] at h2
        omega
      simp (disch := omega) only [cpos, cneg, Bool.not_false, cond_true]
      exact Ev.pure _
  · refine Ev.step (fun k => by rw [spec_l4Key.l0]) ?_
    simp (disch := omega) only [cpos, Int.toNat_natCast]
    refine Ev.bind0 (sLower _) ?_
    cases hl : lowc (bt s i) with
    | true =>
      simp (disch := omega) only [Bool.not_true, cond_false, wrap_in]
      exact ih
    | false =>
      unfold kb at hp
      rw [hl, Bool.false_or] at hp
      unfold dig at hp
      simp only [Bool.and_eq_true, decide_eq_true_eq] at hp
      simp (disch := omega) only [Bool.not_false, cond_true, cpos, cneg, wrap_in]
      exact ih
  · refine Ev.step (fun k => by rw [spec_l4Key.l0]) ?_
    simp (disch := omega) only [cneg]
    exact Ev.pure _
theorem isKey_l0 (s : ByteArray) (hs : s.size ≤ 10) : Ev (fun k => impl_isKey.l0 k s ((0 : Nat) : Int)) (if (List.range' 0 s.size).all (kb s) = true then .inr () else .inl false) := by
  refine loop_all (f := fun k i => impl_isKey.l0 k s i) (n := s.size) (fun i hi hp => ?_) (fun i r hi hp ih => ?_) ?_ s.size 0 (by omega)
  · refine Ev.step (fun k => by rw [impl_isKey.l0]) ?_
    unfold kb at hp
    rw [Bool.or_eq_false_iff] at hp
    simp (disch := omega) only [cpos, Int.toNat_natCast]
    refine Ev.bind0 (iLower _) ?_
    rw [hp.1]
    simp (disch := omega) only [Bool.not_false, cond_true, cpos]
    refine Ev.bind0 (iDigit _) ?_
    rw [hp.2]
    exact Ev.pure _
  · refine Ev.step (fun k => by rw [impl_isKey.l0]) ?_
    simp (disch := omega) only [cpos, Int.toNat_natCast]
    refine Ev.bind0 (iLower _) ?_
    cases hl : lowc (bt s i) with
    | true =>
      simp (disch := omega) only [Bool.not_true, cond_false, wrap_in]
      exact ih
    | false =>
      unfold kb at hp
      rw [hl, Bool.false_or] at hp
      simp (disch := omega) only [Bool.not_false, cond_true, cpos]
      refine Ev.bind0 (iDigit _) ?_
      rw [hp]
      simp (disch := omega) only [Bool.not_true, cond_false, wrap_in]
      exact ih
  · refine Ev.step (fun k => by rw [impl_isKey.l0]) ?_
    simp (disch := omega) only [cneg]
    exact Ev.pure _
theorem specKey_ev (s : ByteArray) : Ev (fun k => spec_l4Key.F k s) (keyB s) := by
  unfold spec_l4Key.F keyB
  refine Ev.bind0 (in_ev _ _ _) (and_step fun h => ?_)
  obtain ⟨h1, h2⟩ := ins_le h
  simp (disch := omega) only [cpos, show (0 : Int).toNat = 0 from rfl]
  refine Ev.bind0 (sLower _) (and_step fun _ => ?_)
  have := specKey_l0 s (by omega)
  cases ha : (List.range' 0 s.size).all (kb s) with
  | true => rw [ha] at this; exact Ev.bind this (Ev.pure _)
  | false => rw [ha] at this; exact Ev.bind this (Ev.pure _)
theorem isKey_ev (s : ByteArray) : Ev (fun k => impl_isKey.F k s) (keyB s) := by
  unfold impl_isKey.F keyB
  refine Ev.bind0 (inside_ev _ _ _) (and_step fun h => ?_)
  obtain ⟨h1, h2⟩ := ins_le h
  simp (disch := omega) only [cpos, show (0 : Int).toNat = 0 from rfl]
  refine Ev.bind0 (iLower _) (and_step fun _ => ?_)
  have := isKey_l0 s (by omega)
  cases ha : (List.range' 0 s.size).all (kb s) with
  | true => rw [ha] at this; exact Ev.bind this (Ev.pure _)
  | false => rw [ha] at this; exact Ev.bind this (Ev.pure _)

/-! ### Words of names -/
def wp (s : ByteArray) (i : Nat) : Bool := ltr (bt s i) || ((bt s i == 45 || bt s i == 39) && ltr (bt s (i - 1)))
def wordB (s : ByteArray) : Bool := ins s.size 1 12 && (ltr (bt s 0) && (ltr (bt s (s.size - 1)) && (List.range' 1 (s.size - 1)).all (wp s)))
theorem wcase {s : ByteArray} {i : Nat} (h : ltr (bt s i) = false) (h1 : bt s i ≠ 45) (h2 : bt s i ≠ 39) : wp s i = false := by
  unfold wp
  rw [h, show (bt s i == 45) = false by simpa using h1, show (bt s i == 39) = false by simpa using h2]; rfl
theorem wcase' {s : ByteArray} {i : Nat} (h : ltr (bt s i) = false) (h1 : bt s i = 45 ∨ bt s i = 39) : wp s i = ltr (bt s (i - 1)) := by
  unfold wp
  rw [h]
  rcases h1 with h1 | h1 <;> rw [h1] <;> simp
theorem specWord_l0 (s : ByteArray) (hs : s.size ≤ 12) : ∀ m i : Nat, i + m = s.size → 1 ≤ i → Ev (fun k => spec_l2Word.l0 k s i) (if (List.range' i m).all (wp s) = true then .inr () else .inl false)
  | 0, i, h, h1 => by
    refine Ev.step (fun k => by rw [spec_l2Word.l0]) ?_
    simp (disch := omega) only [cneg]
    exact Ev.pure _
  | m + 1, i, h, h1 => by
    have ih := specWord_l0 s hs m (i + 1) (by omega) (by omega)
    have et : ((i : Int) - 1).toNat = i - 1 := by omega
    refine Ev.step (fun k => by rw [spec_l2Word.l0]) ?_
    rw [List.range'_succ, List.all_cons]
    simp (disch := omega) only [cpos, Int.toNat_natCast]
    refine Ev.bind0 (sLetter _) ?_
    cases hl : ltr (bt s i) with
    | true =>
      have : wp s i = true := by unfold wp; rw [hl]; rfl
      rw [this]
      simp (disch := omega) only [Bool.not_true, cond_false, Bool.true_and, wrap_in]
      exact ih
    | false =>
      have fin : (bt s i = 45 ∨ bt s i = 39) → Ev (fun k => (spec_l2Letter.F (bt s (i - 1))).bind fun r5 => bif (!r5) then (some (.inl false)) else (spec_l2Word.l0 k s ((i : Int) + 1))) (if (wp s i && (List.range' (i + 1) m).all (wp s)) = true then .inr () else .inl false) := fun hh => by
        refine Ev.bind0 (sLetter _) ?_
        rw [wcase' hl hh]
        cases ltr (bt s (i - 1)) with
        | true => exact ih
        | false => exact Ev.pure _
      by_cases c1 : bt s i = 45
      · simp (disch := first | exact c1 | omega) only [Bool.not_false, cond_true, cpos, cbeq, wrap_in, et]
        exact fin (.inl c1)
      · by_cases c2 : bt s i = 39
        · simp (disch := first | exact c1 | exact c2 | omega) only [Bool.not_false, cond_true, cpos, cbne, cbeq, wrap_in, et]
          exact fin (.inr c2)
        · rw [wcase hl c1 c2]
          simp (disch := first | exact c1 | exact c2 | omega) only [Bool.not_false, cond_true, cpos, cbne]
          exact Ev.pure _
theorem isWord_l0 (s : ByteArray) (hs : s.size ≤ 12) : ∀ m i : Nat, i + m = s.size → 1 ≤ i → Ev (fun k => impl_isNameWord.l0 k s i) (if (List.range' i m).all (wp s) = true then .inr () else .inl false)
  | 0, i, h, h1 => by
    refine Ev.step (fun k => by rw [impl_isNameWord.l0]) ?_
    simp (disch := omega) only [cneg]
    exact Ev.pure _
  | m + 1, i, h, h1 => by
    have ih := isWord_l0 s hs m (i + 1) (by omega) (by omega)
    have et : ((i : Int) - 1).toNat = i - 1 := by omega
    refine Ev.step (fun k => by rw [impl_isNameWord.l0]) ?_
    rw [List.range'_succ, List.all_cons]
    simp (disch := omega) only [cpos, Int.toNat_natCast]
    refine Ev.bind0 (iLetter _) ?_
    cases hl : ltr (bt s i) with
    | true =>
      have : wp s i = true := by unfold wp; rw [hl]; rfl
      rw [this]
      simp (disch := omega) only [Bool.not_true, cond_false, Bool.true_and, wrap_in]
      exact ih
    | false =>
      have fin : (bt s i = 45 ∨ bt s i = 39) → Ev (fun k => (impl_isLetter.F (bt s (i - 1))).bind fun r5 => bif (!r5) then (some (.inl false)) else (impl_isNameWord.l0 k s ((i : Int) + 1))) (if (wp s i && (List.range' (i + 1) m).all (wp s)) = true then .inr () else .inl false) := fun hh => by
        refine Ev.bind0 (iLetter _) ?_
        rw [wcase' hl hh]
        cases ltr (bt s (i - 1)) with
        | true => exact ih
        | false => exact Ev.pure _
      by_cases c1 : bt s i = 45
      · simp (disch := first | exact c1 | omega) only [Bool.not_false, cond_true, cpos, cbeq, wrap_in, et]
        exact fin (.inl c1)
      · by_cases c2 : bt s i = 39
        · simp (disch := first | exact c1 | exact c2 | omega) only [Bool.not_false, cond_true, cpos, cbne, cbeq, wrap_in, et]
          exact fin (.inr c2)
        · rw [wcase hl c1 c2]
          simp (disch := first | exact c1 | exact c2 | omega) only [Bool.not_false, cond_true, cpos, cbne]
          exact Ev.pure _
theorem specWord_ev (s : ByteArray) : Ev (fun k => spec_l2Word.F k s) (wordB s) := by
  unfold spec_l2Word.F wordB
  refine Ev.bind0 (in_ev _ _ _) (and_step fun h => ?_)
  obtain ⟨h1, h2⟩ := ins_le h
  have et : ((s.size : Int) - 1).toNat = s.size - 1 := by omega
  simp (disch := omega) only [cpos, show (0 : Int).toNat = 0 from rfl, wrap_in, et]
  refine Ev.bind0 (sLetter _) (and_step fun _ => ?_)
  refine Ev.bind0 (sLetter _) (and_step fun _ => ?_)
  have := specWord_l0 s (by omega) (s.size - 1) 1 (by omega) (Nat.le_refl _)
  cases ha : (List.range' 1 (s.size - 1)).all (wp s) with
  | true => rw [ha] at this; exact Ev.bind this (Ev.pure _)
  | false => rw [ha] at this; exact Ev.bind this (Ev.pure _)
theorem isWord_ev (s : ByteArray) : Ev (fun k => impl_isNameWord.F k s) (wordB s) := by
  unfold impl_isNameWord.F wordB
  refine Ev.bind0 (inside_ev _ _ _) (and_step fun h => ?_)
  obtain ⟨h1, h2⟩ := ins_le h
  have et : ((s.size : Int) - 1).toNat = s.size - 1 := by omega
  simp (disch := omega) only [cpos, show (0 : Int).toNat = 0 from rfl, wrap_in, et]
  refine (Ev.bind0 (iLetter _) (and_step (c := ltr (bt s 0) && (List.range' 1 (s.size - 1)).all (wp s)) fun _ => ?_)).eq (Bool.and_left_comm _ _ _)
  refine Ev.bind0 (iLetter _) (and_step fun h0 => ?_)
  have := isWord_l0 s (by omega) (s.size - 1) 1 (by omega) (Nat.le_refl _)
  refine Ev.bind (a := if (List.range' 1 (s.size - 1)).all (wp s) = true then .inr () else .inl false) ?_ ?_
  · refine Ev.step (fun k => by rw [impl_isNameWord.l0]) ?_
    simp (disch := omega) only [cpos, show (0 : Int).toNat = 0 from rfl]
    refine Ev.bind0 (iLetter _) ?_
    rw [h0]
    simp (disch := omega) only [Bool.not_true, cond_false, wrap_in]
    exact this
  · cases (List.range' 1 (s.size - 1)).all (wp s) <;> exact Ev.pure _

/-! ### Particles -/
def lowA (s : ByteArray) : Bool := (List.range' 0 s.size).all fun i => lowc (bt s i)
theorem lowA_word {s : ByteArray} (h : lowA s = true) : wordB s = ins s.size 1 12 := by
  unfold lowA at h
  rw [List.all_eq_true] at h
  have hl : ∀ i, i < s.size → ltr (bt s i) = true := fun i hi => by
    unfold ltr
    rw [h i (by rw [List.mem_range'_1]; omega), Bool.or_true]
  unfold wordB
  cases hi : ins s.size 1 12 with
  | false => rfl
  | true =>
    obtain ⟨h1, h2⟩ := ins_le hi
    rw [hl 0 (by omega), hl (s.size - 1) (by omega)]
    have : (List.range' 1 (s.size - 1)).all (wp s) = true := by
      rw [List.all_eq_true]
      intro i hi
      rw [List.mem_range'_1] at hi
      unfold wp
      rw [hl i (by omega)]; rfl
    rw [this]; rfl
def pw (s : ByteArray) : Bool := ins s.size 1 12 && lowA s
theorem pw_eq (s : ByteArray) : (wordB s && lowA s) = pw s := by
  unfold pw
  cases h : lowA s with
  | false => rw [Bool.and_false, Bool.and_false]
  | true => rw [lowA_word h]
def particleB (s : ByteArray) : Bool := decide (s.size = 0) || ((words s).all pw && decide ((words s).length ≤ 2))
theorem empty_eq (s : ByteArray) : beqS s ⟨#[]⟩ = decide (s.size = 0) := by
  rw [← Bool.not_not (b := beqS s ⟨#[]⟩), size_pos]
  by_cases hz : s.size = 0
  · simp [hz]
  · rw [decide_eq_true (by omega : 0 < s.size), decide_eq_false hz]; rfl
theorem specPart_l2 (W : List ByteArray) (i : Nat) (hi : i < W.length) (hs : W[i].size ≤ 1048576) : Ev (fun k => spec_l2Particle.l2 k W i ((0 : Nat) : Int)) (if lowA W[i] = true then .inr (W, (i : Int)) else .inl false) := by
  refine loop_all (f := fun k j => spec_l2Particle.l2 k W i j) (n := W[i].size) (p := fun j => lowc (bt W[i] j)) (fun j hj hp => ?_) (fun j r hj hp ih => ?_) ?_ W[i].size 0 (by omega)
  · refine Ev.step (fun k => by rw [spec_l2Particle.l2]) ?_
    simp (disch := omega) only [cpos, Int.toNat_natCast, getD_at hi]
    refine Ev.bind0 (sLower _) ?_
    rw [hp]
    exact Ev.pure _
  · refine Ev.step (fun k => by rw [spec_l2Particle.l2]) ?_
    simp (disch := omega) only [cpos, Int.toNat_natCast, getD_at hi]
    refine Ev.bind0 (sLower _) ?_
    rw [hp]
    simp (disch := omega) only [Bool.not_true, cond_false, wrap_in]
    exact ih
  · refine Ev.step (fun k => by rw [spec_l2Particle.l2]) ?_
    simp (disch := omega) only [cpos, cneg, Int.toNat_natCast, getD_at hi]
    exact Ev.pure _
theorem isPart_l2 (W : List ByteArray) (w : ByteArray) (n i : Int) (hs : w.size ≤ 1048576) : Ev (fun k => impl_isParticle.l2 k W w ((0 : Nat) : Int) n i) (if lowA w = true then .inr (W, n, i) else .inl false) := by
  refine loop_all (f := fun k j => impl_isParticle.l2 k W w j n i) (n := w.size) (p := fun j => lowc (bt w j)) (fun j hj hp => ?_) (fun j r hj hp ih => ?_) ?_ w.size 0 (by omega)
  · refine Ev.step (fun k => by rw [impl_isParticle.l2]) ?_
    simp (disch := omega) only [cpos, Int.toNat_natCast]
    refine Ev.bind0 (iLower _) ?_
    rw [hp]
    exact Ev.pure _
  · refine Ev.step (fun k => by rw [impl_isParticle.l2]) ?_
    simp (disch := omega) only [cpos, Int.toNat_natCast]
    refine Ev.bind0 (iLower _) ?_
    rw [hp]
    simp (disch := omega) only [Bool.not_true, cond_false, wrap_in]
    exact ih
  · refine Ev.step (fun k => by rw [impl_isParticle.l2]) ?_
    simp (disch := omega) only [cneg]
    exact Ev.pure _
theorem specPart_l0 (W : List ByteArray) (hl : W.length ≤ 1048577) (hW : ∀ x ∈ W, x.size ≤ 1048576) : Ev (fun k => spec_l2Particle.l0 k W ((0 : Nat) : Int)) (if (List.range' 0 W.length).all (fun i => pw (W.getD i ⟨#[]⟩)) = true then .inr W else .inl false) := by
  refine loop_all (f := fun k j => spec_l2Particle.l0 k W j) (n := W.length) (p := fun i => pw (W.getD i ⟨#[]⟩)) (fun j hj hp => ?_) (fun j r hj hp ih => ?_) ?_ W.length 0 (by omega)
  · rw [getD_at hj, ← pw_eq] at hp
    refine Ev.step (fun k => by rw [spec_l2Particle.l0]) ?_
    simp (disch := omega) only [cpos, Int.toNat_natCast, getD_at hj]
    refine Ev.bind (specWord_ev _) ?_
    cases hw : wordB W[j] with
    | false => exact Ev.pure _
    | true =>
      rw [hw, Bool.true_and] at hp
      have := specPart_l2 W j hj (hW _ (List.getElem_mem hj))
      rw [hp] at this
      exact Ev.bind this (Ev.pure _)
  · rw [getD_at hj, ← pw_eq, Bool.and_eq_true] at hp
    refine Ev.step (fun k => by rw [spec_l2Particle.l0]) ?_
    simp (disch := omega) only [cpos, Int.toNat_natCast, getD_at hj]
    refine Ev.bind (specWord_ev _) ?_
    rw [hp.1]
    have := specPart_l2 W j hj (hW _ (List.getElem_mem hj))
    rw [hp.2] at this
    refine Ev.bind (a := .inr (W, (j : Int))) this ?_
    simp (disch := omega) only [wrap_in]
    exact ih
  · refine Ev.step (fun k => by rw [spec_l2Particle.l0]) ?_
    simp (disch := omega) only [cneg]
    exact Ev.pure _
theorem isPart_l0 (W : List ByteArray) (hl : W.length ≤ 1048577) (hW : ∀ x ∈ W, x.size ≤ 1048576) : Ev (fun k => impl_isParticle.l0 k W W.length ((0 : Nat) : Int)) (if (List.range' 0 W.length).all (fun i => pw (W.getD i ⟨#[]⟩)) = true then .inr W else .inl false) := by
  refine loop_all (f := fun k j => impl_isParticle.l0 k W W.length j) (n := W.length) (p := fun i => pw (W.getD i ⟨#[]⟩)) (fun j hj hp => ?_) (fun j r hj hp ih => ?_) ?_ W.length 0 (by omega)
  · rw [getD_at hj] at hp
    unfold pw at hp
    refine Ev.step (fun k => by rw [impl_isParticle.l0]) ?_
    simp (disch := omega) only [cpos, Int.toNat_natCast, getD_at hj]
    refine Ev.bind0 (inside_ev _ _ _) ?_
    cases hw : ins W[j].size 1 12 with
    | false =>
      unfold ins at hw
      rw [hw]
      exact Ev.pure _
    | true =>
      rw [hw, Bool.true_and] at hp
      unfold ins at hw
      rw [hw]
      have := isPart_l2 W W[j] W.length j (hW _ (List.getElem_mem hj))
      rw [hp] at this
      exact Ev.bind this (Ev.pure _)
  · rw [getD_at hj] at hp
    unfold pw at hp
    rw [Bool.and_eq_true] at hp
    obtain ⟨hp1, hp2⟩ := hp
    unfold ins at hp1
    refine Ev.step (fun k => by rw [impl_isParticle.l0]) ?_
    simp (disch := omega) only [cpos, Int.toNat_natCast, getD_at hj]
    refine Ev.bind0 (inside_ev _ _ _) ?_
    rw [hp1]
    have := isPart_l2 W W[j] W.length j (hW _ (List.getElem_mem hj))
    rw [hp2] at this
    refine Ev.bind (a := .inr (W, (W.length : Int), (j : Int))) this ?_
    simp (disch := omega) only [wrap_in]
    exact ih
  · refine Ev.step (fun k => by rw [impl_isParticle.l0]) ?_
    simp (disch := omega) only [cneg]
    exact Ev.pure _
theorem specPart_ev (s : ByteArray) (hs : s.size ≤ 1048576) : Ev (fun k => spec_l2Particle.F k s) (particleB s) := by
  unfold spec_l2Particle.F particleB
  rw [empty_eq]
  cases decide (s.size = 0) with
  | true => exact Ev.pure _
  | false =>
    refine Ev.bind (specSplit_ev s hs) ?_
    have := specPart_l0 (words s) (by have := (words_len s).2; omega) (fun x hx => by have := words_small _ _ x hx; omega)
    rw [range_all (words s) ⟨#[]⟩ pw] at this
    rw [Bool.false_or]
    cases ha : (words s).all pw with
    | true =>
      rw [ha] at this
      refine Ev.bind this ((Ev.pure _).eq ?_)
      rw [Bool.true_and]; exact decide_eq_decide.2 (by omega)
    | false => rw [ha] at this; exact Ev.bind this (Ev.pure _)
theorem isPart_ev (s : ByteArray) (hs : s.size ≤ 1048576) : Ev (fun k => impl_isParticle.F k s) (particleB s) := by
  unfold impl_isParticle.F particleB
  rw [empty_eq]
  cases decide (s.size = 0) with
  | true => exact Ev.pure _
  | false =>
    refine Ev.bind0 (split_ev s hs) ?_
    have := isPart_l0 (words s) (by have := (words_len s).2; omega) (fun x hx => by have := words_small _ _ x hx; omega)
    rw [range_all (words s) ⟨#[]⟩ pw] at this
    rw [Bool.false_or]
    cases ha : (words s).all pw with
    | true =>
      rw [ha] at this
      refine Ev.bind this ((Ev.pure _).eq ?_)
      rw [Bool.true_and]; exact decide_eq_decide.2 (by omega)
    | false => rw [ha] at this; exact Ev.bind this (Ev.pure _)

/-! ### Names -/
def gw (s : ByteArray) : Bool := wordB s && upc (bt s 0)
theorem word_size {s : ByteArray} (h : wordB s = true) : 1 ≤ s.size := by
  unfold wordB at h
  rw [Bool.and_eq_true] at h
  have := (ins_le h.1).1
  omega
theorem isGreat_ev (s : ByteArray) : Ev (fun k => impl_isGreatWord.F k s) (gw s) := by
  unfold impl_isGreatWord.F gw
  refine Ev.bind (isWord_ev s) (and_step' fun h => ?_)
  have := word_size h
  simp (disch := omega) only [cpos, show (0 : Int).toNat = 0 from rfl]
  exact Ev.bind0 (iUpper _) (Ev.pure _)
def suffB (s : ByteArray) : Bool := decide (s.size = 0) || wordB s
def nameB (n : Name) : Bool := n.given.all gw && (decide (n.given.length ≤ 3) && (particleB n.particle && (gw n.family && suffB n.suffix)))
theorem specGood_l0 (n : Name) (hn : n.given.length ≤ 1048576) : Ev (fun k => spec_l2Good.l0 k n ((0 : Nat) : Int)) (if (List.range' 0 n.given.length).all (fun i => gw (n.given.getD i ⟨#[]⟩)) = true then .inr n else .inl false) := by
  refine loop_all (f := fun k j => spec_l2Good.l0 k n j) (n := n.given.length) (p := fun i => gw (n.given.getD i ⟨#[]⟩)) (fun j hj hp => ?_) (fun j r hj hp ih => ?_) ?_ n.given.length 0 (by omega)
  · rw [getD_at hj] at hp
    unfold gw at hp
    refine Ev.step (fun k => by rw [spec_l2Good.l0]) ?_
    simp (disch := omega) only [cpos, Int.toNat_natCast, getD_at hj]
    refine Ev.bind (specWord_ev _) ?_
    cases hw : wordB n.given[j] with
    | false => exact Ev.pure _
    | true =>
      rw [hw, Bool.true_and] at hp
      have := word_size hw
      simp (disch := omega) only [cpos, show (0 : Int).toNat = 0 from rfl, Bool.not_true, cond_false]
      refine Ev.bind0 (sUpper _) ?_
      rw [hp]
      exact Ev.pure _
  · rw [getD_at hj] at hp
    unfold gw at hp
    rw [Bool.and_eq_true] at hp
    have := word_size hp.1
    refine Ev.step (fun k => by rw [spec_l2Good.l0]) ?_
    simp (disch := omega) only [cpos, Int.toNat_natCast, getD_at hj]
    refine Ev.bind (specWord_ev _) ?_
    rw [hp.1]
    simp (disch := omega) only [cpos, show (0 : Int).toNat = 0 from rfl, Bool.not_true, cond_false]
    refine Ev.bind0 (sUpper _) ?_
    rw [hp.2]
    simp (disch := omega) only [Bool.not_true, cond_false, wrap_in]
    exact ih
  · refine Ev.step (fun k => by rw [spec_l2Good.l0]) ?_
    simp (disch := omega) only [cneg]
    exact Ev.pure _
theorem specName_ev (n : Name) (hs : smallN n) : Ev (fun k => spec_l2Good.F k n) (nameB n) := by
  have hg : n.given.length ≤ 1048576 := by unfold smallN totN at hs; omega
  have hp : n.particle.size ≤ 1048576 := by unfold smallN totN at hs; omega
  unfold spec_l2Good.F nameB
  have := specGood_l0 n hg
  rw [range_all n.given ⟨#[]⟩ gw] at this
  cases ha : n.given.all gw with
  | false => rw [ha] at this; exact Ev.bind this (Ev.pure _)
  | true =>
    rw [ha] at this
    refine Ev.bind (a := .inr n) this ?_
    dsimp only
    rw [Bool.true_and, show decide (n.given.length ≤ 3) = decide ((n.given.length : Int) ≤ 3) from decide_eq_decide.2 (by omega)]
    refine and_step' fun _ => ?_
    refine Ev.bind (specPart_ev _ hp) (and_step' fun _ => ?_)
    unfold gw
    rw [Bool.and_assoc]
    refine Ev.bind (specWord_ev _) (and_step' fun h => ?_)
    have := word_size h
    simp (disch := omega) only [cpos, show (0 : Int).toNat = 0 from rfl]
    refine Ev.bind0 (sUpper _) (and_step' fun _ => ?_)
    unfold suffB
    rw [empty_eq]
    cases decide (n.suffix.size = 0) with
    | true => exact Ev.pure _
    | false => exact Ev.bind (specWord_ev _) (Ev.pure _)
theorem isName_ev (n : Name) (hs : smallN n) : Ev (fun k => impl_IsValidName.F k n) (nameB n) := by
  have hg : n.given.length ≤ 1048576 := by unfold smallN totN at hs; omega
  have hp : n.particle.size ≤ 1048576 := by unfold smallN totN at hs; omega
  unfold impl_IsValidName.F nameB
  by_cases c : n.given.length ≤ 3
  · simp (disch := omega) only [cneg, dpos, Bool.true_and]
    have hq : ∀ x, x ∈ n.given → Ev (fun k => impl_IsValidName_1.F k x) (!gw x) := fun x _ => by
      unfold impl_IsValidName_1.F
      exact Ev.bind (isGreat_ev x) (Ev.pure _)
    obtain ⟨r, h1, h2⟩ := idx_ev (d := (⟨#[]⟩ : ByteArray)) (p := fun x => !gw x) (q := impl_IsValidName_1.F) (xs := n.given) (l0 := slices_IndexFunc_string_f117.l0) (fun k x0 x7 x8 => by rw [slices_IndexFunc_string_f117.l0]) hq (by omega) (F := slices_IndexFunc_string_f117.F) (fun k a0 => rfl)
    refine Ev.bind (a := !n.given.all gw) ?_ ?_
    · unfold slices_ContainsFunc_string_f117.F
      refine Ev.bind h1 ((Ev.pure _).eq ?_)
      rcases h2 with ⟨rfl, h2⟩ | ⟨j, rfl, hj, hp, _⟩
      · have : n.given.all gw = true := List.all_eq_true.2 fun x hx => by have := h2 x hx; simpa using this
        rw [this]; rfl
      · have : n.given.all gw = false := by
          rw [List.all_eq_false]
          refine ⟨n.given[j], List.getElem_mem hj, ?_⟩
          rw [getD_at hj] at hp
          simpa using hp
        rw [this, decide_eq_true (by omega)]; rfl
    · cases n.given.all gw with
      | false => exact Ev.pure _
      | true =>
        rw [Bool.true_and]
        refine Ev.bind (isPart_ev _ hp) (and_step' fun _ => ?_)
        refine Ev.bind (isGreat_ev _) (and_step' fun _ => ?_)
        unfold suffB
        rw [empty_eq]
        cases decide (n.suffix.size = 0) with
        | true => exact Ev.pure _
        | false => exact Ev.bind (isWord_ev _) (Ev.pure _)
  · simp (disch := omega) only [cpos, dneg, Bool.false_and, Bool.and_false]
    exact Ev.pure _
def namesB (l : List Name) : Bool := l.all nameB && decide (l.length ≤ 4)
theorem specList_l0 (l : List Name) (hl : l.length ≤ 1048576) (hs : ∀ n ∈ l, smallN n) : ∀ m i : Nat, i + m = l.length → ∃ r, Ev (fun k => spec_l2List.l0 k l i) r ∧ (r = .inl false ∨ r = .inr l) ∧ (l.length ≤ 4 → r = if (l.drop i).all nameB = true then .inr l else .inl false)
  | 0, i, h => by
    refine ⟨.inr l, Ev.step (fun k => by rw [spec_l2List.l0]) ?_, .inr rfl, fun _ => by rw [List.drop_eq_nil_of_le (by omega)]; rfl⟩
    simp (disch := omega) only [cneg]
    exact Ev.pure _
  | m + 1, i, h => by
    have hi : i < l.length := by omega
    by_cases c4 : (i : Int) ≤ 4
    · cases hn : nameB l[i] with
      | false =>
        refine ⟨.inl false, Ev.step (fun k => by rw [spec_l2List.l0]) ?_, .inl rfl, fun _ => by rw [List.drop_eq_getElem_cons hi, List.all_cons, hn]; rfl⟩
        simp (disch := omega) only [cpos, Int.toNat_natCast, getD_at hi]
        refine Ev.bind (specName_ev _ (hs _ (List.getElem_mem hi))) ?_
        rw [hn]
        exact Ev.pure _
      | true =>
        obtain ⟨r, h1, h2, h3⟩ := specList_l0 l hl hs m (i + 1) (by omega)
        refine ⟨r, Ev.step (fun k => by rw [spec_l2List.l0]) ?_, h2, fun h4 => by rw [h3 h4, List.drop_eq_getElem_cons hi, List.all_cons, hn, Bool.true_and]⟩
        simp (disch := omega) only [cpos, Int.toNat_natCast, getD_at hi]
        refine Ev.bind (specName_ev _ (hs _ (List.getElem_mem hi))) ?_
        rw [hn]
        simp (disch := omega) only [Bool.not_true, cond_false, wrap_in]
        exact h1
    · refine ⟨.inr l, Ev.step (fun k => by rw [spec_l2List.l0]) ?_, .inr rfl, fun h4 => by omega⟩
      simp (disch := omega) only [cpos, cneg]
      exact Ev.pure _
theorem specNames_ev (l : List Name) (hl : totNs l ≤ 1048576) : Ev (fun k => spec_l2List.F k l) (namesB l) := by
  unfold spec_l2List.F namesB
  obtain ⟨r, h1, h2, h3⟩ := specList_l0 l (smallNs_len hl) (fun n hn => smallNs_at hl hn) l.length 0 (by omega)
  rw [List.drop_zero] at h3
  have e : decide (l.length ≤ 4) = decide ((l.length : Int) ≤ 4) := decide_eq_decide.2 (by omega)
  rw [e]
  by_cases c : l.length ≤ 4
  · rw [h3 c] at h1
    cases ha : l.all nameB with
    | true => rw [ha] at h1; exact Ev.bind h1 (Ev.pure _)
    | false => rw [ha] at h1; exact Ev.bind h1 (Ev.pure _)
  · rw [decide_eq_false (show ¬ (l.length : Int) ≤ 4 by omega), Bool.and_false]
    rcases h2 with rfl | rfl
    · exact Ev.bind h1 (Ev.pure _)
    · exact Ev.bind h1 ((Ev.pure _).eq (decide_eq_false (by omega)))
theorem areNames_ev (l : List Name) (hl : totNs l ≤ 1048576) : Ev (fun k => impl_areNames.F k l) (namesB l) := by
  have hlen := smallNs_len hl
  unfold impl_areNames.F namesB
  by_cases c : l.length ≤ 4
  · simp (disch := omega) only [cpos, dpos, Bool.and_true]
    have hq : ∀ x, x ∈ l → Ev (fun k => impl_areNames_1.F k x) (!nameB x) := fun x hx => by
      unfold impl_areNames_1.F
      exact Ev.bind (isName_ev x (smallNs_at hl hx)) (Ev.pure _)
    obtain ⟨r, h1, h2⟩ := idx_ev (d := (dflt .name : Name)) (p := fun x => !nameB x) (q := impl_areNames_1.F) (xs := l) (l0 := slices_IndexFunc_Name_f101.l0) (fun k x0 x7 x8 => by rw [slices_IndexFunc_Name_f101.l0]) hq (by omega) (F := slices_IndexFunc_Name_f101.F) (fun k a0 => rfl)
    refine Ev.bind (a := !l.all nameB) ?_ ?_
    · unfold slices_ContainsFunc_Name_f101.F
      refine Ev.bind h1 ((Ev.pure _).eq ?_)
      rcases h2 with ⟨rfl, h2⟩ | ⟨j, rfl, hj, hp, _⟩
      · have : l.all nameB = true := List.all_eq_true.2 fun x hx => by have := h2 x hx; simpa using this
        rw [this]; rfl
      · have : l.all nameB = false := by
          rw [List.all_eq_false]
          refine ⟨l[j], List.getElem_mem hj, ?_⟩
          rw [getD_at hj] at hp
          simpa using hp
        rw [this, decide_eq_true (by omega)]; rfl
    · rw [Bool.not_not]; exact Ev.pure _
  · simp (disch := omega) only [cneg, dneg, Bool.and_false]
    exact Ev.pure _

/-! ### Dates -/
theorem days_eq (y m : Int) (hy : 0 ≤ y) : ∃ r, spec_l3Days.F y m = some r ∧ impl_daysInMonth.F y m = some r := by
  have e1 : Int.tmod y 4 = y % 4 := Int.tmod_eq_emod_of_nonneg hy
  have e2 : Int.tmod y 100 = y % 100 := Int.tmod_eq_emod_of_nonneg hy
  have e3 : Int.tmod y 400 = y % 400 := Int.tmod_eq_emod_of_nonneg hy
  have z1 : ((4 : Nat) == 0) = false := rfl
  have z2 : ((100 : Nat) == 0) = false := rfl
  have z3 : ((400 : Nat) == 0) = false := rfl
  unfold spec_l3Days.F impl_daysInMonth.F
  rw [e1, e2, e3]
  by_cases c2 : m = 2
  · by_cases d1 : y % 4 = 0
    · by_cases d2 : y % 100 = 0
      · by_cases d3 : y % 400 = 0
        · exact ⟨29, by simp (disch := first | assumption | omega) only [ceq, cbeq, z1, z2, z3, cond_false], by simp (disch := first | assumption | omega) only [ceq, cbeq, z1, z2, z3, cond_false]⟩
        · exact ⟨28, by simp (disch := first | assumption | omega) only [ceq, cne, cbeq, z1, z2, z3, cond_false], by simp (disch := first | assumption | omega) only [ceq, cne, cbeq, z1, z2, z3, cond_false]⟩
      · exact ⟨29, by simp (disch := first | assumption | omega) only [ceq, cbne, z1, z2, z3, cond_false], by simp (disch := first | assumption | omega) only [ceq, cbne, z1, z2, z3, cond_false]⟩
    · have d3 : y % 400 ≠ 0 := by omega
      exact ⟨28, by simp (disch := first | assumption | omega) only [ceq, cne, z1, z2, z3, cond_false], by simp (disch := first | assumption | omega) only [ceq, cne, z1, z2, z3, cond_false]⟩
  · by_cases a : m = 4
    · exact ⟨30, by simp (disch := first | assumption | omega) only [ceq, cne], by simp (disch := first | assumption | omega) only [ceq, cne]⟩
    · by_cases b : m = 6
      · exact ⟨30, by simp (disch := first | assumption | omega) only [ceq, cne], by simp (disch := first | assumption | omega) only [ceq, cne]⟩
      · by_cases c : m = 9
        · exact ⟨30, by simp (disch := first | assumption | omega) only [ceq, cne], by simp (disch := first | assumption | omega) only [ceq, cne]⟩
        · by_cases d : m = 11
          · exact ⟨30, by simp (disch := first | assumption | omega) only [ceq, cne], by simp (disch := first | assumption | omega) only [ceq, cne]⟩
          · exact ⟨31, by simp (disch := first | assumption | omega) only [cne], by simp (disch := first | assumption | omega) only [cne]⟩
theorem date_eq2 (d : Date) : ∃ b, spec_l3Good.F d = some b ∧ impl_IsValidDate.F d = some b := by
  unfold spec_l3Good.F impl_IsValidDate.F
  cases (d.y == 0 && (d.m == 0 && (d.d == 0 && d.c == false))) with
  | true => exact ⟨true, rfl, rfl⟩
  | false =>
    rw [in_ev, inside_ev]
    simp only [Option.bind_some, cond_false]
    cases h1 : (decide (d.y ≥ 1) && decide (d.y ≤ 2999)) with
    | false => exact ⟨false, rfl, rfl⟩
    | true =>
      have hy : 0 ≤ d.y := by
        simp only [Bool.and_eq_true, decide_eq_true_eq] at h1; omega
      rw [in_ev, inside_ev]
      simp only [Option.bind_some, Bool.not_true, cond_false]
      cases h2 : (decide (d.m ≥ 0) && decide (d.m ≤ 12)) with
      | false => exact ⟨false, rfl, rfl⟩
      | true =>
        obtain ⟨r, r1, r2⟩ := days_eq d.y d.m hy
        rw [r1, r2]
        simp only [Option.bind_some, Bool.not_true, cond_false, in_ev, inside_ev]
        cases d.c with
        | true =>
          by_cases c : d.m = 0
          · exact ⟨d.d == 0, by simp (disch := first | assumption | omega) only [cond_true, ceq], by simp (disch := first | assumption | omega) only [cond_true, ceq, cbeq]⟩
          · exact ⟨false, by simp (disch := first | assumption | omega) only [cond_true, cne], by simp (disch := first | assumption | omega) only [cond_true, cbne]⟩
        | false => exact ⟨bif d.m == 0 then (d.d == 0) else (decide (d.d ≥ 0) && decide (d.d ≤ r)), by cases (d.m == 0) <;> rfl, by cases (d.m == 0) <;> rfl⟩
open Classical in
noncomputable def dateB (d : Date) : Bool := (date_eq2 d).choose
theorem specDate_ev (d : Date) : spec_l3Good.F d = some (dateB d) := (date_eq2 d).choose_spec.1
theorem isDate_ev (d : Date) : impl_IsValidDate.F d = some (dateB d) := (date_eq2 d).choose_spec.2

/-! ### Entries -/
def insI (n lo hi : Int) : Bool := decide (n ≥ lo) && decide (n ≤ hi)
def crossB (e : Entry) : Bool := decide (e.cross.size = 0) || (keyB e.cross && !beqS e.cross e.key)
noncomputable def entryB (e : Entry) : Bool := keyB e.key && (insI e.kind 1 4 && (namesB e.authors && (namesB e.editors && (textB e.title && (textB e.container && (textB e.publisher && (textB e.pages && (dateB e.date && (insI e.volume 0 9999 && crossB e)))))))))
theorem specEntry_ev (e : Entry) (hs : smallE e) : Ev (fun k => spec_l4Entry.F k e) (entryB e) := by
  unfold spec_l4Entry.F entryB
  refine Ev.bind (specKey_ev _) (and_step fun _ => ?_)
  refine Ev.bind0 (in_ev _ _ _) (and_step fun _ => ?_)
  refine Ev.bind (specNames_ev _ (smallE_a hs)) (and_step fun _ => ?_)
  refine Ev.bind (specNames_ev _ (smallE_e hs)) (and_step fun _ => ?_)
  refine Ev.bind (specText_ev _) (and_step fun _ => ?_)
  refine Ev.bind (specText_ev _) (and_step fun _ => ?_)
  refine Ev.bind (specText_ev _) (and_step fun _ => ?_)
  refine Ev.bind (specText_ev _) (and_step fun _ => ?_)
  refine Ev.bind0 (specDate_ev _) (and_step' fun _ => ?_)
  refine Ev.bind0 (in_ev _ _ _) (and_step' fun _ => ?_)
  unfold crossB
  rw [empty_eq]
  cases decide (e.cross.size = 0) with
  | true => exact Ev.pure _
  | false =>
    refine (Ev.bind (specKey_ev _) (and_step' fun _ => ?_)).eq (Bool.false_or _).symm
    exact Ev.pure _
theorem isEntry_ev (e : Entry) (hs : smallE e) : Ev (fun k => impl_IsValidEntry.F k e) (entryB e) := by
  have key : Ev (fun k => impl_IsValidEntry.F k e) (keyB e.key && (insI e.kind 1 4 && (namesB e.authors && (namesB e.editors && (dateB e.date && (insI e.volume 0 9999 && (textB e.title && (textB e.container && (textB e.publisher && (textB e.pages && crossB e)))))))))) := by
    unfold impl_IsValidEntry.F
    refine Ev.bind (isKey_ev _) (and_step fun _ => ?_)
    refine Ev.bind0 (a := insI e.kind 1 4) ?_ (and_step fun _ => ?_)
    · unfold impl_isKind.F; rw [inside_ev]; rfl
    refine Ev.bind (areNames_ev _ (smallE_a hs)) (and_step fun _ => ?_)
    refine Ev.bind (areNames_ev _ (smallE_e hs)) (and_step fun _ => ?_)
    refine Ev.bind0 (isDate_ev _) (and_step fun _ => ?_)
    refine Ev.bind0 (inside_ev _ _ _) (and_step fun _ => ?_)
    refine Ev.bind (isText_ev _) (and_step' fun _ => ?_)
    refine Ev.bind (isText_ev _) (and_step' fun _ => ?_)
    refine Ev.bind (isText_ev _) (and_step' fun _ => ?_)
    refine Ev.bind (isText_ev _) (and_step' fun _ => ?_)
    unfold crossB
    rw [empty_eq]
    cases decide (e.cross.size = 0) with
    | true => exact Ev.pure _
    | false =>
      refine (Ev.bind (isKey_ev _) (and_step' fun _ => ?_)).eq (Bool.false_or _).symm
      exact Ev.pure _
  refine key.eq ?_
  unfold entryB
  ac_rfl

/-! ### Libraries -/
noncomputable def okL (l : Library) (i : Nat) : Bool := entryB (l.entries.getD i (dflt .entry)) && (decide (i = 0) || ltS (l.entries.getD (i - 1) (dflt .entry)).key (l.entries.getD i (dflt .entry)).key)
noncomputable def libB (l : Library) : Bool := (List.range' 0 l.entries.length).all (okL l) && decide (l.entries.length ≤ 8)
theorem specGoodL_l0 (l : Library) (hs : smallL l) : Ev (fun k => spec_l4Good.l0 k l ((0 : Nat) : Int)) (if (List.range' 0 l.entries.length).all (okL l) = true then .inr () else .inl false) := by
  have hlen := smallL_len hs
  refine loop_all (f := fun k i => spec_l4Good.l0 k l i) (n := l.entries.length) (fun i hi hp => ?_) (fun i r hi hp ih => ?_) ?_ l.entries.length 0 (by omega)
  · unfold okL at hp
    refine Ev.step (fun k => by rw [spec_l4Good.l0]) ?_
    have hsm : smallE (l.entries.getD i (dflt .entry)) := by rw [getD_at hi]; exact smallL_at hs (List.getElem_mem hi)
    simp (disch := omega) only [cpos, Int.toNat_natCast]
    refine Ev.bind (specEntry_ev _ hsm) ?_
    cases he : entryB (l.entries.getD i (dflt .entry)) with
    | false => exact Ev.pure _
    | true =>
      rw [he, Bool.true_and, Bool.or_eq_false_iff, decide_eq_false_iff_not] at hp
      have et : ((i : Int) - 1).toNat = i - 1 := by omega
      simp (disch := omega) only [Bool.not_true, cond_false, cpos, wrap_in, et, hp.2, Bool.not_false, cond_true]
      exact Ev.pure _
  · unfold okL at hp
    rw [Bool.and_eq_true] at hp
    refine Ev.step (fun k => by rw [spec_l4Good.l0]) ?_
    have hsm : smallE (l.entries.getD i (dflt .entry)) := by rw [getD_at hi]; exact smallL_at hs (List.getElem_mem hi)
    simp (disch := omega) only [cpos, Int.toNat_natCast]
    refine Ev.bind (specEntry_ev _ hsm) ?_
    rw [hp.1]
    by_cases c : i = 0
    · simp (disch := omega) only [Bool.not_true, cond_false, cneg, wrap_in]
      exact ih
    · have et : ((i : Int) - 1).toNat = i - 1 := by omega
      have h2 := hp.2
      rw [decide_eq_false c, Bool.false_or] at h2
      simp (disch := omega) only [Bool.not_true, cond_false, cpos, wrap_in, et, h2]
      exact ih
  · refine Ev.step (fun k => by rw [spec_l4Good.l0]) ?_
    simp (disch := omega) only [cneg]
    exact Ev.pure _
theorem isLib_l0 (l : Library) (hs : smallL l) : Ev (fun k => impl_IsValidLibrary.l0 k l l.entries l.entries.length ((0 : Nat) : Int)) (if (List.range' 0 l.entries.length).all (okL l) = true then .inr l else .inl false) := by
  have hlen := smallL_len hs
  refine loop_all (f := fun k i => impl_IsValidLibrary.l0 k l l.entries l.entries.length i) (n := l.entries.length) (fun i hi hp => ?_) (fun i r hi hp ih => ?_) ?_ l.entries.length 0 (by omega)
  · unfold okL at hp
    refine Ev.step (fun k => by rw [impl_IsValidLibrary.l0]) ?_
    have hsm : smallE (l.entries.getD i (dflt .entry)) := by rw [getD_at hi]; exact smallL_at hs (List.getElem_mem hi)
    simp (disch := omega) only [cpos, Int.toNat_natCast]
    refine Ev.bind (isEntry_ev _ hsm) ?_
    cases he : entryB (l.entries.getD i (dflt .entry)) with
    | false => exact Ev.pure _
    | true =>
      rw [he, Bool.true_and, Bool.or_eq_false_iff, decide_eq_false_iff_not] at hp
      have et : ((i : Int) - 1).toNat = i - 1 := by omega
      simp (disch := omega) only [Bool.not_true, cond_false, cpos, wrap_in, et, hp.2, Bool.not_false, cond_true]
      exact Ev.pure _
  · unfold okL at hp
    rw [Bool.and_eq_true] at hp
    refine Ev.step (fun k => by rw [impl_IsValidLibrary.l0]) ?_
    have hsm : smallE (l.entries.getD i (dflt .entry)) := by rw [getD_at hi]; exact smallL_at hs (List.getElem_mem hi)
    simp (disch := omega) only [cpos, Int.toNat_natCast]
    refine Ev.bind (isEntry_ev _ hsm) ?_
    rw [hp.1]
    by_cases c : i = 0
    · simp (disch := omega) only [Bool.not_true, cond_false, cneg, wrap_in]
      exact ih
    · have et : ((i : Int) - 1).toNat = i - 1 := by omega
      have h2 := hp.2
      rw [decide_eq_false c, Bool.false_or] at h2
      simp (disch := omega) only [Bool.not_true, cond_false, cpos, wrap_in, et, h2]
      exact ih
  · refine Ev.step (fun k => by rw [impl_IsValidLibrary.l0]) ?_
    simp (disch := omega) only [cneg]
    exact Ev.pure _
theorem specLib_ev (l : Library) (hs : smallL l) : Ev (fun k => spec_l4Good.F k l) (libB l) := by
  unfold spec_l4Good.F libB
  by_cases c : l.entries.length ≤ 8
  · simp (disch := omega) only [cneg, dpos, Bool.and_true]
    have := specGoodL_l0 l hs
    cases ha : (List.range' 0 l.entries.length).all (okL l) with
    | true => rw [ha] at this; exact Ev.bind this (Ev.pure _)
    | false => rw [ha] at this; exact Ev.bind this (Ev.pure _)
  · simp (disch := omega) only [cpos, dneg, Bool.and_false]
    exact Ev.pure _
theorem isLib_ev (l : Library) (hs : smallL l) : Ev (fun k => impl_IsValidLibrary.F k l) (libB l) := by
  unfold impl_IsValidLibrary.F libB
  have := isLib_l0 l hs
  cases ha : (List.range' 0 l.entries.length).all (okL l) with
  | true =>
    rw [ha] at this
    refine Ev.bind this ((Ev.pure _).eq ?_)
    rw [Bool.true_and]; exact decide_eq_decide.2 (by omega)
  | false => rw [ha] at this; exact Ev.bind this (Ev.pure _)
theorem libB_len {l : Library} (h : libB l = true) : l.entries.length ≤ 8 := by
  unfold libB at h
  rw [Bool.and_eq_true, decide_eq_true_eq] at h
  exact h.2
end Go.Proofs.YtfnibdpepbgamaaGreatDoor
end
section
/- Plain laws: an entry found by its key; its parent. -/
namespace Go.Proofs.YtfnibdpepbgamaaGreatDoor
open Go.Gx
set_option linter.unusedVariables false
set_option linter.unusedSimpArgs false

theorem find_l (l : Library) (key : ByteArray) (hl : l.entries.length ≤ 1048576) : ∀ n i : Nat, i + n = l.entries.length →
    ∃ r : Sum Int Unit, Ev (fun k => spec_l4Find.l0 k key l i) r ∧ Ev (fun k => slices_IndexFunc_Entry_f64.l0 k l.entries key l.entries.length i) r ∧ ∀ z, r = .inl z → 0 ≤ z ∧ z < l.entries.length
  | 0, i, h => by
    refine ⟨.inr (), Ev.step (fun k => by rw [spec_l4Find.l0]) ?_, Ev.step (fun k => by rw [slices_IndexFunc_Entry_f64.l0]) ?_, fun z hz => by cases hz⟩
    · simp (disch := omega) only [cneg]; exact Ev.pure _
    · simp (disch := omega) only [cneg]; exact Ev.pure _
  | n + 1, i, h => by
    have hi : i < l.entries.length := by omega
    have e1 : impl_entryIndex_1.F l.entries[i] key = some (beqS l.entries[i].key key) := rfl
    cases hb : beqS l.entries[i].key key with
    | true =>
      refine ⟨.inl i, Ev.step (fun k => by rw [spec_l4Find.l0]) ?_, Ev.step (fun k => by rw [slices_IndexFunc_Entry_f64.l0]) ?_, fun z hz => by cases hz; omega⟩
      · simp (disch := omega) only [cpos, Int.toNat_natCast, getD_at hi, hb, cond_true]
        exact Ev.pure _
      · simp (disch := omega) only [cpos, Int.toNat_natCast, getD_at hi]
        refine Ev.bind0 e1 ?_
        rw [hb]
        exact Ev.pure _
    | false =>
      obtain ⟨r, r1, r2, r3⟩ := find_l l key hl n (i + 1) (by omega)
      refine ⟨r, Ev.step (fun k => by rw [spec_l4Find.l0]) ?_, Ev.step (fun k => by rw [slices_IndexFunc_Entry_f64.l0]) ?_, r3⟩
      · simp (disch := omega) only [cpos, Int.toNat_natCast, getD_at hi, hb, cond_false, wrap_in]
        exact r1
      · simp (disch := omega) only [cpos, Int.toNat_natCast, getD_at hi]
        refine Ev.bind0 e1 ?_
        rw [hb]
        simp (disch := omega) only [cond_false, wrap_in]
        exact r2
theorem find_ev (l : Library) (key : ByteArray) (hl : l.entries.length ≤ 1048576) : ∃ r : Int, Ev (fun k => spec_l4Find.F k l key) r ∧ Ev (fun k => impl_entryIndex.F k l key) r ∧ -1 ≤ r ∧ r < l.entries.length := by
  obtain ⟨r, r1, r2, r3⟩ := find_l l key hl l.entries.length 0 (by omega)
  unfold spec_l4Find.F impl_entryIndex.F slices_IndexFunc_Entry_f64.F
  cases r with
  | inl z => exact ⟨z, Ev.bind r1 (Ev.pure _), Ev.bind (Ev.bind r2 (Ev.pure _)) (Ev.pure _), by have := r3 z rfl; omega, (r3 z rfl).2⟩
  | inr u => exact ⟨-1, Ev.bind r1 (Ev.pure _), Ev.bind (Ev.bind r2 (Ev.pure _)) (Ev.pure _), by omega, by omega⟩
theorem parent_ev (l : Library) (hl : l.entries.length ≤ 1048576) (i : Int) (h0 : 0 ≤ i) (h1 : i < l.entries.length) : ∃ r : Int, Ev (fun k => spec_l21Parent.F k l i) r ∧ Ev (fun k => impl_parentIndex.F k l i) r ∧ -1 ≤ r ∧ r < l.entries.length := by
  unfold spec_l21Parent.F impl_parentIndex.F
  cases hb : beqS (l.entries.getD i.toNat (dflt .entry)).cross ⟨#[]⟩ with
  | true =>
    refine ⟨-1, ?_, ?_, by omega, by omega⟩
    · simp (disch := omega) only [cpos, cond_true]; exact Ev.pure _
    · simp (disch := omega) only [cpos, cond_true]; exact Ev.pure _
  | false =>
    obtain ⟨r, r1, r2, r3⟩ := find_ev l (l.entries.getD i.toNat (dflt .entry)).cross hl
    refine ⟨r, ?_, ?_, r3⟩
    · simp (disch := omega) only [cpos, cond_false]; exact Ev.bind r1 (Ev.pure _)
    · simp (disch := omega) only [cpos, cond_false]; exact Ev.bind r2 (Ev.pure _)
end Go.Proofs.YtfnibdpepbgamaaGreatDoor
end
section
/- Plain laws: the chain of an entry, keys, entries found by their keys. -/
namespace Go.Proofs.YtfnibdpepbgamaaGreatDoor
open Go.Gx
set_option linter.unusedVariables false
set_option linter.unusedSimpArgs false

theorem bl_irr : ∀ x : List UInt8, Op.bytesLess x x = false
  | [] => rfl
  | a :: x => by
    have : ¬ a < a := by simp
    simp [Op.bytesLess, bl_irr x]
theorem bl_trans : ∀ {x y z : List UInt8}, Op.bytesLess x y = true → Op.bytesLess y z = true → Op.bytesLess x z = true
  | x, y, [], _, h => by cases y <;> simp [Op.bytesLess] at h
  | x, [], c :: z, h, _ => by cases x <;> simp [Op.bytesLess] at h
  | [], b :: y, c :: z, _, _ => rfl
  | a :: x, b :: y, c :: z, h, k => by
    simp only [Op.bytesLess, Bool.or_eq_true, decide_eq_true_eq, Bool.and_eq_true, beq_iff_eq] at h k ⊢
    rcases h with h | ⟨rfl, h⟩
    · rcases k with k | ⟨rfl, k⟩
      · exact .inl (UInt8.lt_trans h k)
      · exact .inl h
    · rcases k with k | ⟨rfl, k⟩
      · exact .inl k
      · exact .inr ⟨rfl, bl_trans h k⟩
def kAt (l : Library) (x : Int) : ByteArray := (l.entries.getD x.toNat (dflt .entry)).key
theorem keys_lt {l : Library} (h : libB l = true) : ∀ (d i : Nat), i + d + 1 < l.entries.length → ltS (l.entries.getD i (dflt .entry)).key (l.entries.getD (i + d + 1) (dflt .entry)).key = true := by
  have hok : ∀ j, j < l.entries.length → okL l j = true := by
    intro j hj
    unfold libB at h
    simp only [Bool.and_eq_true, List.all_eq_true] at h
    exact h.1 j (by simp; omega)
  have step : ∀ j, j + 1 < l.entries.length → ltS (l.entries.getD j (dflt .entry)).key (l.entries.getD (j + 1) (dflt .entry)).key = true := by
    intro j hj
    have := hok (j + 1) hj
    unfold okL at this
    simp only [Bool.and_eq_true, Bool.or_eq_true, decide_eq_true_eq] at this
    rcases this.2 with h0 | h0
    · omega
    · exact h0
  intro d
  induction d with
  | zero => intro i hi; exact step i hi
  | succ d ih =>
    intro i hi
    exact bl_trans (ih i (by omega)) (step (i + d + 1) (by omega))
theorem keys_ne {l : Library} (h : libB l = true) {i j : Nat} (hi : i < l.entries.length) (hj : j < l.entries.length) (he : (l.entries.getD i (dflt .entry)).key = (l.entries.getD j (dflt .entry)).key) : i = j := by
  apply Classical.byContradiction
  intro hne
  rcases Nat.lt_or_gt_of_ne hne with hlt | hlt
  · obtain ⟨d, rfl⟩ : ∃ d, j = i + d + 1 := ⟨j - i - 1, by omega⟩
    have := keys_lt h d i hj
    rw [he] at this
    unfold ltS at this
    rw [bl_irr] at this
    cases this
  · obtain ⟨d, rfl⟩ : ∃ d, i = j + d + 1 := ⟨i - j - 1, by omega⟩
    have := keys_lt h d j hi
    rw [he] at this
    unfold ltS at this
    rw [bl_irr] at this
    cases this
theorem findK_l (l : Library) (key : ByteArray) (hl : l.entries.length ≤ 1048576) : ∀ n i : Nat, i + n = l.entries.length →
    ∃ r : Sum Int Unit, Ev (fun k => spec_l4Find.l0 k key l i) r ∧ (∀ z, r = .inl z → ∃ j : Nat, z = j ∧ i ≤ j ∧ j < l.entries.length ∧ (l.entries.getD j (dflt .entry)).key = key) ∧ (∀ u, r = .inr u → ∀ j, i ≤ j → j < l.entries.length → (l.entries.getD j (dflt .entry)).key ≠ key)
  | 0, i, h => by
    refine ⟨.inr (), Ev.step (fun k => by rw [spec_l4Find.l0]) ?_, (fun z hz => by cases hz), fun u _ j h1 h2 => by omega⟩
    simp (disch := omega) only [cneg]; exact Ev.pure _
  | n + 1, i, h => by
    have hi : i < l.entries.length := by omega
    cases hb : beqS l.entries[i].key key with
    | true =>
      refine ⟨.inl i, Ev.step (fun k => by rw [spec_l4Find.l0]) ?_, fun z hz => ?_, (fun u hu => by cases hu)⟩
      · simp (disch := omega) only [cpos, Int.toNat_natCast, getD_at hi, hb, cond_true]
        exact Ev.pure _
      · cases hz
        exact ⟨i, rfl, Nat.le_refl _, hi, by rw [getD_at hi]; exact beqS_iff.1 hb⟩
    | false =>
      obtain ⟨r, r1, r2, r3⟩ := findK_l l key hl n (i + 1) (by omega)
      refine ⟨r, Ev.step (fun k => by rw [spec_l4Find.l0]) ?_, fun z hz => ?_, fun u hu j h1 h2 => ?_⟩
      · simp (disch := omega) only [cpos, Int.toNat_natCast, getD_at hi, hb, cond_false, wrap_in]
        exact r1
      · obtain ⟨j, e, h1, h2⟩ := r2 z hz
        exact ⟨j, e, by omega, h2⟩
      · by_cases e : j = i
        · subst e
          rw [getD_at hi]
          intro he
          rw [he, beqS_self] at hb
          cases hb
        · exact r3 u hu j (by omega) h2
/-- The entry with a key. -/
theorem findK_ev (l : Library) (key : ByteArray) (hl : l.entries.length ≤ 1048576) : ∃ r : Int, Ev (fun k => spec_l4Find.F k l key) r ∧ Ev (fun k => impl_entryIndex.F k l key) r ∧ -1 ≤ r ∧ r < l.entries.length ∧ (0 ≤ r → kAt l r = key) ∧ (r < 0 → ∀ j, j < l.entries.length → (l.entries.getD j (dflt .entry)).key ≠ key) := by
  obtain ⟨r, r1, r2, r3, r4⟩ := find_ev l key hl
  obtain ⟨q, q1, q2, q3⟩ := findK_l l key hl l.entries.length 0 (by omega)
  refine ⟨r, r1, r2, r3, r4, ?_⟩
  have hF : Ev (fun k => spec_l4Find.F k l key) (match q with | .inl z => z | .inr _ => -1) := by
    unfold spec_l4Find.F
    cases q with
    | inl z => exact Ev.bind q1 (Ev.pure _)
    | inr u => exact Ev.bind q1 (Ev.pure _)
  have e := Ev.uniq r1 hF
  cases q with
  | inl z =>
    obtain ⟨j, rfl, _, _, h⟩ := q2 z rfl
    have e : r = (j : Int) := e
    exact ⟨fun _ => by rw [e]; unfold kAt; rw [Int.toNat_natCast]; exact h, fun h0 => by omega⟩
  | inr u =>
    have e : r = -1 := e
    exact ⟨fun h0 => by omega, fun _ j hj => q3 u rfl j (Nat.zero_le _) hj⟩

/-! ### A number in a list -/
theorem has_l (xs : List Int) (v : Int) (hl : xs.length ≤ 1048576) : ∀ n i : Nat, i + n = xs.length → Ev (fun k => spec_l1Has.l0 k xs v i) (if v ∈ xs.drop i then .inl true else .inr ()) ∧
    ∃ r : Sum Int Unit, Ev (fun k => slices_Index_int.l0 k xs v xs.length i) r ∧ (v ∈ xs.drop i → ∃ z : Int, r = .inl z ∧ 0 ≤ z) ∧ (v ∉ xs.drop i → r = .inr ())
  | 0, i, h => by
    have hd : xs.drop i = [] := List.drop_eq_nil_of_le (by omega)
    rw [hd]
    refine ⟨Ev.step (fun k => by rw [spec_l1Has.l0]) ?_, .inr (), Ev.step (fun k => by rw [slices_Index_int.l0]) ?_, (fun h => by cases h), fun _ => rfl⟩
    · simp (disch := omega) only [cneg]
      exact (Ev.pure _).eq (by simp)
    · simp (disch := omega) only [cneg]; exact Ev.pure _
  | n + 1, i, h => by
    have hi : i < xs.length := by omega
    have hd : xs.drop i = xs[i] :: xs.drop (i + 1) := List.drop_eq_getElem_cons hi
    obtain ⟨h1, r, h2, h3, h4⟩ := has_l xs v hl n (i + 1) (by omega)
    by_cases hv : xs[i] = v
    · have hm : v ∈ xs.drop i := by rw [hd, hv]; exact List.mem_cons_self
      refine ⟨Ev.step (fun k => by rw [spec_l1Has.l0]) ?_, .inl i, Ev.step (fun k => by rw [slices_Index_int.l0]) ?_, fun _ => ⟨i, rfl, by omega⟩, fun hn => absurd hm hn⟩
      · rw [if_pos hm]
        simp (disch := omega) only [cpos, Int.toNat_natCast, getD_at hi, ceq]
        exact Ev.pure _
      · simp (disch := omega) only [cpos, Int.toNat_natCast, getD_at hi, ceq]
        exact Ev.pure _
    · have hm : v ∈ xs.drop i ↔ v ∈ xs.drop (i + 1) := by
        rw [hd, List.mem_cons]
        exact ⟨fun h => h.resolve_left fun e => hv e.symm, .inr⟩
      refine ⟨Ev.step (fun k => by rw [spec_l1Has.l0]) ?_, r, Ev.step (fun k => by rw [slices_Index_int.l0]) ?_, fun h => h3 (hm.1 h), fun h => h4 fun h' => h (hm.2 h')⟩
      · simp (disch := omega) only [cpos, Int.toNat_natCast, getD_at hi, cne, wrap_in]
        exact h1.eq (by simp only [hm])
      · simp (disch := omega) only [cpos, Int.toNat_natCast, getD_at hi, cne, wrap_in]
        exact h2
theorem has_ev (xs : List Int) (v : Int) (hl : xs.length ≤ 1048576) : Ev (fun k => spec_l1Has.F k xs v) (decide (v ∈ xs)) ∧ Ev (fun k => slices_Contains_int.F k xs v) (decide (v ∈ xs)) := by
  obtain ⟨h1, r, h2, h3, h4⟩ := has_l xs v hl xs.length 0 (by omega)
  rw [List.drop_zero] at h1 h3 h4
  unfold spec_l1Has.F slices_Contains_int.F slices_Index_int.F
  by_cases hv : v ∈ xs
  · rw [if_pos hv] at h1
    obtain ⟨z, rfl, hz⟩ := h3 hv
    rw [decide_eq_true hv]
    refine ⟨Ev.bind h1 (Ev.pure _), Ev.bind (a := z) (Ev.bind h2 (Ev.pure _)) ((Ev.pure _).eq ?_)⟩
    rw [decide_eq_true (by omega)]
  · rw [if_neg hv] at h1
    obtain rfl := h4 hv
    rw [decide_eq_false hv]
    exact ⟨Ev.bind h1 (Ev.pure _), Ev.bind (a := -1) (Ev.bind h2 (Ev.pure _)) (Ev.pure _)⟩

/-! ### Chains -/
theorem pigeon : ∀ (n : Nat) (l : List Int), l.Nodup → (∀ x ∈ l, 0 ≤ x ∧ x < n) → l.length ≤ n
  | 0, l, _, h => by
    cases l with
    | nil => simp
    | cons a l => have := h a List.mem_cons_self; omega
  | n + 1, l, hn, h => by
    by_cases hm : (n : Int) ∈ l
    · have h1 := pigeon n (l.erase n) (hn.erase _) fun x hx => by
        rw [hn.mem_erase_iff] at hx
        have := h x hx.2
        have := hx.1
        omega
      rw [List.length_erase_of_mem hm] at h1
      omega
    · have h1 := pigeon n l hn fun x hx => by
        have := h x hx
        have : x ≠ n := fun e => hm (e ▸ hx)
        omega
      omega
theorem room_i8 {n : Nat} (h : n ≤ 8192) : room n (.int .i64) = true := by
  show Nat.ble (n * 8) 140737488355328 = true
  exact Nat.ble_eq_true_of_le (by omega)
def chR (l : Library) : Sum (List Int × Bool) (List Int) → Prop
  | .inl p => p.2 = true ∧ p.1.Nodup ∧ ∀ x ∈ p.1, 0 ≤ x ∧ x < l.entries.length
  | .inr c => c.Nodup ∧ ∀ x ∈ c, 0 ≤ x ∧ x < l.entries.length
def chL : Sum (List Int × Bool) (List Int) → List Int
  | .inl p => p.1
  | .inr c => c
theorem chain_l (l : Library) (hl : l.entries.length ≤ 8) : ∀ (d : Nat) (acc : List Int) (i : Int), acc.length + d = l.entries.length + 1 → -1 ≤ i → i < l.entries.length → acc.Nodup → (∀ x ∈ acc, 0 ≤ x ∧ x < l.entries.length) →
    ∃ r, Ev (fun k => spec_l21Chain.l0 k i l acc) r ∧ Ev (fun k => impl_chainOf.l0 k i l acc) r ∧ chR l r ∧ ∃ t, chL r = acc ++ t
  | 0, acc, i, hd, _, _, hn, ha => by have := pigeon _ _ hn ha; omega
  | d + 1, acc, i, hd, h0, h1, hn, ha => by
    have hlen := pigeon _ _ hn ha
    by_cases hi : i < 0
    · refine ⟨.inr acc, Ev.step (fun k => by rw [spec_l21Chain.l0]) ?_, Ev.step (fun k => by rw [impl_chainOf.l0]) ?_, ⟨hn, ha⟩, [], by simp [chL]⟩
      · simp (disch := omega) only [cneg]; exact Ev.pure _
      · simp (disch := omega) only [cneg]; exact Ev.pure _
    · obtain ⟨e1, e2⟩ := has_ev acc i (by omega)
      by_cases hm : i ∈ acc
      · rw [decide_eq_true hm] at e1 e2
        refine ⟨.inl (acc, true), Ev.step (fun k => by rw [spec_l21Chain.l0]) ?_, Ev.step (fun k => by rw [impl_chainOf.l0]) ?_, ⟨rfl, hn, ha⟩, [], by simp [chL]⟩
        · simp (disch := omega) only [cpos]; exact Ev.bind e1 (Ev.pure _)
        · simp (disch := omega) only [cpos]; exact Ev.bind e2 (Ev.pure _)
      · rw [decide_eq_false hm] at e1 e2
        obtain ⟨p, p1, p2, p3, p4⟩ := parent_ev l (by omega) i (by omega) h1
        obtain ⟨r, r1, r2, r3, t, r4⟩ := chain_l l hl d (acc ++ [i]) p (by simp; omega) p3 p4 (List.nodup_append.2 ⟨hn, by simp, fun a ha' b hb => by simp at hb; subst hb; exact fun e => hm (e ▸ ha')⟩) (fun x hx => by
          rcases List.mem_append.1 hx with hx | hx
          · exact ha x hx
          · simp at hx; subst hx; omega)
        have hr : room (acc.length + ([i] : List Int).length) (.int .i64) = true := room_i8 (by simp; omega)
        refine ⟨r, Ev.step (fun k => by rw [spec_l21Chain.l0]) ?_, Ev.step (fun k => by rw [impl_chainOf.l0]) ?_, r3, i :: t, by rw [r4]; simp⟩
        · simp (disch := omega) only [cpos]
          refine Ev.bind e1 ?_
          simp only [cond_false, hr, cond_true]
          exact Ev.bind p1 r1
        · simp (disch := omega) only [cpos]
          refine Ev.bind e2 ?_
          simp only [cond_false, hr, cond_true]
          exact Ev.bind p2 r2
theorem chain_ev (l : Library) (hl : l.entries.length ≤ 8) (i : Int) (h0 : 0 ≤ i) (h1 : i < l.entries.length) :
    ∃ c b, Ev (fun k => spec_l21Chain.F k l i) (c, b) ∧ Ev (fun k => impl_chainOf.F k l i) (c, b) ∧ c.Nodup ∧ (∀ x ∈ c, 0 ≤ x ∧ x < l.entries.length) ∧ c.length ≤ l.entries.length := by
  obtain ⟨r, r1, r2, r3, _⟩ := chain_l l hl (l.entries.length + 1) [] i (by simp) (by omega) h1 List.nodup_nil (fun x hx => by cases hx)
  unfold spec_l21Chain.F impl_chainOf.F
  cases r with
  | inl p =>
    obtain ⟨c, b⟩ := p
    exact ⟨c, b, Ev.bind r1 (Ev.pure _), Ev.bind r2 (Ev.pure _), r3.2.1, r3.2.2, pigeon _ _ r3.2.1 r3.2.2⟩
  | inr c => exact ⟨c, false, Ev.bind r1 (Ev.pure _), Ev.bind r2 (Ev.pure _), r3.1, r3.2, pigeon _ _ r3.1 r3.2⟩
end Go.Proofs.YtfnibdpepbgamaaGreatDoor
end
section
/- Plain laws: marks of lists of texts; deep marks of names, entries and libraries. -/
namespace Go.Proofs.YtfnibdpepbgamaaGreatDoor
open Go.Gx
set_option linter.unusedVariables false
set_option linter.unusedSimpArgs false

theorem markText_l0 : ∀ n : Nat, n ≤ 1099511627776 → ∀ s : ByteArray, s.size + n ≤ 9223372036854775806 → ∃ r, Ev (fun k => laws_markText.l0 k (n : Int) s) r ∧ r.size ≤ s.size + n := fun n => by
  induction n using Nat.strongRecOn with
  | ind n ih =>
    intro hn s hs
    by_cases c : n = 0
    · refine ⟨s, Ev.step (fun k => by rw [laws_markText.l0]) ?_, by omega⟩
      simp (disch := omega) only [cneg]
      exact Ev.pure _
    · have ed : Int.tdiv (n : Int) 10 = ((n / 10 : Nat) : Int) := by
        rw [Int.tdiv_eq_ediv_of_nonneg (by omega)]; omega
      have e1 : ∀ v : Int, (strL ([v] : List Int)).size = 1 := fun v => rfl
      obtain ⟨r, r1, r2⟩ := ih (n / 10) (by omega) (by omega) (strL ([IntKind.wrap .u8 (IntKind.wrap .i64 (48 + Int.tmod (n : Int) 10))] : List Int) ++ s) (by rw [size_app, e1]; omega)
      rw [size_app, e1] at r2
      refine ⟨r, Ev.step (fun k => by rw [laws_markText.l0]) ?_, by omega⟩
      have w1 : IntKind.wrap .i64 (Int.tdiv (n : Int) 10) = ((n / 10 : Nat) : Int) := by rw [ed, wrap_in (by omega) (by omega)]
      have hz : ((10 : Nat) == 0) = false := rfl
      rw [w1, hz]
      simp only [cond_false]
      simp (disch := (try simp only [e1]); omega) only [cpos, cble]
      exact r1
theorem markText_ev (n : Nat) (hn : n ≤ 1099511627776) : ∃ r, Ev (fun k => laws_markText.F k (n : Int)) r := by
  unfold laws_markText.F
  by_cases c : n = 0
  · refine ⟨⟨#[109, 48]⟩, ?_⟩
    simp (disch := omega) only [cpos]
    exact Ev.pure _
  · obtain ⟨r, r1, r2⟩ := markText_l0 n hn ⟨#[]⟩ (by rw [show (⟨#[]⟩ : ByteArray).size = 0 from rfl]; omega)
    have e0 : (⟨#[]⟩ : ByteArray).size = 0 := rfl
    have e1 : (⟨#[109]⟩ : ByteArray).size = 1 := rfl
    refine ⟨⟨#[109]⟩ ++ r, ?_⟩
    simp (disch := omega) only [cneg]
    refine Ev.bind r1 ?_
    simp (disch := omega) only [e1, cble]
    exact Ev.pure _
open Classical in
noncomputable def mt (n : Nat) : ByteArray := if h : ∃ r, Ev (fun k => laws_markText.F k (n : Int)) r then h.choose else ⟨#[]⟩
theorem mt_ev (n : Nat) (hn : n ≤ 1099511627776) : Ev (fun k => laws_markText.F k (n : Int)) (mt n) := by
  have h := markText_ev n hn
  unfold mt
  rw [dif_pos h]
  exact h.choose_spec
noncomputable def marks (i : Nat) : List ByteArray := (List.range i).map fun j => mt (j + 1)
theorem marks_len (i : Nat) : (marks i).length = i := by simp [marks]
theorem mark_l0 (xs : List ByteArray) (hlen : xs.length ≤ 1048576) : ∀ n i : Nat, i + n = xs.length → Ev (fun k => laws_markStringS.l0 k (marks i ++ xs.drop i) ((1 + i : Nat) : Int) i) (marks xs.length, ((1 + xs.length : Nat) : Int))
  | 0, i, h => by
    have hl : (marks i ++ xs.drop i).length = xs.length := by rw [List.length_append, marks_len, List.length_drop]; omega
    refine Ev.step (fun k => by rw [laws_markStringS.l0]) ?_
    simp (disch := omega) only [cneg]
    rw [List.drop_eq_nil_of_le (by omega), List.append_nil, show i = xs.length by omega]
    exact Ev.pure _
  | n + 1, i, h => by
    have hi : i < xs.length := by omega
    have hl : (marks i ++ xs.drop i).length = xs.length := by rw [List.length_append, marks_len, List.length_drop]; omega
    refine Ev.step (fun k => by rw [laws_markStringS.l0]) ?_
    simp (disch := omega) only [cpos, Int.toNat_natCast]
    refine Ev.bind (mt_ev (1 + i) (by omega)) ?_
    have e : (marks i ++ xs.drop i).set i (mt (1 + i)) = marks (i + 1) ++ xs.drop (i + 1) := by
      rw [List.set_append_right _ _ (by rw [marks_len]; exact Nat.le_refl _), marks_len, Nat.sub_self, List.drop_eq_getElem_cons hi, List.set_cons_zero]
      unfold marks
      rw [List.range_succ, List.map_append, List.append_assoc, Nat.add_comm 1]
      rfl
    simp (disch := omega) only [wrap_in, e]
    rw [show (((1 + i : Nat) : Int) + 1) = ((1 + (i + 1) : Nat) : Int) by omega]
    exact mark_l0 xs hlen n (i + 1) (by omega)
theorem mark_ev (xs : List ByteArray) (hlen : xs.length ≤ 1048576) : Ev (fun k => laws_markStringS.F k xs 1) (marks xs.length, ((1 + xs.length : Nat) : Int)) := by
  unfold laws_markStringS.F
  refine Ev.bind (mark_l0 xs hlen xs.length 0 (by omega)) ?_
  rw [show Nat.beq (marks xs.length, ((1 + xs.length : Nat) : Int)).1.length xs.length = true by rw [Nat.beq_eq]; exact marks_len _]
  exact Ev.pure _
theorem held_l0 (m : Nat) (hlen : m ≤ 1048576) : ∀ n i : Nat, i + n = m → Ev (fun k => laws_heldStringS.l0 k (marks m) ((1 + i : Nat) : Int) i) (.inr ((1 + m : Nat) : Int))
  | 0, i, h => by
    have hl := marks_len m
    refine Ev.step (fun k => by rw [laws_heldStringS.l0]) ?_
    simp (disch := omega) only [cneg]
    rw [show i = m by omega]
    exact Ev.pure _
  | n + 1, i, h => by
    have hl := marks_len m
    have hi : i < (marks m).length := by omega
    have e : (marks m)[i] = mt (1 + i) := by simp [marks, Nat.add_comm]
    refine Ev.step (fun k => by rw [laws_heldStringS.l0]) ?_
    simp (disch := omega) only [cpos, Int.toNat_natCast, getD_at hi, e]
    refine Ev.bind (mt_ev (1 + i) (by omega)) ?_
    simp (disch := omega) only [beqS_self, Bool.not_true, cond_false, wrap_in]
    rw [show (((1 + i : Nat) : Int) + 1) = ((1 + (i + 1) : Nat) : Int) by omega]
    exact held_l0 m hlen n (i + 1) (by omega)
theorem held_ev (m : Nat) (hlen : m ≤ 1048576) : Ev (fun k => laws_heldStringS.F k (marks m) 1) ((1 + m : Nat) : Int) := by
  unfold laws_heldStringS.F
  exact Ev.bind (held_l0 m hlen m 0 (by omega)) (Ev.pure _)
end Go.Proofs.YtfnibdpepbgamaaGreatDoor
end
section
/- Plain laws: deep marks of names, entries and libraries. -/
namespace Go.Proofs.YtfnibdpepbgamaaGreatDoor
open Go.Gx
set_option linter.unusedVariables false
set_option linter.unusedSimpArgs false

/-! ### Deep marks: numbers go up -/
theorem mtI (x : Int) (h0 : 0 ≤ x) (h1 : x ≤ 1099511627776) : ∃ r, Ev (fun k => laws_markText.F k x) r := by
  obtain ⟨n, rfl⟩ : ∃ n : Nat, x = n := ⟨x.toNat, by omega⟩
  exact markText_ev n (by omega)
theorem dmS_l0 (xs : List ByteArray) (hlen : xs.length ≤ 1048576) : ∀ n i : Nat, i + n = xs.length → ∀ z : Int, 0 ≤ z → z + n ≤ 1099511627776 → Ev (fun k => laws_markStringS_d.l0 k xs z i) (xs, z + n)
  | 0, i, h, z, h0, h1 => by
    refine Ev.step (fun k => by rw [laws_markStringS_d.l0]) ?_
    simp (disch := omega) only [cneg]
    exact (Ev.pure _).eq (by simp)
  | n + 1, i, h, z, h0, h1 => by
    have hi : i < xs.length := by omega
    refine Ev.step (fun k => by rw [laws_markStringS_d.l0]) ?_
    simp (disch := omega) only [cpos]
    obtain ⟨r, hr⟩ := mtI z h0 (by omega)
    refine Ev.bind hr ?_
    simp (disch := omega) only [wrap_in]
    refine (dmS_l0 xs hlen n (i + 1) (by omega) (z + 1) (by omega) (by omega)).eq ?_
    rw [show z + 1 + (n : Int) = z + ((n + 1 : Nat) : Int) by omega]
theorem dmS_ev (xs : List ByteArray) (hlen : xs.length ≤ 1048576) (z : Int) (h0 : 0 ≤ z) (h1 : z + xs.length ≤ 1099511627776) : Ev (fun k => laws_markStringS_d.F k xs z) (z + xs.length) := by
  unfold laws_markStringS_d.F
  exact Ev.bind (dmS_l0 xs hlen xs.length 0 (by omega) z h0 h1) (Ev.pure _)
def cntN (n : Name) : Nat := n.given.length + 3
def cntNs (xs : List Name) : Nat := (xs.map cntN).sum
theorem cntNs_drop {xs : List Name} {i : Nat} (hi : i < xs.length) : cntNs (xs.drop i) = cntN xs[i] + cntNs (xs.drop (i + 1)) := by
  unfold cntNs
  rw [List.drop_eq_getElem_cons hi, List.map_cons, List.sum_cons]
theorem dmN_l0 (xs : List Name) (hs : ∀ x ∈ xs, smallN x) (hlen : xs.length ≤ 1048576) : ∀ n i : Nat, i + n = xs.length → ∀ z : Int, 0 ≤ z → z + cntNs (xs.drop i) ≤ 1099511627776 → Ev (fun k => laws_markNameS_d.l0 k xs z i) (xs, z + cntNs (xs.drop i))
  | 0, i, h, z, h0, h1 => by
    refine Ev.step (fun k => by rw [laws_markNameS_d.l0]) ?_
    simp (disch := omega) only [cneg]
    refine (Ev.pure _).eq ?_
    rw [List.drop_eq_nil_of_le (by omega)]
    simp [cntNs]
  | n + 1, i, h, z, h0, h1 => by
    have hi : i < xs.length := by omega
    have hd := cntNs_drop hi
    rw [hd] at h1 ⊢
    unfold cntN at h1 ⊢
    have hg : xs[i].given.length ≤ 1048576 := by have := hs _ (List.getElem_mem hi); unfold smallN totN at this; omega
    refine Ev.step (fun k => by rw [laws_markNameS_d.l0]) ?_
    simp (disch := omega) only [cpos, Int.toNat_natCast, getD_at hi]
    refine Ev.bind (dmS_ev xs[i].given hg z h0 (by omega)) ?_
    obtain ⟨r1, e1⟩ := mtI (z + xs[i].given.length) (by omega) (by omega)
    obtain ⟨r2, e2⟩ := mtI (z + xs[i].given.length + 1) (by omega) (by omega)
    obtain ⟨r3, e3⟩ := mtI (z + xs[i].given.length + 1 + 1) (by omega) (by omega)
    simp (disch := omega) only [wrap_in]
    refine Ev.bind e1 (Ev.bind e2 (Ev.bind e3 ?_))
    refine (dmN_l0 xs hs hlen n (i + 1) (by omega) (z + xs[i].given.length + 1 + 1 + 1) (by omega) (by omega)).eq ?_
    rw [show z + (xs[i].given.length : Int) + 1 + 1 + 1 + (cntNs (xs.drop (i + 1)) : Int) = z + ((xs[i].given.length + 3 + cntNs (xs.drop (i + 1)) : Nat) : Int) by omega]
theorem dmN_ev (xs : List Name) (hs : ∀ x ∈ xs, smallN x) (hlen : xs.length ≤ 1048576) (z : Int) (h0 : 0 ≤ z) (h1 : z + cntNs xs ≤ 1099511627776) : Ev (fun k => laws_markNameS_d.F k xs z) (z + cntNs xs) := by
  unfold laws_markNameS_d.F
  exact Ev.bind (dmN_l0 xs hs hlen xs.length 0 (by omega) z h0 (by simpa using h1)) ((Ev.pure _).eq (by simp))
def cntE (e : Entry) : Nat := cntNs e.authors + cntNs e.editors + 12
def cntEs (xs : List Entry) : Nat := (xs.map cntE).sum
theorem cntEs_drop {xs : List Entry} {i : Nat} (hi : i < xs.length) : cntEs (xs.drop i) = cntE xs[i] + cntEs (xs.drop (i + 1)) := by
  unfold cntEs
  rw [List.drop_eq_getElem_cons hi, List.map_cons, List.sum_cons]
theorem cntNs_le : ∀ xs : List Name, cntNs xs ≤ 3 * totNs xs
  | [] => by simp [cntNs, totNs]
  | x :: xs => by
    have := cntNs_le xs
    unfold cntNs totNs at *
    simp only [List.map_cons, List.sum_cons, List.length_cons]
    have h1 : cntN x ≤ totN x + 3 := by unfold cntN totN; omega
    omega
theorem cntEs_le : ∀ xs : List Entry, cntEs xs ≤ 12 * totEs xs
  | [] => by simp [cntEs, totEs]
  | x :: xs => by
    have := cntEs_le xs
    unfold cntEs totEs at *
    simp only [List.map_cons, List.sum_cons, List.length_cons]
    have h1 : cntE x ≤ 3 * totE x + 12 := by
      have := cntNs_le x.authors
      have := cntNs_le x.editors
      unfold cntE totE
      omega
    omega
theorem dmE_l0 (xs : List Entry) (hs : ∀ x ∈ xs, smallE x) (hlen : xs.length ≤ 1048576) : ∀ n i : Nat, i + n = xs.length → ∀ z : Int, 0 ≤ z → z + cntEs (xs.drop i) ≤ 1099511627776 → Ev (fun k => laws_markEntryS_d.l0 k xs z i) (xs, z + cntEs (xs.drop i))
  | 0, i, h, z, h0, h1 => by
    refine Ev.step (fun k => by rw [laws_markEntryS_d.l0]) ?_
    simp (disch := omega) only [cneg]
    refine (Ev.pure _).eq ?_
    rw [List.drop_eq_nil_of_le (by omega)]
    simp [cntEs]
  | n + 1, i, h, z, h0, h1 => by
    have hi : i < xs.length := by omega
    have hd := cntEs_drop hi
    rw [hd] at h1 ⊢
    unfold cntE at h1 ⊢
    have hsm := hs _ (List.getElem_mem hi)
    have ha := smallE_a hsm
    have he := smallE_e hsm
    refine Ev.step (fun k => by rw [laws_markEntryS_d.l0]) ?_
    obtain ⟨r1, e1⟩ := mtI z (by omega) (by omega)
    simp (disch := omega) only [cpos]
    refine Ev.bind e1 ?_
    simp (disch := omega) only [cpos, Int.toNat_natCast, getD_at hi, wrap_in]
    refine Ev.bind (dmN_ev xs[i].authors (fun x hx => smallNs_at ha hx) (smallNs_len ha) (z + 1 + 1) (by omega) (by omega)) ?_
    refine Ev.bind (dmN_ev xs[i].editors (fun x hx => smallNs_at he hx) (smallNs_len he) (z + 1 + 1 + cntNs xs[i].authors) (by omega) (by omega)) ?_
    generalize hw : z + 1 + 1 + (cntNs xs[i].authors : Int) + (cntNs xs[i].editors : Int) = w
    have h30 : ((3 : Int) == 0) = false := rfl
    obtain ⟨r4, e4⟩ := mtI w (by omega) (by omega)
    obtain ⟨r5, e5⟩ := mtI (w + 1) (by omega) (by omega)
    obtain ⟨r6, e6⟩ := mtI (w + 1 + 1) (by omega) (by omega)
    obtain ⟨r7, e7⟩ := mtI (w + 1 + 1 + 1 + 1 + 1 + 1 + 1 + 1) (by omega) (by omega)
    obtain ⟨r8, e8⟩ := mtI (w + 1 + 1 + 1 + 1 + 1 + 1 + 1 + 1 + 1) (by omega) (by omega)
    simp (disch := omega) only [wrap_in, h30, cond_false]
    refine Ev.bind e4 (Ev.bind e5 (Ev.bind e6 (Ev.bind e7 (Ev.bind e8 ?_))))
    refine (dmE_l0 xs hs hlen n (i + 1) (by omega) (w + 1 + 1 + 1 + 1 + 1 + 1 + 1 + 1 + 1 + 1) (by omega) (by omega)).eq ?_
    rw [show w + 1 + 1 + 1 + 1 + 1 + 1 + 1 + 1 + 1 + 1 + (cntEs (xs.drop (i + 1)) : Int) = z + ((cntNs xs[i].authors + cntNs xs[i].editors + 12 + cntEs (xs.drop (i + 1)) : Nat) : Int) by omega]
theorem dmL_ev (l : Library) (hs : smallL l) : EvP (fun k => laws_markLibrary_d.F k l 1) fun r => 0 ≤ r := by
  have h1 := cntEs_le l.entries
  have h2 : totEs l.entries ≤ 1048576 := hs
  unfold laws_markLibrary_d.F laws_markEntryS_d.F
  refine ⟨1 + cntEs l.entries, Ev.bind (Ev.bind (dmE_l0 l.entries (fun x hx => smallL_at hs hx) (smallL_len hs) l.entries.length 0 (by omega) 1 (by omega) (by simp; omega)) ((Ev.pure _).eq (by simp))) (Ev.pure _), by omega⟩
end Go.Proofs.YtfnibdpepbgamaaGreatDoor
end
section
/- The plain laws of CrossChain, ChildrenOf, BrokenCrosses and DependentsOf. -/
namespace Go.Proofs.YtfnibdpepbgamaaGreatDoor
open Go.Gx
set_option linter.unusedVariables false
set_option linter.unusedSimpArgs false

theorem room_s8 {n : Nat} (h : n ≤ 8192) : room n .str = true := room_s h
/-- What both ask first. -/
theorem asked_ev (l : Library) (hs : smallL l) (key : ByteArray) : ∃ (v : Bool) (i : Int), Ev (fun k => spec_l21Asked.F k l key) (v && decide (i ≥ 0)) ∧ Ev (fun k => spec_l4Good.F k l) v ∧ Ev (fun k => impl_IsValidLibrary.F k l) v ∧ Ev (fun k => spec_l4Find.F k l key) i ∧ Ev (fun k => impl_entryIndex.F k l key) i ∧ -1 ≤ i ∧ i < l.entries.length ∧ (v = true → l.entries.length ≤ 8 ∧ libB l = true) ∧ (0 ≤ i → kAt l i = key) := by
  have hl := smallL_len hs
  have v1 := specLib_ev l hs
  have v2 := isLib_ev l hs
  obtain ⟨i, i1, i2, i3, i4, i5, _⟩ := findK_ev l key hl
  refine ⟨libB l, i, ?_, v1, v2, i1, i2, i3, i4, fun h => ⟨libB_len h, h⟩, i5⟩
  unfold spec_l21Asked.F
  cases hv : libB l with
  | false => rw [hv] at v1; exact Ev.bind v1 (Ev.pure _)
  | true => rw [hv] at v1; exact Ev.bind v1 (Ev.bind i1 (Ev.pure _))

/-! ### CrossChain -/
theorem keys_l (l : Library) (c : List Int) (b : Bool) (hc : ∀ x ∈ c, 0 ≤ x ∧ x < l.entries.length) (hlen : c.length ≤ 8) : ∀ n i : Nat, i + n = c.length → ∀ acc : List ByteArray, acc.length + n ≤ 100 →
    Ev (fun k => spec_CrossChain.l0 k l acc c b i) (acc ++ (c.drop i).map (kAt l), b) ∧ Ev (fun k => impl_keysOf.l0 k l acc c c.length i) (acc ++ (c.drop i).map (kAt l))
  | 0, i, h, acc, ha => by
    have hd : c.drop i = [] := List.drop_eq_nil_of_le (by omega)
    refine ⟨Ev.step (fun k => by rw [spec_CrossChain.l0]) ?_, Ev.step (fun k => by rw [impl_keysOf.l0]) ?_⟩
    · simp (disch := omega) only [cneg]; exact (Ev.pure _).eq (by simp [hd])
    · simp (disch := omega) only [cneg]; exact (Ev.pure _).eq (by simp [hd])
  | n + 1, i, h, acc, ha => by
    have hi : i < c.length := by omega
    have hd : c.drop i = c[i] :: c.drop (i + 1) := List.drop_eq_getElem_cons hi
    obtain ⟨hx0, hx1⟩ := hc _ (List.getElem_mem hi)
    have hr : ∀ z : ByteArray, room (acc.length + ([z] : List ByteArray).length) .str = true := fun z => room_s8 (by simp; omega)
    have e : acc ++ (c.drop i).map (kAt l) = (acc ++ [kAt l c[i]]) ++ (c.drop (i + 1)).map (kAt l) := by rw [hd]; simp only [List.map_cons, List.append_assoc, List.singleton_append]
    obtain ⟨h1, h2⟩ := keys_l l c b hc hlen n (i + 1) (by omega) (acc ++ [kAt l c[i]]) (by simp; omega)
    rw [e]
    refine ⟨Ev.step (fun k => by rw [spec_CrossChain.l0]) ?_, Ev.step (fun k => by rw [impl_keysOf.l0]) ?_⟩
    · simp (disch := omega) only [cpos, Int.toNat_natCast, getD_at hi, hr, cond_true, wrap_in]
      exact h1
    · simp (disch := omega) only [cpos, Int.toNat_natCast, getD_at hi, hr, cond_true, wrap_in]
      exact h2
theorem crossChain_ev (l : Library) (hs : smallL l) (key : ByteArray) : ∃ r b v, Ev (fun k => spec_CrossChain.F k l key) (r, b, v) ∧ Ev (fun k => impl_CrossChain.F k l key) (r, b, v) ∧ r.length ≤ 8 := by
  obtain ⟨v, i, a1, a2, a3, a4, a5, a6, a7, a8, a9⟩ := asked_ev l hs key
  unfold spec_CrossChain.F impl_CrossChain.F
  cases v with
  | false => exact ⟨[], false, false, Ev.bind a1 (Ev.pure _), Ev.bind a5 (Ev.bind a3 (Ev.pure _)), by simp⟩
  | true =>
    by_cases hi : i < 0
    · rw [decide_eq_false (by omega)] at a1
      refine ⟨[], false, false, Ev.bind a1 (Ev.pure _), Ev.bind a5 (Ev.bind a3 ?_), by simp⟩
      simp (disch := omega) only [Bool.not_true, cond_false, cpos]
      exact Ev.pure _
    · rw [decide_eq_true (by omega)] at a1
      obtain ⟨c, b, c1, c2, c3, c4, c5⟩ := chain_ev l (a8 rfl).1 i (by omega) a7
      have := (a8 rfl).1
      obtain ⟨k1, k2⟩ := keys_l l c b c4 (by omega) c.length 0 (by omega) [] (by simp; omega)
      refine ⟨c.map (kAt l), b, true, Ev.bind a1 (Ev.bind a4 (Ev.bind c1 (Ev.bind k1 ?_))), Ev.bind a5 (Ev.bind a3 ?_), by simp; omega⟩
      · exact (Ev.pure _).eq (by simp)
      · simp (disch := omega) only [Bool.not_true, cond_false, cneg]
        refine Ev.bind c2 (Ev.bind ?_ (Ev.pure _))
        unfold impl_keysOf.F
        exact Ev.bind k2 ((Ev.pure _).eq (by simp))
theorem crossChain_law (l : Library) (key : ByteArray) (hw : WF .lib l) (hwk : WF .str key) : ∃ k, laws_FnExactCrossChain.F k l key = some true := by
  refine Ev.get (?_ : Ev (fun k => laws_FnExactCrossChain.F k l key) true)
  unfold laws_FnExactCrossChain.F
  by_cases c0 : (key.size : Int) > 1048576
  · simp (disch := omega) only [cpos]
    exact Ev.pure _
  simp (disch := omega) only [cneg]
  obtain ⟨r, h1, h2⟩ := szL_ev l 1048576 (by omega) (by omega) hw
  refine Ev.bind h1 ?_
  by_cases c : r < 0
  · simp (disch := omega) only [cpos]
    exact Ev.pure _
  simp (disch := omega) only [cneg]
  have hs : smallL l := by have := h2 (by omega); unfold smallL; omega
  obtain ⟨v, b, w, v1, v2, v3⟩ := crossChain_ev l hs key
  have tl := toL_ev l hs
  have eqv := eqS_ev v (by omega)
  refine Ev.bind tl (Ev.bind v1 (Ev.bind tl (Ev.bind v2 (Ev.bind eqv ?_))))
  simp only [beq_self_eq_true, Bool.not_true, cond_false]
  refine Ev.bind tl (Ev.bind (eqL_ev l hs) ?_)
  simp only [Bool.not_true, cond_false]
  obtain ⟨m, m1, m2⟩ := dmL_ev l hs
  refine Ev.bind m1 ?_
  simp (disch := omega) only [cneg]
  refine Ev.bind eqv ?_
  simp only [Bool.not_true, cond_false]
  refine Ev.bind (mark_ev v (by omega)) (Ev.bind (held_ev v.length (by omega)) ?_)
  simp (disch := omega) only [cneg, cbeq]
  refine Ev.bind tl (Ev.bind v2 (Ev.bind eqv ?_))
  simp only [beq_self_eq_true, Bool.not_true, cond_false]
  refine Ev.bind (held_ev v.length (by omega)) ?_
  simp (disch := omega) only [cneg, cbeq]
  exact Ev.pure _

/-! ### ChildrenOf -/
theorem children_l (l : Library) (hl : l.entries.length ≤ 8) (key : ByteArray) : ∀ n i : Nat, i + n = l.entries.length → ∀ acc : List ByteArray, acc.length + n ≤ 100 →
    ∃ r, Ev (fun k => spec_ChildrenOf.l0 k key l acc i) r ∧ Ev (fun k => impl_ChildrenOf.l0 k key acc l.entries l.entries.length i) r ∧ r.length ≤ acc.length + n
  | 0, i, h, acc, ha => by
    refine ⟨acc, Ev.step (fun k => by rw [spec_ChildrenOf.l0]) ?_, Ev.step (fun k => by rw [impl_ChildrenOf.l0]) ?_, by omega⟩
    · simp (disch := omega) only [cneg]; exact Ev.pure _
    · simp (disch := omega) only [cneg]; exact Ev.pure _
  | n + 1, i, h, acc, ha => by
    have hi : i < l.entries.length := by omega
    have hr : ∀ z : ByteArray, room (acc.length + ([z] : List ByteArray).length) .str = true := fun z => room_s8 (by simp; omega)
    cases hb : beqS l.entries[i].cross key with
    | true =>
      obtain ⟨r, r1, r2, r3⟩ := children_l l hl key n (i + 1) (by omega) (acc ++ [l.entries[i].key]) (by simp; omega)
      refine ⟨r, Ev.step (fun k => by rw [spec_ChildrenOf.l0]) ?_, Ev.step (fun k => by rw [impl_ChildrenOf.l0]) ?_, by simp at r3; omega⟩
      · simp (disch := omega) only [cpos, Int.toNat_natCast, getD_at hi, hb, hr, cond_true, wrap_in]; exact r1
      · simp (disch := omega) only [cpos, Int.toNat_natCast, getD_at hi, hb, hr, cond_true, wrap_in]; exact r2
    | false =>
      obtain ⟨r, r1, r2, r3⟩ := children_l l hl key n (i + 1) (by omega) acc (by omega)
      refine ⟨r, Ev.step (fun k => by rw [spec_ChildrenOf.l0]) ?_, Ev.step (fun k => by rw [impl_ChildrenOf.l0]) ?_, by omega⟩
      · simp (disch := omega) only [cpos, Int.toNat_natCast, getD_at hi, hb, cond_false, wrap_in]; exact r1
      · simp (disch := omega) only [cpos, Int.toNat_natCast, getD_at hi, hb, cond_false, wrap_in]; exact r2
theorem childrenOf_ev (l : Library) (hs : smallL l) (key : ByteArray) : ∃ r v, Ev (fun k => spec_ChildrenOf.F k l key) (r, v) ∧ Ev (fun k => impl_ChildrenOf.F k l key) (r, v) ∧ r.length ≤ 8 := by
  obtain ⟨v, i, a1, a2, a3, a4, a5, a6, a7, a8, a9⟩ := asked_ev l hs key
  unfold spec_ChildrenOf.F impl_ChildrenOf.F
  cases v with
  | false => exact ⟨[], false, Ev.bind a1 (Ev.pure _), Ev.bind a3 (Ev.pure _), by simp⟩
  | true =>
    by_cases hi : i < 0
    · rw [decide_eq_false (by omega)] at a1
      refine ⟨[], false, Ev.bind a1 (Ev.pure _), Ev.bind a3 (Ev.bind a5 ?_), by simp⟩
      simp (disch := omega) only [cpos]
      exact Ev.pure _
    · rw [decide_eq_true (by omega)] at a1
      have := (a8 rfl).1
      obtain ⟨r, r1, r2, r3⟩ := children_l l this key l.entries.length 0 (by omega) [] (by simp; omega)
      refine ⟨r, true, Ev.bind a1 (Ev.bind r1 (Ev.pure _)), Ev.bind a3 (Ev.bind a5 ?_), by simp at r3; omega⟩
      simp (disch := omega) only [cneg]
      exact Ev.bind r2 (Ev.pure _)
/-- A law whose answer is a list of texts and a bool, of a library. -/
theorem childrenOf_law (l : Library) (key : ByteArray) (hw : WF .lib l) (hwk : WF .str key) : ∃ k, laws_FnExactChildrenOf.F k l key = some true := by
  refine Ev.get (?_ : Ev (fun k => laws_FnExactChildrenOf.F k l key) true)
  unfold laws_FnExactChildrenOf.F
  by_cases c0 : (key.size : Int) > 1048576
  · simp (disch := omega) only [cpos]
    exact Ev.pure _
  simp (disch := omega) only [cneg]
  obtain ⟨r, h1, h2⟩ := szL_ev l 1048576 (by omega) (by omega) hw
  refine Ev.bind h1 ?_
  by_cases c : r < 0
  · simp (disch := omega) only [cpos]
    exact Ev.pure _
  simp (disch := omega) only [cneg]
  have hs : smallL l := by have := h2 (by omega); unfold smallL; omega
  obtain ⟨v, w, v1, v2, v3⟩ := childrenOf_ev l hs key
  have tl := toL_ev l hs
  have eqv := eqS_ev v (by omega)
  refine Ev.bind tl (Ev.bind v1 (Ev.bind tl (Ev.bind v2 (Ev.bind eqv ?_))))
  simp only [beq_self_eq_true, Bool.not_true, cond_false]
  refine Ev.bind tl (Ev.bind (eqL_ev l hs) ?_)
  simp only [Bool.not_true, cond_false]
  obtain ⟨m, m1, m2⟩ := dmL_ev l hs
  refine Ev.bind m1 ?_
  simp (disch := omega) only [cneg]
  refine Ev.bind eqv ?_
  simp only [Bool.not_true, cond_false]
  refine Ev.bind (mark_ev v (by omega)) (Ev.bind (held_ev v.length (by omega)) ?_)
  simp (disch := omega) only [cneg, cbeq]
  refine Ev.bind tl (Ev.bind v2 (Ev.bind eqv ?_))
  simp only [beq_self_eq_true, Bool.not_true, cond_false]
  refine Ev.bind (held_ev v.length (by omega)) ?_
  simp (disch := omega) only [cneg, cbeq]
  exact Ev.pure _

/-! ### BrokenCrosses -/
theorem broken_l (l : Library) (hl : l.entries.length ≤ 8) : ∀ n i : Nat, i + n = l.entries.length → ∀ acc : List ByteArray, acc.length + n ≤ 100 →
    ∃ r, Ev (fun k => spec_BrokenCrosses.l0 k l acc i) r ∧ Ev (fun k => impl_BrokenCrosses.l0 k l acc l.entries l.entries.length i) r ∧ r.length ≤ acc.length + n
  | 0, i, h, acc, ha => by
    refine ⟨acc, Ev.step (fun k => by rw [spec_BrokenCrosses.l0]) ?_, Ev.step (fun k => by rw [impl_BrokenCrosses.l0]) ?_, by omega⟩
    · simp (disch := omega) only [cneg]; exact Ev.pure _
    · simp (disch := omega) only [cneg]; exact Ev.pure _
  | n + 1, i, h, acc, ha => by
    have hi : i < l.entries.length := by omega
    have hr : ∀ z : ByteArray, room (acc.length + ([z] : List ByteArray).length) .str = true := fun z => room_s8 (by simp; omega)
    obtain ⟨r0, r01, r02, r03⟩ := broken_l l hl n (i + 1) (by omega) acc (by omega)
    cases hb : beqS l.entries[i].cross ⟨#[]⟩ with
    | true =>
      refine ⟨r0, Ev.step (fun k => by rw [spec_BrokenCrosses.l0]) ?_, Ev.step (fun k => by rw [impl_BrokenCrosses.l0]) ?_, by omega⟩
      · simp (disch := omega) only [cpos, Int.toNat_natCast, getD_at hi, hb, Bool.not_true, cond_false, wrap_in]; exact r01
      · simp (disch := omega) only [cpos, Int.toNat_natCast, getD_at hi, hb, Bool.not_true, cond_false, wrap_in]; exact r02
    | false =>
      obtain ⟨p, p1, p2, p3, p4⟩ := parent_ev l (by omega) i (by omega) (by omega)
      by_cases hp : p < 0
      · obtain ⟨r, r1, r2, r3⟩ := broken_l l hl n (i + 1) (by omega) (acc ++ [l.entries[i].key]) (by simp; omega)
        refine ⟨r, Ev.step (fun k => by rw [spec_BrokenCrosses.l0]) ?_, Ev.step (fun k => by rw [impl_BrokenCrosses.l0]) ?_, by simp at r3; omega⟩
        · simp (disch := omega) only [cpos, Int.toNat_natCast, getD_at hi, hb, Bool.not_false, cond_true]
          refine Ev.bind p1 ?_
          simp (disch := omega) only [cpos, hr, cond_true, wrap_in]; exact r1
        · simp (disch := omega) only [cpos, Int.toNat_natCast, getD_at hi, hb, Bool.not_false, cond_true]
          refine Ev.bind p2 ?_
          simp (disch := omega) only [cpos, hr, cond_true, wrap_in]; exact r2
      · refine ⟨r0, Ev.step (fun k => by rw [spec_BrokenCrosses.l0]) ?_, Ev.step (fun k => by rw [impl_BrokenCrosses.l0]) ?_, by omega⟩
        · simp (disch := omega) only [cpos, Int.toNat_natCast, getD_at hi, hb, Bool.not_false, cond_true]
          refine Ev.bind p1 ?_
          simp (disch := omega) only [cneg, wrap_in]; exact r01
        · simp (disch := omega) only [cpos, Int.toNat_natCast, getD_at hi, hb, Bool.not_false, cond_true]
          refine Ev.bind p2 ?_
          simp (disch := omega) only [cneg, wrap_in]; exact r02
theorem brokenCrosses_ev (l : Library) (hs : smallL l) : ∃ r v, Ev (fun k => spec_BrokenCrosses.F k l) (r, v) ∧ Ev (fun k => impl_BrokenCrosses.F k l) (r, v) ∧ r.length ≤ 8 := by
  have v1 := specLib_ev l hs
  have v2 := isLib_ev l hs
  unfold spec_BrokenCrosses.F impl_BrokenCrosses.F
  cases hv : libB l with
  | false =>
    rw [hv] at v1 v2
    exact ⟨[], false, Ev.bind v1 (Ev.pure _), Ev.bind v2 (Ev.pure _), by simp⟩
  | true =>
    rw [hv] at v1 v2
    have hl := libB_len hv
    obtain ⟨r, r1, r2, r3⟩ := broken_l l hl l.entries.length 0 (by omega) [] (by simp; omega)
    exact ⟨r, true, Ev.bind v1 (Ev.bind r1 (Ev.pure _)), Ev.bind v2 (Ev.bind r2 (Ev.pure _)), by simp at r3; omega⟩
theorem brokenCrosses_law (l : Library) (hw : WF .lib l) : ∃ k, laws_FnExactBrokenCrosses.F k l = some true := by
  refine Ev.get (?_ : Ev (fun k => laws_FnExactBrokenCrosses.F k l) true)
  unfold laws_FnExactBrokenCrosses.F
  obtain ⟨r, h1, h2⟩ := szL_ev l 1048576 (by omega) (by omega) hw
  refine Ev.bind h1 ?_
  by_cases c : r < 0
  · simp (disch := omega) only [cpos]
    exact Ev.pure _
  simp (disch := omega) only [cneg]
  have hs : smallL l := by have := h2 (by omega); unfold smallL; omega
  obtain ⟨v, w, v1, v2, v3⟩ := brokenCrosses_ev l hs
  have tl := toL_ev l hs
  have eqv := eqS_ev v (by omega)
  refine Ev.bind tl (Ev.bind v1 (Ev.bind tl (Ev.bind v2 (Ev.bind eqv ?_))))
  simp only [beq_self_eq_true, Bool.not_true, cond_false]
  refine Ev.bind tl (Ev.bind (eqL_ev l hs) ?_)
  simp only [Bool.not_true, cond_false]
  obtain ⟨m, m1, m2⟩ := dmL_ev l hs
  refine Ev.bind m1 ?_
  simp (disch := omega) only [cneg]
  refine Ev.bind eqv ?_
  simp only [Bool.not_true, cond_false]
  refine Ev.bind (mark_ev v (by omega)) (Ev.bind (held_ev v.length (by omega)) ?_)
  simp (disch := omega) only [cneg, cbeq]
  refine Ev.bind tl (Ev.bind v2 (Ev.bind eqv ?_))
  simp only [beq_self_eq_true, Bool.not_true, cond_false]
  refine Ev.bind (held_ev v.length (by omega)) ?_
  simp (disch := omega) only [cneg, cbeq]
  exact Ev.pure _

/-! ### DependentsOf -/
theorem dep_l (l : Library) (hl : l.entries.length ≤ 8) (hB : libB l = true) (key : ByteArray) (q : Int) (q0 : 0 ≤ q) (q1 : q < l.entries.length) (hq : kAt l q = key) (hf : Ev (fun k => spec_l4Find.F k l key) q) : ∀ n i : Nat, i + n = l.entries.length → ∀ acc : List ByteArray, acc.length + n ≤ 100 →
    ∃ r, Ev (fun k => spec_DependentsOf.l0 k key l acc i) r ∧ Ev (fun k => impl_DependentsOf.l0 k l q acc l.entries l.entries.length i) r ∧ r.length ≤ acc.length + n
  | 0, i, h, acc, ha => by
    refine ⟨acc, Ev.step (fun k => by rw [spec_DependentsOf.l0]) ?_, Ev.step (fun k => by rw [impl_DependentsOf.l0]) ?_, by omega⟩
    · simp (disch := omega) only [cneg]; exact Ev.pure _
    · simp (disch := omega) only [cneg]; exact Ev.pure _
  | n + 1, i, h, acc, ha => by
    have hi : i < l.entries.length := by omega
    have hr : ∀ z : ByteArray, room (acc.length + ([z] : List ByteArray).length) .str = true := fun z => room_s8 (by simp; omega)
    obtain ⟨r0, r01, r02, r03⟩ := dep_l l hl hB key q q0 q1 hq hf n (i + 1) (by omega) acc (by omega)
    obtain ⟨c, b, c1, c2, c3, c4, c5⟩ := chain_ev l hl i (by omega) (by omega)
    obtain ⟨e1, e2⟩ := has_ev c q (by omega)
    have hkey : beqS l.entries[i].key key = decide ((i : Int) = q) := by
      by_cases e : (i : Int) = q
      · rw [decide_eq_true e, beqS_iff, ← hq, ← e]
        unfold kAt
        rw [Int.toNat_natCast, getD_at hi]
      · rw [decide_eq_false e]
        cases hb : beqS l.entries[i].key key with
        | false => rfl
        | true =>
          exfalso
          have h1 := beqS_iff.1 hb
          have h2 := keys_ne hB (i := i) (j := q.toNat) hi (by omega) (by rw [getD_at hi, h1, ← hq]; rfl)
          omega
    by_cases hiq : (i : Int) = q
    · rw [decide_eq_true hiq] at hkey
      refine ⟨r0, Ev.step (fun k => by rw [spec_DependentsOf.l0]) ?_, Ev.step (fun k => by rw [impl_DependentsOf.l0]) ?_, by omega⟩
      · simp (disch := omega) only [cpos]
        refine Ev.bind c1 ?_
        simp (disch := omega) only [cpos, Int.toNat_natCast, getD_at hi, hkey, Bool.not_true, cond_false, wrap_in]; exact r01
      · simp (disch := omega) only [cpos]
        refine Ev.bind c2 ?_
        simp (disch := omega) only [cbeq, wrap_in]; exact r02
    · rw [decide_eq_false hiq] at hkey
      by_cases hm : q ∈ c
      · rw [decide_eq_true hm] at e1 e2
        obtain ⟨r, r1, r2, r3⟩ := dep_l l hl hB key q q0 q1 hq hf n (i + 1) (by omega) (acc ++ [l.entries[i].key]) (by simp; omega)
        refine ⟨r, Ev.step (fun k => by rw [spec_DependentsOf.l0]) ?_, Ev.step (fun k => by rw [impl_DependentsOf.l0]) ?_, by simp at r3; omega⟩
        · simp (disch := omega) only [cpos]
          refine Ev.bind c1 ?_
          simp (disch := omega) only [cpos, Int.toNat_natCast, getD_at hi, hkey, Bool.not_false, cond_true]
          refine Ev.bind hf (Ev.bind e1 ?_)
          simp (disch := omega) only [cpos, hr, cond_true, wrap_in]; exact r1
        · simp (disch := omega) only [cpos]
          refine Ev.bind c2 ?_
          simp (disch := omega) only [cbne]
          refine Ev.bind e2 ?_
          simp (disch := omega) only [cpos, Int.toNat_natCast, getD_at hi, hr, cond_true, wrap_in]; exact r2
      · rw [decide_eq_false hm] at e1 e2
        refine ⟨r0, Ev.step (fun k => by rw [spec_DependentsOf.l0]) ?_, Ev.step (fun k => by rw [impl_DependentsOf.l0]) ?_, by omega⟩
        · simp (disch := omega) only [cpos]
          refine Ev.bind c1 ?_
          simp (disch := omega) only [cpos, Int.toNat_natCast, getD_at hi, hkey, Bool.not_false, cond_true]
          refine Ev.bind hf (Ev.bind e1 ?_)
          simp (disch := omega) only [cond_false, wrap_in]; exact r01
        · simp (disch := omega) only [cpos]
          refine Ev.bind c2 ?_
          simp (disch := omega) only [cbne]
          refine Ev.bind e2 ?_
          simp (disch := omega) only [cond_false, wrap_in]; exact r02
theorem dependentsOf_ev (l : Library) (hs : smallL l) (key : ByteArray) : ∃ r v, Ev (fun k => spec_DependentsOf.F k l key) (r, v) ∧ Ev (fun k => impl_DependentsOf.F k l key) (r, v) ∧ r.length ≤ 8 := by
  obtain ⟨v, i, a1, a2, a3, a4, a5, a6, a7, a8, a9⟩ := asked_ev l hs key
  unfold spec_DependentsOf.F impl_DependentsOf.F
  cases v with
  | false => exact ⟨[], false, Ev.bind a1 (Ev.pure _), Ev.bind a5 (Ev.bind a3 (Ev.pure _)), by simp⟩
  | true =>
    by_cases hi : i < 0
    · rw [decide_eq_false (by omega)] at a1
      refine ⟨[], false, Ev.bind a1 (Ev.pure _), Ev.bind a5 (Ev.bind a3 ?_), by simp⟩
      simp (disch := omega) only [Bool.not_true, cond_false, cpos]
      exact Ev.pure _
    · rw [decide_eq_true (by omega)] at a1
      obtain ⟨hl, hB⟩ := a8 rfl
      obtain ⟨r, r1, r2, r3⟩ := dep_l l hl hB key i (by omega) a7 (a9 (by omega)) a4 l.entries.length 0 (by omega) [] (by simp; omega)
      refine ⟨r, true, Ev.bind a1 (Ev.bind r1 (Ev.pure _)), Ev.bind a5 (Ev.bind a3 ?_), by simp at r3; omega⟩
      simp (disch := omega) only [Bool.not_true, cond_false, cneg]
      exact Ev.bind r2 (Ev.pure _)
theorem dependentsOf_law (l : Library) (key : ByteArray) (hw : WF .lib l) (hwk : WF .str key) : ∃ k, laws_FnExactDependentsOf.F k l key = some true := by
  refine Ev.get (?_ : Ev (fun k => laws_FnExactDependentsOf.F k l key) true)
  unfold laws_FnExactDependentsOf.F
  by_cases c0 : (key.size : Int) > 1048576
  · simp (disch := omega) only [cpos]
    exact Ev.pure _
  simp (disch := omega) only [cneg]
  obtain ⟨r, h1, h2⟩ := szL_ev l 1048576 (by omega) (by omega) hw
  refine Ev.bind h1 ?_
  by_cases c : r < 0
  · simp (disch := omega) only [cpos]
    exact Ev.pure _
  simp (disch := omega) only [cneg]
  have hs : smallL l := by have := h2 (by omega); unfold smallL; omega
  obtain ⟨v, w, v1, v2, v3⟩ := dependentsOf_ev l hs key
  have tl := toL_ev l hs
  have eqv := eqS_ev v (by omega)
  refine Ev.bind tl (Ev.bind v1 (Ev.bind tl (Ev.bind v2 (Ev.bind eqv ?_))))
  simp only [beq_self_eq_true, Bool.not_true, cond_false]
  refine Ev.bind tl (Ev.bind (eqL_ev l hs) ?_)
  simp only [Bool.not_true, cond_false]
  obtain ⟨m, m1, m2⟩ := dmL_ev l hs
  refine Ev.bind m1 ?_
  simp (disch := omega) only [cneg]
  refine Ev.bind eqv ?_
  simp only [Bool.not_true, cond_false]
  refine Ev.bind (mark_ev v (by omega)) (Ev.bind (held_ev v.length (by omega)) ?_)
  simp (disch := omega) only [cneg, cbeq]
  refine Ev.bind tl (Ev.bind v2 (Ev.bind eqv ?_))
  simp only [beq_self_eq_true, Bool.not_true, cond_false]
  refine Ev.bind (held_ev v.length (by omega)) ?_
  simp (disch := omega) only [cneg, cbeq]
  exact Ev.pure _
end Go.Proofs.YtfnibdpepbgamaaGreatDoor
end
section
/- The law FnExactDependentsOf returns true for every input, the listed package variables being as the program's text lays it: the card. -/
namespace Go.Proofs.YtfnibdpepbgamaaGreatDoor
open Go.Gx Go.RowKit Go.ChangeShapes Go.WideShapes Go.ChangeAt
set_option linter.unusedVariables false
theorem fnExactDependentsOf_own : ownKnob Tryz.prog.godebug = none := by kernel_rfl
set_option maxRecDepth 100000 in
theorem fnExactDependentsOf_contract (H : Type) (enc : TypeId × Value → H) (W : World) (base : Nat) (args : Array Value) (ds gs : List (DataW H)) (before : List MemPlace)
    (hval : ∀ (j : Nat) t v, Tryz.f5.params[j]? = some t → args[j]? = some v → Value.okWide Tryz.prog W .any base t v)
    (hW : DataW.Whole enc Tryz.prog Tryz.f5.params.toList Rows.fnExactDependentsOfSpec.vars false W args.toList ds gs before) (hsh : W.ShapedOpen Tryz.prog) :
    Calls Tryz.prog 5 args W fun e W' => ∃ v, e = .returned v ∧ Rows.fnExactDependentsOfSpec.post enc Tryz.prog Tryz.f5 false true false false W args v W' := by
  have hgs : gs = [] := by
    obtain ⟨p, q, _, hV, _⟩ := hW
    exact (trodVars_none hV).1
  subst hgs
  have hds : ∃ d1 d2, ds = [d1, d2] := by
    obtain ⟨p, q, hA, _⟩ := hW
    obtain ⟨_, _, d1, e0, _, _, _, rfl, _, _, h0⟩ := trodAll_cons hA
    obtain ⟨_, _, d2, e1, _, _, _, rfl, _, _, h1⟩ := trodAll_cons h0
    obtain ⟨_, rfl, _⟩ := trodAll_nil h1
    exact ⟨d1, d2, rfl⟩
  obtain ⟨d1, d2, rfl⟩ := hds
  have hgl : GlOk envX (fun _ => undef) (Lt W) W := by
    refine GlOk.mk0 (fun g b h => (by cases h)) (fun g hg => ?_)
    have hg' : giT g = true := hg
    unfold giT at hg'
    split at hg'
    · obtain ⟨m, hm⟩ := cell_of_shapedOpen_int (P := Tryz.prog) (g := 2) (t := 3) (zero := #[.int .i64 0]) hsh (of_decide_eq_true (by kernel_rfl)) (by kernel_rfl) rfl (by kernel_rfl) (by kernel_rfl) (by kernel_rfl)
      exact ⟨World.block_lt_of_cell? _ _ hm, m, hm⟩
    · cases hg'
  refine law_contract (τs := [.lib, .str]) (r := .t .bool true) envOk (by kernel_rfl) rfl (by kernel_rfl) (by kernel_rfl) rfl (by kernel_rfl) (by kernel_rfl) (fun t ht => ?_) rfl (fun x hx => by
      obtain ⟨k, hk⟩ := dependentsOf_law x.1 x.2.1 hx.1 hx.2.1
      exact laws_FnExactDependentsOf.good envOk _ k _ _ hk) rfl hval hW hgl (fun q hq W' _ => ?_)
  · have : t ∈ [24, 9] := ht
    simp only [List.mem_cons, List.not_mem_nil, or_false] at this
    rcases this with rfl | rfl <;> exact ⟨by kernel_rfl, Nat.le_of_ble_eq_true (by kernel_rfl)⟩
  · obtain ⟨_, rfl⟩ := trodVars_none hq
    exact rfl
set_option maxRecDepth 100000 in
noncomputable def fnExactDependentsOf_world (os : Os) : World :=
  { World.holding Tryz.prog os ⟨#[], #[], []⟩ with heap := (((World.holding Tryz.prog os ⟨#[], #[], []⟩).heap.modify 4 fun
      | .cells _ t frozen => .cells #[.int .u8 128, .int .u8 191, .int .u8 160, .int .u8 191, .int .u8 128, .int .u8 159, .int .u8 144, .int .u8 191, .int .u8 128, .int .u8 143, .int .u8 0, .int .u8 0, .int .u8 0, .int .u8 0, .int .u8 0, .int .u8 0, .int .u8 0, .int .u8 0, .int .u8 0, .int .u8 0, .int .u8 0, .int .u8 0, .int .u8 0, .int .u8 0, .int .u8 0, .int .u8 0, .int .u8 0, .int .u8 0, .int .u8 0, .int .u8 0, .int .u8 0, .int .u8 0] t frozen
      | o => o).modify 3 fun
      | .cells _ t frozen => .cells (Pinned.utf8FirstZ.map fun (n : Nat) => Value.int .u8 (n : Int)).toArray t frozen
      | o => o) }
theorem fnExactDependentsOf_met (os : Os) : laidMet Tryz.prog Rows.fnExactDependentsOfRow.laid ((fnExactDependentsOf_world os).forCall (fun _ _ => 0) ⟨#[], #[.agg #[.slice none 0 0], .string ⟨#[]⟩], []⟩).memory :=
  laidMet_of_run' 8 (by kernel_rfl) (by kernel_rfl)
theorem fnExactDependentsOf_reads (os : Os) {H : Type} (enc : TypeId × Value → H) : ∃ places, DataW.whole enc Tryz.prog ((fnExactDependentsOf_world os).forCall (fun _ _ => 0) ⟨#[], #[.agg #[.slice none 0 0], .string ⟨#[]⟩], []⟩).memory Tryz.f5.params.toList Rows.fnExactDependentsOfSpec.vars false #[.agg #[.slice none 0 0], .string ⟨#[]⟩].toList 8 = some ([.agg [.nil], .lit (.string [])], [], places) :=
  ⟨[], by kernel_rfl⟩
set_option maxRecDepth 100000 in
theorem fnExactDependentsOf_lifted (os : Os) (started : os.Started) (H : Type) (enc : TypeId × Value → H) (F : Stop.Interp) :
    ReturnsInHanded {} Tryz.checked os 5 .any ((OpenSpec.ofChange Rows.fnExactDependentsOfSpec).preRow enc Tryz.prog Tryz.f5 Rows.fnExactDependentsOfRow.domain false Rows.fnExactDependentsOfRow.laid) (((OpenSpec.ofChange Rows.fnExactDependentsOfSpec).at F).post enc Tryz.prog Tryz.f5 false true false false) := by
  obtain ⟨places, hx⟩ := fnExactDependentsOf_reads os enc
  refine returnsInHanded_of_row (C := Tryz.checked) (s := OpenSpec.ofChange Rows.fnExactDependentsOfSpec) fnExactDependentsOf_own started (by kernel_rfl) (by kernel_rfl)
    (witness_row_at (enc := enc) (C := Tryz.checked) false (fnExactDependentsOf_world os) #[.agg #[.slice none 0 0], .string ⟨#[]⟩] rfl (by kernel_rfl) (by kernel_rfl) (by kernel_rfl)
      (OpenSpec.preRow_of_cond 8 hx (by kernel_rfl) (fun k hk => by cases hk) (by kernel_rfl) (fnExactDependentsOf_met os))) ?_
  intro W base args ds gs before hval hW _ _ _ _ hsh _
  exact fnExactDependentsOf_contract H enc W base args ds gs before hval hW hsh
theorem fnExactDependentsOf_said : Rows.FnExactDependentsOfSaid :=
  OpenClaim.holds_of_cond 5 Tryz.f5 rfl rfl rfl rfl rfl rfl rfl ⟨rfl, rfl, rfl, rfl, rfl⟩ rfl rfl rfl rfl rfl (by kernel_rfl) (by kernel_rfl) (by kernel_rfl)
    (of_decide_eq_true (by kernel_rfl)) (by unfold Func.isWrapper; first | (rw [if_pos (by decide +kernel)]; kernel_rfl) | (rw [if_neg (by decide +kernel)]; exact ⟨rfl, rfl⟩))
    (fun os started H enc _ F => by rw [OpenClaim.pre_eq_preRow]; exact fnExactDependentsOf_lifted os started H enc F)
theorem fnExactDependentsOf_plain (f : FuncId) (fn : Func) (hf : Tryz.pinned.checked.prog.funcNamed "loop.example/g00896/laws.FnExactDependentsOf" = some f) (hfn : Tryz.pinned.checked.prog.funcs[f]? = some fn) :
    false = Tryz.pinned.checked.prog.looks [] ∧ ∀ (j : Nat) t, fn.params[j]? = some t → Tryz.pinned.checked.prog.wantsStandIn t = false := by
  obtain rfl : f = 5 := (Option.some.inj ((show Tryz.prog.funcNamed "loop.example/g00896/laws.FnExactDependentsOf" = some 5 by kernel_rfl).symm.trans hf)).symm
  obtain rfl : fn = Tryz.f5 := (Option.some.inj ((show Tryz.prog.funcs[5]? = some Tryz.f5 by kernel_rfl).symm.trans hfn)).symm
  refine ⟨by kernel_rfl, fun j t ht => ?_⟩
  have ht' : t ∈ [24, 9] := by simpa using Array.mem_of_getElem? (show (#[24, 9] : Array Nat)[j]? = some t from ht)
  simp only [List.mem_cons, List.not_mem_nil, or_false] at ht'
  rcases ht' with rfl | rfl
  · exact (show Tryz.prog.wantsStandIn 24 = false by kernel_rfl)
  · exact (show Tryz.prog.wantsStandIn 9 = false by kernel_rfl)
theorem FnExactDependentsOf_holds : Rows.FnExactDependentsOfCardSaid :=
  Claim7.holds_tied_plain_at .later [] _ _ _ _ fnExactDependentsOf_said (fun _ h => by cases h) (by kernel_rfl) (fun _ h => by cases h) fnExactDependentsOf_row_tie rfl ⟨rfl, rfl⟩ (by kernel_rfl) rfl fnExactDependentsOf_plain (by kernel_rfl)
#print axioms FnExactDependentsOf_holds
end Go.Proofs.YtfnibdpepbgamaaGreatDoor
end
