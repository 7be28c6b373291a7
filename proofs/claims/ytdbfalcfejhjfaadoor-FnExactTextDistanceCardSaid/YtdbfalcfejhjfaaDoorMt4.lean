/- The law FnExactTextDistance returns true for every input, the listed package variables being as the program's text lays it: the card. -/
import Derived.Test.YtdbfalcfejhjfaaDoorMt3
import Derived.Test.YtdbfalcfejhjfaaDoorCards
import Derived.Test.YtdbfalcfejhjfaaDoorTie
import Derived.Shelf.Vars
import Derived.WalkKit
import Derived.ProofKit
import Derived.OpenShut
import Derived.Deep.DeepHandedRow
import Derived.Lib.LaidTab
section
namespace Go.Proofs.YtdbfalcfejhjfaaDoor
open Go.Gx
set_option linter.unusedVariables false
set_option linter.unusedSimpArgs false

/-! ### Lists of bytes cut at spaces -/
def bit1 (cur : List Int) : List (List Int) := if cur = [] then [] else [cur]
def grp : List Int → List Int → List (List Int)
  | cur, [] => bit1 cur
  | cur, b :: l => if b = 32 then bit1 cur ++ grp [] l else grp (cur ++ [b]) l
def kpI (b : Int) : Bool := ltrI b || (decide (48 ≤ b) && decide (b ≤ 57))
def spW : List Int → List Int → List (List Int)
  | cur, [] => bit1 cur
  | cur, b :: l => if b = 32 then bit1 cur ++ spW [] l else if kpI b = true then spW (cur ++ [lowI b]) l else spW cur l
/-- What stays of a byte in lower case. -/
def kpL (b : Int) : Bool := (decide (97 ≤ b) && decide (b ≤ 122)) || ((decide (48 ≤ b) && decide (b ≤ 57)) || (b == 32))
theorem kpL_low (b : Int) : kpL (lowI b) = (kpI b || (b == 32)) := by
  rw [Bool.eq_iff_iff]
  unfold kpL kpI ltrI lowI
  cases h : decide (65 ≤ b) && decide (b ≤ 90) with
  | true =>
    simp only [Bool.and_eq_true, decide_eq_true_eq] at h
    simp only [cond_true, Bool.true_or, Bool.or_eq_true, Bool.and_eq_true, decide_eq_true_eq, beq_iff_eq, true_or, iff_true]
    omega
  | false =>
    simp only [cond_false, Bool.false_or, Bool.or_eq_true, Bool.and_eq_true, decide_eq_true_eq, beq_iff_eq, or_assoc]
theorem lowI_sp (b : Int) : lowI b = 32 ↔ b = 32 := by
  unfold lowI
  cases h : decide (65 ≤ b) && decide (b ≤ 90) with
  | true =>
    simp only [Bool.and_eq_true, decide_eq_true_eq] at h
    simp only [cond_true]
    omega
  | false => simp only [cond_false]
theorem kpI_sp {b : Int} (h : kpI b = true) : b ≠ 32 := by
  rintro rfl
  revert h; decide
theorem grp_spW : ∀ (l cur : List Int), grp cur ((l.map lowI).filter kpL) = spW cur l
  | [], cur => rfl
  | b :: l, cur => by
    rw [List.map_cons, List.filter_cons, kpL_low]
    unfold spW
    by_cases h : b = 32
    · subst h
      rw [if_pos rfl]
      have e : (kpI 32 || ((32 : Int) == 32)) = true := by decide
      rw [if_pos e]
      have e2 : lowI 32 = 32 := by decide
      rw [e2]
      unfold grp
      rw [if_pos rfl, grp_spW l []]
    · rw [if_neg h]
      have e : (b == 32) = false := by simpa using h
      rw [e, Bool.or_false]
      cases hk : kpI b with
      | true =>
        rw [if_pos rfl, if_pos rfl]
        conv => lhs; unfold grp
        rw [if_neg (fun e => h ((lowI_sp b).1 e)), grp_spW l _]
      | false =>
        rw [if_neg (by decide), if_neg (by decide)]
        exact grp_spW l cur
theorem strL_sub (s : ByteArray) (st i : Nat) : strL (((bytesL s).take i).drop st) = s.extract st i := by
  apply L_inj
  rw [L_strL, L_extract, bytesL_map, List.map_drop, List.map_take, List.map_map]
  have : ((fun n : Int => UInt8.ofNat n.toNat) ∘ fun b : UInt8 => (b.toNat : Int)) = id := by
    funext b; simp
  rw [this, List.map_id]
theorem bit1_pos (s : ByteArray) (st i : Nat) (h : st ≤ i) (hi : i ≤ s.size) : (if st < i then [s.extract st i] else []) = (bit1 (((bytesL s).take i).drop st)).map strL := by
  have hl := bytesL_len s
  unfold bit1
  by_cases c : st < i
  · have hne : ¬ ((bytesL s).take i).drop st = [] := fun e => by
      have := congrArg List.length e
      simp at this
      omega
    rw [if_pos c, if_neg hne, List.map_cons, List.map_nil, strL_sub]
  · have he : ((bytesL s).take i).drop st = [] := List.drop_eq_nil_of_le (by simp; omega)
    rw [if_neg c, if_pos he]; rfl
theorem kw_grp_l (s : ByteArray) : ∀ n i : Nat, i + n = s.size → ∀ st : Nat, st ≤ i → (∀ j, st ≤ j → j < i → (L s)[j]? ≠ some 32) → (wordsFrom s st).filter pos = (grp (((bytesL s).take i).drop st) ((bytesL s).drop i)).map strL
  | 0, i, h, st, h1, hn => by
    have hl := bytesL_len s
    rw [words_end s st fun j hj => by
      by_cases hj2 : j < i
      · exact hn j hj hj2
      · rw [List.getElem?_eq_none (by rw [L_size]; omega)]; exact fun h => by cases h]
    have e0 : (bytesL s).drop s.size = [] := List.drop_eq_nil_of_le (by omega)
    rw [fpos_one s st s.size (by omega) (Nat.le_refl _), List.filter_nil, List.append_nil, show i = s.size by omega, e0]
    exact bit1_pos s st s.size (by omega) (Nat.le_refl _)
  | n + 1, i, h, st, h1, hn => by
    have hl := bytesL_len s
    have hi : i < s.size := by omega
    have hib : i < (bytesL s).length := by omega
    rw [List.drop_eq_getElem_cons hib]
    unfold grp
    have hbt : (bytesL s)[i] = bt s i := (bt_bytes s i hib).symm
    by_cases c : bt s i = 32
    · have e1 : (bytesL s)[i] = 32 := hbt.trans c
      rw [words_hit s st i h1 hi ((bt_sp hi).1 c) hn, fpos_one s st i h1 (by omega), if_pos e1, List.map_append, bit1_pos s st i h1 (by omega)]
      congr 1
      have := kw_grp_l s n (i + 1) (by omega) (i + 1) (Nat.le_refl _) (fun j h1 h2 => by omega)
      have e2 : ((bytesL s).take (i + 1)).drop (i + 1) = [] := List.drop_eq_nil_of_le (by simp; omega)
      rw [this, e2]
    · rw [if_neg (by rw [hbt]; exact c)]
      have := kw_grp_l s n (i + 1) (by omega) st (by omega) (fun j h3 h4 => by
        rcases Nat.lt_or_ge j i with h5 | h5
        · exact hn j h3 h5
        · obtain rfl : j = i := by omega
          exact fun e => c ((bt_sp hi).2 e))
      rw [this, List.take_add_one, List.getElem?_eq_getElem hib, List.drop_append_of_le_length (by simp; omega)]
      rfl
theorem kw_grp (s : ByteArray) : kw s = (grp [] (bytesL s)).map strL := by
  have := kw_grp_l s s.size 0 (by omega) 0 (Nat.le_refl _) (fun j h1 h2 => by omega)
  rw [words_from] at this
  simpa [kw] using this
theorem bytes_str (ys : List Int) (h : ∀ y ∈ ys, 0 ≤ y ∧ y ≤ 255) : bytesL (strL ys) = ys := by
  rw [bytesL_map, L_strL, List.map_map]
  conv => rhs; rw [← List.map_id ys]
  refine List.map_congr_left fun y hy => ?_
  have := h y hy
  simp only [Function.comp, id]
  rw [UInt8.toNat_ofNat_of_lt' (show y.toNat < UInt8.size by have : UInt8.size = 256 := rfl; omega)]
  omega
theorem lowI_range {b : Int} (h : 0 ≤ b ∧ b ≤ 255) : 0 ≤ lowI b ∧ lowI b ≤ 255 := by
  unfold lowI
  cases h2 : decide (65 ≤ b) && decide (b ≤ 90) with
  | true =>
    simp only [Bool.and_eq_true, decide_eq_true_eq] at h2
    simp only [cond_true]; omega
  | false => simp only [cond_false]; exact h
theorem bytes_mem {s : ByteArray} {b : Int} (h : b ∈ bytesL s) : 0 ≤ b ∧ b ≤ 255 := by
  obtain ⟨i, hi, rfl⟩ := List.getElem_of_mem h
  exact bytes_range s i hi
/-- The text of what stays. -/
def plT (s : ByteArray) : ByteArray := strL (((bytesL s).map lowI).filter kpL)
theorem plT_words (s : ByteArray) : kw (plT s) = (spW [] (bytesL s)).map strL := by
  rw [kw_grp, ← grp_spW]
  unfold plT
  rw [bytes_str]
  intro y hy
  obtain ⟨b, hb, rfl⟩ := List.mem_map.1 (List.mem_filter.1 hy).1
  exact lowI_range (bytes_mem hb)
theorem plT_size (s : ByteArray) : (plT s).size ≤ s.size := by
  unfold plT
  rw [strL_size]
  refine Nat.le_trans (List.length_filter_le _ _) ?_
  rw [List.length_map, bytesL_len]
  exact Nat.le_refl _
end Go.Proofs.YtdbfalcfejhjfaaDoor
end
section
/- Plain laws: texts of an entry. -/
namespace Go.Proofs.YtdbfalcfejhjfaaDoor
open Go.Gx
set_option linter.unusedVariables false
set_option linter.unusedSimpArgs false

theorem edge_trim (s : ByteArray) (hs : s.size ≤ 1048576) : strings_Trim.F s ⟨#[32]⟩ = some ⟨(Lib.trimB (L s) 32).toArray⟩ := by
  unfold strings_Trim.F xTrim1
  rw [Nat.ble_eq_true_of_le (by omega)]
  rfl
theorem specText_l0 (s : ByteArray) (hs : s.size ≤ 1048576) : ∀ n i : Nat, i + n = s.size → Ev (fun k => spec_l4Text.l0 k s i) (if ((bytesL s).drop i).all (vis 32) = true then .inr s else .inl false)
  | 0, i, h => by
    refine Ev.step (fun k => by rw [spec_l4Text.l0]) ?_
    simp (disch := omega) only [cneg]
    rw [List.drop_eq_nil_of_le (by rw [bytesL_len]; omega)]
    exact Ev.pure _
  | n + 1, i, h => by
    have hl := bytesL_len s
    have hi : i < (bytesL s).length := by omega
    refine Ev.step (fun k => by rw [spec_l4Text.l0]) ?_
    simp (disch := omega) only [cpos, Int.toNat_natCast, bt_bytes s i hi]
    rw [all_bytes hi]
    unfold vis
    by_cases c1 : (bytesL s)[i] < 32
    · simp (disch := omega) only [cpos, dneg, Bool.false_and]; exact Ev.pure _
    · by_cases c2 : (bytesL s)[i] > 126
      · simp (disch := omega) only [cpos, cneg, dneg, Bool.and_false, Bool.false_and]; exact Ev.pure _
      · simp (disch := omega) only [cpos, cneg, dpos, Bool.and_self, Bool.true_and, wrap_in]
        exact specText_l0 s hs n (i + 1) (by omega)
theorem isPrint_l0 (s : ByteArray) (hs : s.size ≤ 1048576) : ∀ n i : Nat, i + n = s.size → Ev (fun k => impl_isPrintable.l0 k s i) (if ((bytesL s).drop i).all (vis 32) = true then .inr s else .inl false)
  | 0, i, h => by
    refine Ev.step (fun k => by rw [impl_isPrintable.l0]) ?_
    simp (disch := omega) only [cneg]
    rw [List.drop_eq_nil_of_le (by rw [bytesL_len]; omega)]
    exact Ev.pure _
  | n + 1, i, h => by
    have hl := bytesL_len s
    have hi : i < (bytesL s).length := by omega
    refine Ev.step (fun k => by rw [impl_isPrintable.l0]) ?_
    simp (disch := omega) only [cpos, Int.toNat_natCast, bt_bytes s i hi]
    rw [all_bytes hi]
    unfold vis
    by_cases c1 : (bytesL s)[i] < 32
    · simp (disch := omega) only [cpos, dneg, Bool.false_and]; exact Ev.pure _
    · by_cases c2 : (bytesL s)[i] > 126
      · simp (disch := omega) only [cpos, cneg, dneg, Bool.and_false, Bool.false_and]; exact Ev.pure _
      · simp (disch := omega) only [cpos, cneg, dpos, Bool.and_self, Bool.true_and, wrap_in]
        exact isPrint_l0 s hs n (i + 1) (by omega)
def textB (s : ByteArray) : Bool := decide (s.size ≤ 40) && ((bytesL s).all (vis 32) && edge s)
theorem specText_ev (s : ByteArray) : Ev (fun k => spec_l4Text.F k s) (textB s) := by
  unfold spec_l4Text.F textB
  by_cases c : (s.size : Int) > 40
  · simp (disch := omega) only [cpos, dneg, Bool.false_and]
    exact Ev.pure _
  · simp (disch := omega) only [cneg, dpos, Bool.true_and]
    have := specText_l0 s (by omega) s.size 0 (by omega)
    rw [List.drop_zero] at this
    cases h : (bytesL s).all (vis 32) with
    | false => rw [h] at this; exact Ev.bind this (Ev.pure _)
    | true =>
      rw [h] at this
      refine Ev.bind (a := .inr s) this ?_
      dsimp only
      have he : beqS s ⟨#[]⟩ = decide (s.size = 0) := by
        rw [← Bool.not_not (b := beqS s ⟨#[]⟩), size_pos]
        by_cases hz : s.size = 0
        · simp [hz]
        · rw [decide_eq_true (by omega : 0 < s.size), decide_eq_false hz]; rfl
      rw [he]
      unfold edge
      by_cases hz : s.size = 0
      · rw [decide_eq_true hz]; exact Ev.pure _
      · rw [decide_eq_false hz]
        simp (disch := omega) only [cond_false, cond_true, cpos, wrap_in]
        rw [show ((s.size : Int) - 1).toNat = s.size - 1 by omega, show (0 : Int).toNat = 0 from rfl, Bool.false_or, Bool.true_and]
        cases (bt s 0 != 32) with
        | true => exact Ev.pure _
        | false => exact Ev.pure _
theorem isText_ev (s : ByteArray) : Ev (fun k => impl_isText.F k s) (textB s) := by
  unfold impl_isText.F textB
  by_cases c : (s.size : Int) ≤ 40
  · simp (disch := omega) only [cpos, dpos, Bool.true_and]
    refine Ev.bind ?_ (Ev.pure _)
    unfold impl_isPrintable.F
    have := isPrint_l0 s (by omega) s.size 0 (by omega)
    rw [List.drop_zero] at this
    cases h : (bytesL s).all (vis 32) with
    | false => rw [h] at this; exact Ev.bind this (Ev.pure _)
    | true =>
      rw [h] at this
      refine Ev.bind (a := .inr s) this ?_
      dsimp only
      refine Ev.bind0 (edge_trim s (by omega)) ?_
      simp only [edge_eq, Bool.true_and]
      exact Ev.pure _
  · simp (disch := omega) only [cneg, dneg, Bool.false_and]
    exact Ev.pure _
end Go.Proofs.YtdbfalcfejhjfaaDoor
end
section
/- Plain laws: the distance of two texts, two ways. -/
namespace Go.Proofs.YtdbfalcfejhjfaaDoor
open Go.Gx
set_option linter.unusedVariables false
set_option linter.unusedSimpArgs false

/-! ### The words of the plain form -/
theorem dLower (b : Int) : impl_isLower.F b = some (decide (97 ≤ b) && decide (b ≤ 122)) := by
  unfold impl_isLower.F
  simp only [ge_iff_le]
  cases decide (97 ≤ b) <;> rfl
theorem dDigit (b : Int) : impl_isDigit.F b = some (decide (48 ≤ b) && decide (b ≤ 57)) := by
  unfold impl_isDigit.F
  simp only [ge_iff_le]
  cases decide (48 ≤ b) <;> rfl
theorem sDigit (b : Int) : spec_l6Digit.F b = some (decide (48 ≤ b) && decide (b ≤ 57)) := by
  unfold spec_l6Digit.F
  simp only [ge_iff_le]
  cases decide (48 ≤ b) <;> rfl
theorem roomT {n : Nat} (h : n ≤ 8388608) : room n .str = true := by
  unfold room
  rw [Nat.ble_eq]
  have : nb .str = 16 := rfl
  rw [this]; omega
theorem roomB {n : Nat} (h : n ≤ 8388608) : room n (.int .u8) = true := by
  unfold room
  rw [Nat.ble_eq]
  have : nb (.int .u8) = 1 := rfl
  rw [this]; omega
theorem roomI {n : Nat} (h : n ≤ 1000000000) : room n (.int .i64) = true := by
  unfold room
  rw [Nat.ble_eq]
  have : nb (.int .i64) = 8 := rfl
  rw [this]; omega
theorem simple_cut (s : ByteArray) (acc : List ByteArray) (cur : List Int) (i : Int) (h0 : 0 ≤ i) (h1 : i ≤ 1048576) (ha : acc.length ≤ 1048576) {r : List ByteArray} (ih : Ev (fun k => spec_l6Simple.l0 k s (acc ++ (bit1 cur).map strL) [] (i + 1)) r) :
    Ev (fun k => bif (decide ((cur.length : Int) > 0)) then (bif room (acc.length + ([(strL cur)] : List ByteArray).length) .str then (spec_l6Simple.l0 k s (acc ++ ([(strL cur)] : List ByteArray)) ([] : List Int) (IntKind.wrap .i64 (i + 1))) else none) else (spec_l6Simple.l0 k s acc ([] : List Int) (IntKind.wrap .i64 (i + 1)))) r := by
  by_cases c : cur = []
  · subst c
    have : ¬ (([] : List Int).length : Int) > 0 := by simp
    simp (disch := first | exact this | omega) only [cneg, wrap_in]
    unfold bit1 at ih
    rw [if_pos rfl, List.map_nil, List.append_nil] at ih
    exact ih
  · have : (cur.length : Int) > 0 := by
      have := List.length_pos_iff.2 c
      omega
    have hr : room (acc.length + ([strL cur] : List ByteArray).length) .str = true := roomT (by simp; omega)
    simp (disch := first | exact this | omega) only [cpos, hr, cond_true, wrap_in]
    unfold bit1 at ih
    rw [if_neg c] at ih
    exact ih
theorem simple_l0 (s : ByteArray) (hs : s.size ≤ 1048575) : ∀ n i : Nat, i + n = s.size → ∀ (acc : List ByteArray) (cur : List Int), acc.length ≤ i → cur.length ≤ i → Ev (fun k => spec_l6Simple.l0 k s acc cur i) (acc ++ (spW cur ((bytesL s).drop i)).map strL)
  | 0, i, h, acc, cur, ha, hc => by
    have hl := bytesL_len s
    have e0 : (bytesL s).drop i = [] := List.drop_eq_nil_of_le (by omega)
    refine Ev.step (fun k => by rw [spec_l6Simple.l0]) ?_
    rw [e0]
    simp (disch := omega) only [cpos, ceq]
    refine simple_cut s acc cur i (by omega) (by omega) (by omega) ?_
    refine Ev.step (fun k => by rw [spec_l6Simple.l0]) ?_
    simp (disch := omega) only [cneg]
    exact Ev.pure _
  | n + 1, i, h, acc, cur, ha, hc => by
    have hl := bytesL_len s
    have hi : i < (bytesL s).length := by omega
    refine Ev.step (fun k => by rw [spec_l6Simple.l0]) ?_
    rw [List.drop_eq_getElem_cons hi]
    simp (disch := omega) only [cpos, cne, Int.toNat_natCast, bt_bytes s i hi]
    by_cases c : (bytesL s)[i] = 32
    · simp (disch := first | exact c | omega) only [ceq]
      unfold spW
      rw [if_pos c, List.map_append, ← List.append_assoc]
      refine simple_cut s acc cur i (by omega) (by omega) (by omega) ?_
      exact simple_l0 s hs n (i + 1) (by omega) _ [] (by unfold bit1; split <;> simp <;> omega) (by simp)
    · simp (disch := first | exact c | omega) only [cne]
      conv => rhs; unfold spW
      rw [if_neg c]
      refine Ev.bind0 (specLetter_ev _) ?_
      have put : kpI (bytesL s)[i] = true → Ev (fun k => (spec_l6LowerByte.F (bytesL s)[i]).bind fun r2 => bif room (cur.length + ([r2] : List Int).length) (.int .u8) then (spec_l6Simple.l0 k s acc (cur ++ ([r2] : List Int)) (IntKind.wrap .i64 ((i : Int) + 1))) else none) (acc ++ (if kpI (bytesL s)[i] = true then spW (cur ++ [lowI (bytesL s)[i]]) ((bytesL s).drop (i + 1)) else spW cur ((bytesL s).drop (i + 1))).map strL) := fun hk => by
        rw [if_pos hk]
        refine Ev.bind0 (specLowerByte_ev _) ?_
        have hr : room (cur.length + ([lowI (bytesL s)[i]] : List Int).length) (.int .u8) = true := roomB (by simp; omega)
        simp (disch := omega) only [hr, cond_true, wrap_in]
        exact simple_l0 s hs n (i + 1) (by omega) acc _ (by omega) (by simp; omega)
      cases hlt : ltrI (bytesL s)[i] with
      | true =>
        simp only [cond_true]
        exact put (by unfold kpI; rw [hlt]; rfl)
      | false =>
        simp only [cond_false]
        refine Ev.bind0 (sDigit _) ?_
        cases hd : decide (48 ≤ (bytesL s)[i]) && decide ((bytesL s)[i] ≤ 57) with
        | true =>
          simp only [cond_true]
          exact put (by unfold kpI; rw [hlt, hd]; rfl)
        | false =>
          have hk : ¬ kpI (bytesL s)[i] = true := by unfold kpI; rw [hlt, hd]; decide
          rw [if_neg hk]
          simp (disch := omega) only [cond_false, wrap_in]
          exact simple_l0 s hs n (i + 1) (by omega) acc cur (by omega) (by omega)
theorem simple_ev (s : ByteArray) (hs : s.size ≤ 1048575) : Ev (fun k => spec_l6Simple.F k s) (kw (plT s)) := by
  unfold spec_l6Simple.F
  have := simple_l0 s hs s.size 0 (by omega) [] [] (Nat.le_refl _) (Nat.le_refl _)
  rw [List.drop_zero, List.nil_append, ← plT_words] at this
  exact Ev.bind this (Ev.pure _)
theorem pf_l0 (ys : List Int) (hl : ys.length ≤ 1048576) : ∀ n i : Nat, i + n = ys.length → ∀ acc : List Int, acc.length ≤ i → Ev (fun k => impl_plainForm.l0 k acc ys ys.length i) (acc ++ (ys.drop i).filter kpL)
  | 0, i, h, acc, ha => by
    refine Ev.step (fun k => by rw [impl_plainForm.l0]) ?_
    simp (disch := omega) only [cneg]
    rw [List.drop_eq_nil_of_le (by omega), List.filter_nil, List.append_nil]
    exact Ev.pure _
  | n + 1, i, h, acc, ha => by
    have hi : i < ys.length := by omega
    refine Ev.step (fun k => by rw [impl_plainForm.l0]) ?_
    rw [List.drop_eq_getElem_cons hi, List.filter_cons]
    simp (disch := omega) only [cpos, Int.toNat_natCast, getD_at hi]
    have hr : room (acc.length + ([ys[i]] : List Int).length) (.int .u8) = true := roomB (by simp; omega)
    have put : Ev (fun k => impl_plainForm.l0 k (acc ++ [ys[i]]) ys ys.length ((i : Int) + 1)) (acc ++ ys[i] :: (ys.drop (i + 1)).filter kpL) := by
      have := pf_l0 ys hl n (i + 1) (by omega) (acc ++ [ys[i]]) (by simp; omega)
      rw [List.append_assoc] at this
      exact this
    refine Ev.bind0 (dLower _) ?_
    cases h1 : decide (97 ≤ ys[i]) && decide (ys[i] ≤ 122) with
    | true =>
      have hk : kpL ys[i] = true := by unfold kpL; rw [h1]; rfl
      rw [if_pos hk]
      simp (disch := omega) only [cond_true, hr, wrap_in]
      exact put
    | false =>
      simp only [cond_false]
      refine Ev.bind0 (dDigit _) ?_
      cases h2 : decide (48 ≤ ys[i]) && decide (ys[i] ≤ 57) with
      | true =>
        have hk : kpL ys[i] = true := by unfold kpL; rw [h1, h2]; rfl
        rw [if_pos hk]
        simp (disch := omega) only [cond_true, hr, wrap_in]
        exact put
      | false =>
        by_cases c : ys[i] = 32
        · have hk : kpL ys[i] = true := by unfold kpL; rw [h1, h2, c]; rfl
          rw [if_pos hk]
          simp (disch := first | exact c | omega) only [cond_false, ceq, hr, cond_true, wrap_in]
          exact put
        · have hk : ¬ kpL ys[i] = true := by
            unfold kpL
            rw [h1, h2, show (ys[i] == 32) = false by simpa using c]; decide
          rw [if_neg hk]
          simp (disch := first | exact c | omega) only [cond_false, cne, wrap_in]
          exact pf_l0 ys hl n (i + 1) (by omega) acc (by omega)
theorem plain_ev (s : ByteArray) (hs : s.size ≤ 40) : ∃ t, Ev (fun k => spec_l20Plain.F k s) t ∧ Ev (fun k => impl_plainForm.F k s) t ∧ t.size ≤ 100000000 := by
  have hw := kw_small (plT s)
  have hl := kw_len (plT s)
  have hp := plT_size s
  obtain ⟨t, t1, t2, _, t3⟩ := join_ev (kw (plT s)) (fun x hx => by have := (hw x hx).2; omega) (by omega)
  have hlow := lowS_size s
  have eb : bytesL (lowS s) = (bytesL s).map lowI := by
    unfold lowS
    exact bytes_str _ fun y hy => by
      obtain ⟨b, hb, rfl⟩ := List.mem_map.1 hy
      exact lowI_range (bytes_mem hb)
  refine ⟨t, ?_, ?_, ?_⟩
  · unfold spec_l20Plain.F
    exact Ev.bind (simple_ev s (by omega)) (Ev.bind t1 (Ev.pure _))
  · unfold impl_plainForm.F
    refine Ev.bind (lower_ev s (by omega)) ?_
    simp (disch := omega) only [cble]
    have hlen : (bytesL (lowS s)).length ≤ 1048576 := by rw [bytesL_len]; omega
    have := pf_l0 (bytesL (lowS s)) hlen _ 0 (Nat.zero_add _) [] (Nat.le_refl _)
    rw [List.drop_zero, List.nil_append, eb] at this
    rw [eb]
    refine Ev.bind this (Ev.bind (a := kw (plT s)) (wordsOf_ev (plT s) (by omega)) (Ev.bind0 t2 (Ev.pure _)))
  · refine Nat.le_trans t3 ?_
    have : (kw (plT s)).length ≤ 41 := by omega
    calc 1048577 * (kw (plT s)).length ≤ 1048577 * 41 := Nat.mul_le_mul_left _ this
      _ ≤ 100000000 := by decide

/-! ### Rows of distances -/
def rowI (n : Nat) : List Int := (List.range n).map fun (j : Nat) => (j : Int)
theorem rowI_len (n : Nat) : (rowI n).length = n := by simp [rowI]
theorem rowI_next (n : Nat) : rowI n ++ [(n : Int)] = rowI (n + 1) := by
  unfold rowI
  rw [List.range_succ, List.map_append]; rfl
theorem rowI_get {n j : Nat} (h : j < n) : (rowI n).getD j 0 = j := by
  simp [rowI, List.getD, h]
theorem specRow (a b : ByteArray) (hb : b.size ≤ 100000000) : ∀ m i : Nat, i + m = b.size + 1 → Ev (fun k => spec_l20Edit.l0 k a b (rowI i) i) (a, b, rowI (b.size + 1))
  | 0, i, h => by
    refine Ev.step (fun k => by rw [spec_l20Edit.l0]) ?_
    simp (disch := omega) only [cneg]
    rw [show i = b.size + 1 by omega]
    exact Ev.pure _
  | m + 1, i, h => by
    refine Ev.step (fun k => by rw [spec_l20Edit.l0]) ?_
    have hr : room ((rowI i).length + ([(i : Int)] : List Int).length) (.int .i64) = true := roomI (by rw [rowI_len]; simp; omega)
    simp (disch := omega) only [cpos, hr, cond_true, wrap_in, rowI_next]
    exact specRow a b hb m (i + 1) (by omega)
theorem implRow (a b : ByteArray) (hb : b.size ≤ 100000000) : ∀ m i : Nat, i + m = b.size + 1 → Ev (fun k => impl_textDistance.l0 k a b (rowI i) ((b.size : Int) + 1) i) (a, b, rowI (b.size + 1))
  | 0, i, h => by
    refine Ev.step (fun k => by rw [impl_textDistance.l0]) ?_
    simp (disch := omega) only [cneg]
    rw [show i = b.size + 1 by omega]
    exact Ev.pure _
  | m + 1, i, h => by
    refine Ev.step (fun k => by rw [impl_textDistance.l0]) ?_
    have hr : room ((rowI i).length + ([(i : Int)] : List Int).length) (.int .i64) = true := roomI (by rw [rowI_len]; simp; omega)
    simp (disch := omega) only [cpos, hr, cond_true, wrap_in, rowI_next]
    exact implRow a b hb m (i + 1) (by omega)
theorem least_ev (a b : Int) : spec_l1Least.F a b = some (if a < b then a else b) := by
  unfold spec_l1Least.F
  by_cases c : a < b
  · simp (disch := omega) only [cpos]; rw [if_pos c]
  · simp (disch := omega) only [cneg]; rw [if_neg c]
def Bd (row : List Int) (n : Nat) (c : Int) : Prop := row.length = n ∧ ∀ j, j < n → 0 ≤ row.getD j 0 ∧ row.getD j 0 ≤ c
theorem bd_put {row : List Int} {n : Nat} {c x : Int} (h : Bd row n c) (h0 : 0 ≤ x) (h1 : x ≤ c) : Bd (row ++ [x]) (n + 1) c := by
  refine ⟨by simp [h.1], fun j hj => ?_⟩
  have hl := h.1
  by_cases c1 : j < n
  · have e : (row ++ [x]).getD j 0 = row.getD j 0 := by
      rw [List.getD_eq_getElem?_getD, List.getElem?_append_left (by omega), ← List.getD_eq_getElem?_getD]
    rw [e]; exact h.2 j c1
  · have e : (row ++ [x]).getD j 0 = x := by
      rw [List.getD_eq_getElem?_getD, List.getElem?_append_right (by omega), show j - row.length = 0 by omega]; rfl
    rw [e]; exact ⟨h0, h1⟩
theorem dp_l4 (a b : ByteArray) (hb : b.size ≤ 100000000) (row : List Int) (c : Int) (hc : 0 ≤ c) (hc2 : c ≤ 10000000000) (hrow : Bd row (b.size + 1) c) (i : Nat) (hi : 1 ≤ i) (hi2 : i ≤ a.size) (ha : a.size ≤ 4200000000) : ∀ m q : Nat, q + m = b.size + 1 → 1 ≤ q → ∀ nx : List Int, Bd nx q (c + 1) →
    ∃ r, Ev (fun k => spec_l20Edit.l4 k a b row i nx q) (a, b, (i : Int), r) ∧ Ev (fun k => impl_textDistance.l4 k a b row i nx q) (a, b, (i : Int), r) ∧ Bd r (b.size + 1) (c + 1)
  | 0, q, h, h1, nx, hn => by
    refine ⟨nx, Ev.step (fun k => by rw [spec_l20Edit.l4]) ?_, Ev.step (fun k => by rw [impl_textDistance.l4]) ?_, by rw [← h]; exact hn⟩
    · simp (disch := omega) only [cneg]; exact Ev.pure _
    · simp (disch := omega) only [cneg]; exact Ev.pure _
  | m + 1, q, h, h1, nx, hn => by
    have hrl := hrow.1
    have hnl := hn.1
    obtain ⟨p1, p2⟩ := hrow.2 q (by omega)
    obtain ⟨r1, r2⟩ := hrow.2 (q - 1) (by omega)
    obtain ⟨n1, n2⟩ := hn.2 (q - 1) (by omega)
    have eq1 : ((q : Int) - 1).toNat = q - 1 := by omega
    have ei1 : ((i : Int) - 1).toNat = i - 1 := by omega
    have hr : ∀ x : Int, room (nx.length + ([x] : List Int).length) (.int .i64) = true := fun x => roomI (by simp; omega)
    by_cases cb : bt a (i - 1) = bt b (q - 1)
    · obtain ⟨x, x1, x2, x3, x4⟩ : ∃ x : Int, (if (if row.getD q 0 < nx.getD (q - 1) 0 then row.getD q 0 else nx.getD (q - 1) 0) + 1 < row.getD (q - 1) 0 then (if row.getD q 0 < nx.getD (q - 1) 0 then row.getD q 0 else nx.getD (q - 1) 0) + 1 else row.getD (q - 1) 0) = x ∧
          (if row.getD (q - 1) 0 + 0 < (if nx.getD (q - 1) 0 + 1 < row.getD q 0 + 1 then nx.getD (q - 1) 0 + 1 else row.getD q 0 + 1) then row.getD (q - 1) 0 + 0 else (if nx.getD (q - 1) 0 + 1 < row.getD q 0 + 1 then nx.getD (q - 1) 0 + 1 else row.getD q 0 + 1)) = x ∧ 0 ≤ x ∧ x ≤ c + 1 := by
        refine ⟨_, rfl, ?_, ?_, ?_⟩
        · repeat' split
          all_goals omega
        · repeat' split
          all_goals omega
        · repeat' split
          all_goals omega
      obtain ⟨r, e1, e2, e3⟩ := dp_l4 a b hb row c hc hc2 hrow i hi hi2 ha m (q + 1) (by omega) (by omega) (nx ++ [x]) (bd_put hn x3 x4)
      refine ⟨r, Ev.step (fun k => by rw [spec_l20Edit.l4]) ?_, Ev.step (fun k => by rw [impl_textDistance.l4]) ?_, e3⟩
      · simp (disch := omega) only [cpos, Int.toNat_natCast, wrap_in, eq1]
        refine Ev.bind0 (least_ev _ _) ?_
        have b1 : 0 ≤ (if row.getD q 0 < nx.getD (q - 1) 0 then row.getD q 0 else nx.getD (q - 1) 0) ∧ (if row.getD q 0 < nx.getD (q - 1) 0 then row.getD q 0 else nx.getD (q - 1) 0) ≤ c + 1 := by split <;> omega
        simp (disch := first | exact cb | omega) only [cpos, Int.toNat_natCast, wrap_in, ei1, eq1, ceq]
        refine Ev.bind0 (least_ev _ _) ?_
        rw [x1]
        simp (disch := omega) only [hr, cond_true, wrap_in]
        exact e1
      · simp (disch := first | exact cb | omega) only [cpos, Int.toNat_natCast, wrap_in, ei1, eq1, ceq, x2, hr, cond_true]
        exact e2
    · obtain ⟨x, x1, x2, x3, x4⟩ : ∃ x : Int, (if (if row.getD q 0 < nx.getD (q - 1) 0 then row.getD q 0 else nx.getD (q - 1) 0) + 1 < row.getD (q - 1) 0 + 1 then (if row.getD q 0 < nx.getD (q - 1) 0 then row.getD q 0 else nx.getD (q - 1) 0) + 1 else row.getD (q - 1) 0 + 1) = x ∧
          (if row.getD (q - 1) 0 + 1 < (if nx.getD (q - 1) 0 + 1 < row.getD q 0 + 1 then nx.getD (q - 1) 0 + 1 else row.getD q 0 + 1) then row.getD (q - 1) 0 + 1 else (if nx.getD (q - 1) 0 + 1 < row.getD q 0 + 1 then nx.getD (q - 1) 0 + 1 else row.getD q 0 + 1)) = x ∧ 0 ≤ x ∧ x ≤ c + 1 := by
        refine ⟨_, rfl, ?_, ?_, ?_⟩
        · repeat' split
          all_goals omega
        · repeat' split
          all_goals omega
        · repeat' split
          all_goals omega
      obtain ⟨r, e1, e2, e3⟩ := dp_l4 a b hb row c hc hc2 hrow i hi hi2 ha m (q + 1) (by omega) (by omega) (nx ++ [x]) (bd_put hn x3 x4)
      refine ⟨r, Ev.step (fun k => by rw [spec_l20Edit.l4]) ?_, Ev.step (fun k => by rw [impl_textDistance.l4]) ?_, e3⟩
      · simp (disch := omega) only [cpos, Int.toNat_natCast, wrap_in, eq1]
        refine Ev.bind0 (least_ev _ _) ?_
        have b1 : 0 ≤ (if row.getD q 0 < nx.getD (q - 1) 0 then row.getD q 0 else nx.getD (q - 1) 0) ∧ (if row.getD q 0 < nx.getD (q - 1) 0 then row.getD q 0 else nx.getD (q - 1) 0) ≤ c + 1 := by split <;> omega
        simp (disch := first | exact cb | omega) only [cpos, Int.toNat_natCast, wrap_in, ei1, eq1, cne]
        refine Ev.bind0 (least_ev _ _) ?_
        rw [x1]
        simp (disch := omega) only [hr, cond_true, wrap_in]
        exact e1
      · simp (disch := first | exact cb | omega) only [cpos, Int.toNat_natCast, wrap_in, ei1, eq1, cne, x2, hr, cond_true]
        exact e2
theorem dp_l2 (a b : ByteArray) (hb : b.size ≤ 100000000) (ha : a.size ≤ 100000000) : ∀ m i : Nat, i + m = a.size + 1 → 1 ≤ i → ∀ row : List Int, Bd row (b.size + 1) ((b.size + i : Nat) : Int) →
    ∃ r, Ev (fun k => spec_l20Edit.l2 k a b row i) (b, r) ∧ Ev (fun k => impl_textDistance.l2 k a b row i) (b, r) ∧ r.length = b.size + 1 ∧ 0 ≤ r.getD b.size 0 ∧ r.getD b.size 0 ≤ 400000000
  | 0, i, h, h1, row, hr => by
    have := hr.2 b.size (by omega)
    refine ⟨row, Ev.step (fun k => by rw [spec_l20Edit.l2]) ?_, Ev.step (fun k => by rw [impl_textDistance.l2]) ?_, hr.1, this.1, by omega⟩
    · simp (disch := omega) only [cneg]; exact Ev.pure _
    · simp (disch := omega) only [cneg]; exact Ev.pure _
  | m + 1, i, h, h1, row, hr => by
    have hb1 : Bd [(i : Int)] 1 (((b.size + i : Nat) : Int) + 1) := ⟨rfl, fun j hj => by
      obtain rfl : j = 0 := by omega
      show 0 ≤ (i : Int) ∧ (i : Int) ≤ _
      omega⟩
    obtain ⟨nx, n1, n2, n3⟩ := dp_l4 a b hb row ((b.size + i : Nat) : Int) (by omega) (by omega) hr i h1 (by omega) (by omega) b.size 1 (by omega) (Nat.le_refl _) [(i : Int)] hb1
    obtain ⟨r, r1, r2, r3⟩ := dp_l2 a b hb ha m (i + 1) (by omega) (by omega) nx (by
      rw [show ((b.size + (i + 1) : Nat) : Int) = ((b.size + i : Nat) : Int) + 1 by omega]
      exact n3)
    refine ⟨r, Ev.step (fun k => by rw [spec_l20Edit.l2]) ?_, Ev.step (fun k => by rw [impl_textDistance.l2]) ?_, r3⟩
    · simp (disch := omega) only [cpos]
      refine Ev.bind n1 ?_
      simp (disch := omega) only [wrap_in]
      exact r1
    · simp (disch := omega) only [cpos]
      refine Ev.bind n2 ?_
      simp (disch := omega) only [wrap_in]
      exact r2
theorem dist_ev (s t : ByteArray) (hs : s.size ≤ 40) (ht : t.size ≤ 40) : ∃ d : Int, Ev (fun k => spec_l20Distance.F k s t) d ∧ Ev (fun k => impl_textDistance.F k s t) d ∧ 0 ≤ d := by
  obtain ⟨a, a1, a2, a3⟩ := plain_ev s hs
  obtain ⟨b, b1, b2, b3⟩ := plain_ev t ht
  have h0 : Bd (rowI (b.size + 1)) (b.size + 1) ((b.size + 1 : Nat) : Int) := ⟨rowI_len _, fun j hj => by rw [rowI_get hj]; omega⟩
  obtain ⟨r, r1, r2, r3, r4, r5⟩ := dp_l2 a b b3 a3 a.size 1 (by omega) (Nat.le_refl _) (rowI (b.size + 1)) h0
  refine ⟨r.getD b.size 0, ?_, ?_, r4⟩
  · unfold spec_l20Distance.F
    refine Ev.bind a1 (Ev.bind b1 (Ev.bind (a := r.getD b.size 0) ?_ (Ev.pure _)))
    unfold spec_l20Edit.F
    refine Ev.bind (specRow a b b3 (b.size + 1) 0 (by omega)) (Ev.bind r1 ?_)
    simp (disch := omega) only [cpos, Int.toNat_natCast]
    exact Ev.pure _
  · unfold impl_textDistance.F
    refine Ev.bind a2 (Ev.bind b2 ?_)
    simp (disch := omega) only [wrap_in]
    refine Ev.bind (implRow a b b3 (b.size + 1) 0 (by omega)) (Ev.bind r2 ?_)
    simp (disch := omega) only [cpos, Int.toNat_natCast]
    exact Ev.pure _
end Go.Proofs.YtdbfalcfejhjfaaDoor
end
section
/- The plain law of TextDistance. -/
namespace Go.Proofs.YtdbfalcfejhjfaaDoor
open Go.Gx
set_option linter.unusedVariables false
set_option linter.unusedSimpArgs false

theorem textB_size {s : ByteArray} (h : textB s = true) : s.size ≤ 40 := by
  unfold textB at h
  simp only [Bool.and_eq_true, decide_eq_true_eq] at h
  exact h.1
theorem textDistance_ev (s t : ByteArray) : ∃ r, Ev (fun k => spec_TextDistance.F k s t) r ∧ Ev (fun k => impl_TextDistance.F k s t) r := by
  have s1 := specText_ev s
  have s2 := isText_ev s
  have t1 := specText_ev t
  have t2 := isText_ev t
  unfold spec_TextDistance.F impl_TextDistance.F
  cases hs : textB s with
  | false =>
    rw [hs] at s1 s2
    exact ⟨_, Ev.bind s1 (Ev.pure _), Ev.bind s2 (Ev.pure _)⟩
  | true =>
    rw [hs] at s1 s2
    cases ht : textB t with
    | false =>
      rw [ht] at t1 t2
      exact ⟨_, Ev.bind s1 (Ev.bind t1 (Ev.pure _)), Ev.bind s2 (Ev.bind t2 (Ev.pure _))⟩
    | true =>
      rw [ht] at t1 t2
      obtain ⟨d, d1, d2, _⟩ := dist_ev s t (textB_size hs) (textB_size ht)
      exact ⟨_, Ev.bind s1 (Ev.bind t1 (Ev.bind d1 (Ev.pure _))), Ev.bind s2 (Ev.bind t2 (Ev.bind d2 (Ev.pure _)))⟩
theorem textDistance_law (s t : ByteArray) (hs : WF .str s) (ht : WF .str t) : ∃ k, laws_FnExactTextDistance.F k s t = some true := by
  refine Ev.get (?_ : Ev (fun k => laws_FnExactTextDistance.F k s t) true)
  unfold laws_FnExactTextDistance.F
  by_cases c0 : (s.size : Int) > 1048576
  · simp (disch := omega) only [cpos]
    exact Ev.pure _
  by_cases c1 : (t.size : Int) > 1048576
  · simp (disch := omega) only [cpos, cneg]
    exact Ev.pure _
  simp (disch := omega) only [cneg]
  obtain ⟨v, v1, v2⟩ := textDistance_ev s t
  refine Ev.bind v1 (Ev.bind v2 ?_)
  simp only [bne_self_eq_false, beq_self_eq_true, Bool.not_true, cond_false]
  exact Ev.pure _
end Go.Proofs.YtdbfalcfejhjfaaDoor
end
section
/- The law FnExactTextDistance returns true for every input, the listed package variables being as the program's text lays it: the card. -/
namespace Go.Proofs.YtdbfalcfejhjfaaDoor
open Go.Gx Go.RowKit Go.ChangeShapes Go.WideShapes Go.ChangeAt
set_option linter.unusedVariables false
theorem fnExactTextDistance_own : ownKnob Tryd.prog.godebug = none := by kernel_rfl
set_option maxRecDepth 100000 in
theorem fnExactTextDistance_contract (H : Type) (enc : TypeId × Value → H) (W : World) (base : Nat) (args : Array Value) (ds gs : List (DataW H)) (before : List MemPlace)
    (hval : ∀ (j : Nat) t v, Tryd.f3.params[j]? = some t → args[j]? = some v → Value.okWide Tryd.prog W .any base t v)
    (hW : DataW.Whole enc Tryd.prog Tryd.f3.params.toList Rows.fnExactTextDistanceSpec.vars false W args.toList ds gs before) (hsh : W.ShapedOpen Tryd.prog) :
    Calls Tryd.prog 3 args W fun e W' => ∃ v, e = .returned v ∧ Rows.fnExactTextDistanceSpec.post enc Tryd.prog Tryd.f3 false true false false W args v W' := by
  have hgs : gs = [] := by
    obtain ⟨p, q, _, hV, _⟩ := hW
    exact (trodVars_none hV).1
  subst hgs
  have hds : ∃ d1 d2, ds = [d1, d2] := by
    obtain ⟨p, q, hA, _⟩ := hW
    obtain ⟨_, _, d1, e0, _, _, _, rfl, _, _, h0⟩ := trodAll_cons hA
    obtain ⟨_, _, d2, e1, _, _, _, rfl, _, _, h1⟩ := trodAll_cons h0
    obtain ⟨_, rfl, _⟩ := trodAll_nil h1
    exact ⟨d1, d2, rfl⟩
  obtain ⟨d1, d2, rfl⟩ := hds
  have hgl : GlOk envX (Lt W) W := by
    refine ⟨fun g b h => (by cases h), fun g hg => ?_⟩
    have hg' : giT g = true := hg
    unfold giT at hg'
    split at hg'
    · obtain ⟨m, hm⟩ := cell_of_shapedOpen_int (P := Tryd.prog) (g := 2) (t := 3) (zero := #[.int .i64 0]) hsh (of_decide_eq_true (by kernel_rfl)) (by kernel_rfl) rfl (by kernel_rfl) (by kernel_rfl) (by kernel_rfl)
      exact ⟨World.block_lt_of_cell? _ _ hm, m, hm⟩
    · cases hg'
  refine law_contract (τs := [.str, .str]) (r := .t .bool true) envOk (by kernel_rfl) rfl (by kernel_rfl) (by kernel_rfl) rfl (by kernel_rfl) (by kernel_rfl) (fun t ht => ?_) rfl (fun x hx => by
      obtain ⟨k, hk⟩ := textDistance_law x.1 x.2.1 hx.1 hx.2.1
      exact laws_FnExactTextDistance.good envOk _ k _ _ hk) rfl hval hW hgl (fun q hq W' _ => ?_)
  · have : t ∈ [9, 9] := ht
    simp only [List.mem_cons, List.not_mem_nil, or_false] at this
    rcases this with rfl | rfl <;> exact ⟨by kernel_rfl, Nat.le_of_ble_eq_true (by kernel_rfl)⟩
  · obtain ⟨_, rfl⟩ := trodVars_none hq
    exact rfl
set_option maxRecDepth 100000 in
noncomputable def fnExactTextDistance_world (os : Os) : World :=
  { World.holding Tryd.prog os ⟨#[], #[], []⟩ with heap := (((World.holding Tryd.prog os ⟨#[], #[], []⟩).heap.modify 1 fun
      | .cells _ t frozen => .cells #[.int .u8 128, .int .u8 191, .int .u8 160, .int .u8 191, .int .u8 128, .int .u8 159, .int .u8 144, .int .u8 191, .int .u8 128, .int .u8 143, .int .u8 0, .int .u8 0, .int .u8 0, .int .u8 0, .int .u8 0, .int .u8 0, .int .u8 0, .int .u8 0, .int .u8 0, .int .u8 0, .int .u8 0, .int .u8 0, .int .u8 0, .int .u8 0, .int .u8 0, .int .u8 0, .int .u8 0, .int .u8 0, .int .u8 0, .int .u8 0, .int .u8 0, .int .u8 0] t frozen
      | o => o).modify 0 fun
      | .cells _ t frozen => .cells (Pinned.utf8FirstZ.map fun (n : Nat) => Value.int .u8 (n : Int)).toArray t frozen
      | o => o) }
theorem fnExactTextDistance_met (os : Os) : laidMet Tryd.prog Rows.fnExactTextDistanceRow.laid ((fnExactTextDistance_world os).forCall (fun _ _ => 0) ⟨#[], #[.string ⟨#[]⟩, .string ⟨#[]⟩], []⟩).memory :=
  laidMet_of_run' 8 (by kernel_rfl) (by kernel_rfl)
theorem fnExactTextDistance_reads (os : Os) {H : Type} (enc : TypeId × Value → H) : ∃ places, DataW.whole enc Tryd.prog ((fnExactTextDistance_world os).forCall (fun _ _ => 0) ⟨#[], #[.string ⟨#[]⟩, .string ⟨#[]⟩], []⟩).memory Tryd.f3.params.toList Rows.fnExactTextDistanceSpec.vars false #[.string ⟨#[]⟩, .string ⟨#[]⟩].toList 8 = some ([.lit (.string []), .lit (.string [])], [], places) :=
  ⟨[], by kernel_rfl⟩
set_option maxRecDepth 100000 in
theorem fnExactTextDistance_lifted (os : Os) (started : os.Started) (H : Type) (enc : TypeId × Value → H) (F : Stop.Interp) :
    ReturnsInHanded {} Tryd.checked os 3 .any ((OpenSpec.ofChange Rows.fnExactTextDistanceSpec).preRow enc Tryd.prog Tryd.f3 Rows.fnExactTextDistanceRow.domain false Rows.fnExactTextDistanceRow.laid) (((OpenSpec.ofChange Rows.fnExactTextDistanceSpec).at F).post enc Tryd.prog Tryd.f3 false true false false) := by
  obtain ⟨places, hx⟩ := fnExactTextDistance_reads os enc
  refine returnsInHanded_of_row (C := Tryd.checked) (s := OpenSpec.ofChange Rows.fnExactTextDistanceSpec) fnExactTextDistance_own started (by kernel_rfl) (by kernel_rfl)
    (witness_row_at (enc := enc) (C := Tryd.checked) false (fnExactTextDistance_world os) #[.string ⟨#[]⟩, .string ⟨#[]⟩] rfl (by kernel_rfl) (by kernel_rfl) (by kernel_rfl)
      (OpenSpec.preRow_of_cond 8 hx (by kernel_rfl) (fun k hk => by cases hk) (by kernel_rfl) (fnExactTextDistance_met os))) ?_
  intro W base args ds gs before hval hW _ _ _ _ hsh _
  exact fnExactTextDistance_contract H enc W base args ds gs before hval hW hsh
theorem fnExactTextDistance_said : Rows.FnExactTextDistanceSaid :=
  OpenClaim.holds_of_cond 3 Tryd.f3 rfl rfl rfl rfl rfl rfl rfl ⟨rfl, rfl, rfl, rfl, rfl⟩ rfl rfl rfl rfl rfl (by kernel_rfl) (by kernel_rfl) (by kernel_rfl)
    (of_decide_eq_true (by kernel_rfl)) (by unfold Func.isWrapper; first | (rw [if_pos (by decide +kernel)]; kernel_rfl) | (rw [if_neg (by decide +kernel)]; exact ⟨rfl, rfl⟩))
    (fun os started H enc _ F => by rw [OpenClaim.pre_eq_preRow]; exact fnExactTextDistance_lifted os started H enc F)
theorem fnExactTextDistance_plain (f : FuncId) (fn : Func) (hf : Tryd.pinned.checked.prog.funcNamed "loop.example/g00896/laws.FnExactTextDistance" = some f) (hfn : Tryd.pinned.checked.prog.funcs[f]? = some fn) :
    false = Tryd.pinned.checked.prog.looks [] ∧ ∀ (j : Nat) t, fn.params[j]? = some t → Tryd.pinned.checked.prog.wantsStandIn t = false := by
  obtain rfl : f = 3 := (Option.some.inj ((show Tryd.prog.funcNamed "loop.example/g00896/laws.FnExactTextDistance" = some 3 by kernel_rfl).symm.trans hf)).symm
  obtain rfl : fn = Tryd.f3 := (Option.some.inj ((show Tryd.prog.funcs[3]? = some Tryd.f3 by kernel_rfl).symm.trans hfn)).symm
  refine ⟨by kernel_rfl, fun j t ht => ?_⟩
  have ht' : t ∈ [9, 9] := by simpa using Array.mem_of_getElem? (show (#[9, 9] : Array Nat)[j]? = some t from ht)
  simp only [List.mem_cons, List.not_mem_nil, or_false] at ht'
  rcases ht' with rfl | rfl
  · exact (show Tryd.prog.wantsStandIn 9 = false by kernel_rfl)
  · exact (show Tryd.prog.wantsStandIn 9 = false by kernel_rfl)
theorem FnExactTextDistance_holds : Rows.FnExactTextDistanceCardSaid :=
  Claim7.holds_tied_plain_at .later [] _ _ _ _ fnExactTextDistance_said (fun _ h => by cases h) (by kernel_rfl) (fun _ h => by cases h) fnExactTextDistance_row_tie rfl ⟨rfl, rfl⟩ (by kernel_rfl) rfl fnExactTextDistance_plain (by kernel_rfl)
#print axioms FnExactTextDistance_holds
end Go.Proofs.YtdbfalcfejhjfaaDoor
end
