/- The law FnExactDistinctTitles returns true for every input, the listed package variables being as the program's text lays it: the card. -/
import Derived.Test.YtnffgabfibafjaaGreatDoorMd4
import Derived.Lib.IndexBytes
import Derived.Lib.IndexLaws
import Derived.Lib.CountLaws
import Derived.Lib.TrimByte
import Derived.Lib.Join
import Derived.Test.YtnffgabfibafjaaGreatDoorCards
import Derived.Test.YtnffgabfibafjaaGreatDoorTie
import Derived.Test.YtnffgabfibafjaaGreatDoorMd3
import Derived.Shelf.Vars
import Derived.WalkKit
import Derived.ProofKit
import Derived.OpenShut
import Derived.Deep.DeepHandedRow
import Derived.Lib.LaidTab
section
namespace Go.Proofs.YtnffgabfibafjaaGreatDoor
open Go.Gx
set_option linter.unusedVariables false
set_option linter.unusedSimpArgs false

/-! ### Letters -/
theorem all_bytes {s : ByteArray} {i : Nat} (h : i < (bytesL s).length) (p : Int → Bool) : ((bytesL s).drop i).all p = (p (bytesL s)[i] && ((bytesL s).drop (i + 1)).all p) := by
  rw [List.drop_eq_getElem_cons h]; rfl
theorem findL_l0 (xs : List Abbr) (s : ByteArray) (hs : s.size ≤ 1048576) : ∀ n i : Nat, i + n = s.size → Ev (fun k => spec_l19Find.l0 k xs s i) (if ((bytesL s).drop i).all ltrI = true then .inr (xs, s) else .inl (-1))
  | 0, i, h => by
    refine Ev.step (fun k => by rw [spec_l19Find.l0]) ?_
    simp (disch := omega) only [cneg]
    rw [List.drop_eq_nil_of_le (by rw [bytesL_len]; omega)]
    exact Ev.pure _
  | n + 1, i, h => by
    have hl := bytesL_len s
    have hi : i < (bytesL s).length := by omega
    refine Ev.step (fun k => by rw [spec_l19Find.l0]) ?_
    simp (disch := omega) only [cpos, Int.toNat_natCast, bt_bytes s i hi]
    refine Ev.bind0 (specLetter_ev _) ?_
    rw [all_bytes hi]
    cases ltrI (bytesL s)[i] with
    | false => exact Ev.pure _
    | true =>
      simp (disch := omega) only [Bool.not_true, cond_false, Bool.true_and, wrap_in]
      exact findL_l0 xs s hs n (i + 1) (by omega)
theorem areL_l0 (s : ByteArray) (hs : s.size ≤ 1048576) : ∀ n i : Nat, i + n = s.size → Ev (fun k => impl_areLetters.l0 k s i) (if ((bytesL s).drop i).all ltrI = true then .inr s else .inl false)
  | 0, i, h => by
    refine Ev.step (fun k => by rw [impl_areLetters.l0]) ?_
    simp (disch := omega) only [cneg]
    rw [List.drop_eq_nil_of_le (by rw [bytesL_len]; omega)]
    exact Ev.pure _
  | n + 1, i, h => by
    have hl := bytesL_len s
    have hi : i < (bytesL s).length := by omega
    refine Ev.step (fun k => by rw [impl_areLetters.l0]) ?_
    simp (disch := omega) only [cpos, Int.toNat_natCast, bt_bytes s i hi]
    refine Ev.bind0 (isLetter_ev _) ?_
    rw [all_bytes hi]
    cases ltrI (bytesL s)[i] with
    | false => exact Ev.pure _
    | true =>
      simp (disch := omega) only [Bool.not_true, cond_false, Bool.true_and, wrap_in]
      exact areL_l0 s hs n (i + 1) (by omega)
theorem areLetters_ev (s : ByteArray) (hs : s.size ≤ 1048576) : Ev (fun k => impl_areLetters.F k s) ((bytesL s).all ltrI && decide (0 < s.size)) := by
  unfold impl_areLetters.F
  have := areL_l0 s hs s.size 0 (by omega)
  rw [List.drop_zero] at this
  cases h : (bytesL s).all ltrI with
  | true =>
    rw [h] at this
    refine Ev.bind this ?_
    simp only [size_pos, Bool.true_and]
    exact Ev.pure _
  | false => rw [h] at this; exact Ev.bind this (Ev.pure _)

/-! ### The abbreviation of a word -/
def dash (s : ByteArray) : Bool := decide (0 < s.size) && (bt s (s.size - 1) == ((45 : UInt8).toNat : Int))
theorem cutSuffix_ev (s : ByteArray) (h : s.size ≤ 9223372036854775807) : strings_CutSuffix.F s ⟨#[45]⟩ = some (cutB s 45, dash s) := by
  unfold strings_CutSuffix.F stringslite_CutSuffix.F
  rw [suffix_ev s 45 h]
  have h1 : (⟨#[45]⟩ : ByteArray).size = 1 := rfl
  have h2 : ((45 : UInt8).toNat : Int) = ((45 : Nat) : Int) := rfl
  rw [h1]
  unfold cutB dash
  rw [h2]
  simp only [Option.bind_some]
  by_cases hs : 0 < s.size
  · simp (disch := omega) only [decide_eq_true hs, Bool.true_and]
    by_cases c2 : bt s (s.size - 1) = ((45 : Nat) : Int)
    · rw [show (bt s (s.size - 1) == ((45 : Nat) : Int)) = true by simpa using c2, if_pos ⟨hs, c2⟩]
      simp (disch := omega) only [Bool.not_true, cond_false, wrap_in, cpos]
      rw [show ((s.size : Int) - ((1 : Nat) : Int)).toNat = s.size - 1 by omega]; rfl
    · rw [show (bt s (s.size - 1) == ((45 : Nat) : Int)) = false by simpa using c2, if_neg (fun h => c2 h.2)]
      rfl
  · rw [decide_eq_false hs, if_neg (fun h => hs h.1)]; rfl
theorem cut_ne (s : ByteArray) : (!beqS (cutB s 45) s) = dash s := by
  have h2 : ((45 : UInt8).toNat : Int) = ((45 : Nat) : Int) := rfl
  unfold cutB dash
  rw [h2]
  by_cases hs : 0 < s.size ∧ bt s (s.size - 1) = ((45 : Nat) : Int)
  · rw [if_pos hs, decide_eq_true hs.1, show (bt s (s.size - 1) == ((45 : Nat) : Int)) = true by simpa using hs.2]
    cases e : beqS (s.extract 0 (s.size - 1)) s with
    | false => rfl
    | true =>
      have := congrArg ByteArray.size (beqS_iff.1 e)
      rw [ByteArray.size_extract] at this
      omega
  · rw [if_neg hs, beqS_self]
    by_cases h3 : 0 < s.size
    · rw [show (bt s (s.size - 1) == ((45 : Nat) : Int)) = false by simpa using fun h => hs ⟨h3, h⟩, Bool.and_false]; rfl
    · rw [decide_eq_false h3]; rfl
theorem hasPrefix_ev (s p : ByteArray) : strings_HasPrefix.F s p = some (decide ((p.size : Int) ≤ (s.size : Int)) && beqS (s.extract 0 p.size) p) := by
  unfold strings_HasPrefix.F stringslite_HasPrefix.F
  by_cases c : (p.size : Int) ≤ (s.size : Int)
  · simp (disch := omega) only [dpos, cond_true, Int.toNat_natCast, Option.bind_some, Bool.true_and]
  · simp (disch := omega) only [dneg, cond_false, Option.bind_some, Bool.false_and]
theorem find_l (xs : List Abbr) (hs : smalls xs) (lw : ByteArray) : ∀ n i : Nat, i + n = xs.length → ∀ best : Int, -1 ≤ best → best < xs.length →
    ∃ r, Ev (fun k => spec_l19Find.l2 k xs lw best i) r ∧ Ev (fun k => impl_abbreviationOf.l0 k xs lw best xs xs.length i) r ∧ ∀ z, (r = .inl z ∨ r = .inr z) → -1 ≤ z ∧ z < xs.length
  | 0, i, h, best, h1, h2 => by
    refine ⟨.inr best, Ev.step (fun k => by rw [spec_l19Find.l2]) ?_, Ev.step (fun k => by rw [impl_abbreviationOf.l0]) ?_, ?_⟩
    · simp (disch := omega) only [cneg]; exact Ev.pure _
    · simp (disch := omega) only [cneg]; exact Ev.pure _
    · rintro z (hz | hz) <;> cases hz; exact ⟨h1, h2⟩
  | n + 1, i, h, best, h1, h2 => by
    have hi : i < xs.length := by omega
    have hlen := hs.1
    have hw := (hs.2 _ (List.getElem_mem hi)).1
    have ih := find_l xs hs lw n (i + 1) (by omega)
    have cut : spec_l19Cut.F xs[i].word 45 = some (cutB xs[i].word 45) := specCut_ev xs[i].word 45 (by omega)
    have cuts := cutSuffix_ev xs[i].word (by omega)
    have hp := hasPrefix_ev lw (cutB xs[i].word 45)
    cases e : beqS xs[i].word lw with
    | true =>
      refine ⟨.inl i, Ev.step (fun k => by rw [spec_l19Find.l2]) ?_, Ev.step (fun k => by rw [impl_abbreviationOf.l0]) ?_, ?_⟩
      · simp (disch := omega) only [cpos, Int.toNat_natCast, getD_at hi, e, cond_true]; exact Ev.pure _
      · simp (disch := omega) only [cpos, Int.toNat_natCast, getD_at hi, e, cond_true]; exact Ev.pure _
      · rintro z (hz | hz) <;> cases hz; omega
    | false =>
      cases hd : dash xs[i].word with
      | false =>
        obtain ⟨r, r1, r2, r3⟩ := ih best h1 h2
        refine ⟨r, Ev.step (fun k => by rw [spec_l19Find.l2]) ?_, Ev.step (fun k => by rw [impl_abbreviationOf.l0]) ?_, r3⟩
        · simp (disch := omega) only [cpos, Int.toNat_natCast, getD_at hi, e, cond_false]
          refine Ev.bind0 cut ?_
          simp (disch := omega) only [cut_ne, hd, cond_false, wrap_in]
          exact r1
        · simp (disch := omega) only [cpos, Int.toNat_natCast, getD_at hi, e, cond_false]
          refine Ev.bind0 cuts ?_
          simp (disch := omega) only [hd, cond_false, wrap_in]
          exact r2
      | true =>
        by_cases c : ((cutB xs[i].word 45).size : Int) ≤ (lw.size : Int)
        · cases hq : beqS (lw.extract 0 (cutB xs[i].word 45).size) (cutB xs[i].word 45) with
          | false =>
            obtain ⟨r, r1, r2, r3⟩ := ih best h1 h2
            refine ⟨r, Ev.step (fun k => by rw [spec_l19Find.l2]) ?_, Ev.step (fun k => by rw [impl_abbreviationOf.l0]) ?_, r3⟩
            · simp (disch := omega) only [cpos, Int.toNat_natCast, getD_at hi, e, cond_false]
              refine Ev.bind0 cut ?_
              simp (disch := omega) only [cut_ne, hd, cond_true, cond_false, cpos, Int.toNat_natCast, hq, wrap_in]
              exact r1
            · simp (disch := omega) only [cpos, Int.toNat_natCast, getD_at hi, e, cond_false]
              refine Ev.bind0 cuts ?_
              simp (disch := omega) only [hd, cond_true]
              refine Ev.bind0 hp ?_
              simp (disch := omega) only [hq, Bool.and_false, cond_false, wrap_in]
              exact r2
          | true =>
            by_cases hb : best < 0
            · obtain ⟨r, r1, r2, r3⟩ := ih i (by omega) (by omega)
              refine ⟨r, Ev.step (fun k => by rw [spec_l19Find.l2]) ?_, Ev.step (fun k => by rw [impl_abbreviationOf.l0]) ?_, r3⟩
              · simp (disch := omega) only [cpos, Int.toNat_natCast, getD_at hi, e, cond_false]
                refine Ev.bind0 cut ?_
                simp (disch := omega) only [cut_ne, hd, cond_true, cond_false, cpos, Int.toNat_natCast, hq, wrap_in]
                exact r1
              · simp (disch := omega) only [cpos, Int.toNat_natCast, getD_at hi, e, cond_false]
                refine Ev.bind0 cuts ?_
                simp (disch := omega) only [hd, cond_true]
                refine Ev.bind0 hp ?_
                rw [hq, decide_eq_true c]
                simp (disch := omega) only [Bool.and_self, cond_true, cpos, wrap_in]
                exact r2
            · have hb' : best.toNat < xs.length := by omega
              by_cases hz : (xs[i].word.size : Int) > (xs[best.toNat].word.size : Int)
              · obtain ⟨r, r1, r2, r3⟩ := ih i (by omega) (by omega)
                refine ⟨r, Ev.step (fun k => by rw [spec_l19Find.l2]) ?_, Ev.step (fun k => by rw [impl_abbreviationOf.l0]) ?_, r3⟩
                · simp (disch := omega) only [cpos, Int.toNat_natCast, getD_at hi, e, cond_false]
                  refine Ev.bind0 cut ?_
                  simp (disch := omega) only [cut_ne, hd, cond_true, cond_false, cpos, cneg, Int.toNat_natCast, hq, wrap_in, getD_at hb']
                  exact r1
                · simp (disch := omega) only [cpos, Int.toNat_natCast, getD_at hi, e, cond_false]
                  refine Ev.bind0 cuts ?_
                  simp (disch := omega) only [hd, cond_true]
                  refine Ev.bind0 hp ?_
                  rw [hq, decide_eq_true c]
                  simp (disch := omega) only [Bool.and_self, cond_true, cpos, cneg, wrap_in, getD_at hb']
                  exact r2
              · obtain ⟨r, r1, r2, r3⟩ := ih best h1 h2
                refine ⟨r, Ev.step (fun k => by rw [spec_l19Find.l2]) ?_, Ev.step (fun k => by rw [impl_abbreviationOf.l0]) ?_, r3⟩
                · simp (disch := omega) only [cpos, Int.toNat_natCast, getD_at hi, e, cond_false]
                  refine Ev.bind0 cut ?_
                  simp (disch := omega) only [cut_ne, hd, cond_true, cond_false, cpos, cneg, Int.toNat_natCast, hq, wrap_in, getD_at hb']
                  exact r1
                · simp (disch := omega) only [cpos, Int.toNat_natCast, getD_at hi, e, cond_false]
                  refine Ev.bind0 cuts ?_
                  simp (disch := omega) only [hd, cond_true]
                  refine Ev.bind0 hp ?_
                  rw [hq, decide_eq_true c]
                  simp (disch := omega) only [Bool.and_self, cond_true, cpos, cneg, wrap_in, getD_at hb']
                  exact r2
        · obtain ⟨r, r1, r2, r3⟩ := ih best h1 h2
          refine ⟨r, Ev.step (fun k => by rw [spec_l19Find.l2]) ?_, Ev.step (fun k => by rw [impl_abbreviationOf.l0]) ?_, r3⟩
          · simp (disch := omega) only [cpos, Int.toNat_natCast, getD_at hi, e, cond_false]
            refine Ev.bind0 cut ?_
            simp (disch := omega) only [cut_ne, hd, cond_true, cneg, wrap_in]
            exact r1
          · simp (disch := omega) only [cpos, Int.toNat_natCast, getD_at hi, e, cond_false]
            refine Ev.bind0 cuts ?_
            simp (disch := omega) only [hd, cond_true]
            refine Ev.bind0 hp ?_
            rw [decide_eq_false c]
            simp (disch := omega) only [Bool.false_and, cond_false, wrap_in]
            exact r2
theorem found (xs : List Abbr) (hs : smalls xs) (s : ByteArray) (h0 : 0 < s.size) (h1 : s.size ≤ 1048576) : ∃ z : Int, Ev (fun k => spec_l19Find.F k xs s) z ∧ Ev (fun k => impl_abbreviationOf.F k xs s) z ∧ -1 ≤ z ∧ z < xs.length := by
  unfold spec_l19Find.F impl_abbreviationOf.F
  have e1 := findL_l0 xs s h1 s.size 0 (by omega)
  have e2 := areLetters_ev s h1
  rw [List.drop_zero] at e1
  cases ha : (bytesL s).all ltrI with
  | false =>
    rw [ha] at e1 e2
    refine ⟨-1, Ev.bind e1 (Ev.pure _), Ev.bind e2 (Ev.pure _), by omega, by omega⟩
  | true =>
    rw [ha, decide_eq_true h0] at e2
    rw [ha] at e1
    obtain ⟨r, r1, r2, r3⟩ := find_l xs hs (lowS s) xs.length 0 (by omega) (-1) (by omega) (by omega)
    cases r with
    | inl z => exact ⟨z, Ev.bind e1 (Ev.bind (specLower_ev s h1) (Ev.bind r1 (Ev.pure _))), Ev.bind e2 (Ev.bind (lower_ev s h1) (Ev.bind r2 (Ev.pure _))), r3 z (.inl rfl)⟩
    | inr z => exact ⟨z, Ev.bind e1 (Ev.bind (specLower_ev s h1) (Ev.bind r1 (Ev.pure _))), Ev.bind e2 (Ev.bind (lower_ev s h1) (Ev.bind r2 (Ev.pure _))), r3 z (.inr rfl)⟩

/-! ### The first letter raised -/
theorem set_text (s : ByteArray) (i : Nat) (v : Int) (h : i < (bytesL s).length) : strL ((bytesL s).set i v) = s.extract 0 i ++ strL [v] ++ s.extract (i + 1) s.size := by
  apply L_inj
  have hl := bytesL_len s
  have e := congrArg L (strL_bytes s)
  rw [L_strL] at e
  rw [L_append, L_append, L_extract, L_extract, L_strL, L_strL, List.map_set, e, List.drop_zero, List.take_of_length_le (show (L s).length ≤ s.size from Nat.le_refl _)]
  rw [List.set_eq_take_append_cons_drop, if_pos (by rw [L_size]; omega)]
  simp
theorem raise_l0 (s : ByteArray) (hs : s.size ≤ 1048576) : ∀ n i : Nat, i + n = s.size → ∃ ys r, Ev (fun k => impl_raised.l0 k (bytesL s) s.size i) ys ∧ Ev (fun k => spec_l6Raise.l0 k s i) r ∧ (r = .inl (strL ys) ∨ r = .inr (strL ys)) ∧ ys.length = s.size
  | 0, i, h => by
    refine ⟨bytesL s, .inr s, Ev.step (fun k => by rw [impl_raised.l0]) ?_, Ev.step (fun k => by rw [spec_l6Raise.l0]) ?_, .inr (by rw [strL_bytes]), bytesL_len s⟩
    · simp (disch := omega) only [cneg]; exact Ev.pure _
    · simp (disch := omega) only [cneg]; exact Ev.pure _
  | n + 1, i, h => by
    have hl := bytesL_len s
    have hi : i < (bytesL s).length := by omega
    cases hlt : ltrI (bytesL s)[i] with
    | false =>
      obtain ⟨ys, r, r1, r2, r3, r4⟩ := raise_l0 s hs n (i + 1) (by omega)
      refine ⟨ys, r, Ev.step (fun k => by rw [impl_raised.l0]) ?_, Ev.step (fun k => by rw [spec_l6Raise.l0]) ?_, r3, r4⟩
      · simp (disch := omega) only [cpos, Int.toNat_natCast, getD_at hi]
        refine Ev.bind0 (isLetter_ev _) ?_
        simp (disch := omega) only [hlt, cond_false, wrap_in]
        exact r1
      · simp (disch := omega) only [cpos, Int.toNat_natCast, bt_bytes s i hi]
        refine Ev.bind0 (specLetter_ev _) ?_
        simp (disch := omega) only [hlt, cond_false, wrap_in]
        exact r2
    | true =>
      refine ⟨(bytesL s).set i (upI (bytesL s)[i]), .inl (s.extract 0 i ++ strL [upI (bytesL s)[i]] ++ s.extract (i + 1) s.size), Ev.step (fun k => by rw [impl_raised.l0]) ?_, Ev.step (fun k => by rw [spec_l6Raise.l0]) ?_, .inl (by rw [set_text s i _ hi]), by rw [List.length_set]; exact bytesL_len s⟩
      · simp (disch := omega) only [cpos, Int.toNat_natCast, getD_at hi]
        refine Ev.bind0 (isLetter_ev _) ?_
        simp (disch := omega) only [hlt, cond_true]
        refine Ev.bind0 (upperByte_ev _) ?_
        try simp (disch := omega) only [cpos]
        exact Ev.pure _
      · simp (disch := omega) only [cpos, Int.toNat_natCast, bt_bytes s i hi]
        refine Ev.bind0 (specLetter_ev _) ?_
        simp (disch := omega) only [hlt, cond_true, cpos]
        refine Ev.bind0 (specUpperByte_ev _) ?_
        have e1 : (s.extract 0 i).size ≤ s.size := by rw [ByteArray.size_extract]; omega
        have e2 : (strL ([upI (bytesL s)[i]] : List Int)).size = 1 := strL_size _
        have e3 : (s.extract 0 i ++ strL ([upI (bytesL s)[i]] : List Int)).size = (s.extract 0 i).size + 1 := by rw [← L_size, L_append, List.length_append, L_size, L_size, e2]
        have e4 : (s.extract (i + 1) s.size).size ≤ s.size := by rw [ByteArray.size_extract]; omega
        have e5 : ((i : Int) + 1).toNat = i + 1 := by omega
        simp (disch := omega) only [cble, wrap_in, cpos, e5]
        exact Ev.pure _
theorem raised_ev (s : ByteArray) (hs : s.size ≤ 1048576) : ∃ r, Ev (fun k => spec_l6Raise.F k s) r ∧ Ev (fun k => impl_raised.F k s) r ∧ r.size = s.size := by
  obtain ⟨ys, r, r1, r2, r3, r4⟩ := raise_l0 s hs s.size 0 (by omega)
  refine ⟨strL ys, ?_, ?_, by rw [strL_size]; exact r4⟩
  · unfold spec_l6Raise.F
    rcases r3 with rfl | rfl
    · exact Ev.bind r2 (Ev.pure _)
    · exact Ev.bind r2 (Ev.pure _)
  · unfold impl_raised.F
    rw [bytesL_len]
    simp (disch := omega) only [cble]
    exact Ev.bind r1 (Ev.pure _)

/-! ### The word -/
theorem short_ev (xs : List Abbr) (hs : smalls xs) (s : ByteArray) (h0 : 0 < s.size) (h1 : s.size ≤ 1048576) : ∃ r, Ev (fun k => spec_l19Short.F k xs s) r ∧ Ev (fun k => impl_shortWord.F k xs s) r ∧ r.size ≤ 1048576 := by
  obtain ⟨z, z1, z2, z3, z4⟩ := found xs hs s h0 h1
  unfold spec_l19Short.F impl_shortWord.F
  have hl := bytesL_len s
  by_cases hz : z < 0
  · refine ⟨s, Ev.bind z1 ?_, Ev.bind z2 ?_, h1⟩
    · simp (disch := omega) only [cpos]; exact Ev.pure _
    · simp (disch := omega) only [cpos]; exact Ev.pure _
  · have hz' : z.toNat < xs.length := by omega
    have hsh := (hs.2 _ (List.getElem_mem hz')).2
    obtain ⟨r, r1, r2, r3⟩ := raised_ev xs[z.toNat].short hsh
    by_cases c1 : 65 ≤ bt s (0 : Int).toNat
    · by_cases c2 : bt s (0 : Int).toNat ≤ 90
      · refine ⟨r, Ev.bind z1 ?_, Ev.bind z2 ?_, by omega⟩
        · simp (disch := omega) only [cpos, cneg, getD_at hz']; exact Ev.bind r1 (Ev.pure _)
        · simp (disch := omega) only [cpos, cneg]
          refine Ev.bind0 (isUpper_ev _) ?_
          rw [decide_eq_true c1, decide_eq_true c2]
          simp (disch := omega) only [Bool.and_self, cond_true, cpos, getD_at hz']
          exact Ev.bind r2 (Ev.pure _)
      · refine ⟨xs[z.toNat].short, Ev.bind z1 ?_, Ev.bind z2 ?_, hsh⟩
        · simp (disch := omega) only [cpos, cneg, getD_at hz']; exact Ev.pure _
        · simp (disch := omega) only [cpos, cneg]
          refine Ev.bind0 (isUpper_ev _) ?_
          rw [decide_eq_false c2]
          simp (disch := omega) only [Bool.and_false, cond_false, cpos, getD_at hz']
          exact Ev.pure _
    · refine ⟨xs[z.toNat].short, Ev.bind z1 ?_, Ev.bind z2 ?_, hsh⟩
      · simp (disch := omega) only [cpos, cneg, getD_at hz']; exact Ev.pure _
      · simp (disch := omega) only [cpos, cneg]
        refine Ev.bind0 (isUpper_ev _) ?_
        rw [decide_eq_false c1]
        simp (disch := omega) only [Bool.false_and, cond_false, cpos, getD_at hz']
        exact Ev.pure _

end Go.Proofs.YtnffgabfibafjaaGreatDoor
end
section
/- Plain laws: the pieces of a text between spaces. -/
namespace Go.Proofs.YtnffgabfibafjaaGreatDoor
open Go.Gx
set_option linter.unusedVariables false
set_option linter.unusedSimpArgs false

theorem size_app (s t : ByteArray) : (s ++ t).size = s.size + t.size := by
  rw [← L_size, L_append, List.length_append, L_size, L_size]
/-! ### Words -/
theorem sub_tail (s : ByteArray) (st a : Nat) : (s.extract st s.size).extract a (s.extract st s.size).size = s.extract (st + a) s.size := by
  apply L_inj
  have e : (L s).take s.size = L s := List.take_of_length_le (Nat.le_refl _)
  rw [L_extract, L_extract s (st + a), ← L_size (s.extract st s.size), L_extract, List.take_length, List.drop_drop, e]
theorem sub_head (s : ByteArray) (st i : Nat) (h : st ≤ i) (hi : i ≤ s.size) : (s.extract st s.size).extract 0 (i - st) = s.extract st i := by
  apply L_inj
  rw [L_extract, L_extract, L_extract, List.drop_zero, List.take_of_length_le (show (L s).length ≤ s.size from Nat.le_refl _), List.drop_take]
def sp : ByteArray := ⟨#[32]⟩
theorem ib_hit {l : List UInt8} {c : UInt8} {i : Nat} (h : l[i]? = some c) (hn : ∀ j, j < i → l[j]? ≠ some c) : Lib.indexByte l c = i := by
  have hg := Lib.indexByte_ge l c
  by_cases e : Lib.indexByte l c = -1
  · exact absurd h (Lib.indexByte_none e i)
  · obtain ⟨o, ho⟩ : ∃ o : Nat, Lib.indexByte l c = o := ⟨(Lib.indexByte l c).toNat, by omega⟩
    obtain ⟨h1, h2⟩ := Lib.indexByte_some ho
    rcases Nat.lt_trichotomy o i with h3 | h3 | h3
    · exact absurd h1 (hn o h3)
    · rw [ho, h3]
    · exact absurd h (h2 i h3)
theorem ib_miss {l : List UInt8} {c : UInt8} (hn : ∀ j : Nat, l[j]? ≠ some c) : Lib.indexByte l c = -1 := by
  have hg := Lib.indexByte_ge l c
  by_cases e : Lib.indexByte l c = -1
  · exact e
  · obtain ⟨o, ho⟩ : ∃ o : Nat, Lib.indexByte l c = o := ⟨(Lib.indexByte l c).toNat, by omega⟩
    exact absurd (Lib.indexByte_some ho).1 (hn o)
theorem indexB_sp (s : ByteArray) : Lib.indexB s sp = Lib.indexByte (L s) 32 := Lib.one s sp rfl
theorem sub_at (s : ByteArray) (st j : Nat) : (L (s.extract st s.size))[j]? = (L s)[st + j]? := by
  rw [L_extract, List.take_of_length_le (show (L s).length ≤ s.size from Nat.le_refl _), List.getElem?_drop]
def wordsFrom (s : ByteArray) (st : Nat) : List ByteArray := Lib.splitB sp 0 (Lib.countB (s.extract st s.size) sp) (s.extract st s.size)
theorem words_end (s : ByteArray) (st : Nat) (h : ∀ j, st ≤ j → (L s)[j]? ≠ some 32) : wordsFrom s st = [s.extract st s.size] := by
  unfold wordsFrom
  rw [Lib.countB_miss _ _ ((indexB_sp _).trans (ib_miss fun j => by rw [sub_at]; exact h _ (by omega)))]
  rfl
theorem words_hit (s : ByteArray) (st i : Nat) (h1 : st ≤ i) (hi : i < s.size) (hb : (L s)[i]? = some 32) (h : ∀ j, st ≤ j → j < i → (L s)[j]? ≠ some 32) : wordsFrom s st = s.extract st i :: wordsFrom s (i + 1) := by
  have e : Lib.indexB (s.extract st s.size) sp = ((i - st : Nat) : Int) := (indexB_sp _).trans (ib_hit (by rw [sub_at, show st + (i - st) = i by omega]; exact hb) fun j hj => by rw [sub_at]; exact h _ (by omega) (by omega))
  have e1 : sp.size = 1 := rfl
  unfold wordsFrom
  rw [Lib.countB_hit _ _ _ (by rw [e1]; exact Nat.le_refl _) e, Nat.add_comm 1, Lib.splitB_hit _ _ _ _ _ e, Nat.add_zero, sub_head s st i h1 (by omega), e1, sub_tail, show st + (i - st + 1) = i + 1 by omega]
theorem sub_self (s : ByteArray) : s.extract 0 s.size = s := by
  apply L_inj
  rw [L_extract, List.take_of_length_le (show (L s).length ≤ s.size from Nat.le_refl _), List.drop_zero]
def words (s : ByteArray) : List ByteArray := Lib.splitB sp 0 (Lib.countB s sp) s
theorem words_from (s : ByteArray) : wordsFrom s 0 = words s := by unfold wordsFrom words; rw [sub_self]
theorem split_ev (s : ByteArray) (hs : s.size ≤ 4000) : strings_Split.F s ⟨#[32]⟩ = some (words s) := by
  unfold strings_Split.F xSplit
  rw [Nat.ble_eq_true_of_le (by omega)]
  rfl
theorem words_small : ∀ (k : Nat) (s : ByteArray), ∀ x ∈ Lib.splitB sp 0 k s, x.size ≤ s.size
  | 0, s, x, hx => by
    rw [Lib.splitB_zero] at hx
    simp only [List.mem_singleton] at hx
    rw [hx]; exact Nat.le_refl _
  | k + 1, s, x, hx => by
    unfold Lib.splitB at hx
    split at hx
    · simp only [List.mem_singleton] at hx
      rw [hx]; exact Nat.le_refl _
    · rcases List.mem_cons.1 hx with rfl | hx
      · rw [ByteArray.size_extract]; omega
      · have := words_small k _ x hx
        rw [ByteArray.size_extract] at this
        omega
theorem words_len (s : ByteArray) : 1 ≤ (words s).length ∧ (words s).length ≤ s.size + 1 := by
  unfold words
  have h1 : 1 ≤ sp.size := Nat.le_refl 1
  rw [Lib.splitB_all sp h1 0 _ s rfl]
  have := Lib.countB_le sp h1 s.size s (Nat.le_refl _)
  omega

end Go.Proofs.YtnffgabfibafjaaGreatDoor
end
section
/- Plain laws: slices.IndexFunc, slices.DeleteFunc, as they are printed for a function value. -/
namespace Go.Gx
set_option linter.unusedVariables false
set_option linter.unusedSimpArgs false

section
variable {α : Type} {d : α} {p : α → Bool} {q : Nat → α → Option Bool} {xs : List α}
theorem getDat {α : Type} {xs : List α} {i : Nat} (h : i < xs.length) (d : α) : xs.getD i d = xs[i] := by simp [List.getD, List.getElem?_eq_getElem h]
theorem idx_l0 {l0 : Nat → List α → Int → Int → Option (Sum Int Unit)} (H : ∀ k x0 x7 x8, l0 (k + 1) x0 x7 x8 = bif (decide (x8 < x7)) then (bif decide (0 ≤ x8) then (bif decide (x8 < (x0.length : Int)) then ((q k (x0.getD (x8 : Int).toNat d)).bind fun r1 => bif r1 then (some (.inl x8)) else (l0 k x0 x7 (IntKind.wrap .i64 (x8 + 1)))) else none) else none) else (some (.inr ())))
    (hq : ∀ x, x ∈ xs → Ev (fun k => q k x) (p x)) (hl : xs.length ≤ 4611686018427387904) : ∀ n i : Nat, i + n = xs.length → (∀ x ∈ xs.take i, p x = false) →
    ∃ r, Ev (fun k => l0 k xs xs.length i) r ∧ ((r = .inr () ∧ ∀ x ∈ xs, p x = false) ∨ ∃ j : Nat, r = .inl j ∧ j < xs.length ∧ p (xs.getD j d) = true ∧ ∀ x ∈ xs.take j, p x = false)
  | 0, i, h, ht => by
    refine ⟨.inr (), Ev.step (fun k => by rw [H]) ?_, .inl ⟨rfl, by rw [List.take_of_length_le (by omega)] at ht; exact ht⟩⟩
    simp (disch := omega) only [cneg]
    exact Ev.pure _
  | n + 1, i, h, ht => by
    have hi : i < xs.length := by omega
    cases hp : p xs[i] with
    | true =>
      refine ⟨.inl i, Ev.step (fun k => by rw [H]) ?_, .inr ⟨i, rfl, hi, by rw [getDat hi, hp], ht⟩⟩
      simp (disch := omega) only [cpos, Int.toNat_natCast, getDat hi]
      refine Ev.bind (hq _ (List.getElem_mem hi)) ?_
      rw [hp]
      exact Ev.pure _
    | false =>
      obtain ⟨r, h1, h2⟩ := idx_l0 H hq hl n (i + 1) (by omega) (by
        intro x hx
        rw [List.take_add_one, List.getElem?_eq_getElem hi] at hx
        rcases List.mem_append.1 hx with hx | hx
        · exact ht x hx
        · simp only [Option.toList_some, List.mem_singleton] at hx
          rw [hx, hp])
      refine ⟨r, Ev.step (fun k => by rw [H]) ?_, h2⟩
      simp (disch := omega) only [cpos, Int.toNat_natCast, getDat hi]
      refine Ev.bind (hq _ (List.getElem_mem hi)) ?_
      rw [hp]
      simp (disch := omega) only [cond_false, wrap_in]
      exact h1
theorem idx_ev {l0 : Nat → List α → Int → Int → Option (Sum Int Unit)} (H : ∀ k x0 x7 x8, l0 (k + 1) x0 x7 x8 = bif (decide (x8 < x7)) then (bif decide (0 ≤ x8) then (bif decide (x8 < (x0.length : Int)) then ((q k (x0.getD (x8 : Int).toNat d)).bind fun r1 => bif r1 then (some (.inl x8)) else (l0 k x0 x7 (IntKind.wrap .i64 (x8 + 1)))) else none) else none) else (some (.inr ())))
    (hq : ∀ x, x ∈ xs → Ev (fun k => q k x) (p x)) (hl : xs.length ≤ 4611686018427387904) {F : Nat → List α → Option Int} (HF : ∀ k a0, F k a0 = (l0 k a0 (a0.length : Int) 0).bind fun y2 => match y2 with | .inl z3 => some z3 | .inr z3 => some (-1)) :
    ∃ r, Ev (fun k => F k xs) r ∧ ((r = -1 ∧ ∀ x ∈ xs, p x = false) ∨ ∃ j : Nat, r = j ∧ j < xs.length ∧ p (xs.getD j d) = true ∧ ∀ x ∈ xs.take j, p x = false) := by
  obtain ⟨r, h1, h2⟩ := idx_l0 H hq hl xs.length 0 (by omega) (fun x hx => by simp at hx)
  rcases h2 with ⟨rfl, h2⟩ | ⟨j, rfl, h2⟩
  · exact ⟨-1, Ev.congr (Ev.bind h1 (Ev.pure _)) (fun k => HF k xs), .inl ⟨rfl, h2⟩⟩
  · exact ⟨j, Ev.congr (Ev.bind h1 (Ev.pure _)) (fun k => HF k xs), .inr ⟨j, rfl, h2⟩⟩
theorem del_l0 {l0 : Nat → List α → Int → Int → Option (List α × Int)} (H : ∀ k x0 x5 x6, l0 (k + 1) x0 x5 x6 = bif (decide (x6 < (x0.length : Int))) then (bif decide (0 ≤ x6) then (bif decide (x6 < (x0.length : Int)) then ((q k (x0.getD ((x6 : Int).toNat) d)).bind fun r2 => bif (!r2) then (bif decide (0 ≤ x5) then (bif decide (x5 < (x0.length : Int)) then (l0 k (x0.set ((x5 : Int).toNat) (x0.getD ((x6 : Int).toNat) d)) (IntKind.wrap .i64 (x5 + 1)) (IntKind.wrap .i64 (x6 + 1))) else none) else none) else (l0 k x0 x5 (IntKind.wrap .i64 (x6 + 1)))) else none) else none) else (some (x0, x5)))
    (hq : ∀ x, x ∈ xs → Ev (fun k => q k x) (p x)) (hl : xs.length ≤ 4611686018427387904) : ∀ n j : Nat, j + n = xs.length → ∀ (ys : List α) (i : Nat), ys.length = xs.length → i ≤ j → ys.drop j = xs.drop j →
    ∃ zs, ∃ i' : Nat, Ev (fun k => l0 k ys i j) (zs, (i' : Int)) ∧ i' ≤ xs.length ∧ zs.length = xs.length ∧ zs.take i' = ys.take i ++ (xs.drop j).filter fun x => !p x
  | 0, j, h, ys, i, hy, hij, hd => by
    refine ⟨ys, i, Ev.step (fun k => by rw [H]) ?_, by omega, hy, ?_⟩
    · simp (disch := omega) only [cneg]
      exact Ev.pure _
    · rw [List.drop_eq_nil_of_le (by omega), List.filter_nil, List.append_nil]
  | n + 1, j, h, ys, i, hy, hij, hd => by
    have hj : j < xs.length := by omega
    have hj' : j < ys.length := by omega
    have hx : ys[j] = xs[j] := by
      have h0 := congrArg (·[0]?) hd
      simpa [hj, hj'] using h0
    have hd1 : ys.drop (j + 1) = xs.drop (j + 1) := by
      have := congrArg (List.drop 1) hd
      simpa [List.drop_drop] using this
    cases hp : p xs[j] with
    | true =>
      obtain ⟨zs, i', h1, h2, h3, h4⟩ := del_l0 H hq hl n (j + 1) (by omega) ys i hy (by omega) hd1
      refine ⟨zs, i', Ev.step (fun k => by rw [H]) ?_, h2, h3, ?_⟩
      · simp (disch := omega) only [cpos, Int.toNat_natCast, getDat hj', hx]
        refine Ev.bind (hq _ (List.getElem_mem hj)) ?_
        rw [hp]
        simp (disch := omega) only [Bool.not_true, cond_false, wrap_in]
        exact h1
      · rw [h4, List.drop_eq_getElem_cons hj, List.filter_cons_of_neg (by rw [hp]; decide)]
    | false =>
      obtain ⟨zs, i', h1, h2, h3, h4⟩ := del_l0 H hq hl n (j + 1) (by omega) (ys.set i xs[j]) (i + 1) (by simpa using hy) (by omega) (by rw [List.drop_set_of_lt (by omega)]; exact hd1)
      refine ⟨zs, i', Ev.step (fun k => by rw [H]) ?_, h2, h3, ?_⟩
      · simp (disch := omega) only [cpos, Int.toNat_natCast, getDat hj', hx]
        refine Ev.bind (hq _ (List.getElem_mem hj)) ?_
        rw [hp]
        simp (disch := omega) only [Bool.not_false, cond_true, cpos, Int.toNat_natCast, wrap_in]
        exact h1
      · rw [h4, List.drop_eq_getElem_cons hj, List.filter_cons_of_pos (by rw [hp]; decide), List.take_add_one, List.take_set_of_le (Nat.le_refl i)]
        have : (ys.set i xs[j])[i]? = some xs[j] := by rw [List.getElem?_set_self (by omega)]
        rw [this]
        simp
theorem delete_ev {l0 : Nat → List α → Int → Int → Option (List α × Int)} (H : ∀ k x0 x5 x6, l0 (k + 1) x0 x5 x6 = bif (decide (x6 < (x0.length : Int))) then (bif decide (0 ≤ x6) then (bif decide (x6 < (x0.length : Int)) then ((q k (x0.getD ((x6 : Int).toNat) d)).bind fun r2 => bif (!r2) then (bif decide (0 ≤ x5) then (bif decide (x5 < (x0.length : Int)) then (l0 k (x0.set ((x5 : Int).toNat) (x0.getD ((x6 : Int).toNat) d)) (IntKind.wrap .i64 (x5 + 1)) (IntKind.wrap .i64 (x6 + 1))) else none) else none) else (l0 k x0 x5 (IntKind.wrap .i64 (x6 + 1)))) else none) else none) else (some (x0, x5)))
    (hq : ∀ x, x ∈ xs → Ev (fun k => q k x) (p x)) (hl : xs.length ≤ 4611686018427387904) {I F : Nat → List α → Option _} {e : α}
    (hI : ∃ r : Int, Ev (fun k => I k xs) r ∧ ((r = -1 ∧ ∀ x ∈ xs, p x = false) ∨ ∃ j : Nat, r = j ∧ j < xs.length ∧ p (xs.getD j d) = true ∧ ∀ x ∈ xs.take j, p x = false))
    (HF : ∀ k a0, F k a0 = (I k a0).bind fun r1 => bif (r1 == (-1)) then (some a0) else ((l0 k a0 r1 (IntKind.wrap .i64 (r1 + 1))).bind fun y3 => bif decide (0 ≤ y3.2) then (bif decide (y3.2 ≤ (y3.1.length : Int)) then (bif decide (0 ≤ y3.2) then (bif decide (y3.2 ≤ ((y3.1.take ((y3.2 : Int).toNat) ++ List.replicate (y3.1.length - ((y3.2 : Int).toNat)) e).length : Int)) then (some ((y3.1.take ((y3.2 : Int).toNat) ++ List.replicate (y3.1.length - ((y3.2 : Int).toNat)) e).take (y3.2 : Int).toNat)) else none) else none) else none) else none)) :
    Ev (fun k => F k xs) (xs.filter fun x => !p x) := by
  obtain ⟨r, h1, h2⟩ := hI
  refine Ev.congr (?_ : Ev _ _) (fun k => HF k xs)
  refine Ev.bind h1 ?_
  rcases h2 with ⟨rfl, h2⟩ | ⟨j, rfl, hj, hp, h2⟩
  · have : (xs.filter fun x => !p x) = xs := List.filter_eq_self.2 fun x hx => by rw [h2 x hx]; rfl
    rw [this]
    exact Ev.pure _
  · obtain ⟨zs, i', h3, h4, h5, h6⟩ := del_l0 H hq hl (xs.length - (j + 1)) (j + 1) (by omega) xs j rfl (by omega) rfl
    rw [getDat hj] at hp
    have hz : zs.take i' = xs.filter fun x => !p x := by
      rw [h6]
      conv => rhs; rw [← List.take_append_drop j xs, List.filter_append, List.drop_eq_getElem_cons hj, List.filter_cons_of_neg (by rw [hp]; decide)]
      congr 1
      exact (List.filter_eq_self.2 fun x hx => by rw [h2 x hx]; rfl).symm
    simp (disch := omega) only [cne, wrap_in]
    refine Ev.bind h3 ?_
    have e1 : ((zs.take i' ++ List.replicate (zs.length - i') e)).length = zs.length := by simp; omega
    simp (disch := (try simp only [Int.toNat_natCast, e1]); omega) only [cpos, Int.toNat_natCast, e1]
    rw [List.take_append_of_le_length (by simp; omega), List.take_take, Nat.min_self, hz]
    exact Ev.pure _
end
end Go.Gx
end
section
/- Plain laws: texts, their words, their abbreviation. -/
namespace Go.Proofs.YtnffgabfibafjaaGreatDoor
open Go.Gx
set_option linter.unusedVariables false
set_option linter.unusedSimpArgs false

/-! ### Texts -/
theorem dropWhile_self {α : Type} (p : α → Bool) : ∀ l : List α, l.dropWhile p = l ↔ (∀ a, l.head? = some a → p a = false)
  | [] => by simp
  | a :: l => by
    have hl : (l.dropWhile p).length ≤ l.length := (List.dropWhile_sublist p).length_le
    cases h : p a with
    | true =>
      rw [List.dropWhile_cons_of_pos h]
      constructor
      · intro e
        have := congrArg List.length e
        simp at this
        omega
      · intro e
        have := e a rfl
        rw [h] at this; cases this
    | false =>
      rw [List.dropWhile_cons_of_neg (by rw [h]; exact Bool.noConfusion)]
      simp [h]
theorem trimB_self (l : List UInt8) (c : UInt8) : Lib.trimB l c = l ↔ l.head? ≠ some c ∧ l.getLast? ≠ some c := by
  unfold Lib.trimB Lib.trimLeftB Lib.trimRightB
  have h1 : ∀ m : List UInt8, m.dropWhile (· == c) = m ↔ m.head? ≠ some c := fun m => by
    rw [dropWhile_self]
    constructor
    · intro h e; have := h c e; simp at this
    · intro h a e
      have : a ≠ c := fun e' => h (e' ▸ e)
      simpa using this
  constructor
  · intro h
    have h2 : ((l.reverse.dropWhile (· == c)).reverse).length ≤ l.length := by
      have := (List.dropWhile_sublist (p := (· == c)) (l := l.reverse)).length_le
      simpa using this
    have h3 := (List.dropWhile_sublist (p := (· == c)) (l := (l.reverse.dropWhile (· == c)).reverse))
    have h4 : (l.reverse.dropWhile (· == c)).reverse = l := by
      have h5 : (l.reverse.dropWhile (· == c)).reverse.length = l.length := by
        have := h3.length_le
        rw [h] at this
        omega
      have h6 : l.reverse.dropWhile (· == c) = l.reverse := (List.dropWhile_sublist (p := (· == c)) (l := l.reverse)).eq_of_length (by simpa using h5)
      rw [h6, List.reverse_reverse]
    rw [h4] at h
    refine ⟨(h1 l).1 h, ?_⟩
    have h6 : l.reverse.dropWhile (· == c) = l.reverse := by rw [← List.reverse_inj, h4, List.reverse_reverse]
    have := (h1 _).1 h6
    simpa using this
  · rintro ⟨ha, hb⟩
    have h6 : l.reverse.dropWhile (· == c) = l.reverse := (h1 _).2 (by simpa using hb)
    rw [h6, List.reverse_reverse]
    exact (h1 l).2 ha
def vis (lo b : Int) : Bool := decide (lo ≤ b) && decide (b ≤ 126)
theorem bt_sp {s : ByteArray} {i : Nat} (hi : i < s.size) : bt s i = 32 ↔ (L s)[i]? = some 32 := by
  have hi' : i < (L s).length := hi
  have hbt : bt s i = ((L s)[i].toNat : Int) := by rw [L_bt, getD_at hi']
  rw [List.getElem?_eq_getElem hi', hbt]
  have : (32 : UInt8).toNat = 32 := rfl
  constructor
  · intro h
    congr 1
    apply UInt8.toNat_inj.1
    omega
  · intro h
    rw [Option.some.inj h]; rfl
/-- The first and the last byte of a text are no spaces. -/
def edge (s : ByteArray) : Bool := (decide (s.size = 0)) || (bt s 0 != 32 && bt s (s.size - 1) != 32)
theorem edge_trim (s : ByteArray) (hs : s.size ≤ 1048576) : strings_Trim.F s ⟨#[32]⟩ = some ⟨(Lib.trimB (L s) 32).toArray⟩ := by
  unfold strings_Trim.F xTrim1
  rw [Nat.ble_eq_true_of_le (by omega)]
  rfl
theorem edge_eq (s : ByteArray) : beqS ⟨(Lib.trimB (L s) 32).toArray⟩ s = edge s := by
  rw [Bool.eq_iff_iff, beqS_iff]
  have h1 : (⟨(Lib.trimB (L s) 32).toArray⟩ : ByteArray) = s ↔ Lib.trimB (L s) 32 = L s := by
    constructor
    · intro h
      have := congrArg L h
      rwa [L_mk] at this
    · intro h
      apply L_inj
      rw [L_mk, h]
  rw [h1, trimB_self]
  unfold edge
  by_cases hz : s.size = 0
  · have : L s = [] := List.eq_nil_of_length_eq_zero hz
    rw [this]
    simp [hz]
  · have h2 : (L s).head? = (L s)[0]? := List.head?_eq_getElem?
    have h3 : (L s).getLast? = (L s)[s.size - 1]? := by rw [List.getLast?_eq_getElem?]; rfl
    rw [h2, h3, Bool.or_eq_true, decide_eq_true_eq, Bool.and_eq_true, bne_iff_ne, bne_iff_ne, Ne, Ne, Ne, Ne, bt_sp (by omega), bt_sp (by omega)]
    simp [hz]
theorem specText_l0 (s : ByteArray) (hs : s.size ≤ 1048576) : ∀ n i : Nat, i + n = s.size → Ev (fun k => spec_l4Text.l0 k s i) (if ((bytesL s).drop i).all (vis 32) = true then .inr s else .inl false)
  | 0, i, h => by
    refine Ev.step (fun k => by rw [spec_l4Text.l0]) ?_
    simp (disch := omega) only [cneg]
    rw [List.drop_eq_nil_of_le (by rw [bytesL_len]; omega)]
    exact Ev.pure _
  | n + 1, i, h => by
    have hl := bytesL_len s
    have hi : i < (bytesL s).length := by omega
    refine Ev.step (fun k => by rw [spec_l4Text.l0]) ?_
    simp (disch := omega) only [cpos, Int.toNat_natCast, bt_bytes s i hi]
    rw [all_bytes hi]
    unfold vis
    by_cases c1 : (bytesL s)[i] < 32
    · simp (disch := omega) only [cpos, dneg, Bool.false_and]; exact Ev.pure _
    · by_cases c2 : (bytesL s)[i] > 126
      · simp (disch := omega) only [cpos, cneg, dneg, Bool.and_false, Bool.false_and]; exact Ev.pure _
      · simp (disch := omega) only [cpos, cneg, dpos, Bool.and_self, Bool.true_and, wrap_in]
        exact specText_l0 s hs n (i + 1) (by omega)
theorem isPrint_l0 (s : ByteArray) (hs : s.size ≤ 1048576) : ∀ n i : Nat, i + n = s.size → Ev (fun k => impl_isPrintable.l0 k s i) (if ((bytesL s).drop i).all (vis 32) = true then .inr s else .inl false)
  | 0, i, h => by
    refine Ev.step (fun k => by rw [impl_isPrintable.l0]) ?_
    simp (disch := omega) only [cneg]
    rw [List.drop_eq_nil_of_le (by rw [bytesL_len]; omega)]
    exact Ev.pure _
  | n + 1, i, h => by
    have hl := bytesL_len s
    have hi : i < (bytesL s).length := by omega
    refine Ev.step (fun k => by rw [impl_isPrintable.l0]) ?_
    simp (disch := omega) only [cpos, Int.toNat_natCast, bt_bytes s i hi]
    rw [all_bytes hi]
    unfold vis
    by_cases c1 : (bytesL s)[i] < 32
    · simp (disch := omega) only [cpos, dneg, Bool.false_and]; exact Ev.pure _
    · by_cases c2 : (bytesL s)[i] > 126
      · simp (disch := omega) only [cpos, cneg, dneg, Bool.and_false, Bool.false_and]; exact Ev.pure _
      · simp (disch := omega) only [cpos, cneg, dpos, Bool.and_self, Bool.true_and, wrap_in]
        exact isPrint_l0 s hs n (i + 1) (by omega)
def textB (s : ByteArray) : Bool := decide (s.size ≤ 40) && ((bytesL s).all (vis 32) && edge s)
theorem specText_ev (s : ByteArray) : Ev (fun k => spec_l4Text.F k s) (textB s) := by
  unfold spec_l4Text.F textB
  by_cases c : (s.size : Int) > 40
  · simp (disch := omega) only [cpos, dneg, Bool.false_and]
    exact Ev.pure _
  · simp (disch := omega) only [cneg, dpos, Bool.true_and]
    have := specText_l0 s (by omega) s.size 0 (by omega)
    rw [List.drop_zero] at this
    cases h : (bytesL s).all (vis 32) with
    | false => rw [h] at this; exact Ev.bind this (Ev.pure _)
    | true =>
      rw [h] at this
      refine Ev.bind (a := .inr s) this ?_
      dsimp only
      have he : beqS s ⟨#[]⟩ = decide (s.size = 0) := by
        rw [← Bool.not_not (b := beqS s ⟨#[]⟩), size_pos]
        by_cases hz : s.size = 0
        · simp [hz]
        · rw [decide_eq_true (by omega : 0 < s.size), decide_eq_false hz]; rfl
      rw [he]
      unfold edge
      by_cases hz : s.size = 0
      · rw [decide_eq_true hz]; exact Ev.pure _
      · rw [decide_eq_false hz]
        simp (disch := omega) only [cond_false, cond_true, cpos, wrap_in]
        rw [show ((s.size : Int) - 1).toNat = s.size - 1 by omega, show (0 : Int).toNat = 0 from rfl, Bool.false_or, Bool.true_and]
        cases (bt s 0 != 32) with
        | true => exact Ev.pure _
        | false => exact Ev.pure _
theorem isText_ev (s : ByteArray) : Ev (fun k => impl_isText.F k s) (textB s) := by
  unfold impl_isText.F textB
  by_cases c : (s.size : Int) ≤ 40
  · simp (disch := omega) only [cpos, dpos, Bool.true_and]
    refine Ev.bind ?_ (Ev.pure _)
    unfold impl_isPrintable.F
    have := isPrint_l0 s (by omega) s.size 0 (by omega)
    rw [List.drop_zero] at this
    cases h : (bytesL s).all (vis 32) with
    | false => rw [h] at this; exact Ev.bind this (Ev.pure _)
    | true =>
      rw [h] at this
      refine Ev.bind (a := .inr s) this ?_
      dsimp only
      refine Ev.bind0 (edge_trim s (by omega)) ?_
      simp only [edge_eq, Bool.true_and]
      exact Ev.pure _
  · simp (disch := omega) only [cneg, dneg, Bool.false_and]
    exact Ev.pure _

/-! ### Words -/
def pos (s : ByteArray) : Bool := decide (0 < s.size)
def kw (s : ByteArray) : List ByteArray := (words s).filter pos
theorem ext_size {s : ByteArray} {a b : Nat} (h : a ≤ b) (hb : b ≤ s.size) : (s.extract a b).size = b - a := by
  rw [ByteArray.size_extract]; omega
theorem room_s {n : Nat} (h : n ≤ 8192) : room n .str = true := by
  unfold room
  rw [Nat.ble_eq]
  have : nb .str = 16 := rfl
  rw [this]
  omega
theorem fpos_one (s : ByteArray) (a b : Nat) (hab : a ≤ b) (hb : b ≤ s.size) (l : List ByteArray) : (s.extract a b :: l).filter pos = (if a < b then [s.extract a b] else []) ++ l.filter pos := by
  rw [List.filter_cons]
  unfold pos
  rw [ext_size hab hb]
  by_cases c : a < b
  · rw [if_pos c, decide_eq_true (by omega)]; rfl
  · rw [if_neg c, decide_eq_false (by omega)]; rfl
theorem specWords_l0 (s : ByteArray) (hs : s.size ≤ 4000) : ∀ n i : Nat, i + n = s.size → ∀ st : Nat, st ≤ i → (∀ j, st ≤ j → j < i → (L s)[j]? ≠ some 32) → ∀ acc : List ByteArray, acc.length ≤ i → Ev (fun k => spec_l19Words.l0 k s acc st i) (acc ++ (wordsFrom s st).filter pos)
  | 0, i, h, st, h1, hn, acc, ha => by
    have e : wordsFrom s st = [s.extract st s.size] := words_end s st fun j hj => by
      by_cases hj2 : j < i
      · exact hn j hj hj2
      · rw [List.getElem?_eq_none (by rw [L_size]; omega)]; exact fun h => by cases h
    rw [e, fpos_one s st s.size (by omega) (Nat.le_refl _), List.filter_nil, List.append_nil]
    have fin : ∀ acc', Ev (fun k => spec_l19Words.l0 k s acc' ((i : Int) + 1) ((i : Int) + 1)) acc' := fun acc' => by
      refine Ev.step (fun k => by rw [spec_l19Words.l0]) ?_
      simp (disch := omega) only [cneg]
      exact Ev.pure _
    refine Ev.step (fun k => by rw [spec_l19Words.l0]) ?_
    by_cases c : st < i
    · rw [if_pos (by omega)]
      have hr : ∀ x : ByteArray, room (acc.length + ([x] : List ByteArray).length) .str = true := fun x => room_s (by simp; omega)
      simp (disch := omega) only [cpos, ceq, Int.toNat_natCast, hr, cond_true, wrap_in]
      rw [show i = s.size by omega]
      have := fin (acc ++ [s.extract st s.size])
      rw [show i = s.size by omega] at this
      exact this
    · rw [if_neg (by omega), List.append_nil]
      simp (disch := omega) only [cpos, cneg, ceq, wrap_in]
      exact fin acc
  | n + 1, i, h, st, h1, hn, acc, ha => by
    have hi : i < s.size := by omega
    refine Ev.step (fun k => by rw [spec_l19Words.l0]) ?_
    by_cases c : bt s i = 32
    · rw [words_hit s st i h1 hi ((bt_sp hi).1 c) hn, fpos_one s st i h1 (by omega)]
      by_cases c2 : st < i
      · have hr : ∀ x : ByteArray, room (acc.length + ([x] : List ByteArray).length) .str = true := fun x => room_s (by simp; omega)
        rw [if_pos c2, ← List.append_assoc]
        simp (disch := first | exact c | omega) only [cpos, cne, ceq, Int.toNat_natCast, hr, cond_true, wrap_in]
        exact specWords_l0 s hs n (i + 1) (by omega) (i + 1) (Nat.le_refl _) (fun j h1 h2 => by omega) (acc ++ [s.extract st i]) (by simp; omega)
      · rw [if_neg c2, List.nil_append]
        simp (disch := first | exact c | omega) only [cpos, cneg, cne, ceq, Int.toNat_natCast, wrap_in]
        exact specWords_l0 s hs n (i + 1) (by omega) (i + 1) (Nat.le_refl _) (fun j h1 h2 => by omega) acc (by omega)
    · simp (disch := first | exact c | omega) only [cpos, cne, Int.toNat_natCast, wrap_in]
      exact specWords_l0 s hs n (i + 1) (by omega) st (by omega) (fun j h3 h4 => by
        rcases Nat.lt_or_ge j i with h5 | h5
        · exact hn j h3 h5
        · obtain rfl : j = i := by omega
          exact fun e => c ((bt_sp hi).2 e)) acc (by omega)
theorem specWords_ev (s : ByteArray) (hs : s.size ≤ 4000) : Ev (fun k => spec_l19Words.F k s) (kw s) := by
  unfold spec_l19Words.F
  have := specWords_l0 s hs s.size 0 (by omega) 0 (Nat.le_refl _) (fun j h1 h2 => by omega) [] (Nat.le_refl _)
  rw [words_from, List.nil_append] at this
  exact Ev.bind this (Ev.pure _)
theorem notEmpty : (fun x : ByteArray => !beqS x ⟨#[]⟩) = pos := by
  funext x
  rw [size_pos]; rfl
theorem wordsOf_ev (s : ByteArray) (hs : s.size ≤ 4000) : Ev (fun k => impl_wordsOf.F k s) (kw s) := by
  unfold impl_wordsOf.F
  refine Ev.bind0 (split_ev s hs) (Ev.bind (a := kw s) ?_ (Ev.pure _))
  have hlen := (words_len s).2
  have hq : ∀ x, x ∈ words s → Ev (fun k => (fun (_ : Nat) (x : ByteArray) => impl_wordsOf_1.F x) k x) (beqS x ⟨#[]⟩) := fun x _ => Ev.const rfl
  have := delete_ev (d := (⟨#[]⟩ : ByteArray)) (p := fun x => beqS x ⟨#[]⟩) (q := fun _ x => impl_wordsOf_1.F x) (xs := words s) (l0 := slices_DeleteFunc_string_f164.l0) (fun k x0 x5 x6 => by rw [slices_DeleteFunc_string_f164.l0]) hq (by omega) (I := slices_IndexFunc_string_f164.F) (F := slices_DeleteFunc_string_f164.F)
    (idx_ev (d := (⟨#[]⟩ : ByteArray)) (p := fun x => beqS x ⟨#[]⟩) (q := fun _ x => impl_wordsOf_1.F x) (l0 := slices_IndexFunc_string_f164.l0) (fun k x0 x7 x8 => by rw [slices_IndexFunc_string_f164.l0]) hq (by omega) (fun k a0 => rfl)) (fun k a0 => rfl)
  rw [notEmpty] at this
  exact this

/-! ### Words that are omitted -/
def om (s : ByteArray) : Bool := beqS (lowS s) ⟨#[97]⟩ || (beqS (lowS s) ⟨#[97, 110]⟩ || (beqS (lowS s) ⟨#[97, 110, 100]⟩ || (beqS (lowS s) ⟨#[102, 111, 114]⟩ || (beqS (lowS s) ⟨#[105, 110]⟩ || (beqS (lowS s) ⟨#[111, 102]⟩ || (beqS (lowS s) ⟨#[111, 110]⟩ || beqS (lowS s) ⟨#[116, 104, 101]⟩))))))
theorem cb1 (c : Bool) : (bif c then some true else some false) = some c := by cases c <;> rfl
theorem cb2 (c d : Bool) : (bif c then some c else some d) = some (c || d) := by cases c <;> rfl
theorem small_ev (s : ByteArray) (hs : s.size ≤ 1048576) : Ev (fun k => spec_l19Small.F k s) (om s) := by
  unfold spec_l19Small.F om
  refine Ev.bind (specLower_ev s hs) ?_
  simp only [cb1, cb2]
  exact Ev.pure _
theorem omitted_ev (s : ByteArray) (hs : s.size ≤ 1048576) : Ev (fun k => impl_isOmitted.F k s) (om s) := by
  unfold impl_isOmitted.F om
  refine Ev.bind (lower_ev s hs) ?_
  simp only [cb1, cb2]
  exact Ev.pure _

/-! ### What is kept -/
theorem kw_small (s : ByteArray) : ∀ x ∈ kw s, 0 < x.size ∧ x.size ≤ s.size := fun x hx => by
  obtain ⟨h1, h2⟩ := List.mem_filter.1 hx
  exact ⟨by simpa [pos] using h2, words_small _ _ x h1⟩
theorem kw_len (s : ByteArray) : (kw s).length ≤ s.size + 1 := Nat.le_trans (List.length_filter_le _ _) (words_len s).2
theorem kept_l0 (W : List ByteArray) (hW : ∀ x ∈ W, x.size ≤ 4000) (hl : W.length ≤ 4001) : ∀ n i : Nat, i + n = W.length → ∀ acc : List ByteArray, acc.length ≤ i → Ev (fun k => spec_l19Kept.l0 k W acc i) (W, acc ++ (W.drop i).filter fun x => !om x)
  | 0, i, h, acc, ha => by
    refine Ev.step (fun k => by rw [spec_l19Kept.l0]) ?_
    simp (disch := omega) only [cneg]
    rw [List.drop_eq_nil_of_le (by omega), List.filter_nil, List.append_nil]
    exact Ev.pure _
  | n + 1, i, h, acc, ha => by
    have hi : i < W.length := by omega
    refine Ev.step (fun k => by rw [spec_l19Kept.l0]) ?_
    simp (disch := omega) only [cpos, Int.toNat_natCast, getD_at hi]
    have := hW _ (List.getElem_mem hi)
    refine Ev.bind (small_ev _ (by omega)) ?_
    rw [List.drop_eq_getElem_cons hi, List.filter_cons]
    cases ho : om W[i] with
    | true =>
      simp (disch := omega) only [Bool.not_true, cond_false, wrap_in, Bool.false_eq_true, if_false]
      exact kept_l0 W hW hl n (i + 1) (by omega) acc (by omega)
    | false =>
      have hr : room (acc.length + ([W[i]] : List ByteArray).length) .str = true := room_s (by simp; omega)
      simp (disch := omega) only [Bool.not_false, cond_true, cpos, hr, wrap_in, if_true]
      have := kept_l0 W hW hl n (i + 1) (by omega) (acc ++ [W[i]]) (by simp; omega)
      rw [List.append_assoc] at this
      exact this
def toldW (s : ByteArray) : List ByteArray × Bool := if (kw s).length ≤ 1 then (kw s, false) else if ((kw s).filter fun x => !om x).length = 0 then (kw s, true) else ((kw s).filter fun x => !om x, true)
theorem specKept_ev (s : ByteArray) (hs : s.size ≤ 40) : Ev (fun k => spec_l19Kept.F k s) (toldW s) := by
  unfold spec_l19Kept.F
  have hW := kw_small s
  have hl := kw_len s
  have h2 := kept_l0 (kw s) (fun x hx => by have := (hW x hx).2; omega) (by omega) (kw s).length 0 (by omega) [] (Nat.le_refl _)
  rw [List.drop_zero, List.nil_append] at h2
  refine Ev.bind (specWords_ev s (by omega)) (Ev.bind h2 ?_)
  unfold toldW
  by_cases c1 : (kw s).length ≤ 1
  · rw [if_pos c1]
    by_cases c2 : (((kw s).filter fun x => !om x).length : Int) = 0
    · simp (disch := omega) only [ceq, cpos]; exact Ev.pure _
    · simp (disch := omega) only [cne, cpos]; exact Ev.pure _
  · rw [if_neg c1]
    by_cases c2 : ((kw s).filter fun x => !om x).length = 0
    · rw [if_pos c2]
      simp (disch := omega) only [ceq, cneg]; exact Ev.pure _
    · rw [if_neg c2]
      simp (disch := omega) only [cne, cneg]; exact Ev.pure _
theorem told_ev (s : ByteArray) (hs : s.size ≤ 40) : Ev (fun k => impl_told.F k s) (toldW s) := by
  unfold impl_told.F toldW
  have hW := kw_small s
  have hl := kw_len s
  refine Ev.bind (wordsOf_ev s (by omega)) ?_
  by_cases c1 : (kw s).length ≤ 1
  · rw [if_pos c1]
    simp (disch := omega) only [cpos]
    exact Ev.pure _
  · rw [if_neg c1]
    simp (disch := omega) only [cneg]
    have hc : slices_Clone_string.F (kw s) = some (kw s) := by
      unfold slices_Clone_string.F xClone
      rw [Nat.ble_eq_true_of_le (by omega)]
      rfl
    refine Ev.bind0 hc ?_
    have hq : ∀ x, x ∈ kw s → Ev (fun k => impl_isOmitted.F k x) (om x) := fun x hx => omitted_ev x (by have := (hW x hx).2; omega)
    refine Ev.bind (delete_ev (d := (⟨#[]⟩ : ByteArray)) (p := om) (q := impl_isOmitted.F) (xs := kw s) (l0 := slices_DeleteFunc_string_f130.l0) (fun k x0 x5 x6 => by rw [slices_DeleteFunc_string_f130.l0]) hq (by omega) (I := slices_IndexFunc_string_f130.F) (F := slices_DeleteFunc_string_f130.F)
      (idx_ev (d := (⟨#[]⟩ : ByteArray)) (p := om) (q := impl_isOmitted.F) (l0 := slices_IndexFunc_string_f130.l0) (fun k x0 x7 x8 => by rw [slices_IndexFunc_string_f130.l0]) hq (by omega) (fun k a0 => rfl)) (fun k a0 => rfl)) ?_
    by_cases c2 : ((kw s).filter fun x => !om x).length = 0
    · rw [if_pos c2]
      simp (disch := omega) only [ceq]; exact Ev.pure _
    · rw [if_neg c2]
      simp (disch := omega) only [cne]; exact Ev.pure _
theorem told_small (s : ByteArray) : (∀ x ∈ (toldW s).1, 0 < x.size ∧ x.size ≤ s.size) ∧ (toldW s).1.length ≤ s.size + 1 := by
  have hW := kw_small s
  have hl := kw_len s
  have hf := List.length_filter_le (fun x => !om x) (kw s)
  unfold toldW
  split
  · exact ⟨hW, hl⟩
  · split
    · exact ⟨hW, hl⟩
    · exact ⟨fun x hx => hW x (List.mem_filter.1 hx).1, by show ((kw s).filter fun x => !om x).length ≤ _; omega⟩
end Go.Proofs.YtnffgabfibafjaaGreatDoor
end
section
/- Plain laws: a text, abbreviated. -/
namespace Go.Proofs.YtnffgabfibafjaaGreatDoor
open Go.Gx
set_option linter.unusedVariables false
set_option linter.unusedSimpArgs false

/-! ### Words put together -/
theorem tail_cons (x : List UInt8) (r : List (List UInt8)) : Lib.joinTail [32] (x :: r) = 32 :: (x ++ Lib.joinTail [32] r) := by simp [Lib.joinTail]
theorem e32 : (⟨#[32]⟩ : ByteArray).size = 1 := rfl
theorem L32 : L ⟨#[32]⟩ = [32] := rfl
theorem join_l0 (W : List ByteArray) (hW : ∀ x ∈ W, x.size ≤ 1048576) (hl : W.length ≤ 8192) : ∀ n i : Nat, i + n = W.length → 1 ≤ i → ∀ acc : ByteArray, acc.size ≤ 1048577 * i →
    ∃ r, Ev (fun k => spec_l6Join.l0 k W acc i) r ∧ L r = L acc ++ Lib.joinTail [32] ((W.drop i).map L) ∧ r.size ≤ 1048577 * W.length
  | 0, i, h, h0, acc, ha => by
    refine ⟨acc, Ev.step (fun k => by rw [spec_l6Join.l0]) ?_, ?_, by rw [show W.length = i by omega]; exact ha⟩
    · simp (disch := omega) only [cneg]; exact Ev.pure _
    · rw [List.drop_eq_nil_of_le (by omega)]; simp [Lib.joinTail]
  | n + 1, i, h, h0, acc, ha => by
    have hi : i < W.length := by omega
    have hx := hW _ (List.getElem_mem hi)
    obtain ⟨r, r1, r2, r3⟩ := join_l0 W hW hl n (i + 1) (by omega) (by omega) (acc ++ ⟨#[32]⟩ ++ W[i]) (by rw [size_app, size_app, e32]; omega)
    refine ⟨r, Ev.step (fun k => by rw [spec_l6Join.l0]) ?_, ?_, r3⟩
    · simp (disch := (try simp only [size_app, e32]); omega) only [cpos, Int.toNat_natCast, getD_at hi, cble, wrap_in]
      exact r1
    · rw [r2, List.drop_eq_getElem_cons hi, List.map_cons, tail_cons, L_append, L_append, L32]
      simp
theorem join_ev (W : List ByteArray) (hW : ∀ x ∈ W, x.size ≤ 1048576) (hl : W.length ≤ 8192) : ∃ r, Ev (fun k => spec_l6Join.F k W) r ∧ strings_Join.F W ⟨#[32]⟩ = some r ∧ L r = Lib.join (W.map L) [32] := by
  have key : ∃ r, Ev (fun k => spec_l6Join.F k W) r ∧ L r = Lib.join (W.map L) [32] ∧ r.size ≤ 1048577 * W.length := by
    unfold spec_l6Join.F
    match W, hW, hl with
    | [], _, _ =>
      refine ⟨⟨#[]⟩, Ev.bind (a := ⟨#[]⟩) ?_ (Ev.pure _), rfl, Nat.zero_le _⟩
      refine Ev.step (fun k => by rw [spec_l6Join.l0]) ?_
      exact Ev.pure _
    | x :: W, hW, hl =>
      have hx := hW x List.mem_cons_self
      have e00 : ∀ t : ByteArray, (⟨#[]⟩ : ByteArray) ++ t = t := fun t => L_inj (by rw [L_append]; rfl)
      have e0 : (⟨#[]⟩ : ByteArray).size = 0 := rfl
      obtain ⟨r, r1, r2, r3⟩ := join_l0 (x :: W) hW hl W.length 1 (by rw [List.length_cons]; omega) (Nat.le_refl _) x (by omega)
      refine ⟨r, Ev.bind (a := r) ?_ (Ev.pure _), ?_, r3⟩
      · refine Ev.step (fun k => by rw [spec_l6Join.l0]) ?_
        have r1' : Ev (fun k => spec_l6Join.l0 k (x :: W) x (0 + 1)) r := r1
        have hlen : (0 : Int) < ((x :: W).length : Int) := by rw [List.length_cons]; omega
        have hg : (x :: W).getD (0 : Int).toNat (⟨#[]⟩ : ByteArray) = x := rfl
        simp (disch := (try simp only [e0]); omega) only [cpos, cneg, hg, e00, cble, wrap_in]
        exact r1'
      · rw [r2, List.map_cons, Lib.join_cons]; rfl
  obtain ⟨r, r1, r2, r3⟩ := key
  refine ⟨r, r1, ?_, r2⟩
  unfold strings_Join.F xJoin
  have e1 : Lib.join (W.map (·.data.toList)) (⟨#[32]⟩ : ByteArray).data.toList = L r := by rw [r2]; rfl
  rw [e1, Nat.ble_eq_true_of_le (by omega), Nat.ble_eq_true_of_le (by rw [L_size]; omega)]
  show some _ = some r
  congr 1
/-! ### A list, changed from its begin -/
def ms {α : Type} (f : α → α) (W : List α) (i : Nat) : List α := (W.take i).map f ++ W.drop i
section
variable {α : Type} (f : α → α) (W : List α)
theorem ms_len (i : Nat) : (ms f W i).length = W.length := by unfold ms; simp; omega
theorem ms_zero : ms f W 0 = W := by simp [ms]
theorem ms_all : ms f W W.length = W.map f := by simp [ms]
theorem ms_at {i : Nat} (h : i < W.length) (d : α) : (ms f W i).getD i d = W[i] := by
  unfold ms
  rw [List.getD_eq_getElem?_getD, List.getElem?_append_right (by simp; omega)]
  simp [Nat.min_eq_left (Nat.le_of_lt h), h]
theorem ms_set {i : Nat} (h : i < W.length) : (ms f W i).set i (f W[i]) = ms f W (i + 1) := by
  unfold ms
  rw [List.set_append_right _ _ (by simp; omega)]
  simp only [List.length_map, List.length_take, Nat.min_eq_left (Nat.le_of_lt h), Nat.sub_self]
  rw [List.drop_eq_getElem_cons h, List.set_cons_zero, List.take_add_one, List.getElem?_eq_getElem h]
  simp only [Option.toList_some, List.map_append, List.map_cons, List.map_nil, List.append_assoc, List.cons_append, List.nil_append]
end
/-! ### The short forms -/
open Classical in
noncomputable def shW (xs : List Abbr) (s : ByteArray) : ByteArray := if h : ∃ r, Ev (fun k => spec_l19Short.F k xs s) r ∧ Ev (fun k => impl_shortWord.F k xs s) r ∧ r.size ≤ 1048576 then h.choose else s
theorem shW_ev (xs : List Abbr) (hs : smalls xs) (s : ByteArray) (h0 : 0 < s.size) (h1 : s.size ≤ 1048576) : Ev (fun k => spec_l19Short.F k xs s) (shW xs s) ∧ Ev (fun k => impl_shortWord.F k xs s) (shW xs s) ∧ (shW xs s).size ≤ 1048576 := by
  have h := short_ev xs hs s h0 h1
  unfold shW
  rw [dif_pos h]
  exact h.choose_spec
theorem specShorts_l0 (xs : List Abbr) (hs : smalls xs) (W : List ByteArray) (hW : ∀ x ∈ W, 0 < x.size ∧ x.size ≤ 1048576) (hl : W.length ≤ 8192) : ∀ n i : Nat, i + n = W.length → ∀ acc : List ByteArray, acc.length ≤ i → Ev (fun k => spec_l19Title.l0 k xs W acc i) (acc ++ (W.drop i).map (shW xs))
  | 0, i, h, acc, ha => by
    refine Ev.step (fun k => by rw [spec_l19Title.l0]) ?_
    simp (disch := omega) only [cneg]
    rw [List.drop_eq_nil_of_le (by omega), List.map_nil, List.append_nil]
    exact Ev.pure _
  | n + 1, i, h, acc, ha => by
    have hi : i < W.length := by omega
    obtain ⟨h1, h2⟩ := hW _ (List.getElem_mem hi)
    refine Ev.step (fun k => by rw [spec_l19Title.l0]) ?_
    simp (disch := omega) only [cpos, Int.toNat_natCast, getD_at hi]
    refine Ev.bind (shW_ev xs hs _ h1 h2).1 ?_
    have hr : room (acc.length + ([shW xs W[i]] : List ByteArray).length) .str = true := room_s (by simp; omega)
    simp (disch := omega) only [hr, cond_true, wrap_in]
    have := specShorts_l0 xs hs W hW hl n (i + 1) (by omega) (acc ++ [shW xs W[i]]) (by simp; omega)
    rw [List.append_assoc] at this
    rw [List.drop_eq_getElem_cons hi, List.map_cons]
    exact this
theorem shorts_l0 (xs : List Abbr) (hs : smalls xs) (W : List ByteArray) (hW : ∀ x ∈ W, 0 < x.size ∧ x.size ≤ 1048576) (hl : W.length ≤ 8192) : ∀ n i : Nat, i + n = W.length → Ev (fun k => impl_abbreviateTitle.l0 k xs (ms (shW xs) W i) W.length i) (W.map (shW xs))
  | 0, i, h => by
    refine Ev.step (fun k => by rw [impl_abbreviateTitle.l0]) ?_
    simp (disch := omega) only [cneg]
    rw [show i = W.length by omega, ms_all]
    exact Ev.pure _
  | n + 1, i, h => by
    have hi : i < W.length := by omega
    have hm := ms_len (shW xs) W i
    obtain ⟨h1, h2⟩ := hW _ (List.getElem_mem hi)
    refine Ev.step (fun k => by rw [impl_abbreviateTitle.l0]) ?_
    simp (disch := omega) only [cpos, Int.toNat_natCast, ms_at (shW xs) W hi]
    refine Ev.bind (shW_ev xs hs _ h1 h2).2.1 ?_
    simp (disch := omega) only [cpos, ms_set (shW xs) W hi, wrap_in]
    exact shorts_l0 xs hs W hW hl n (i + 1) (by omega)

/-! ### A single word -/
theorem some_word (s : ByteArray) (hl : bt s (s.size - 1) ≠ 32) : ∀ n i : Nat, i + n = s.size → ∀ st : Nat, st ≤ i → st < s.size → (∀ j, st ≤ j → j < i → (L s)[j]? ≠ some 32) → 0 < ((wordsFrom s st).filter pos).length
  | 0, i, h, st, h1, h2, hn => by
    rw [words_end s st fun j hj => by
      by_cases hj2 : j < i
      · exact hn j hj hj2
      · rw [List.getElem?_eq_none (by rw [L_size]; omega)]; exact fun h => by cases h]
    rw [fpos_one s st s.size (by omega) (Nat.le_refl _), if_pos h2]
    simp
  | n + 1, i, h, st, h1, h2, hn => by
    have hi : i < s.size := by omega
    by_cases c : bt s i = 32
    · have hi2 : i + 1 < s.size := by
        rcases Nat.lt_or_ge (i + 1) s.size with h3 | h3
        · exact h3
        · exact absurd (by rw [show s.size - 1 = i by omega]; exact c) hl
      rw [words_hit s st i h1 hi ((bt_sp hi).1 c) hn, fpos_one s st i h1 (by omega)]
      have := some_word s hl n (i + 1) (by omega) (i + 1) (Nat.le_refl _) hi2 (fun j h1 h2 => by omega)
      simp; omega
    · exact some_word s hl n (i + 1) (by omega) st (by omega) h2 (fun j h3 h4 => by
        rcases Nat.lt_or_ge j i with h5 | h5
        · exact hn j h3 h5
        · obtain rfl : j = i := by omega
          exact fun e => c ((bt_sp hi).2 e))
theorem one_word (s : ByteArray) (hl : bt s (s.size - 1) ≠ 32) : ∀ n i : Nat, i + n = s.size → 1 ≤ i → (∀ j, j < i → (L s)[j]? ≠ some 32) → ((wordsFrom s 0).filter pos).length ≤ 1 → (wordsFrom s 0).filter pos = [s]
  | 0, i, h, h0, hn, hlen => by
    rw [words_end s 0 fun j hj => by
      by_cases hj2 : j < i
      · exact hn j hj2
      · rw [List.getElem?_eq_none (by rw [L_size]; omega)]; exact fun h => by cases h]
    rw [fpos_one s 0 s.size (by omega) (Nat.le_refl _), if_pos (by omega), sub_self]
    rfl
  | n + 1, i, h, h0, hn, hlen => by
    have hi : i < s.size := by omega
    by_cases c : bt s i = 32
    · have hi2 : i + 1 < s.size := by
        rcases Nat.lt_or_ge (i + 1) s.size with h3 | h3
        · exact h3
        · exact absurd (by rw [show s.size - 1 = i by omega]; exact c) hl
      rw [words_hit s 0 i (by omega) hi ((bt_sp hi).1 c) (fun j _ h => hn j h), fpos_one s 0 i (by omega) (by omega), if_pos (by omega)] at hlen
      have := some_word s hl n (i + 1) (by omega) (i + 1) (Nat.le_refl _) hi2 (fun j h1 h2 => by omega)
      rw [List.length_append, List.length_singleton] at hlen
      omega
    · exact one_word s hl n (i + 1) (by omega) (by omega) (fun j h4 => by
        rcases Nat.lt_or_ge j i with h5 | h5
        · exact hn j h5
        · obtain rfl : j = i := by omega
          exact fun e => c ((bt_sp hi).2 e)) hlen
theorem kw_one (s : ByteArray) (he : edge s = true) (hl : (kw s).length ≤ 1) : Lib.join ((kw s).map L) [32] = L s := by
  unfold kw at hl ⊢
  rw [← words_from] at hl ⊢
  unfold edge at he
  by_cases hz : s.size = 0
  · rw [words_end s 0 fun j hj => by rw [List.getElem?_eq_none (by rw [L_size]; omega)]; exact fun h => by cases h]
    rw [fpos_one s 0 s.size (by omega) (Nat.le_refl _), if_neg (by omega)]
    have : L s = [] := List.eq_nil_of_length_eq_zero hz
    rw [this]; rfl
  · rw [decide_eq_false hz, Bool.false_or, Bool.and_eq_true, bne_iff_ne, bne_iff_ne] at he
    rw [one_word s he.2 (s.size - 1) 1 (by omega) (Nat.le_refl _) (fun j hj => by
      obtain rfl : j = 0 := by omega
      exact fun e => he.1 ((bt_sp (by omega)).2 e)) hl]
    simp [Lib.join_one]

/-! ### The title -/
theorem title_ev (xs : List Abbr) (hs : smalls xs) (s : ByteArray) (ht : textB s = true) : ∃ r, Ev (fun k => spec_l19Title.F k xs s) r ∧ Ev (fun k => impl_abbreviateTitle.F k xs s) r := by
  unfold textB at ht
  simp only [Bool.and_eq_true, decide_eq_true_eq] at ht
  obtain ⟨h40, _, he⟩ := ht
  obtain ⟨hW, hl⟩ := told_small s
  have k1 := specKept_ev s h40
  have k2 := told_ev s h40
  unfold spec_l19Title.F impl_abbreviateTitle.F
  cases hb : (toldW s).2 with
  | false =>
    have hk : toldW s = (kw s, false) ∧ (kw s).length ≤ 1 := by
      unfold toldW at hb ⊢
      split at hb
      · rename_i c; rw [if_pos c]; exact ⟨rfl, c⟩
      · split at hb <;> cases hb
    obtain ⟨r, r1, r2, r3⟩ := join_ev (toldW s).1 (fun x hx => by have := (hW x hx).2; omega) (by omega)
    have : r = s := L_inj (by rw [r3, hk.1, kw_one s he hk.2])
    subst this
    refine ⟨r, Ev.bind k1 ?_, Ev.bind k2 ?_⟩
    · rw [hb]; exact Ev.pure _
    · rw [hb]; exact Ev.bind0 r2 (Ev.pure _)
  | true =>
    have hW' : ∀ x ∈ (toldW s).1, 0 < x.size ∧ x.size ≤ 1048576 := fun x hx => by have := hW x hx; omega
    have s1 := specShorts_l0 xs hs (toldW s).1 hW' (by omega) (toldW s).1.length 0 (by omega) [] (Nat.le_refl _)
    have s2 := shorts_l0 xs hs (toldW s).1 hW' (by omega) (toldW s).1.length 0 (by omega)
    rw [List.drop_zero, List.nil_append] at s1
    rw [ms_zero] at s2
    obtain ⟨r, r1, r2, r3⟩ := join_ev ((toldW s).1.map (shW xs)) (fun x hx => by
      obtain ⟨y, hy, rfl⟩ := List.mem_map.1 hx
      obtain ⟨h1, h2⟩ := hW' y hy
      exact (shW_ev xs hs y h1 h2).2.2) (by rw [List.length_map]; omega)
    refine ⟨r, Ev.bind k1 ?_, Ev.bind k2 ?_⟩
    · rw [hb]; exact Ev.bind s1 (Ev.bind r1 (Ev.pure _))
    · rw [hb]; exact Ev.bind s2 (Ev.bind0 r2 (Ev.pure _))
end Go.Proofs.YtnffgabfibafjaaGreatDoor
end
section
/- Plain laws: lists of titles. -/
namespace Go.Proofs.YtnffgabfibafjaaGreatDoor
open Go.Gx
set_option linter.unusedVariables false
set_option linter.unusedSimpArgs false

open Classical in
noncomputable def tW (xs : List Abbr) (s : ByteArray) : ByteArray := if h : ∃ r, Ev (fun k => spec_l19Title.F k xs s) r ∧ Ev (fun k => impl_abbreviateTitle.F k xs s) r then h.choose else s
theorem tW_ev (xs : List Abbr) (hs : smalls xs) (s : ByteArray) (ht : textB s = true) : Ev (fun k => spec_l19Title.F k xs s) (tW xs s) ∧ Ev (fun k => impl_abbreviateTitle.F k xs s) (tW xs s) := by
  have h := title_ev xs hs s ht
  unfold tW
  rw [dif_pos h]
  exact h.choose_spec
def titlesB (ts : List ByteArray) : Bool := ts.all textB && decide (ts.length ≤ 20)
theorem titlesB_all {ts : List ByteArray} (h : titlesB ts = true) : (∀ t ∈ ts, textB t = true) ∧ ts.length ≤ 20 := by
  unfold titlesB at h
  rw [Bool.and_eq_true, decide_eq_true_eq, List.all_eq_true] at h
  exact h
theorem specTitles_l0 (ts : List ByteArray) (hl : ts.length ≤ 1048576) : ∀ n i : Nat, i + n = ts.length → Ev (fun k => spec_l19Titles.l0 k ts i) (if (ts.drop i).all textB = true then .inr ts else .inl false)
  | 0, i, h => by
    refine Ev.step (fun k => by rw [spec_l19Titles.l0]) ?_
    simp (disch := omega) only [cneg]
    rw [List.drop_eq_nil_of_le (by omega)]
    exact Ev.pure _
  | n + 1, i, h => by
    have hi : i < ts.length := by omega
    refine Ev.step (fun k => by rw [spec_l19Titles.l0]) ?_
    simp (disch := omega) only [cpos, Int.toNat_natCast, getD_at hi]
    refine Ev.bind (specText_ev _) ?_
    rw [List.drop_eq_getElem_cons hi, List.all_cons]
    cases textB ts[i] with
    | false => exact Ev.pure _
    | true =>
      simp (disch := omega) only [Bool.not_true, cond_false, Bool.true_and, wrap_in]
      exact specTitles_l0 ts hl n (i + 1) (by omega)
theorem specTitles_ev (ts : List ByteArray) (hl : ts.length ≤ 1048576) : Ev (fun k => spec_l19Titles.F k ts) (titlesB ts) := by
  unfold spec_l19Titles.F titlesB
  have := specTitles_l0 ts hl ts.length 0 (by omega)
  rw [List.drop_zero] at this
  cases h : ts.all textB with
  | false => rw [h] at this; exact Ev.bind this (Ev.pure _)
  | true =>
    rw [h] at this
    refine Ev.bind this ((Ev.pure _).eq ?_)
    rw [Bool.true_and]
    exact decide_eq_decide.2 (by omega)
theorem areTitles_ev (xs : List Abbr) (hs : smalls xs) (ts : List ByteArray) (hl : ts.length ≤ 1048576) : Ev (fun k => impl_areTitles.F k xs ts) (validA xs && titlesB ts) := by
  have v2 := validImpl_ev xs hs
  unfold impl_areTitles.F titlesB
  cases hv : validA xs with
  | false => rw [hv] at v2; exact Ev.bind v2 (Ev.pure _)
  | true =>
    rw [hv] at v2
    refine Ev.bind v2 ?_
    simp only [cond_true, Bool.true_and]
    by_cases c : ts.length ≤ 20
    · simp (disch := omega) only [cpos, dpos, Bool.and_true]
      have hq : ∀ x, x ∈ ts → Ev (fun k => impl_areTitles_1.F k x) (!textB x) := fun x _ => by
        unfold impl_areTitles_1.F
        exact Ev.bind (isText_ev x) (Ev.pure _)
      obtain ⟨r, h1, h2⟩ := idx_ev (d := (⟨#[]⟩ : ByteArray)) (p := fun x => !textB x) (q := impl_areTitles_1.F) (xs := ts) (l0 := slices_IndexFunc_string_f100.l0) (fun k x0 x7 x8 => by rw [slices_IndexFunc_string_f100.l0]) hq (by omega) (F := slices_IndexFunc_string_f100.F) (fun k a0 => rfl)
      refine Ev.bind (a := !ts.all textB) ?_ ?_
      · unfold slices_ContainsFunc_string_f100.F
        refine Ev.bind h1 ((Ev.pure _).eq ?_)
        rcases h2 with ⟨rfl, h2⟩ | ⟨j, rfl, hj, hp, _⟩
        · have : ts.all textB = true := List.all_eq_true.2 fun x hx => by have := h2 x hx; simpa using this
          rw [this]; rfl
        · have : ts.all textB = false := by
            rw [List.all_eq_false]
            refine ⟨ts[j], List.getElem_mem hj, ?_⟩
            rw [getD_at hj] at hp
            simpa using hp
          rw [this, decide_eq_true (by omega)]; rfl
      · rw [Bool.not_not]; exact Ev.pure _
    · simp (disch := omega) only [cneg, dneg, Bool.and_false]
      exact Ev.pure _
end Go.Proofs.YtnffgabfibafjaaGreatDoor
end
section
/- Plain laws: sizes, copies, equality, marks of lists of texts and of numbers. -/
namespace Go.Proofs.YtnffgabfibafjaaGreatDoor
open Go.Gx
set_option linter.unusedVariables false
set_option linter.unusedSimpArgs false

/-! ### Sizes and copies -/
def totS (xs : List ByteArray) : Nat := (xs.map ByteArray.size).sum
theorem szS_l0 (xs : List ByteArray) (hw : WF (.sl .str) xs) (hlen : xs.length ≤ 1048576) : ∀ n i : Nat, i + n = xs.length → ∀ l : Int, 0 ≤ l → l ≤ 1048576 →
    Ev (fun k => laws_szStringS.l0 k xs l i) (if l - totS (xs.drop i) < 0 then .inl (-1) else .inr (l - totS (xs.drop i)))
  | 0, i, h, l, h0, h1 => by
    refine Ev.step (fun k => by rw [laws_szStringS.l0]) ?_
    simp (disch := omega) only [cneg]
    rw [List.drop_eq_nil_of_le (by omega)]
    simp only [totS, List.map_nil, List.sum_nil]
    rw [if_neg (by omega)]
    exact (Ev.pure _).eq (by congr 1; omega)
  | n + 1, i, h, l, h0, h1 => by
    have hi : i < xs.length := by omega
    have hwi : xs[i].size ≤ 9223372036854775807 := by cases hw with | sl _ _ _ h => exact wf_str (h i hi)
    have hd : totS (xs.drop i) = xs[i].size + totS (xs.drop (i + 1)) := by
      rw [List.drop_eq_getElem_cons hi]; unfold totS; rw [List.map_cons, List.sum_cons]
    refine Ev.step (fun k => by rw [laws_szStringS.l0]) ?_
    simp (disch := omega) only [cpos, Int.toNat_natCast, getD_at hi]
    by_cases c : l - (xs[i].size : Int) < 0
    · simp (disch := omega) only [wrap_in, cpos]
      rw [if_pos (by omega)]
      exact Ev.pure _
    · simp (disch := omega) only [wrap_in, cneg]
      have := szS_l0 xs hw hlen n (i + 1) (by omega) (l - xs[i].size) (by omega) (by omega)
      refine this.eq ?_
      rw [hd]
      by_cases c2 : l - (xs[i].size : Int) - (totS (xs.drop (i + 1)) : Int) < 0
      · rw [if_pos c2, if_pos (by omega)]
      · rw [if_neg c2, if_neg (by omega)]; congr 1; omega
theorem szS_ev (xs : List ByteArray) (l : Int) (h0 : 0 ≤ l) (h1 : l ≤ 1048576) (hw : WF (.sl .str) xs) : ∃ r, Ev (fun k => laws_szStringS.F k xs l) r ∧ (0 ≤ r → (xs.length : Int) + totS xs + r = l) := by
  have hl : xs.length ≤ 9223372036854775807 := wf_len hw
  unfold laws_szStringS.F
  by_cases c : l - (xs.length : Int) < 0
  · simp (disch := omega) only [wrap_in, cpos]
    exact ⟨-1, Ev.pure _, fun h => by omega⟩
  · simp (disch := omega) only [wrap_in, cneg]
    have := szS_l0 xs hw (by omega) xs.length 0 (by omega) (l - xs.length) (by omega) (by omega)
    simp only [List.drop_zero] at this
    by_cases c2 : l - (xs.length : Int) - (totS xs : Int) < 0
    · rw [if_pos c2] at this
      exact ⟨-1, Ev.bind this (Ev.pure _), fun h => by omega⟩
    · rw [if_neg c2] at this
      exact ⟨l - (xs.length : Int) - (totS xs : Int), Ev.bind this (Ev.pure _), fun h => by omega⟩
theorem totS_mem {xs : List ByteArray} {x : ByteArray} (h : x ∈ xs) : x.size ≤ totS xs := by
  unfold totS
  induction xs with
  | nil => cases h
  | cons b l ih =>
    simp only [List.map_cons, List.sum_cons]
    rcases List.mem_cons.1 h with rfl | h
    · omega
    · have := ih h; omega
theorem toS_l0 (xs : List ByteArray) (hlen : xs.length ≤ 1048576) : ∀ n i : Nat, i + n = xs.length → ∀ ys : List ByteArray, ys.length = xs.length → ys.take i = xs.take i → Ev (fun k => laws_toStringS.l0 k xs ys i) xs
  | 0, i, h, ys, hy, ht => by
    refine Ev.step (fun k => by rw [laws_toStringS.l0]) ?_
    simp (disch := omega) only [cneg]
    have : ys = xs := by
      rw [List.take_of_length_le (by omega), List.take_of_length_le (by omega)] at ht
      exact ht
    rw [this]; exact Ev.pure _
  | n + 1, i, h, ys, hy, ht => by
    have hi : i < xs.length := by omega
    refine Ev.step (fun k => by rw [laws_toStringS.l0]) ?_
    simp (disch := omega) only [cpos, Int.toNat_natCast, getD_at hi, wrap_in]
    exact toS_l0 xs hlen n (i + 1) (by omega) (ys.set i xs[i]) (by simpa using hy) (by
      rw [List.take_add_one, List.take_add_one, List.take_set_of_le (Nat.le_refl i), ht]
      simp [show i < ys.length by omega, hi])
theorem toS_ev (xs : List ByteArray) (hlen : xs.length ≤ 1048576) : Ev (fun k => laws_toStringS.F k xs) xs := by
  unfold laws_toStringS.F
  have hn : nb .str = 16 := rfl
  simp (disch := first | omega | (simp only [hn, Int.toNat_natCast]; omega)) only [ceq, cpos, cble]
  exact Ev.bind (a := xs) (toS_l0 xs hlen xs.length 0 (by omega) _ (by simp) (by simp)) (Ev.pure _)
/-! ### Marks -/
theorem eqS_l0 (xs : List ByteArray) (hlen : xs.length ≤ 1048576) : ∀ n i : Nat, i + n = xs.length → Ev (fun k => laws_eqStringS.l0 k xs xs i) (.inr ())
  | 0, i, h => by
    refine Ev.step (fun k => by rw [laws_eqStringS.l0]) ?_
    simp (disch := omega) only [cneg]
    exact Ev.pure _
  | n + 1, i, h => by
    refine Ev.step (fun k => by rw [laws_eqStringS.l0]) ?_
    simp (disch := omega) only [cpos, Int.toNat_natCast, beqS_self, Bool.not_true, cond_false, wrap_in]
    exact eqS_l0 xs hlen n (i + 1) (by omega)
theorem eqS_ev (xs : List ByteArray) (hlen : xs.length ≤ 1048576) : Ev (fun k => laws_eqStringS.F k xs xs) true := by
  unfold laws_eqStringS.F
  simp (disch := omega) only [cbeq]
  exact Ev.bind (eqS_l0 xs hlen xs.length 0 (by omega)) (Ev.pure _)
theorem markText_l0 : ∀ n : Nat, n ≤ 2097152 → ∀ s : ByteArray, s.size + n ≤ 9223372036854775806 → ∃ r, Ev (fun k => laws_markText.l0 k (n : Int) s) r ∧ r.size ≤ s.size + n := fun n => by
  induction n using Nat.strongRecOn with
  | ind n ih =>
    intro hn s hs
    by_cases c : n = 0
    · refine ⟨s, Ev.step (fun k => by rw [laws_markText.l0]) ?_, by omega⟩
      simp (disch := omega) only [cneg]
      exact Ev.pure _
    · have ed : Int.tdiv (n : Int) 10 = ((n / 10 : Nat) : Int) := by
        rw [Int.tdiv_eq_ediv_of_nonneg (by omega)]; omega
      have e1 : ∀ v : Int, (strL ([v] : List Int)).size = 1 := fun v => rfl
      obtain ⟨r, r1, r2⟩ := ih (n / 10) (by omega) (by omega) (strL ([IntKind.wrap .u8 (IntKind.wrap .i64 (48 + Int.tmod (n : Int) 10))] : List Int) ++ s) (by rw [size_app, e1]; omega)
      rw [size_app, e1] at r2
      refine ⟨r, Ev.step (fun k => by rw [laws_markText.l0]) ?_, by omega⟩
      have w1 : IntKind.wrap .i64 (Int.tdiv (n : Int) 10) = ((n / 10 : Nat) : Int) := by rw [ed, wrap_in (by omega) (by omega)]
      have hz : ((10 : Nat) == 0) = false := rfl
      rw [w1, hz]
      simp only [cond_false]
      simp (disch := (try simp only [e1]); omega) only [cpos, cble]
      exact r1
theorem markText_ev (n : Nat) (hn : n ≤ 2097152) : ∃ r, Ev (fun k => laws_markText.F k (n : Int)) r := by
  unfold laws_markText.F
  by_cases c : n = 0
  · refine ⟨⟨#[109, 48]⟩, ?_⟩
    simp (disch := omega) only [cpos]
    exact Ev.pure _
  · obtain ⟨r, r1, r2⟩ := markText_l0 n hn ⟨#[]⟩ (by rw [show (⟨#[]⟩ : ByteArray).size = 0 from rfl]; omega)
    have e0 : (⟨#[]⟩ : ByteArray).size = 0 := rfl
    have e1 : (⟨#[109]⟩ : ByteArray).size = 1 := rfl
    refine ⟨⟨#[109]⟩ ++ r, ?_⟩
    simp (disch := omega) only [cneg]
    refine Ev.bind r1 ?_
    simp (disch := omega) only [e1, cble]
    exact Ev.pure _
open Classical in
noncomputable def mt (n : Nat) : ByteArray := if h : ∃ r, Ev (fun k => laws_markText.F k (n : Int)) r then h.choose else ⟨#[]⟩
theorem mt_ev (n : Nat) (hn : n ≤ 2097152) : Ev (fun k => laws_markText.F k (n : Int)) (mt n) := by
  have h := markText_ev n hn
  unfold mt
  rw [dif_pos h]
  exact h.choose_spec
noncomputable def marks (i : Nat) : List ByteArray := (List.range i).map fun j => mt (j + 1)
theorem marks_len (i : Nat) : (marks i).length = i := by simp [marks]
theorem mark_l0 (xs : List ByteArray) (hlen : xs.length ≤ 1048576) : ∀ n i : Nat, i + n = xs.length → Ev (fun k => laws_markStringS.l0 k (marks i ++ xs.drop i) ((1 + i : Nat) : Int) i) (marks xs.length, ((1 + xs.length : Nat) : Int))
  | 0, i, h => by
    have hl : (marks i ++ xs.drop i).length = xs.length := by rw [List.length_append, marks_len, List.length_drop]; omega
    refine Ev.step (fun k => by rw [laws_markStringS.l0]) ?_
    simp (disch := omega) only [cneg]
    rw [List.drop_eq_nil_of_le (by omega), List.append_nil, show i = xs.length by omega]
    exact Ev.pure _
  | n + 1, i, h => by
    have hi : i < xs.length := by omega
    have hl : (marks i ++ xs.drop i).length = xs.length := by rw [List.length_append, marks_len, List.length_drop]; omega
    refine Ev.step (fun k => by rw [laws_markStringS.l0]) ?_
    simp (disch := omega) only [cpos, Int.toNat_natCast]
    refine Ev.bind (mt_ev (1 + i) (by omega)) ?_
    have e : (marks i ++ xs.drop i).set i (mt (1 + i)) = marks (i + 1) ++ xs.drop (i + 1) := by
      rw [List.set_append_right _ _ (by rw [marks_len]; exact Nat.le_refl _), marks_len, Nat.sub_self, List.drop_eq_getElem_cons hi, List.set_cons_zero]
      unfold marks
      rw [List.range_succ, List.map_append, List.append_assoc, Nat.add_comm 1]
      rfl
    simp (disch := omega) only [wrap_in, e]
    rw [show (((1 + i : Nat) : Int) + 1) = ((1 + (i + 1) : Nat) : Int) by omega]
    exact mark_l0 xs hlen n (i + 1) (by omega)
theorem mark_ev (xs : List ByteArray) (hlen : xs.length ≤ 1048576) : Ev (fun k => laws_markStringS.F k xs 1) (marks xs.length, ((1 + xs.length : Nat) : Int)) := by
  unfold laws_markStringS.F
  refine Ev.bind (mark_l0 xs hlen xs.length 0 (by omega)) ?_
  rw [show Nat.beq (marks xs.length, ((1 + xs.length : Nat) : Int)).1.length xs.length = true by rw [Nat.beq_eq]; exact marks_len _]
  exact Ev.pure _
theorem held_l0 (m : Nat) (hlen : m ≤ 1048576) : ∀ n i : Nat, i + n = m → Ev (fun k => laws_heldStringS.l0 k (marks m) ((1 + i : Nat) : Int) i) (.inr ((1 + m : Nat) : Int))
  | 0, i, h => by
    have hl := marks_len m
    refine Ev.step (fun k => by rw [laws_heldStringS.l0]) ?_
    simp (disch := omega) only [cneg]
    rw [show i = m by omega]
    exact Ev.pure _
  | n + 1, i, h => by
    have hl := marks_len m
    have hi : i < (marks m).length := by omega
    have e : (marks m)[i] = mt (1 + i) := by simp [marks, Nat.add_comm]
    refine Ev.step (fun k => by rw [laws_heldStringS.l0]) ?_
    simp (disch := omega) only [cpos, Int.toNat_natCast, getD_at hi, e]
    refine Ev.bind (mt_ev (1 + i) (by omega)) ?_
    simp (disch := omega) only [beqS_self, Bool.not_true, cond_false, wrap_in]
    rw [show (((1 + i : Nat) : Int) + 1) = ((1 + (i + 1) : Nat) : Int) by omega]
    exact held_l0 m hlen n (i + 1) (by omega)
theorem held_ev (m : Nat) (hlen : m ≤ 1048576) : Ev (fun k => laws_heldStringS.F k (marks m) 1) ((1 + m : Nat) : Int) := by
  unfold laws_heldStringS.F
  exact Ev.bind (held_l0 m hlen m 0 (by omega)) (Ev.pure _)

/-- Marks from any number on: only how many there are. -/
theorem markK_l0 (m : Nat) (hlen : m ≤ 1048576) : ∀ n i : Nat, i + n = m → ∀ (ys : List ByteArray) (z : Nat), ys.length = m → z + n ≤ 2097153 → EvP (fun k => laws_markStringS.l0 k ys z i) fun r => r.1.length = m ∧ r.2 = ((z + n : Nat) : Int)
  | 0, i, h, ys, z, hy, hz => by
    refine EvP.step (fun k => by rw [laws_markStringS.l0]) ?_
    simp (disch := omega) only [cneg]
    exact EvP.pure _ ⟨hy, rfl⟩
  | n + 1, i, h, ys, z, hy, hz => by
    refine EvP.step (fun k => by rw [laws_markStringS.l0]) ?_
    simp (disch := omega) only [cpos, Int.toNat_natCast]
    refine EvP.of (mt_ev z (by omega)) ?_
    simp (disch := omega) only [wrap_in, cpos]
    have := markK_l0 m hlen n (i + 1) (by omega) (ys.set i (mt z)) (z + 1) (by simpa using hy) (by omega)
    refine EvP.mono this fun r hr => ⟨hr.1, by rw [hr.2]; omega⟩
theorem markK_ev (xs : List ByteArray) (hlen : xs.length ≤ 1048576) (z : Nat) (hz : z + xs.length ≤ 2097153) : EvP (fun k => laws_markStringS.F k xs z) fun r => r.2 = ((z + xs.length : Nat) : Int) := by
  unfold laws_markStringS.F
  refine EvP.bind (markK_l0 xs.length hlen xs.length 0 (by omega) xs z rfl hz) fun r hr => ?_
  rw [show Nat.beq r.1.length xs.length = true by rw [Nat.beq_eq]; exact hr.1]
  exact EvP.pure _ hr.2
end Go.Proofs.YtnffgabfibafjaaGreatDoor
end
section
/- Plain laws: marks of abbreviations. -/
namespace Go.Proofs.YtnffgabfibafjaaGreatDoor
open Go.Gx
set_option linter.unusedVariables false
set_option linter.unusedSimpArgs false

/-! ### Marks of abbreviations -/
theorem markAs_l0 (m : Nat) (hlen : m ≤ 1048576) : ∀ n i : Nat, i + n = m → ∀ (ys : List Abbr) (z : Nat), ys.length = m → z + 2 * n ≤ 2097153 → EvP (fun k => laws_markAbbreviationS.l0 k ys z i) fun r => r.1.length = m ∧ r.2 = ((z + 2 * n : Nat) : Int)
  | 0, i, h, ys, z, hy, hz => by
    refine EvP.step (fun k => by rw [laws_markAbbreviationS.l0]) ?_
    simp (disch := omega) only [cneg]
    exact EvP.pure _ ⟨hy, rfl⟩
  | n + 1, i, h, ys, z, hy, hz => by
    refine EvP.step (fun k => by rw [laws_markAbbreviationS.l0]) ?_
    simp (disch := omega) only [cpos, Int.toNat_natCast]
    refine EvP.of (mt_ev z (by omega)) ?_
    simp (disch := omega) only [wrap_in, cpos]
    have e : ((z : Int) + 1) = ((z + 1 : Nat) : Int) := by omega
    rw [e]
    refine EvP.of (mt_ev (z + 1) (by omega)) ?_
    simp (disch := (try simp only [List.length_set]); omega) only [wrap_in, cpos]
    have := markAs_l0 m hlen n (i + 1) (by omega) ((ys.set i ⟨mt z, (ys.getD i (dflt .abbr)).short⟩).set i ⟨((ys.set i ⟨mt z, (ys.getD i (dflt .abbr)).short⟩).getD i (dflt .abbr)).word, mt (z + 1)⟩) (z + 1 + 1) (by simpa using hy) (by omega)
    exact EvP.mono this fun r hr => ⟨hr.1, by rw [hr.2]; omega⟩
theorem markAs_ev (xs : List Abbr) (hlen : xs.length ≤ 1048576) : EvP (fun k => laws_markAbbreviationS.F k xs 1) fun r => r.2 = ((1 + 2 * xs.length : Nat) : Int) := by
  unfold laws_markAbbreviationS.F
  refine EvP.bind (markAs_l0 xs.length hlen xs.length 0 (by omega) xs 1 rfl (by omega)) fun r hr => ?_
  rw [show Nat.beq r.1.length xs.length = true by rw [Nat.beq_eq]; exact hr.1]
  exact EvP.pure _ hr.2
end Go.Proofs.YtnffgabfibafjaaGreatDoor
end
section
/- The plain law of DistinctTitles. -/
namespace Go.Proofs.YtnffgabfibafjaaGreatDoor
open Go.Gx
set_option linter.unusedVariables false
set_option linter.unusedSimpArgs false

/-- Another title of the same short form. -/
noncomputable def twin (xs : List Abbr) (t u : ByteArray) : Bool := !beqS u t && beqS (tW xs u) (tW xs t)
theorem inner_l (xs : List Abbr) (hs : smalls xs) (ts : List ByteArray) (ht : ∀ t ∈ ts, textB t = true) (hl : ts.length ≤ 20) (acc : List ByteArray) (i : Nat) (hi : i < ts.length) : ∀ n j : Nat, j + n = ts.length → ∀ nm : ByteArray,
    Ev (fun k => spec_DistinctTitles.l2 k xs ts acc i nm j) (xs, ts, acc, (i : Int), if (ts.drop j).any (twin xs ts[i]) = true then ts[i] else nm)
  | 0, j, h, nm => by
    refine Ev.step (fun k => by rw [spec_DistinctTitles.l2]) ?_
    simp (disch := omega) only [cneg]
    rw [List.drop_eq_nil_of_le (by omega)]
    exact Ev.pure _
  | n + 1, j, h, nm => by
    have hj : j < ts.length := by omega
    obtain ⟨t1, _⟩ := tW_ev xs hs ts[i] (ht _ (List.getElem_mem hi))
    obtain ⟨u1, _⟩ := tW_ev xs hs ts[j] (ht _ (List.getElem_mem hj))
    refine Ev.step (fun k => by rw [spec_DistinctTitles.l2]) ?_
    rw [List.drop_eq_getElem_cons hj, List.any_cons]
    simp (disch := omega) only [cpos, Int.toNat_natCast, getD_at hi, getD_at hj]
    unfold twin
    cases h1 : beqS ts[j] ts[i] with
    | true =>
      simp (disch := omega) only [Bool.not_true, cond_false, Bool.false_and, Bool.false_or, wrap_in]
      have := inner_l xs hs ts ht hl acc i hi n (j + 1) (by omega) nm
      unfold twin at this
      exact this
    | false =>
      simp (disch := omega) only [Bool.not_false, cond_true, Bool.true_and]
      refine Ev.bind u1 (Ev.bind t1 ?_)
      cases h2 : beqS (tW xs ts[j]) (tW xs ts[i]) with
      | true =>
        simp (disch := omega) only [cond_true, Bool.true_or, if_true, wrap_in]
        have := inner_l xs hs ts ht hl acc i hi n (j + 1) (by omega) ts[i]
        rw [ite_self] at this
        exact this
      | false =>
        simp (disch := omega) only [cond_false, Bool.false_or, wrap_in]
        have := inner_l xs hs ts ht hl acc i hi n (j + 1) (by omega) nm
        unfold twin at this
        exact this
theorem contains_ev (xs : List Abbr) (hs : smalls xs) (ts : List ByteArray) (ht : ∀ t ∈ ts, textB t = true) (hl : ts.length ≤ 20) (t : ByteArray) : Ev (fun k => slices_ContainsFunc_string_f58.F k ts t xs (tW xs t)) (ts.any (twin xs t)) := by
  have hq : ∀ x, x ∈ ts → Ev (fun k => impl_DistinctTitles_1.F k x t xs (tW xs t)) (twin xs t x) := fun x hx => by
    unfold impl_DistinctTitles_1.F twin
    cases beqS x t with
    | true => exact Ev.pure _
    | false => exact Ev.bind (tW_ev xs hs x (ht x hx)).2 (Ev.pure _)
  obtain ⟨r, h1, h2⟩ := idx_ev (d := (⟨#[]⟩ : ByteArray)) (p := twin xs t) (q := fun k x => impl_DistinctTitles_1.F k x t xs (tW xs t)) (xs := ts) (l0 := fun k x0 x7 x8 => slices_IndexFunc_string_f58.l0 k x0 t xs (tW xs t) x7 x8) (fun k x0 x7 x8 => by rw [slices_IndexFunc_string_f58.l0]) hq (by omega) (F := fun k x0 => slices_IndexFunc_string_f58.F k x0 t xs (tW xs t)) (fun k a0 => rfl)
  unfold slices_ContainsFunc_string_f58.F
  refine Ev.bind h1 ((Ev.pure _).eq ?_)
  rcases h2 with ⟨rfl, h2⟩ | ⟨j, rfl, hj, hp, _⟩
  · have : ts.any (twin xs t) = false := by rw [List.any_eq_false]; exact fun x hx => by rw [h2 x hx]; decide
    rw [this]; rfl
  · have : ts.any (twin xs t) = true := by
      rw [List.any_eq_true]
      refine ⟨ts[j], List.getElem_mem hj, ?_⟩
      rw [getD_at hj] at hp
      exact hp
    rw [this, decide_eq_true (by omega)]
theorem distinct_l (xs : List Abbr) (hs : smalls xs) (ts : List ByteArray) (ht : ∀ t ∈ ts, textB t = true) (hl : ts.length ≤ 20) : ∀ n i : Nat, i + n = ts.length → ∀ acc : List ByteArray, acc.length ≤ i →
    ∃ r, Ev (fun k => spec_DistinctTitles.l0 k xs ts acc i) r ∧ Ev (fun k => impl_DistinctTitles.l0 k ts xs acc ts ts.length i) r ∧ r.length ≤ ts.length
  | 0, i, h, acc, ha => by
    refine ⟨acc, Ev.step (fun k => by rw [spec_DistinctTitles.l0]) ?_, Ev.step (fun k => by rw [impl_DistinctTitles.l0]) ?_, by omega⟩
    · simp (disch := omega) only [cneg]; exact Ev.pure _
    · simp (disch := omega) only [cneg]; exact Ev.pure _
  | n + 1, i, h, acc, ha => by
    have hi : i < ts.length := by omega
    obtain ⟨t1, t2⟩ := tW_ev xs hs ts[i] (ht _ (List.getElem_mem hi))
    have e1 := inner_l xs hs ts ht hl acc i hi ts.length 0 (by omega) (tW xs ts[i])
    rw [List.drop_zero] at e1
    have e2 := contains_ev xs hs ts ht hl ts[i]
    have hr : ∀ z : ByteArray, room (acc.length + ([z] : List ByteArray).length) .str = true := fun z => room_s (by simp; omega)
    obtain ⟨r, r1, r2, r3⟩ := distinct_l xs hs ts ht hl n (i + 1) (by omega) (acc ++ [if ts.any (twin xs ts[i]) = true then ts[i] else tW xs ts[i]]) (by simp; omega)
    refine ⟨r, Ev.step (fun k => by rw [spec_DistinctTitles.l0]) ?_, Ev.step (fun k => by rw [impl_DistinctTitles.l0]) ?_, r3⟩
    · simp (disch := omega) only [cpos, Int.toNat_natCast, getD_at hi]
      refine Ev.bind t1 (Ev.bind e1 ?_)
      simp (disch := omega) only [hr, cond_true, wrap_in]
      exact r1
    · simp (disch := omega) only [cpos, Int.toNat_natCast, getD_at hi]
      refine Ev.bind t2 (Ev.bind e2 ?_)
      cases hb : ts.any (twin xs ts[i]) with
      | true =>
        rw [hb] at r2
        simp (disch := omega) only [hr, cond_true, wrap_in]
        exact r2
      | false =>
        rw [hb] at r2
        simp (disch := omega) only [hr, cond_true, cond_false, wrap_in]
        exact r2
theorem distinct_ev (xs : List Abbr) (hs : smalls xs) (ts : List ByteArray) (hl : ts.length ≤ 1048576) : ∃ r b, Ev (fun k => spec_DistinctTitles.F k xs ts) (r, b) ∧ Ev (fun k => impl_DistinctTitles.F k xs ts) (r, b) ∧ r.length ≤ 20 := by
  have v1 := validSpec_ev xs hs
  have t1 := specTitles_ev ts hl
  have v2 := areTitles_ev xs hs ts hl
  unfold spec_DistinctTitles.F impl_DistinctTitles.F
  cases hv : validA xs with
  | false =>
    rw [hv] at v1 v2
    exact ⟨_, _, Ev.bind v1 (Ev.pure _), Ev.bind v2 (Ev.pure _), by simp⟩
  | true =>
    rw [hv] at v1 v2
    cases ht : titlesB ts with
    | false =>
      rw [ht] at t1 v2
      exact ⟨_, _, Ev.bind v1 (Ev.bind t1 (Ev.pure _)), Ev.bind v2 (Ev.pure _), by simp⟩
    | true =>
      rw [ht] at t1 v2
      obtain ⟨h1, h2⟩ := titlesB_all ht
      obtain ⟨r, r1, r2, r3⟩ := distinct_l xs hs ts h1 h2 ts.length 0 (by omega) [] (Nat.le_refl _)
      exact ⟨r, true, Ev.bind v1 (Ev.bind t1 (Ev.bind r1 (Ev.pure _))), Ev.bind v2 (Ev.bind r2 (Ev.pure _)), by omega⟩
theorem distinctTitles_law (xs : List Abbr) (ts : List ByteArray) (hw : WF (.sl .abbr) xs) (hwt : WF (.sl .str) ts) : ∃ k, laws_FnExactDistinctTitles.F k xs ts = some true := by
  refine Ev.get (?_ : Ev (fun k => laws_FnExactDistinctTitles.F k xs ts) true)
  unfold laws_FnExactDistinctTitles.F
  obtain ⟨r, h1, h2⟩ := szAs_ev xs 1048576 (by omega) (by omega) hw
  refine Ev.bind h1 ?_
  by_cases c : r < 0
  · simp (disch := omega) only [cpos]
    exact Ev.pure _
  simp (disch := omega) only [cneg]
  obtain ⟨r', h3, h4⟩ := szS_ev ts r (by omega) (by have := h2 (by omega); omega) hwt
  refine Ev.bind h3 ?_
  by_cases c' : r' < 0
  · simp (disch := omega) only [cpos]
    exact Ev.pure _
  simp (disch := omega) only [cneg]
  have e1 := h2 (by omega)
  have e2 := h4 (by omega)
  have hs := smalls_of e1 (by omega) (by omega)
  have hlt : ts.length ≤ 1048576 := by omega
  obtain ⟨v, b, v1, v2, v3⟩ := distinct_ev xs hs ts hlt
  have ta := toAs_ev xs hs.1
  have tt := toS_ev ts hlt
  refine Ev.bind ta (Ev.bind tt (Ev.bind v1 (Ev.bind ta (Ev.bind tt (Ev.bind v2 (Ev.bind (eqS_ev v (by omega)) ?_))))))
  simp only [beq_self_eq_true, Bool.not_true, cond_false]
  refine Ev.bind ta (Ev.bind (eqAs_ev xs hs.1) ?_)
  simp only [Bool.not_true, cond_false]
  refine Ev.bind tt (Ev.bind (eqS_ev ts hlt) ?_)
  simp only [Bool.not_true, cond_false]
  obtain ⟨m1, m2, m3⟩ := markAs_ev xs hs.1
  refine Ev.bind m2 ?_
  rw [m3]
  obtain ⟨n1, n2, n3⟩ := markK_ev ts hlt (1 + 2 * xs.length) (by omega)
  refine Ev.bind n2 ?_
  rw [n3]
  simp (disch := omega) only [cneg]
  refine Ev.bind (eqS_ev v (by omega)) ?_
  simp only [beq_self_eq_true, Bool.not_true, cond_false]
  refine Ev.bind (mark_ev v (by omega)) (Ev.bind (held_ev v.length (by omega)) ?_)
  simp (disch := omega) only [cneg, cbeq]
  refine Ev.bind ta (Ev.bind tt (Ev.bind v2 (Ev.bind (eqS_ev v (by omega)) ?_)))
  simp only [beq_self_eq_true, Bool.not_true, cond_false]
  refine Ev.bind (held_ev v.length (by omega)) ?_
  simp (disch := omega) only [cneg, cbeq]
  exact Ev.pure _
end Go.Proofs.YtnffgabfibafjaaGreatDoor
end
section
/- The law FnExactDistinctTitles returns true for every input, the listed package variables being as the program's text lays it: the card. -/
namespace Go.Proofs.YtnffgabfibafjaaGreatDoor
open Go.Gx Go.RowKit Go.ChangeShapes Go.WideShapes Go.ChangeAt
set_option linter.unusedVariables false
theorem fnExactDistinctTitles_own : ownKnob Tryz.prog.godebug = none := by kernel_rfl
set_option maxRecDepth 100000 in
theorem fnExactDistinctTitles_contract (H : Type) (enc : TypeId × Value → H) (W : World) (base : Nat) (args : Array Value) (ds gs : List (DataW H)) (before : List MemPlace)
    (hval : ∀ (j : Nat) t v, Tryz.f3.params[j]? = some t → args[j]? = some v → Value.okWide Tryz.prog W .any base t v)
    (hW : DataW.Whole enc Tryz.prog Tryz.f3.params.toList Rows.fnExactDistinctTitlesSpec.vars false W args.toList ds gs before) (hsh : W.ShapedOpen Tryz.prog) :
    Calls Tryz.prog 3 args W fun e W' => ∃ v, e = .returned v ∧ Rows.fnExactDistinctTitlesSpec.post enc Tryz.prog Tryz.f3 false true false false W args v W' := by
  have hgs : gs = [] := by
    obtain ⟨p, q, _, hV, _⟩ := hW
    exact (trodVars_none hV).1
  subst hgs
  have hds : ∃ d1 d2, ds = [d1, d2] := by
    obtain ⟨p, q, hA, _⟩ := hW
    obtain ⟨_, _, d1, e0, _, _, _, rfl, _, _, h0⟩ := trodAll_cons hA
    obtain ⟨_, _, d2, e1, _, _, _, rfl, _, _, h1⟩ := trodAll_cons h0
    obtain ⟨_, rfl, _⟩ := trodAll_nil h1
    exact ⟨d1, d2, rfl⟩
  obtain ⟨d1, d2, rfl⟩ := hds
  have hgl : GlOk envX (Lt W) W := by
    refine ⟨fun g b h => (by cases h), fun g hg => ?_⟩
    have hg' : giT g = true := hg
    unfold giT at hg'
    split at hg'
    · obtain ⟨m, hm⟩ := cell_of_shapedOpen_int (P := Tryz.prog) (g := 0) (t := 3) (zero := #[.int .i64 0]) hsh (of_decide_eq_true (by kernel_rfl)) (by kernel_rfl) rfl (by kernel_rfl) (by kernel_rfl) (by kernel_rfl)
      exact ⟨World.block_lt_of_cell? _ _ hm, m, hm⟩
    · cases hg'
  refine law_contract (τs := [(.sl .abbr), (.sl .str)]) (r := .t .bool true) envOk (by kernel_rfl) rfl (by kernel_rfl) (by kernel_rfl) rfl (by kernel_rfl) (by kernel_rfl) (fun t ht => ?_) rfl (fun x hx => by
      obtain ⟨k, hk⟩ := distinctTitles_law x.1 x.2.1 hx.1 hx.2.1
      exact laws_FnExactDistinctTitles.good envOk _ k _ _ hk) rfl hval hW hgl (fun q hq W' _ => ?_)
  · have : t ∈ [22, 23] := ht
    simp only [List.mem_cons, List.not_mem_nil, or_false] at this
    rcases this with rfl | rfl <;> exact ⟨by kernel_rfl, Nat.le_of_ble_eq_true (by kernel_rfl)⟩
  · obtain ⟨_, rfl⟩ := trodVars_none hq
    exact rfl
set_option maxRecDepth 100000 in
noncomputable def fnExactDistinctTitles_world (os : Os) : World :=
  { World.holding Tryz.prog os ⟨#[], #[], []⟩ with heap := (((World.holding Tryz.prog os ⟨#[], #[], []⟩).heap.modify 2 fun
      | .cells _ t frozen => .cells #[.int .u8 128, .int .u8 191, .int .u8 160, .int .u8 191, .int .u8 128, .int .u8 159, .int .u8 144, .int .u8 191, .int .u8 128, .int .u8 143, .int .u8 0, .int .u8 0, .int .u8 0, .int .u8 0, .int .u8 0, .int .u8 0, .int .u8 0, .int .u8 0, .int .u8 0, .int .u8 0, .int .u8 0, .int .u8 0, .int .u8 0, .int .u8 0, .int .u8 0, .int .u8 0, .int .u8 0, .int .u8 0, .int .u8 0, .int .u8 0, .int .u8 0, .int .u8 0] t frozen
      | o => o).modify 1 fun
      | .cells _ t frozen => .cells (Pinned.utf8FirstZ.map fun (n : Nat) => Value.int .u8 (n : Int)).toArray t frozen
      | o => o) }
theorem fnExactDistinctTitles_met (os : Os) : laidMet Tryz.prog Rows.fnExactDistinctTitlesRow.laid ((fnExactDistinctTitles_world os).forCall (fun _ _ => 0) ⟨#[], #[.slice none 0 0, .slice none 0 0], []⟩).memory :=
  laidMet_of_run' 8 (by kernel_rfl) (by kernel_rfl)
theorem fnExactDistinctTitles_reads (os : Os) {H : Type} (enc : TypeId × Value → H) : ∃ places, DataW.whole enc Tryz.prog ((fnExactDistinctTitles_world os).forCall (fun _ _ => 0) ⟨#[], #[.slice none 0 0, .slice none 0 0], []⟩).memory Tryz.f3.params.toList Rows.fnExactDistinctTitlesSpec.vars false #[.slice none 0 0, .slice none 0 0].toList 8 = some ([.nil, .nil], [], places) :=
  ⟨[], by kernel_rfl⟩
set_option maxRecDepth 100000 in
theorem fnExactDistinctTitles_lifted (os : Os) (started : os.Started) (H : Type) (enc : TypeId × Value → H) (F : Stop.Interp) :
    ReturnsInHanded {} Tryz.checked os 3 .any ((OpenSpec.ofChange Rows.fnExactDistinctTitlesSpec).preRow enc Tryz.prog Tryz.f3 Rows.fnExactDistinctTitlesRow.domain false Rows.fnExactDistinctTitlesRow.laid) (((OpenSpec.ofChange Rows.fnExactDistinctTitlesSpec).at F).post enc Tryz.prog Tryz.f3 false true false false) := by
  obtain ⟨places, hx⟩ := fnExactDistinctTitles_reads os enc
  refine returnsInHanded_of_row (C := Tryz.checked) (s := OpenSpec.ofChange Rows.fnExactDistinctTitlesSpec) fnExactDistinctTitles_own started (by kernel_rfl) (by kernel_rfl)
    (witness_row_at (enc := enc) (C := Tryz.checked) false (fnExactDistinctTitles_world os) #[.slice none 0 0, .slice none 0 0] rfl (by kernel_rfl) (by kernel_rfl) (by kernel_rfl)
      (OpenSpec.preRow_of_cond 8 hx (by kernel_rfl) (fun k hk => by cases hk) (by kernel_rfl) (fnExactDistinctTitles_met os))) ?_
  intro W base args ds gs before hval hW _ _ _ _ hsh _
  exact fnExactDistinctTitles_contract H enc W base args ds gs before hval hW hsh
theorem fnExactDistinctTitles_said : Rows.FnExactDistinctTitlesSaid :=
  OpenClaim.holds_of_cond 3 Tryz.f3 rfl rfl rfl rfl rfl rfl rfl ⟨rfl, rfl, rfl, rfl, rfl⟩ rfl rfl rfl rfl rfl (by kernel_rfl) (by kernel_rfl) (by kernel_rfl)
    (of_decide_eq_true (by kernel_rfl)) (by unfold Func.isWrapper; first | (rw [if_pos (by decide +kernel)]; kernel_rfl) | (rw [if_neg (by decide +kernel)]; exact ⟨rfl, rfl⟩))
    (fun os started H enc _ F => by rw [OpenClaim.pre_eq_preRow]; exact fnExactDistinctTitles_lifted os started H enc F)
theorem fnExactDistinctTitles_plain (f : FuncId) (fn : Func) (hf : Tryz.pinned.checked.prog.funcNamed "loop.example/g00896/laws.FnExactDistinctTitles" = some f) (hfn : Tryz.pinned.checked.prog.funcs[f]? = some fn) :
    false = Tryz.pinned.checked.prog.looks [] ∧ ∀ (j : Nat) t, fn.params[j]? = some t → Tryz.pinned.checked.prog.wantsStandIn t = false := by
  obtain rfl : f = 3 := (Option.some.inj ((show Tryz.prog.funcNamed "loop.example/g00896/laws.FnExactDistinctTitles" = some 3 by kernel_rfl).symm.trans hf)).symm
  obtain rfl : fn = Tryz.f3 := (Option.some.inj ((show Tryz.prog.funcs[3]? = some Tryz.f3 by kernel_rfl).symm.trans hfn)).symm
  refine ⟨by kernel_rfl, fun j t ht => ?_⟩
  have ht' : t ∈ [22, 23] := by simpa using Array.mem_of_getElem? (show (#[22, 23] : Array Nat)[j]? = some t from ht)
  simp only [List.mem_cons, List.not_mem_nil, or_false] at ht'
  rcases ht' with rfl | rfl
  · exact (show Tryz.prog.wantsStandIn 22 = false by kernel_rfl)
  · exact (show Tryz.prog.wantsStandIn 23 = false by kernel_rfl)
theorem FnExactDistinctTitles_holds : Rows.FnExactDistinctTitlesCardSaid :=
  Claim7.holds_tied_plain_at .later [] _ _ _ _ fnExactDistinctTitles_said (fun _ h => by cases h) (by kernel_rfl) (fun _ h => by cases h) fnExactDistinctTitles_row_tie rfl ⟨rfl, rfl⟩ (by kernel_rfl) rfl fnExactDistinctTitles_plain (by kernel_rfl)
#print axioms FnExactDistinctTitles_holds
end Go.Proofs.YtnffgabfibafjaaGreatDoor
end
