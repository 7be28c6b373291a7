/- Plain laws: the abbreviation of a word. -/
import Derived.Test.YtnffgabfibafjaaDoorPlShort
namespace Go.Proofs.YtnffgabfibafjaaDoor
open Go.Gx
set_option linter.unusedVariables false
set_option linter.unusedSimpArgs false

/-! ### Letters -/
theorem all_bytes {s : ByteArray} {i : Nat} (h : i < (bytesL s).length) (p : Int → Bool) : ((bytesL s).drop i).all p = (p (bytesL s)[i] && ((bytesL s).drop (i + 1)).all p) := by
  rw [List.drop_eq_getElem_cons h]; rfl
theorem findL_l0 (xs : List Abbr) (s : ByteArray) (hs : s.size ≤ 1048576) : ∀ n i : Nat, i + n = s.size → Ev (fun k => spec_l19Find.l0 k xs s i) (if ((bytesL s).drop i).all ltrI = true then .inr (xs, s) else .inl (-1))
  | 0, i, h => by
    refine Ev.step (fun k => by rw [spec_l19Find.l0]) ?_
    simp (disch := omega) only [cneg]
    rw [List.drop_eq_nil_of_le (by rw [bytesL_len]; omega)]
    exact Ev.pure _
  | n + 1, i, h => by
    have hl := bytesL_len s
    have hi : i < (bytesL s).length := by omega
    refine Ev.step (fun k => by rw [spec_l19Find.l0]) ?_
    simp (disch := omega) only [cpos, Int.toNat_natCast, bt_bytes s i hi]
    refine Ev.bind0 (specLetter_ev _) ?_
    rw [all_bytes hi]
    cases ltrI (bytesL s)[i] with
    | false => exact Ev.pure _
    | true =>
      simp (disch := omega) only [Bool.not_true, cond_false, Bool.true_and, wrap_in]
      exact findL_l0 xs s hs n (i + 1) (by omega)
theorem areL_l0 (s : ByteArray) (hs : s.size ≤ 1048576) : ∀ n i : Nat, i + n = s.size → Ev (fun k => impl_areLetters.l0 k s i) (if ((bytesL s).drop i).all ltrI = true then .inr s else .inl false)
  | 0, i, h => by
    refine Ev.step (fun k => by rw [impl_areLetters.l0]) ?_
    simp (disch := omega) only [cneg]
    rw [List.drop_eq_nil_of_le (by rw [bytesL_len]; omega)]
    exact Ev.pure _
  | n + 1, i, h => by
    have hl := bytesL_len s
    have hi : i < (bytesL s).length := by omega
    refine Ev.step (fun k => by rw [impl_areLetters.l0]) ?_
    simp (disch := omega) only [cpos, Int.toNat_natCast, bt_bytes s i hi]
    refine Ev.bind0 (isLetter_ev _) ?_
    rw [all_bytes hi]
    cases ltrI (bytesL s)[i] with
    | false => exact Ev.pure _
    | true =>
      simp (disch := omega) only [Bool.not_true, cond_false, Bool.true_and, wrap_in]
      exact areL_l0 s hs n (i + 1) (by omega)
theorem areLetters_ev (s : ByteArray) (hs : s.size ≤ 1048576) : Ev (fun k => impl_areLetters.F k s) ((bytesL s).all ltrI && decide (0 < s.size)) := by
  unfold impl_areLetters.F
  have := areL_l0 s hs s.size 0 (by omega)
  rw [List.drop_zero] at this
  cases h : (bytesL s).all ltrI with
  | true =>
    rw [h] at this
    refine Ev.bind this ?_
    simp only [size_pos, Bool.true_and]
    exact Ev.pure _
  | false => rw [h] at this; exact Ev.bind this (Ev.pure _)

/-! ### The abbreviation of a word -/
def dash (s : ByteArray) : Bool := decide (0 < s.size) && (bt s (s.size - 1) == ((45 : UInt8).toNat : Int))
theorem cutSuffix_ev (s : ByteArray) (h : s.size ≤ 9223372036854775807) : strings_CutSuffix.F s ⟨#[45]⟩ = some (cutB s 45, dash s) := by
  unfold strings_CutSuffix.F stringslite_CutSuffix.F
  rw [suffix_ev s 45 h]
  have h1 : (⟨#[45]⟩ : ByteArray).size = 1 := rfl
  have h2 : ((45 : UInt8).toNat : Int) = ((45 : Nat) : Int) := rfl
  rw [h1]
  unfold cutB dash
  rw [h2]
  simp only [Option.bind_some]
  by_cases hs : 0 < s.size
  · simp (disch := omega) only [decide_eq_true hs, Bool.true_and]
    by_cases c2 : bt s (s.size - 1) = ((45 : Nat) : Int)
    · rw [show (bt s (s.size - 1) == ((45 : Nat) : Int)) = true by simpa using c2, if_pos ⟨hs, c2⟩]
      simp (disch := omega) only [Bool.not_true, cond_false, wrap_in, cpos]
      rw [show ((s.size : Int) - ((1 : Nat) : Int)).toNat = s.size - 1 by omega]; rfl
    · rw [show (bt s (s.size - 1) == ((45 : Nat) : Int)) = false by simpa using c2, if_neg (fun h => c2 h.2)]
      rfl
  · rw [decide_eq_false hs, if_neg (fun h => hs h.1)]; rfl
theorem cut_ne (s : ByteArray) : (!beqS (cutB s 45) s) = dash s := by
  have h2 : ((45 : UInt8).toNat : Int) = ((45 : Nat) : Int) := rfl
  unfold cutB dash
  rw [h2]
  by_cases hs : 0 < s.size ∧ bt s (s.size - 1) = ((45 : Nat) : Int)
  · rw [if_pos hs, decide_eq_true hs.1, show (bt s (s.size - 1) == ((45 : Nat) : Int)) = true by simpa using hs.2]
    cases e : beqS (s.extract 0 (s.size - 1)) s with
    | false => rfl
    | true =>
      have := congrArg ByteArray.size (beqS_iff.1 e)
      rw [ByteArray.size_extract] at this
      omega
  · rw [if_neg hs, beqS_self]
    by_cases h3 : 0 < s.size
    · rw [show (bt s (s.size - 1) == ((45 : Nat) : Int)) = false by simpa using fun h => hs ⟨h3, h⟩, Bool.and_false]; rfl
    · rw [decide_eq_false h3]; rfl
theorem hasPrefix_ev (s p : ByteArray) : strings_HasPrefix.F s p = some (decide ((p.size : Int) ≤ (s.size : Int)) && beqS (s.extract 0 p.size) p) := by
  unfold strings_HasPrefix.F stringslite_HasPrefix.F
  by_cases c : (p.size : Int) ≤ (s.size : Int)
  · simp (disch := omega) only [dpos, cond_true, Int.toNat_natCast, Option.bind_some, Bool.true_and]
  · simp (disch := omega) only [dneg, cond_false, Option.bind_some, Bool.false_and]
theorem find_l (xs : List Abbr) (hs : smalls xs) (lw : ByteArray) : ∀ n i : Nat, i + n = xs.length → ∀ best : Int, -1 ≤ best → best < xs.length →
    ∃ r, Ev (fun k => spec_l19Find.l2 k xs lw best i) r ∧ Ev (fun k => impl_abbreviationOf.l0 k xs lw best xs xs.length i) r ∧ ∀ z, (r = .inl z ∨ r = .inr z) → -1 ≤ z ∧ z < xs.length
  | 0, i, h, best, h1, h2 => by
    refine ⟨.inr best, Ev.step (fun k => by rw [spec_l19Find.l2]) ?_, Ev.step (fun k => by rw [impl_abbreviationOf.l0]) ?_, ?_⟩
    · simp (disch := omega) only [cneg]; exact Ev.pure _
    · simp (disch := omega) only [cneg]; exact Ev.pure _
    · rintro z (hz | hz) <;> cases hz; exact ⟨h1, h2⟩
  | n + 1, i, h, best, h1, h2 => by
    have hi : i < xs.length := by omega
    have hlen := hs.1
    have hw := (hs.2 _ (List.getElem_mem hi)).1
    have ih := find_l xs hs lw n (i + 1) (by omega)
    have cut : spec_l19Cut.F xs[i].word 45 = some (cutB xs[i].word 45) := specCut_ev xs[i].word 45 (by omega)
    have cuts := cutSuffix_ev xs[i].word (by omega)
    have hp := hasPrefix_ev lw (cutB xs[i].word 45)
    cases e : beqS xs[i].word lw with
    | true =>
      refine ⟨.inl i, Ev.step (fun k => by rw [spec_l19Find.l2]) ?_, Ev.step (fun k => by rw [impl_abbreviationOf.l0]) ?_, ?_⟩
      · simp (disch := omega) only [cpos, Int.toNat_natCast, getD_at hi, e, cond_true]; exact Ev.pure _
      · simp (disch := omega) only [cpos, Int.toNat_natCast, getD_at hi, e, cond_true]; exact Ev.pure _
      · rintro z (hz | hz) <;> cases hz; omega
    | false =>
      cases hd : dash xs[i].word with
      | false =>
        obtain ⟨r, r1, r2, r3⟩ := ih best h1 h2
        refine ⟨r, Ev.step (fun k => by rw [spec_l19Find.l2]) ?_, Ev.step (fun k => by rw [impl_abbreviationOf.l0]) ?_, r3⟩
        · simp (disch := omega) only [cpos, Int.toNat_natCast, getD_at hi, e, cond_false]
          refine Ev.bind0 cut ?_
          simp (disch := omega) only [cut_ne, hd, cond_false, wrap_in]
          exact r1
        · simp (disch := omega) only [cpos, Int.toNat_natCast, getD_at hi, e, cond_false]
          refine Ev.bind0 cuts ?_
          simp (disch := omega) only [hd, cond_false, wrap_in]
          exact r2
      | true =>
        by_cases c : ((cutB xs[i].word 45).size : Int) ≤ (lw.size : Int)
        · cases hq : beqS (lw.extract 0 (cutB xs[i].word 45).size) (cutB xs[i].word 45) with
          | false =>
            obtain ⟨r, r1, r2, r3⟩ := ih best h1 h2
            refine ⟨r, Ev.step (fun k => by rw [spec_l19Find.l2]) ?_, Ev.step (fun k => by rw [impl_abbreviationOf.l0]) ?_, r3⟩
            · simp (disch := omega) only [cpos, Int.toNat_natCast, getD_at hi, e, cond_false]
              refine Ev.bind0 cut ?_
              simp (disch := omega) only [cut_ne, hd, cond_true, cond_false, cpos, Int.toNat_natCast, hq, wrap_in]
              exact r1
            · simp (disch := omega) only [cpos, Int.toNat_natCast, getD_at hi, e, cond_false]
              refine Ev.bind0 cuts ?_
              simp (disch := omega) only [hd, cond_true]
              refine Ev.bind0 hp ?_
              simp (disch := omega) only [hq, Bool.and_false, cond_false, wrap_in]
              exact r2
          | true =>
            by_cases hb : best < 0
            · obtain ⟨r, r1, r2, r3⟩ := ih i (by omega) (by omega)
              refine ⟨r, Ev.step (fun k => by rw [spec_l19Find.l2]) ?_, Ev.step (fun k => by rw [impl_abbreviationOf.l0]) ?_, r3⟩
              · simp (disch := omega) only [cpos, Int.toNat_natCast, getD_at hi, e, cond_false]
                refine Ev.bind0 cut ?_
                simp (disch := omega) only [cut_ne, hd, cond_true, cond_false, cpos, Int.toNat_natCast, hq, wrap_in]
                exact r1
              · simp (disch := omega) only [cpos, Int.toNat_natCast, getD_at hi, e, cond_false]
                refine Ev.bind0 cuts ?_
                simp (disch := omega) only [hd, cond_true]
                refine Ev.bind0 hp ?_
                rw [hq, decide_eq_true c]
                simp (disch := omega) only [Bool.and_self, cond_true, cpos, wrap_in]
                exact r2
            · have hb' : best.toNat < xs.length := by omega
              by_cases hz : (xs[i].word.size : Int) > (xs[best.toNat].word.size : Int)
              · obtain ⟨r, r1, r2, r3⟩ := ih i (by omega) (by omega)
                refine ⟨r, Ev.step (fun k => by rw [spec_l19Find.l2]) ?_, Ev.step (fun k => by rw [impl_abbreviationOf.l0]) ?_, r3⟩
                · simp (disch := omega) only [cpos, Int.toNat_natCast, getD_at hi, e, cond_false]
                  refine Ev.bind0 cut ?_
                  simp (disch := omega) only [cut_ne, hd, cond_true, cond_false, cpos, cneg, Int.toNat_natCast, hq, wrap_in, getD_at hb']
                  exact r1
                · simp (disch := omega) only [cpos, Int.toNat_natCast, getD_at hi, e, cond_false]
                  refine Ev.bind0 cuts ?_
                  simp (disch := omega) only [hd, cond_true]
                  refine Ev.bind0 hp ?_
                  rw [hq, decide_eq_true c]
                  simp (disch := omega) only [Bool.and_self, cond_true, cpos, cneg, wrap_in, getD_at hb']
                  exact r2
              · obtain ⟨r, r1, r2, r3⟩ := ih best h1 h2
                refine ⟨r, Ev.step (fun k => by rw [spec_l19Find.l2]) ?_, Ev.step (fun k => by rw [impl_abbreviationOf.l0]) ?_, r3⟩
                · simp (disch := omega) only [cpos, Int.toNat_natCast, getD_at hi, e, cond_false]
                  refine Ev.bind0 cut ?_
                  simp (disch := omega) only [cut_ne, hd, cond_true, cond_false, cpos, cneg, Int.toNat_natCast, hq, wrap_in, getD_at hb']
                  exact r1
                · simp (disch := omega) only [cpos, Int.toNat_natCast, getD_at hi, e, cond_false]
                  refine Ev.bind0 cuts ?_
                  simp (disch := omega) only [hd, cond_true]
                  refine Ev.bind0 hp ?_
                  rw [hq, decide_eq_true c]
                  simp (disch := omega) only [Bool.and_self, cond_true, cpos, cneg, wrap_in, getD_at hb']
                  exact r2
        · obtain ⟨r, r1, r2, r3⟩ := ih best h1 h2
          refine ⟨r, Ev.step (fun k => by rw [spec_l19Find.l2]) ?_, Ev.step (fun k => by rw [impl_abbreviationOf.l0]) ?_, r3⟩
          · simp (disch := omega) only [cpos, Int.toNat_natCast, getD_at hi, e, cond_false]
            refine Ev.bind0 cut ?_
            simp (disch := omega) only [cut_ne, hd, cond_true, cneg, wrap_in]
            exact r1
          · simp (disch := omega) only [cpos, Int.toNat_natCast, getD_at hi, e, cond_false]
            refine Ev.bind0 cuts ?_
            simp (disch := omega) only [hd, cond_true]
            refine Ev.bind0 hp ?_
            rw [decide_eq_false c]
            simp (disch := omega) only [Bool.false_and, cond_false, wrap_in]
            exact r2
theorem found (xs : List Abbr) (hs : smalls xs) (s : ByteArray) (h0 : 0 < s.size) (h1 : s.size ≤ 1048576) : ∃ z : Int, Ev (fun k => spec_l19Find.F k xs s) z ∧ Ev (fun k => impl_abbreviationOf.F k xs s) z ∧ -1 ≤ z ∧ z < xs.length := by
  unfold spec_l19Find.F impl_abbreviationOf.F
  have e1 := findL_l0 xs s h1 s.size 0 (by omega)
  have e2 := areLetters_ev s h1
  rw [List.drop_zero] at e1
  cases ha : (bytesL s).all ltrI with
  | false =>
    rw [ha] at e1 e2
    refine ⟨-1, Ev.bind e1 (Ev.pure _), Ev.bind e2 (Ev.pure _), by omega, by omega⟩
  | true =>
    rw [ha, decide_eq_true h0] at e2
    rw [ha] at e1
    obtain ⟨r, r1, r2, r3⟩ := find_l xs hs (lowS s) xs.length 0 (by omega) (-1) (by omega) (by omega)
    cases r with
    | inl z => exact ⟨z, Ev.bind e1 (Ev.bind (specLower_ev s h1) (Ev.bind r1 (Ev.pure _))), Ev.bind e2 (Ev.bind (lower_ev s h1) (Ev.bind r2 (Ev.pure _))), r3 z (.inl rfl)⟩
    | inr z => exact ⟨z, Ev.bind e1 (Ev.bind (specLower_ev s h1) (Ev.bind r1 (Ev.pure _))), Ev.bind e2 (Ev.bind (lower_ev s h1) (Ev.bind r2 (Ev.pure _))), r3 z (.inr rfl)⟩

/-! ### The first letter raised -/
theorem set_text (s : ByteArray) (i : Nat) (v : Int) (h : i < (bytesL s).length) : strL ((bytesL s).set i v) = s.extract 0 i ++ strL [v] ++ s.extract (i + 1) s.size := by
  apply L_inj
  have hl := bytesL_len s
  have e := congrArg L (strL_bytes s)
  rw [L_strL] at e
  rw [L_append, L_append, L_extract, L_extract, L_strL, L_strL, List.map_set, e, List.drop_zero, List.take_of_length_le (show (L s).length ≤ s.size from Nat.le_refl _)]
  rw [List.set_eq_take_append_cons_drop, if_pos (by rw [L_size]; omega)]
  simp
theorem raise_l0 (s : ByteArray) (hs : s.size ≤ 1048576) : ∀ n i : Nat, i + n = s.size → ∃ ys r, Ev (fun k => impl_raised.l0 k (bytesL s) s.size i) ys ∧ Ev (fun k => spec_l6Raise.l0 k s i) r ∧ (r = .inl (strL ys) ∨ r = .inr (strL ys)) ∧ ys.length = s.size
  | 0, i, h => by
    refine ⟨bytesL s, .inr s, Ev.step (fun k => by rw [impl_raised.l0]) ?_, Ev.step (fun k => by rw [spec_l6Raise.l0]) ?_, .inr (by rw [strL_bytes]), bytesL_len s⟩
    · simp (disch := omega) only [cneg]; exact Ev.pure _
    · simp (disch := omega) only [cneg]; exact Ev.pure _
  | n + 1, i, h => by
    have hl := bytesL_len s
    have hi : i < (bytesL s).length := by omega
    cases hlt : ltrI (bytesL s)[i] with
    | false =>
      obtain ⟨ys, r, r1, r2, r3, r4⟩ := raise_l0 s hs n (i + 1) (by omega)
      refine ⟨ys, r, Ev.step (fun k => by rw [impl_raised.l0]) ?_, Ev.step (fun k => by rw [spec_l6Raise.l0]) ?_, r3, r4⟩
      · simp (disch := omega) only [cpos, Int.toNat_natCast, getD_at hi]
        refine Ev.bind0 (isLetter_ev _) ?_
        simp (disch := omega) only [hlt, cond_false, wrap_in]
        exact r1
      · simp (disch := omega) only [cpos, Int.toNat_natCast, bt_bytes s i hi]
        refine Ev.bind0 (specLetter_ev _) ?_
        simp (disch := omega) only [hlt, cond_false, wrap_in]
        exact r2
    | true =>
      refine ⟨(bytesL s).set i (upI (bytesL s)[i]), .inl (s.extract 0 i ++ strL [upI (bytesL s)[i]] ++ s.extract (i + 1) s.size), Ev.step (fun k => by rw [impl_raised.l0]) ?_, Ev.step (fun k => by rw [spec_l6Raise.l0]) ?_, .inl (by rw [set_text s i _ hi]), by rw [List.length_set]; exact bytesL_len s⟩
      · simp (disch := omega) only [cpos, Int.toNat_natCast, getD_at hi]
        refine Ev.bind0 (isLetter_ev _) ?_
        simp (disch := omega) only [hlt, cond_true]
        refine Ev.bind0 (upperByte_ev _) ?_
        try simp (disch := omega) only [cpos]
        exact Ev.pure _
      · simp (disch := omega) only [cpos, Int.toNat_natCast, bt_bytes s i hi]
        refine Ev.bind0 (specLetter_ev _) ?_
        simp (disch := omega) only [hlt, cond_true, cpos]
        refine Ev.bind0 (specUpperByte_ev _) ?_
        have e1 : (s.extract 0 i).size ≤ s.size := by rw [ByteArray.size_extract]; omega
        have e2 : (strL ([upI (bytesL s)[i]] : List Int)).size = 1 := strL_size _
        have e3 : (s.extract 0 i ++ strL ([upI (bytesL s)[i]] : List Int)).size = (s.extract 0 i).size + 1 := by rw [← L_size, L_append, List.length_append, L_size, L_size, e2]
        have e4 : (s.extract (i + 1) s.size).size ≤ s.size := by rw [ByteArray.size_extract]; omega
        have e5 : ((i : Int) + 1).toNat = i + 1 := by omega
        simp (disch := omega) only [cble, wrap_in, cpos, e5]
        exact Ev.pure _
theorem raised_ev (s : ByteArray) (hs : s.size ≤ 1048576) : ∃ r, Ev (fun k => spec_l6Raise.F k s) r ∧ Ev (fun k => impl_raised.F k s) r ∧ r.size = s.size := by
  obtain ⟨ys, r, r1, r2, r3, r4⟩ := raise_l0 s hs s.size 0 (by omega)
  refine ⟨strL ys, ?_, ?_, by rw [strL_size]; exact r4⟩
  · unfold spec_l6Raise.F
    rcases r3 with rfl | rfl
    · exact Ev.bind r2 (Ev.pure _)
    · exact Ev.bind r2 (Ev.pure _)
  · unfold impl_raised.F
    rw [bytesL_len]
    simp (disch := omega) only [cble]
    exact Ev.bind r1 (Ev.pure _)

/-! ### The word -/
theorem short_ev (xs : List Abbr) (hs : smalls xs) (s : ByteArray) (h0 : 0 < s.size) (h1 : s.size ≤ 1048576) : ∃ r, Ev (fun k => spec_l19Short.F k xs s) r ∧ Ev (fun k => impl_shortWord.F k xs s) r ∧ r.size ≤ 1048576 := by
  obtain ⟨z, z1, z2, z3, z4⟩ := found xs hs s h0 h1
  unfold spec_l19Short.F impl_shortWord.F
  have hl := bytesL_len s
  by_cases hz : z < 0
  · refine ⟨s, Ev.bind z1 ?_, Ev.bind z2 ?_, h1⟩
    · simp (disch := omega) only [cpos]; exact Ev.pure _
    · simp (disch := omega) only [cpos]; exact Ev.pure _
  · have hz' : z.toNat < xs.length := by omega
    have hsh := (hs.2 _ (List.getElem_mem hz')).2
    obtain ⟨r, r1, r2, r3⟩ := raised_ev xs[z.toNat].short hsh
    by_cases c1 : 65 ≤ bt s (0 : Int).toNat
    · by_cases c2 : bt s (0 : Int).toNat ≤ 90
      · refine ⟨r, Ev.bind z1 ?_, Ev.bind z2 ?_, by omega⟩
        · simp (disch := omega) only [cpos, cneg, getD_at hz']; exact Ev.bind r1 (Ev.pure _)
        · simp (disch := omega) only [cpos, cneg]
          refine Ev.bind0 (isUpper_ev _) ?_
          rw [decide_eq_true c1, decide_eq_true c2]
          simp (disch := omega) only [Bool.and_self, cond_true, cpos, getD_at hz']
          exact Ev.bind r2 (Ev.pure _)
      · refine ⟨xs[z.toNat].short, Ev.bind z1 ?_, Ev.bind z2 ?_, hsh⟩
        · simp (disch := omega) only [cpos, cneg, getD_at hz']; exact Ev.pure _
        · simp (disch := omega) only [cpos, cneg]
          refine Ev.bind0 (isUpper_ev _) ?_
          rw [decide_eq_false c2]
          simp (disch := omega) only [Bool.and_false, cond_false, cpos, getD_at hz']
          exact Ev.pure _
    · refine ⟨xs[z.toNat].short, Ev.bind z1 ?_, Ev.bind z2 ?_, hsh⟩
      · simp (disch := omega) only [cpos, cneg, getD_at hz']; exact Ev.pure _
      · simp (disch := omega) only [cpos, cneg]
        refine Ev.bind0 (isUpper_ev _) ?_
        rw [decide_eq_false c1]
        simp (disch := omega) only [Bool.false_and, cond_false, cpos, getD_at hz']
        exact Ev.pure _

end Go.Proofs.YtnffgabfibafjaaDoor
