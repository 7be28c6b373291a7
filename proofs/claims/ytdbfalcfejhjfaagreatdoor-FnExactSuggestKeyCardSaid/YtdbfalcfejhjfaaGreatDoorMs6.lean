/- The law FnExactSuggestKey returns true for every input, the listed package variables being as the program's text lays it: the card. -/
import Derived.Test.YtdbfalcfejhjfaaGreatDoorMs5
import Derived.Lib.ItoaNum
import Derived.Test.YtdbfalcfejhjfaaGreatDoorCards
import Derived.Test.YtdbfalcfejhjfaaGreatDoorTie
import Derived.Test.YtdbfalcfejhjfaaGreatDoorMs3
import Derived.Shelf.Vars
import Derived.WalkKit
import Derived.ProofKit
import Derived.OpenShut
import Derived.Deep.DeepHandedRow
import Derived.Lib.LaidTab
section
namespace Go.Proofs.YtdbfalcfejhjfaaGreatDoor
open Go.Gx
set_option linter.unusedVariables false
set_option linter.unusedSimpArgs false

theorem in_ev (a b c : Int) : spec_l1In.F a b c = some (decide (a ≥ b) && decide (a ≤ c)) := by
  unfold spec_l1In.F
  cases decide (a ≥ b) <;> rfl
theorem inside_ev (a b c : Int) : impl_inside.F a b c = some (decide (a ≥ b) && decide (a ≤ c)) := by
  unfold impl_inside.F
  cases decide (a ≥ b) <;> rfl
theorem and_step {f : Nat → Option Bool} {b c : Bool} (h : b = true → Ev f c) : Ev (fun k => bif (!b) then some false else f k) (b && c) := by
  cases b with
  | false => exact Ev.pure _
  | true => exact h rfl
theorem and_step' {f : Nat → Option Bool} {b c : Bool} (h : b = true → Ev f c) : Ev (fun k => bif b then f k else some false) (b && c) := by
  cases b with
  | false => exact Ev.pure _
  | true => exact h rfl
theorem cbx (b : Bool) {α : Type} (x : α) : (bif b then x else x) = x := by cases b <;> rfl

/-! ### Bytes -/
def lowc (b : Int) : Bool := decide (97 ≤ b) && decide (b ≤ 122)
def upc (b : Int) : Bool := decide (65 ≤ b) && decide (b ≤ 90)
def ltr (b : Int) : Bool := upc b || lowc b
def dig (b : Int) : Bool := decide (48 ≤ b) && decide (b ≤ 57)
theorem sLower (b : Int) : spec_l2Lower.F b = some (lowc b) := by
  unfold spec_l2Lower.F lowc
  simp only [ge_iff_le]
  cases decide (97 ≤ b) <;> rfl
theorem sUpper (b : Int) : spec_l2Upper.F b = some (upc b) := by
  unfold spec_l2Upper.F upc
  simp only [ge_iff_le]
  cases decide (65 ≤ b) <;> rfl
theorem sLetter (b : Int) : spec_l2Letter.F b = some (ltr b) := by
  unfold spec_l2Letter.F ltr
  rw [sUpper, sLower]
  cases upc b <;> rfl
theorem iLower (b : Int) : impl_isLower.F b = some (lowc b) := by
  unfold impl_isLower.F lowc
  simp only [ge_iff_le]
  cases decide (97 ≤ b) <;> rfl
theorem iUpper (b : Int) : impl_isUpper.F b = some (upc b) := by
  unfold impl_isUpper.F upc
  simp only [ge_iff_le]
  cases decide (65 ≤ b) <;> rfl
theorem iLetter (b : Int) : impl_isLetter.F b = some (ltr b) := by
  unfold impl_isLetter.F ltr
  rw [iUpper, iLower]
  cases upc b <;> rfl
theorem iDigit (b : Int) : impl_isDigit.F b = some (dig b) := by
  unfold impl_isDigit.F dig
  simp only [ge_iff_le]
  cases decide (48 ≤ b) <;> rfl
def ins (n : Nat) (lo hi : Int) : Bool := decide ((n : Int) ≥ lo) && decide ((n : Int) ≤ hi)
theorem ins_le {n : Nat} {lo hi : Int} (h : ins n lo hi = true) : lo ≤ n ∧ (n : Int) ≤ hi := by
  unfold ins at h
  simp only [Bool.and_eq_true, decide_eq_true_eq] at h
  exact h

/-! ### Keys -/
def kb (s : ByteArray) (i : Nat) : Bool := lowc (bt s i) || dig (bt s i)
def keyB (s : ByteArray) : Bool := ins s.size 1 10 && (lowc (bt s 0) && (List.range' 0 s.size).all (kb s))
theorem specKey_l0 (s : ByteArray) (hs : s.size ≤ 10) : Ev (fun k => spec_l4Key.l0 k s ((0 : Nat) : Int)) (if (List.range' 0 s.size).all (kb s) = true then .inr () else .inl false) := by
  refine loop_all (f := fun k i => spec_l4Key.l0 k s i) (n := s.size) (fun i hi hp => ?_) (fun i r hi hp ih => ?_) ?_ s.size 0 (by omega)
  · refine Ev.step (fun k => by rw [spec_l4Key.l0]) ?_
    unfold kb at hp
    rw [Bool.or_eq_false_iff] at hp
    simp (disch := omega) only [cpos, Int.toNat_natCast]
    refine Ev.bind0 (sLower _) ?_
    rw [hp.1]
    have h2 := hp.2
    unfold dig at h2
    by_cases c : bt s i < 48
    · simp (disch := omega) only [cpos, Bool.not_false, cond_true]
      exact Ev.pure _
    · have c2 : bt s i > 57 := by
        rw [decide_eq_true (show 48 ≤ bt s i by omega), Bool.true_and, decide_eq_false_iff_not] at h2
        omega
      simp (disch := omega) only [cpos, cneg, Bool.not_false, cond_true]
      exact Ev.pure _
  · refine Ev.step (fun k => by rw [spec_l4Key.l0]) ?_
    simp (disch := omega) only [cpos, Int.toNat_natCast]
    refine Ev.bind0 (sLower _) ?_
    cases hl : lowc (bt s i) with
    | true =>
      simp (disch := omega) only [Bool.not_true, cond_false, wrap_in]
      exact ih
    | false =>
      unfold kb at hp
      rw [hl, Bool.false_or] at hp
      unfold dig at hp
      simp only [Bool.and_eq_true, decide_eq_true_eq] at hp
      simp (disch := omega) only [Bool.not_false, cond_true, cpos, cneg, wrap_in]
      exact ih
  · refine Ev.step (fun k => by rw [spec_l4Key.l0]) ?_
    simp (disch := omega) only [cneg]
    exact Ev.pure _
theorem isKey_l0 (s : ByteArray) (hs : s.size ≤ 10) : Ev (fun k => impl_isKey.l0 k s ((0 : Nat) : Int)) (if (List.range' 0 s.size).all (kb s) = true then .inr () else .inl false) := by
  refine loop_all (f := fun k i => impl_isKey.l0 k s i) (n := s.size) (fun i hi hp => ?_) (fun i r hi hp ih => ?_) ?_ s.size 0 (by omega)
  · refine Ev.step (fun k => by rw [impl_isKey.l0]) ?_
    unfold kb at hp
    rw [Bool.or_eq_false_iff] at hp
    simp (disch := omega) only [cpos, Int.toNat_natCast]
    refine Ev.bind0 (iLower _) ?_
    rw [hp.1]
    simp (disch := omega) only [Bool.not_false, cond_true, cpos]
    refine Ev.bind0 (iDigit _) ?_
    rw [hp.2]
    exact Ev.pure _
  · refine Ev.step (fun k => by rw [impl_isKey.l0]) ?_
    simp (disch := omega) only [cpos, Int.toNat_natCast]
    refine Ev.bind0 (iLower _) ?_
    cases hl : lowc (bt s i) with
    | true =>
      simp (disch := omega) only [Bool.not_true, cond_false, wrap_in]
      exact ih
    | false =>
      unfold kb at hp
      rw [hl, Bool.false_or] at hp
      simp (disch := omega) only [Bool.not_false, cond_true, cpos]
      refine Ev.bind0 (iDigit _) ?_
      rw [hp]
      simp (disch := omega) only [Bool.not_true, cond_false, wrap_in]
      exact ih
  · refine Ev.step (fun k => by rw [impl_isKey.l0]) ?_
    simp (disch := omega) only [cneg]
    exact Ev.pure _
theorem specKey_ev (s : ByteArray) : Ev (fun k => spec_l4Key.F k s) (keyB s) := by
  unfold spec_l4Key.F keyB
  refine Ev.bind0 (in_ev _ _ _) (and_step fun h => ?_)
  obtain ⟨h1, h2⟩ := ins_le h
  simp (disch := omega) only [cpos, show (0 : Int).toNat = 0 from rfl]
  refine Ev.bind0 (sLower _) (and_step fun _ => ?_)
  have := specKey_l0 s (by omega)
  cases ha : (List.range' 0 s.size).all (kb s) with
  | true => rw [ha] at this; exact Ev.bind this (Ev.pure _)
  | false => rw [ha] at this; exact Ev.bind this (Ev.pure _)
theorem isKey_ev (s : ByteArray) : Ev (fun k => impl_isKey.F k s) (keyB s) := by
  unfold impl_isKey.F keyB
  refine Ev.bind0 (inside_ev _ _ _) (and_step fun h => ?_)
  obtain ⟨h1, h2⟩ := ins_le h
  simp (disch := omega) only [cpos, show (0 : Int).toNat = 0 from rfl]
  refine Ev.bind0 (iLower _) (and_step fun _ => ?_)
  have := isKey_l0 s (by omega)
  cases ha : (List.range' 0 s.size).all (kb s) with
  | true => rw [ha] at this; exact Ev.bind this (Ev.pure _)
  | false => rw [ha] at this; exact Ev.bind this (Ev.pure _)

/-! ### Words of names -/
def wp (s : ByteArray) (i : Nat) : Bool := ltr (bt s i) || ((bt s i == 45 || bt s i == 39) && ltr (bt s (i - 1)))
def wordB (s : ByteArray) : Bool := ins s.size 1 12 && (ltr (bt s 0) && (ltr (bt s (s.size - 1)) && (List.range' 1 (s.size - 1)).all (wp s)))
theorem wcase {s : ByteArray} {i : Nat} (h : ltr (bt s i) = false) (h1 : bt s i ≠ 45) (h2 : bt s i ≠ 39) : wp s i = false := by
  unfold wp
  rw [h, show (bt s i == 45) = false by simpa using h1, show (bt s i == 39) = false by simpa using h2]; rfl
theorem wcase' {s : ByteArray} {i : Nat} (h : ltr (bt s i) = false) (h1 : bt s i = 45 ∨ bt s i = 39) : wp s i = ltr (bt s (i - 1)) := by
  unfold wp
  rw [h]
  rcases h1 with h1 | h1 <;> rw [h1] <;> simp
theorem specWord_l0 (s : ByteArray) (hs : s.size ≤ 12) : ∀ m i : Nat, i + m = s.size → 1 ≤ i → Ev (fun k => spec_l2Word.l0 k s i) (if (List.range' i m).all (wp s) = true then .inr () else .inl false)
  | 0, i, h, h1 => by
    refine Ev.step (fun k => by rw [spec_l2Word.l0]) ?_
    simp (disch := omega) only [cneg]
    exact Ev.pure _
  | m + 1, i, h, h1 => by
    have ih := specWord_l0 s hs m (i + 1) (by omega) (by omega)
    have et : ((i : Int) - 1).toNat = i - 1 := by omega
    refine Ev.step (fun k => by rw [spec_l2Word.l0]) ?_
    rw [List.range'_succ, List.all_cons]
    simp (disch := omega) only [cpos, Int.toNat_natCast]
    refine Ev.bind0 (sLetter _) ?_
    cases hl : ltr (bt s i) with
    | true =>
      have : wp s i = true := by unfold wp; rw [hl]; rfl
      rw [this]
      simp (disch := omega) only [Bool.not_true, cond_false, Bool.true_and, wrap_in]
      exact ih
    | false =>
      have fin : (bt s i = 45 ∨ bt s i = 39) → Ev (fun k => (spec_l2Letter.F (bt s (i - 1))).bind fun r5 => bif (!r5) then (some (.inl false)) else (spec_l2Word.l0 k s ((i : Int) + 1))) (if (wp s i && (List.range' (i + 1) m).all (wp s)) = true then .inr () else .inl false) := fun hh => by
        refine Ev.bind0 (sLetter _) ?_
        rw [wcase' hl hh]
        cases ltr (bt s (i - 1)) with
        | true => exact ih
        | false => exact Ev.pure _
      by_cases c1 : bt s i = 45
      · simp (disch := first | exact c1 | omega) only [Bool.not_false, cond_true, cpos, cbeq, wrap_in, et]
        exact fin (.inl c1)
      · by_cases c2 : bt s i = 39
        · simp (disch := first | exact c1 | exact c2 | omega) only [Bool.not_false, cond_true, cpos, cbne, cbeq, wrap_in, et]
          exact fin (.inr c2)
        · rw [wcase hl c1 c2]
          simp (disch := first | exact c1 | exact c2 | omega) only [Bool.not_false, cond_true, cpos, cbne]
          exact Ev.pure _
theorem isWord_l0 (s : ByteArray) (hs : s.size ≤ 12) : ∀ m i : Nat, i + m = s.size → 1 ≤ i → Ev (fun k => impl_isNameWord.l0 k s i) (if (List.range' i m).all (wp s) = true then .inr () else .inl false)
  | 0, i, h, h1 => by
    refine Ev.step (fun k => by rw [impl_isNameWord.l0]) ?_
    simp (disch := omega) only [cneg]
    exact Ev.pure _
  | m + 1, i, h, h1 => by
    have ih := isWord_l0 s hs m (i + 1) (by omega) (by omega)
    have et : ((i : Int) - 1).toNat = i - 1 := by omega
    refine Ev.step (fun k => by rw [impl_isNameWord.l0]) ?_
    rw [List.range'_succ, List.all_cons]
    simp (disch := omega) only [cpos, Int.toNat_natCast]
    refine Ev.bind0 (iLetter _) ?_
    cases hl : ltr (bt s i) with
    | true =>
      have : wp s i = true := by unfold wp; rw [hl]; rfl
      rw [this]
      simp (disch := omega) only [Bool.not_true, cond_false, Bool.true_and, wrap_in]
      exact ih
    | false =>
      have fin : (bt s i = 45 ∨ bt s i = 39) → Ev (fun k => (impl_isLetter.F (bt s (i - 1))).bind fun r5 => bif (!r5) then (some (.inl false)) else (impl_isNameWord.l0 k s ((i : Int) + 1))) (if (wp s i && (List.range' (i + 1) m).all (wp s)) = true then .inr () else .inl false) := fun hh => by
        refine Ev.bind0 (iLetter _) ?_
        rw [wcase' hl hh]
        cases ltr (bt s (i - 1)) with
        | true => exact ih
        | false => exact Ev.pure _
      by_cases c1 : bt s i = 45
      · simp (disch := first | exact c1 | omega) only [Bool.not_false, cond_true, cpos, cbeq, wrap_in, et]
        exact fin (.inl c1)
      · by_cases c2 : bt s i = 39
        · simp (disch := first | exact c1 | exact c2 | omega) only [Bool.not_false, cond_true, cpos, cbne, cbeq, wrap_in, et]
          exact fin (.inr c2)
        · rw [wcase hl c1 c2]
          simp (disch := first | exact c1 | exact c2 | omega) only [Bool.not_false, cond_true, cpos, cbne]
          exact Ev.pure _
theorem specWord_ev (s : ByteArray) : Ev (fun k => spec_l2Word.F k s) (wordB s) := by
  unfold spec_l2Word.F wordB
  refine Ev.bind0 (in_ev _ _ _) (and_step fun h => ?_)
  obtain ⟨h1, h2⟩ := ins_le h
  have et : ((s.size : Int) - 1).toNat = s.size - 1 := by omega
  simp (disch := omega) only [cpos, show (0 : Int).toNat = 0 from rfl, wrap_in, et]
  refine Ev.bind0 (sLetter _) (and_step fun _ => ?_)
  refine Ev.bind0 (sLetter _) (and_step fun _ => ?_)
  have := specWord_l0 s (by omega) (s.size - 1) 1 (by omega) (Nat.le_refl _)
  cases ha : (List.range' 1 (s.size - 1)).all (wp s) with
  | true => rw [ha] at this; exact Ev.bind this (Ev.pure _)
  | false => rw [ha] at this; exact Ev.bind this (Ev.pure _)
theorem isWord_ev (s : ByteArray) : Ev (fun k => impl_isNameWord.F k s) (wordB s) := by
  unfold impl_isNameWord.F wordB
  refine Ev.bind0 (inside_ev _ _ _) (and_step fun h => ?_)
  obtain ⟨h1, h2⟩ := ins_le h
  have et : ((s.size : Int) - 1).toNat = s.size - 1 := by omega
  simp (disch := omega) only [cpos, show (0 : Int).toNat = 0 from rfl, wrap_in, et]
  refine (Ev.bind0 (iLetter _) (and_step (c := ltr (bt s 0) && (List.range' 1 (s.size - 1)).all (wp s)) fun _ => ?_)).eq (Bool.and_left_comm _ _ _)
  refine Ev.bind0 (iLetter _) (and_step fun h0 => ?_)
  have := isWord_l0 s (by omega) (s.size - 1) 1 (by omega) (Nat.le_refl _)
  refine Ev.bind (a := if (List.range' 1 (s.size - 1)).all (wp s) = true then .inr () else .inl false) ?_ ?_
  · refine Ev.step (fun k => by rw [impl_isNameWord.l0]) ?_
    simp (disch := omega) only [cpos, show (0 : Int).toNat = 0 from rfl]
    refine Ev.bind0 (iLetter _) ?_
    rw [h0]
    simp (disch := omega) only [Bool.not_true, cond_false, wrap_in]
    exact this
  · cases (List.range' 1 (s.size - 1)).all (wp s) <;> exact Ev.pure _

/-! ### Particles -/
def lowA (s : ByteArray) : Bool := (List.range' 0 s.size).all fun i => lowc (bt s i)
theorem lowA_word {s : ByteArray} (h : lowA s = true) : wordB s = ins s.size 1 12 := by
  unfold lowA at h
  rw [List.all_eq_true] at h
  have hl : ∀ i, i < s.size → ltr (bt s i) = true := fun i hi => by
    unfold ltr
    rw [h i (by rw [List.mem_range'_1]; omega), Bool.or_true]
  unfold wordB
  cases hi : ins s.size 1 12 with
  | false => rfl
  | true =>
    obtain ⟨h1, h2⟩ := ins_le hi
    rw [hl 0 (by omega), hl (s.size - 1) (by omega)]
    have : (List.range' 1 (s.size - 1)).all (wp s) = true := by
      rw [List.all_eq_true]
      intro i hi
      rw [List.mem_range'_1] at hi
      unfold wp
      rw [hl i (by omega)]; rfl
    rw [this]; rfl
def pw (s : ByteArray) : Bool := ins s.size 1 12 && lowA s
theorem pw_eq (s : ByteArray) : (wordB s && lowA s) = pw s := by
  unfold pw
  cases h : lowA s with
  | false => rw [Bool.and_false, Bool.and_false]
  | true => rw [lowA_word h]
def particleB (s : ByteArray) : Bool := decide (s.size = 0) || ((words s).all pw && decide ((words s).length ≤ 2))
theorem empty_eq (s : ByteArray) : beqS s ⟨#[]⟩ = decide (s.size = 0) := by
  rw [← Bool.not_not (b := beqS s ⟨#[]⟩), size_pos]
  by_cases hz : s.size = 0
  · simp [hz]
  · rw [decide_eq_true (by omega : 0 < s.size), decide_eq_false hz]; rfl
theorem specPart_l2 (W : List ByteArray) (i : Nat) (hi : i < W.length) (hs : W[i].size ≤ 1048576) : Ev (fun k => spec_l2Particle.l2 k W i ((0 : Nat) : Int)) (if lowA W[i] = true then .inr (W, (i : Int)) else .inl false) := by
  refine loop_all (f := fun k j => spec_l2Particle.l2 k W i j) (n := W[i].size) (p := fun j => lowc (bt W[i] j)) (fun j hj hp => ?_) (fun j r hj hp ih => ?_) ?_ W[i].size 0 (by omega)
  · refine Ev.step (fun k => by rw [spec_l2Particle.l2]) ?_
    simp (disch := omega) only [cpos, Int.toNat_natCast, getD_at hi]
    refine Ev.bind0 (sLower _) ?_
    rw [hp]
    exact Ev.pure _
  · refine Ev.step (fun k => by rw [spec_l2Particle.l2]) ?_
    simp (disch := omega) only [cpos, Int.toNat_natCast, getD_at hi]
    refine Ev.bind0 (sLower _) ?_
    rw [hp]
    simp (disch := omega) only [Bool.not_true, cond_false, wrap_in]
    exact ih
  · refine Ev.step (fun k => by rw [spec_l2Particle.l2]) ?_
    simp (disch := omega) only [cpos, cneg, Int.toNat_natCast, getD_at hi]
    exact Ev.pure _
theorem isPart_l2 (W : List ByteArray) (w : ByteArray) (n i : Int) (hs : w.size ≤ 1048576) : Ev (fun k => impl_isParticle.l2 k W w ((0 : Nat) : Int) n i) (if lowA w = true then .inr (W, n, i) else .inl false) := by
  refine loop_all (f := fun k j => impl_isParticle.l2 k W w j n i) (n := w.size) (p := fun j => lowc (bt w j)) (fun j hj hp => ?_) (fun j r hj hp ih => ?_) ?_ w.size 0 (by omega)
  · refine Ev.step (fun k => by rw [impl_isParticle.l2]) ?_
    simp (disch := omega) only [cpos, Int.toNat_natCast]
    refine Ev.bind0 (iLower _) ?_
    rw [hp]
    exact Ev.pure _
  · refine Ev.step (fun k => by rw [impl_isParticle.l2]) ?_
    simp (disch := omega) only [cpos, Int.toNat_natCast]
    refine Ev.bind0 (iLower _) ?_
    rw [hp]
    simp (disch := omega) only [Bool.not_true, cond_false, wrap_in]
    exact ih
  · refine Ev.step (fun k => by rw [impl_isParticle.l2]) ?_
    simp (disch := omega) only [cneg]
    exact Ev.pure _
theorem specPart_l0 (W : List ByteArray) (hl : W.length ≤ 1048577) (hW : ∀ x ∈ W, x.size ≤ 1048576) : Ev (fun k => spec_l2Particle.l0 k W ((0 : Nat) : Int)) (if (List.range' 0 W.length).all (fun i => pw (W.getD i ⟨#[]⟩)) = true then .inr W else .inl false) := by
  refine loop_all (f := fun k j => spec_l2Particle.l0 k W j) (n := W.length) (p := fun i => pw (W.getD i ⟨#[]⟩)) (fun j hj hp => ?_) (fun j r hj hp ih => ?_) ?_ W.length 0 (by omega)
  · rw [getD_at hj, ← pw_eq] at hp
    refine Ev.step (fun k => by rw [spec_l2Particle.l0]) ?_
    simp (disch := omega) only [cpos, Int.toNat_natCast, getD_at hj]
    refine Ev.bind (specWord_ev _) ?_
    cases hw : wordB W[j] with
    | false => exact Ev.pure _
    | true =>
      rw [hw, Bool.true_and] at hp
      have := specPart_l2 W j hj (hW _ (List.getElem_mem hj))
      rw [hp] at this
      exact Ev.bind this (Ev.pure _)
  · rw [getD_at hj, ← pw_eq, Bool.and_eq_true] at hp
    refine Ev.step (fun k => by rw [spec_l2Particle.l0]) ?_
    simp (disch := omega) only [cpos, Int.toNat_natCast, getD_at hj]
    refine Ev.bind (specWord_ev _) ?_
    rw [hp.1]
    have := specPart_l2 W j hj (hW _ (List.getElem_mem hj))
    rw [hp.2] at this
    refine Ev.bind (a := .inr (W, (j : Int))) this ?_
    simp (disch := omega) only [wrap_in]
    exact ih
  · refine Ev.step (fun k => by rw [spec_l2Particle.l0]) ?_
    simp (disch := omega) only [cneg]
    exact Ev.pure _
theorem isPart_l0 (W : List ByteArray) (hl : W.length ≤ 1048577) (hW : ∀ x ∈ W, x.size ≤ 1048576) : Ev (fun k => impl_isParticle.l0 k W W.length ((0 : Nat) : Int)) (if (List.range' 0 W.length).all (fun i => pw (W.getD i ⟨#[]⟩)) = true then .inr W else .inl false) := by
  refine loop_all (f := fun k j => impl_isParticle.l0 k W W.length j) (n := W.length) (p := fun i => pw (W.getD i ⟨#[]⟩)) (fun j hj hp => ?_) (fun j r hj hp ih => ?_) ?_ W.length 0 (by omega)
  · rw [getD_at hj] at hp
    unfold pw at hp
    refine Ev.step (fun k => by rw [impl_isParticle.l0]) ?_
    simp (disch := omega) only [cpos, Int.toNat_natCast, getD_at hj]
    refine Ev.bind0 (inside_ev _ _ _) ?_
    cases hw : ins W[j].size 1 12 with
    | false =>
      unfold ins at hw
      rw [hw]
      exact Ev.pure _
    | true =>
      rw [hw, Bool.true_and] at hp
      unfold ins at hw
      rw [hw]
      have := isPart_l2 W W[j] W.length j (hW _ (List.getElem_mem hj))
      rw [hp] at this
      exact Ev.bind this (Ev.pure _)
  · rw [getD_at hj] at hp
    unfold pw at hp
    rw [Bool.and_eq_true] at hp
    obtain ⟨hp1, hp2⟩ := hp
    unfold ins at hp1
    refine Ev.step (fun k => by rw [impl_isParticle.l0]) ?_
    simp (disch := omega) only [cpos, Int.toNat_natCast, getD_at hj]
    refine Ev.bind0 (inside_ev _ _ _) ?_
    rw [hp1]
    have := isPart_l2 W W[j] W.length j (hW _ (List.getElem_mem hj))
    rw [hp2] at this
    refine Ev.bind (a := .inr (W, (W.length : Int), (j : Int))) this ?_
    simp (disch := omega) only [wrap_in]
    exact ih
  · refine Ev.step (fun k => by rw [impl_isParticle.l0]) ?_
    simp (disch := omega) only [cneg]
    exact Ev.pure _
theorem specPart_ev (s : ByteArray) (hs : s.size ≤ 1048576) : Ev (fun k => spec_l2Particle.F k s) (particleB s) := by
  unfold spec_l2Particle.F particleB
  rw [empty_eq]
  cases decide (s.size = 0) with
  | true => exact Ev.pure _
  | false =>
    refine Ev.bind (specSplit_ev s hs) ?_
    have := specPart_l0 (words s) (by have := (words_len s).2; omega) (fun x hx => by have := words_small _ _ x hx; omega)
    rw [range_all (words s) ⟨#[]⟩ pw] at this
    rw [Bool.false_or]
    cases ha : (words s).all pw with
    | true =>
      rw [ha] at this
      refine Ev.bind this ((Ev.pure _).eq ?_)
      rw [Bool.true_and]; exact decide_eq_decide.2 (by omega)
    | false => rw [ha] at this; exact Ev.bind this (Ev.pure _)
theorem isPart_ev (s : ByteArray) (hs : s.size ≤ 1048576) : Ev (fun k => impl_isParticle.F k s) (particleB s) := by
  unfold impl_isParticle.F particleB
  rw [empty_eq]
  cases decide (s.size = 0) with
  | true => exact Ev.pure _
  | false =>
    refine Ev.bind0 (split_ev s hs) ?_
    have := isPart_l0 (words s) (by have := (words_len s).2; omega) (fun x hx => by have := words_small _ _ x hx; omega)
    rw [range_all (words s) ⟨#[]⟩ pw] at this
    rw [Bool.false_or]
    cases ha : (words s).all pw with
    | true =>
      rw [ha] at this
      refine Ev.bind this ((Ev.pure _).eq ?_)
      rw [Bool.true_and]; exact decide_eq_decide.2 (by omega)
    | false => rw [ha] at this; exact Ev.bind this (Ev.pure _)

/-! ### Names -/
def gw (s : ByteArray) : Bool := wordB s && upc (bt s 0)
theorem word_size {s : ByteArray} (h : wordB s = true) : 1 ≤ s.size := by
  unfold wordB at h
  rw [Bool.and_eq_true] at h
  have := (ins_le h.1).1
  omega
theorem isGreat_ev (s : ByteArray) : Ev (fun k => impl_isGreatWord.F k s) (gw s) := by
  unfold impl_isGreatWord.F gw
  refine Ev.bind (isWord_ev s) (and_step' fun h => ?_)
  have := word_size h
  simp (disch := omega) only [cpos, show (0 : Int).toNat = 0 from rfl]
  exact Ev.bind0 (iUpper _) (Ev.pure _)
def suffB (s : ByteArray) : Bool := decide (s.size = 0) || wordB s
def nameB (n : Name) : Bool := n.given.all gw && (decide (n.given.length ≤ 3) && (particleB n.particle && (gw n.family && suffB n.suffix)))
theorem specGood_l0 (n : Name) (hn : n.given.length ≤ 1048576) : Ev (fun k => spec_l2Good.l0 k n ((0 : Nat) : Int)) (if (List.range' 0 n.given.length).all (fun i => gw (n.given.getD i ⟨#[]⟩)) = true then .inr n else .inl false) := by
  refine loop_all (f := fun k j => spec_l2Good.l0 k n j) (n := n.given.length) (p := fun i => gw (n.given.getD i ⟨#[]⟩)) (fun j hj hp => ?_) (fun j r hj hp ih => ?_) ?_ n.given.length 0 (by omega)
  · rw [getD_at hj] at hp
    unfold gw at hp
    refine Ev.step (fun k => by rw [spec_l2Good.l0]) ?_
    simp (disch := omega) only [cpos, Int.toNat_natCast, getD_at hj]
    refine Ev.bind (specWord_ev _) ?_
    cases hw : wordB n.given[j] with
    | false => exact Ev.pure _
    | true =>
      rw [hw, Bool.true_and] at hp
      have := word_size hw
      simp (disch := omega) only [cpos, show (0 : Int).toNat = 0 from rfl, Bool.not_true, cond_false]
      refine Ev.bind0 (sUpper _) ?_
      rw [hp]
      exact Ev.pure _
  · rw [getD_at hj] at hp
    unfold gw at hp
    rw [Bool.and_eq_true] at hp
    have := word_size hp.1
    refine Ev.step (fun k => by rw [spec_l2Good.l0]) ?_
    simp (disch := omega) only [cpos, Int.toNat_natCast, getD_at hj]
    refine Ev.bind (specWord_ev _) ?_
    rw [hp.1]
    simp (disch := omega) only [cpos, show (0 : Int).toNat = 0 from rfl, Bool.not_true, cond_false]
    refine Ev.bind0 (sUpper _) ?_
    rw [hp.2]
    simp (disch := omega) only [Bool.not_true, cond_false, wrap_in]
    exact ih
  · refine Ev.step (fun k => by rw [spec_l2Good.l0]) ?_
    simp (disch := omega) only [cneg]
    exact Ev.pure _
theorem specName_ev (n : Name) (hs : smallN n) : Ev (fun k => spec_l2Good.F k n) (nameB n) := by
  have hg : n.given.length ≤ 1048576 := by unfold smallN totN at hs; omega
  have hp : n.particle.size ≤ 1048576 := by unfold smallN totN at hs; omega
  unfold spec_l2Good.F nameB
  have := specGood_l0 n hg
  rw [range_all n.given ⟨#[]⟩ gw] at this
  cases ha : n.given.all gw with
  | false => rw [ha] at this; exact Ev.bind this (Ev.pure _)
  | true =>
    rw [ha] at this
    refine Ev.bind (a := .inr n) this ?_
    dsimp only
    rw [Bool.true_and, show decide (n.given.length ≤ 3) = decide ((n.given.length : Int) ≤ 3) from decide_eq_decide.2 (by omega)]
    refine and_step' fun _ => ?_
    refine Ev.bind (specPart_ev _ hp) (and_step' fun _ => ?_)
    unfold gw
    rw [Bool.and_assoc]
    refine Ev.bind (specWord_ev _) (and_step' fun h => ?_)
    have := word_size h
    simp (disch := omega) only [cpos, show (0 : Int).toNat = 0 from rfl]
    refine Ev.bind0 (sUpper _) (and_step' fun _ => ?_)
    unfold suffB
    rw [empty_eq]
    cases decide (n.suffix.size = 0) with
    | true => exact Ev.pure _
    | false => exact Ev.bind (specWord_ev _) (Ev.pure _)
theorem isName_ev (n : Name) (hs : smallN n) : Ev (fun k => impl_IsValidName.F k n) (nameB n) := by
  have hg : n.given.length ≤ 1048576 := by unfold smallN totN at hs; omega
  have hp : n.particle.size ≤ 1048576 := by unfold smallN totN at hs; omega
  unfold impl_IsValidName.F nameB
  by_cases c : n.given.length ≤ 3
  · simp (disch := omega) only [cneg, dpos, Bool.true_and]
    have hq : ∀ x, x ∈ n.given → Ev (fun k => impl_IsValidName_1.F k x) (!gw x) := fun x _ => by
      unfold impl_IsValidName_1.F
      exact Ev.bind (isGreat_ev x) (Ev.pure _)
    obtain ⟨r, h1, h2⟩ := idx_ev (d := (⟨#[]⟩ : ByteArray)) (p := fun x => !gw x) (q := impl_IsValidName_1.F) (xs := n.given) (l0 := slices_IndexFunc_string_f97.l0) (fun k x0 x7 x8 => by rw [slices_IndexFunc_string_f97.l0]) hq (by omega) (F := slices_IndexFunc_string_f97.F) (fun k a0 => rfl)
    refine Ev.bind (a := !n.given.all gw) ?_ ?_
    · unfold slices_ContainsFunc_string_f97.F
      refine Ev.bind h1 ((Ev.pure _).eq ?_)
      rcases h2 with ⟨rfl, h2⟩ | ⟨j, rfl, hj, hp, _⟩
      · have : n.given.all gw = true := List.all_eq_true.2 fun x hx => by have := h2 x hx; simpa using this
        rw [this]; rfl
      · have : n.given.all gw = false := by
          rw [List.all_eq_false]
          refine ⟨n.given[j], List.getElem_mem hj, ?_⟩
          rw [getD_at hj] at hp
          simpa using hp
        rw [this, decide_eq_true (by omega)]; rfl
    · cases n.given.all gw with
      | false => exact Ev.pure _
      | true =>
        rw [Bool.true_and]
        refine Ev.bind (isPart_ev _ hp) (and_step' fun _ => ?_)
        refine Ev.bind (isGreat_ev _) (and_step' fun _ => ?_)
        unfold suffB
        rw [empty_eq]
        cases decide (n.suffix.size = 0) with
        | true => exact Ev.pure _
        | false => exact Ev.bind (isWord_ev _) (Ev.pure _)
  · simp (disch := omega) only [cpos, dneg, Bool.false_and, Bool.and_false]
    exact Ev.pure _
def namesB (l : List Name) : Bool := l.all nameB && decide (l.length ≤ 4)
theorem specList_l0 (l : List Name) (hl : l.length ≤ 1048576) (hs : ∀ n ∈ l, smallN n) : ∀ m i : Nat, i + m = l.length → ∃ r, Ev (fun k => spec_l2List.l0 k l i) r ∧ (r = .inl false ∨ r = .inr l) ∧ (l.length ≤ 4 → r = if (l.drop i).all nameB = true then .inr l else .inl false)
  | 0, i, h => by
    refine ⟨.inr l, Ev.step (fun k => by rw [spec_l2List.l0]) ?_, .inr rfl, fun _ => by rw [List.drop_eq_nil_of_le (by omega)]; rfl⟩
    simp (disch := omega) only [cneg]
    exact Ev.pure _
  | m + 1, i, h => by
    have hi : i < l.length := by omega
    by_cases c4 : (i : Int) ≤ 4
    · cases hn : nameB l[i] with
      | false =>
        refine ⟨.inl false, Ev.step (fun k => by rw [spec_l2List.l0]) ?_, .inl rfl, fun _ => by rw [List.drop_eq_getElem_cons hi, List.all_cons, hn]; rfl⟩
        simp (disch := omega) only [cpos, Int.toNat_natCast, getD_at hi]
        refine Ev.bind (specName_ev _ (hs _ (List.getElem_mem hi))) ?_
        rw [hn]
        exact Ev.pure _
      | true =>
        obtain ⟨r, h1, h2, h3⟩ := specList_l0 l hl hs m (i + 1) (by omega)
        refine ⟨r, Ev.step (fun k => by rw [spec_l2List.l0]) ?_, h2, fun h4 => by rw [h3 h4, List.drop_eq_getElem_cons hi, List.all_cons, hn, Bool.true_and]⟩
        simp (disch := omega) only [cpos, Int.toNat_natCast, getD_at hi]
        refine Ev.bind (specName_ev _ (hs _ (List.getElem_mem hi))) ?_
        rw [hn]
        simp (disch := omega) only [Bool.not_true, cond_false, wrap_in]
        exact h1
    · refine ⟨.inr l, Ev.step (fun k => by rw [spec_l2List.l0]) ?_, .inr rfl, fun h4 => by omega⟩
      simp (disch := omega) only [cpos, cneg]
      exact Ev.pure _
theorem specNames_ev (l : List Name) (hl : totNs l ≤ 1048576) : Ev (fun k => spec_l2List.F k l) (namesB l) := by
  unfold spec_l2List.F namesB
  obtain ⟨r, h1, h2, h3⟩ := specList_l0 l (smallNs_len hl) (fun n hn => smallNs_at hl hn) l.length 0 (by omega)
  rw [List.drop_zero] at h3
  have e : decide (l.length ≤ 4) = decide ((l.length : Int) ≤ 4) := decide_eq_decide.2 (by omega)
  rw [e]
  by_cases c : l.length ≤ 4
  · rw [h3 c] at h1
    cases ha : l.all nameB with
    | true => rw [ha] at h1; exact Ev.bind h1 (Ev.pure _)
    | false => rw [ha] at h1; exact Ev.bind h1 (Ev.pure _)
  · rw [decide_eq_false (show ¬ (l.length : Int) ≤ 4 by omega), Bool.and_false]
    rcases h2 with rfl | rfl
    · exact Ev.bind h1 (Ev.pure _)
    · exact Ev.bind h1 ((Ev.pure _).eq (decide_eq_false (by omega)))
theorem areNames_ev (l : List Name) (hl : totNs l ≤ 1048576) : Ev (fun k => impl_areNames.F k l) (namesB l) := by
  have hlen := smallNs_len hl
  unfold impl_areNames.F namesB
  by_cases c : l.length ≤ 4
  · simp (disch := omega) only [cpos, dpos, Bool.and_true]
    have hq : ∀ x, x ∈ l → Ev (fun k => impl_areNames_1.F k x) (!nameB x) := fun x hx => by
      unfold impl_areNames_1.F
      exact Ev.bind (isName_ev x (smallNs_at hl hx)) (Ev.pure _)
    obtain ⟨r, h1, h2⟩ := idx_ev (d := (dflt .name : Name)) (p := fun x => !nameB x) (q := impl_areNames_1.F) (xs := l) (l0 := slices_IndexFunc_Name_f79.l0) (fun k x0 x7 x8 => by rw [slices_IndexFunc_Name_f79.l0]) hq (by omega) (F := slices_IndexFunc_Name_f79.F) (fun k a0 => rfl)
    refine Ev.bind (a := !l.all nameB) ?_ ?_
    · unfold slices_ContainsFunc_Name_f79.F
      refine Ev.bind h1 ((Ev.pure _).eq ?_)
      rcases h2 with ⟨rfl, h2⟩ | ⟨j, rfl, hj, hp, _⟩
      · have : l.all nameB = true := List.all_eq_true.2 fun x hx => by have := h2 x hx; simpa using this
        rw [this]; rfl
      · have : l.all nameB = false := by
          rw [List.all_eq_false]
          refine ⟨l[j], List.getElem_mem hj, ?_⟩
          rw [getD_at hj] at hp
          simpa using hp
        rw [this, decide_eq_true (by omega)]; rfl
    · rw [Bool.not_not]; exact Ev.pure _
  · simp (disch := omega) only [cneg, dneg, Bool.and_false]
    exact Ev.pure _

/-! ### Dates -/
theorem days_eq (y m : Int) (hy : 0 ≤ y) : ∃ r, spec_l3Days.F y m = some r ∧ impl_daysInMonth.F y m = some r := by
  have e1 : Int.tmod y 4 = y % 4 := Int.tmod_eq_emod_of_nonneg hy
  have e2 : Int.tmod y 100 = y % 100 := Int.tmod_eq_emod_of_nonneg hy
  have e3 : Int.tmod y 400 = y % 400 := Int.tmod_eq_emod_of_nonneg hy
  have z1 : ((4 : Nat) == 0) = false := rfl
  have z2 : ((100 : Nat) == 0) = false := rfl
  have z3 : ((400 : Nat) == 0) = false := rfl
  unfold spec_l3Days.F impl_daysInMonth.F
  rw [e1, e2, e3]
  by_cases c2 : m = 2
  · by_cases d1 : y % 4 = 0
    · by_cases d2 : y % 100 = 0
      · by_cases d3 : y % 400 = 0
        · exact ⟨29, by simp (disch := first | assumption | omega) only [ceq, cbeq, z1, z2, z3, cond_false], by simp (disch := first | assumption | omega) only [ceq, cbeq, z1, z2, z3, cond_false]⟩
        · exact ⟨28, by simp (disch := first | assumption | omega) only [ceq, cne, cbeq, z1, z2, z3, cond_false], by simp (disch := first | assumption | omega) only [ceq, cne, cbeq, z1, z2, z3, cond_false]⟩
      · exact ⟨29, by simp (disch := first | assumption | omega) only [ceq, cbne, z1, z2, z3, cond_false], by simp (disch := first | assumption | omega) only [ceq, cbne, z1, z2, z3, cond_false]⟩
    · have d3 : y % 400 ≠ 0 := by omega
      exact ⟨28, by simp (disch := first | assumption | omega) only [ceq, cne, z1, z2, z3, cond_false], by simp (disch := first | assumption | omega) only [ceq, cne, z1, z2, z3, cond_false]⟩
  · by_cases a : m = 4
    · exact ⟨30, by simp (disch := first | assumption | omega) only [ceq, cne], by simp (disch := first | assumption | omega) only [ceq, cne]⟩
    · by_cases b : m = 6
      · exact ⟨30, by simp (disch := first | assumption | omega) only [ceq, cne], by simp (disch := first | assumption | omega) only [ceq, cne]⟩
      · by_cases c : m = 9
        · exact ⟨30, by simp (disch := first | assumption | omega) only [ceq, cne], by simp (disch := first | assumption | omega) only [ceq, cne]⟩
        · by_cases d : m = 11
          · exact ⟨30, by simp (disch := first | assumption | omega) only [ceq, cne], by simp (disch := first | assumption | omega) only [ceq, cne]⟩
          · exact ⟨31, by simp (disch := first | assumption | omega) only [cne], by simp (disch := first | assumption | omega) only [cne]⟩
theorem date_eq2 (d : Date) : ∃ b, spec_l3Good.F d = some b ∧ impl_IsValidDate.F d = some b := by
  unfold spec_l3Good.F impl_IsValidDate.F
  cases (d.y == 0 && (d.m == 0 && (d.d == 0 && d.c == false))) with
  | true => exact ⟨true, rfl, rfl⟩
  | false =>
    rw [in_ev, inside_ev]
    simp only [Option.bind_some, cond_false]
    cases h1 : (decide (d.y ≥ 1) && decide (d.y ≤ 2999)) with
    | false => exact ⟨false, rfl, rfl⟩
    | true =>
      have hy : 0 ≤ d.y := by
        simp only [Bool.and_eq_true, decide_eq_true_eq] at h1; omega
      rw [in_ev, inside_ev]
      simp only [Option.bind_some, Bool.not_true, cond_false]
      cases h2 : (decide (d.m ≥ 0) && decide (d.m ≤ 12)) with
      | false => exact ⟨false, rfl, rfl⟩
      | true =>
        obtain ⟨r, r1, r2⟩ := days_eq d.y d.m hy
        rw [r1, r2]
        simp only [Option.bind_some, Bool.not_true, cond_false, in_ev, inside_ev]
        cases d.c with
        | true =>
          by_cases c : d.m = 0
          · exact ⟨d.d == 0, by simp (disch := first | assumption | omega) only [cond_true, ceq], by simp (disch := first | assumption | omega) only [cond_true, ceq, cbeq]⟩
          · exact ⟨false, by simp (disch := first | assumption | omega) only [cond_true, cne], by simp (disch := first | assumption | omega) only [cond_true, cbne]⟩
        | false => exact ⟨bif d.m == 0 then (d.d == 0) else (decide (d.d ≥ 0) && decide (d.d ≤ r)), by cases (d.m == 0) <;> rfl, by cases (d.m == 0) <;> rfl⟩
open Classical in
noncomputable def dateB (d : Date) : Bool := (date_eq2 d).choose
theorem specDate_ev (d : Date) : spec_l3Good.F d = some (dateB d) := (date_eq2 d).choose_spec.1
theorem isDate_ev (d : Date) : impl_IsValidDate.F d = some (dateB d) := (date_eq2 d).choose_spec.2

/-! ### Entries -/
def insI (n lo hi : Int) : Bool := decide (n ≥ lo) && decide (n ≤ hi)
def crossB (e : Entry) : Bool := decide (e.cross.size = 0) || (keyB e.cross && !beqS e.cross e.key)
noncomputable def entryB (e : Entry) : Bool := keyB e.key && (insI e.kind 1 4 && (namesB e.authors && (namesB e.editors && (textB e.title && (textB e.container && (textB e.publisher && (textB e.pages && (dateB e.date && (insI e.volume 0 9999 && crossB e)))))))))
theorem specEntry_ev (e : Entry) (hs : smallE e) : Ev (fun k => spec_l4Entry.F k e) (entryB e) := by
  unfold spec_l4Entry.F entryB
  refine Ev.bind (specKey_ev _) (and_step fun _ => ?_)
  refine Ev.bind0 (in_ev _ _ _) (and_step fun _ => ?_)
  refine Ev.bind (specNames_ev _ (smallE_a hs)) (and_step fun _ => ?_)
  refine Ev.bind (specNames_ev _ (smallE_e hs)) (and_step fun _ => ?_)
  refine Ev.bind (specText_ev _) (and_step fun _ => ?_)
  refine Ev.bind (specText_ev _) (and_step fun _ => ?_)
  refine Ev.bind (specText_ev _) (and_step fun _ => ?_)
  refine Ev.bind (specText_ev _) (and_step fun _ => ?_)
  refine Ev.bind0 (specDate_ev _) (and_step' fun _ => ?_)
  refine Ev.bind0 (in_ev _ _ _) (and_step' fun _ => ?_)
  unfold crossB
  rw [empty_eq]
  cases decide (e.cross.size = 0) with
  | true => exact Ev.pure _
  | false =>
    refine (Ev.bind (specKey_ev _) (and_step' fun _ => ?_)).eq (Bool.false_or _).symm
    exact Ev.pure _
theorem isEntry_ev (e : Entry) (hs : smallE e) : Ev (fun k => impl_IsValidEntry.F k e) (entryB e) := by
  have key : Ev (fun k => impl_IsValidEntry.F k e) (keyB e.key && (insI e.kind 1 4 && (namesB e.authors && (namesB e.editors && (dateB e.date && (insI e.volume 0 9999 && (textB e.title && (textB e.container && (textB e.publisher && (textB e.pages && crossB e)))))))))) := by
    unfold impl_IsValidEntry.F
    refine Ev.bind (isKey_ev _) (and_step fun _ => ?_)
    refine Ev.bind0 (a := insI e.kind 1 4) ?_ (and_step fun _ => ?_)
    · unfold impl_isKind.F; rw [inside_ev]; rfl
    refine Ev.bind (areNames_ev _ (smallE_a hs)) (and_step fun _ => ?_)
    refine Ev.bind (areNames_ev _ (smallE_e hs)) (and_step fun _ => ?_)
    refine Ev.bind0 (isDate_ev _) (and_step fun _ => ?_)
    refine Ev.bind0 (inside_ev _ _ _) (and_step fun _ => ?_)
    refine Ev.bind (isText_ev _) (and_step' fun _ => ?_)
    refine Ev.bind (isText_ev _) (and_step' fun _ => ?_)
    refine Ev.bind (isText_ev _) (and_step' fun _ => ?_)
    refine Ev.bind (isText_ev _) (and_step' fun _ => ?_)
    unfold crossB
    rw [empty_eq]
    cases decide (e.cross.size = 0) with
    | true => exact Ev.pure _
    | false =>
      refine (Ev.bind (isKey_ev _) (and_step' fun _ => ?_)).eq (Bool.false_or _).symm
      exact Ev.pure _
  refine key.eq ?_
  unfold entryB
  ac_rfl

/-! ### Libraries -/
noncomputable def okL (l : Library) (i : Nat) : Bool := entryB (l.entries.getD i (dflt .entry)) && (decide (i = 0) || ltS (l.entries.getD (i - 1) (dflt .entry)).key (l.entries.getD i (dflt .entry)).key)
noncomputable def libB (l : Library) : Bool := (List.range' 0 l.entries.length).all (okL l) && decide (l.entries.length ≤ 8)
theorem specGoodL_l0 (l : Library) (hs : smallL l) : Ev (fun k => spec_l4Good.l0 k l ((0 : Nat) : Int)) (if (List.range' 0 l.entries.length).all (okL l) = true then .inr () else .inl false) := by
  have hlen := smallL_len hs
  refine loop_all (f := fun k i => spec_l4Good.l0 k l i) (n := l.entries.length) (fun i hi hp => ?_) (fun i r hi hp ih => ?_) ?_ l.entries.length 0 (by omega)
  · unfold okL at hp
    refine Ev.step (fun k => by rw [spec_l4Good.l0]) ?_
    have hsm : smallE (l.entries.getD i (dflt .entry)) := by rw [getD_at hi]; exact smallL_at hs (List.getElem_mem hi)
    simp (disch := omega) only [cpos, Int.toNat_natCast]
    refine Ev.bind (specEntry_ev _ hsm) ?_
    cases he : entryB (l.entries.getD i (dflt .entry)) with
    | false => exact Ev.pure _
    | true =>
      rw [he, Bool.true_and, Bool.or_eq_false_iff, decide_eq_false_iff_not] at hp
      have et : ((i : Int) - 1).toNat = i - 1 := by omega
      simp (disch := omega) only [Bool.not_true, cond_false, cpos, wrap_in, et, hp.2, Bool.not_false, cond_true]
      exact Ev.pure _
  · unfold okL at hp
    rw [Bool.and_eq_true] at hp
    refine Ev.step (fun k => by rw [spec_l4Good.l0]) ?_
    have hsm : smallE (l.entries.getD i (dflt .entry)) := by rw [getD_at hi]; exact smallL_at hs (List.getElem_mem hi)
    simp (disch := omega) only [cpos, Int.toNat_natCast]
    refine Ev.bind (specEntry_ev _ hsm) ?_
    rw [hp.1]
    by_cases c : i = 0
    · simp (disch := omega) only [Bool.not_true, cond_false, cneg, wrap_in]
      exact ih
    · have et : ((i : Int) - 1).toNat = i - 1 := by omega
      have h2 := hp.2
      rw [decide_eq_false c, Bool.false_or] at h2
      simp (disch := omega) only [Bool.not_true, cond_false, cpos, wrap_in, et, h2]
      exact ih
  · refine Ev.step (fun k => by rw [spec_l4Good.l0]) ?_
    simp (disch := omega) only [cneg]
    exact Ev.pure _
theorem isLib_l0 (l : Library) (hs : smallL l) : Ev (fun k => impl_IsValidLibrary.l0 k l l.entries l.entries.length ((0 : Nat) : Int)) (if (List.range' 0 l.entries.length).all (okL l) = true then .inr l else .inl false) := by
  have hlen := smallL_len hs
  refine loop_all (f := fun k i => impl_IsValidLibrary.l0 k l l.entries l.entries.length i) (n := l.entries.length) (fun i hi hp => ?_) (fun i r hi hp ih => ?_) ?_ l.entries.length 0 (by omega)
  · unfold okL at hp
    refine Ev.step (fun k => by rw [impl_IsValidLibrary.l0]) ?_
    have hsm : smallE (l.entries.getD i (dflt .entry)) := by rw [getD_at hi]; exact smallL_at hs (List.getElem_mem hi)
    simp (disch := omega) only [cpos, Int.toNat_natCast]
    refine Ev.bind (isEntry_ev _ hsm) ?_
    cases he : entryB (l.entries.getD i (dflt .entry)) with
    | false => exact Ev.pure _
    | true =>
      rw [he, Bool.true_and, Bool.or_eq_false_iff, decide_eq_false_iff_not] at hp
      have et : ((i : Int) - 1).toNat = i - 1 := by omega
      simp (disch := omega) only [Bool.not_true, cond_false, cpos, wrap_in, et, hp.2, Bool.not_false, cond_true]
      exact Ev.pure _
  · unfold okL at hp
    rw [Bool.and_eq_true] at hp
    refine Ev.step (fun k => by rw [impl_IsValidLibrary.l0]) ?_
    have hsm : smallE (l.entries.getD i (dflt .entry)) := by rw [getD_at hi]; exact smallL_at hs (List.getElem_mem hi)
    simp (disch := omega) only [cpos, Int.toNat_natCast]
    refine Ev.bind (isEntry_ev _ hsm) ?_
    rw [hp.1]
    by_cases c : i = 0
    · simp (disch := omega) only [Bool.not_true, cond_false, cneg, wrap_in]
      exact ih
    · have et : ((i : Int) - 1).toNat = i - 1 := by omega
      have h2 := hp.2
      rw [decide_eq_false c, Bool.false_or] at h2
      simp (disch := omega) only [Bool.not_true, cond_false, cpos, wrap_in, et, h2]
      exact ih
  · refine Ev.step (fun k => by rw [impl_IsValidLibrary.l0]) ?_
    simp (disch := omega) only [cneg]
    exact Ev.pure _
theorem specLib_ev (l : Library) (hs : smallL l) : Ev (fun k => spec_l4Good.F k l) (libB l) := by
  unfold spec_l4Good.F libB
  by_cases c : l.entries.length ≤ 8
  · simp (disch := omega) only [cneg, dpos, Bool.and_true]
    have := specGoodL_l0 l hs
    cases ha : (List.range' 0 l.entries.length).all (okL l) with
    | true => rw [ha] at this; exact Ev.bind this (Ev.pure _)
    | false => rw [ha] at this; exact Ev.bind this (Ev.pure _)
  · simp (disch := omega) only [cpos, dneg, Bool.and_false]
    exact Ev.pure _
theorem isLib_ev (l : Library) (hs : smallL l) : Ev (fun k => impl_IsValidLibrary.F k l) (libB l) := by
  unfold impl_IsValidLibrary.F libB
  have := isLib_l0 l hs
  cases ha : (List.range' 0 l.entries.length).all (okL l) with
  | true =>
    rw [ha] at this
    refine Ev.bind this ((Ev.pure _).eq ?_)
    rw [Bool.true_and]; exact decide_eq_decide.2 (by omega)
  | false => rw [ha] at this; exact Ev.bind this (Ev.pure _)
theorem libB_len {l : Library} (h : libB l = true) : l.entries.length ≤ 8 := by
  unfold libB at h
  rw [Bool.and_eq_true, decide_eq_true_eq] at h
  exact h.2
end Go.Proofs.YtdbfalcfejhjfaaGreatDoor
end
section
/- Plain laws: an entry found by its key, with its key. -/
namespace Go.Proofs.YtdbfalcfejhjfaaGreatDoor
open Go.Gx
set_option linter.unusedVariables false
set_option linter.unusedSimpArgs false

theorem find_l (l : Library) (key : ByteArray) (hl : l.entries.length ≤ 1048576) : ∀ n i : Nat, i + n = l.entries.length →
    ∃ r : Sum Int Unit, Ev (fun k => spec_l4Find.l0 k key l i) r ∧ Ev (fun k => slices_IndexFunc_Entry_f68.l0 k l.entries key l.entries.length i) r ∧ ∀ z, r = .inl z → 0 ≤ z ∧ z < l.entries.length ∧ beqS (l.entries.getD z.toNat (dflt .entry)).key key = true
  | 0, i, h => by
    refine ⟨.inr (), Ev.step (fun k => by rw [spec_l4Find.l0]) ?_, Ev.step (fun k => by rw [slices_IndexFunc_Entry_f68.l0]) ?_, fun z hz => by cases hz⟩
    · simp (disch := omega) only [cneg]; exact Ev.pure _
    · simp (disch := omega) only [cneg]; exact Ev.pure _
  | n + 1, i, h => by
    have hi : i < l.entries.length := by omega
    have e1 : impl_entryIndex_1.F l.entries[i] key = some (beqS l.entries[i].key key) := rfl
    cases hb : beqS l.entries[i].key key with
    | true =>
      refine ⟨.inl i, Ev.step (fun k => by rw [spec_l4Find.l0]) ?_, Ev.step (fun k => by rw [slices_IndexFunc_Entry_f68.l0]) ?_, fun z hz => by cases hz; exact ⟨by omega, by omega, by rw [Int.toNat_natCast, getD_at hi]; exact hb⟩⟩
      · simp (disch := omega) only [cpos, Int.toNat_natCast, getD_at hi, hb, cond_true]
        exact Ev.pure _
      · simp (disch := omega) only [cpos, Int.toNat_natCast, getD_at hi]
        refine Ev.bind0 e1 ?_
        rw [hb]
        exact Ev.pure _
    | false =>
      obtain ⟨r, r1, r2, r3⟩ := find_l l key hl n (i + 1) (by omega)
      refine ⟨r, Ev.step (fun k => by rw [spec_l4Find.l0]) ?_, Ev.step (fun k => by rw [slices_IndexFunc_Entry_f68.l0]) ?_, r3⟩
      · simp (disch := omega) only [cpos, Int.toNat_natCast, getD_at hi, hb, cond_false, wrap_in]
        exact r1
      · simp (disch := omega) only [cpos, Int.toNat_natCast, getD_at hi]
        refine Ev.bind0 e1 ?_
        rw [hb]
        simp (disch := omega) only [cond_false, wrap_in]
        exact r2
theorem find_ev (l : Library) (key : ByteArray) (hl : l.entries.length ≤ 1048576) : ∃ r : Int, Ev (fun k => spec_l4Find.F k l key) r ∧ Ev (fun k => impl_entryIndex.F k l key) r ∧ -1 ≤ r ∧ r < l.entries.length ∧ (0 ≤ r → beqS (l.entries.getD r.toNat (dflt .entry)).key key = true) := by
  obtain ⟨r, r1, r2, r3⟩ := find_l l key hl l.entries.length 0 (by omega)
  unfold spec_l4Find.F impl_entryIndex.F slices_IndexFunc_Entry_f68.F
  cases r with
  | inl z => exact ⟨z, Ev.bind r1 (Ev.pure _), Ev.bind (Ev.bind r2 (Ev.pure _)) (Ev.pure _), by have := r3 z rfl; omega, (r3 z rfl).2.1, fun _ => (r3 z rfl).2.2⟩
  | inr u => exact ⟨-1, Ev.bind r1 (Ev.pure _), Ev.bind (Ev.bind r2 (Ev.pure _)) (Ev.pure _), by omega, by omega, fun h => by omega⟩
end Go.Proofs.YtdbfalcfejhjfaaGreatDoor
end
section
/- Plain laws: lower case. -/
namespace Go.Proofs.YtdbfalcfejhjfaaGreatDoor
open Go.Gx
set_option linter.unusedVariables false
set_option linter.unusedSimpArgs false

theorem L_strL (ys : List Int) : L (strL ys) = ys.map fun n => UInt8.ofNat n.toNat := L_mk _
theorem strL_bytes (s : ByteArray) : strL (bytesL s) = s := by
  apply L_inj
  rw [L_strL, bytesL_map, List.map_map]
  conv => rhs; rw [← List.map_id (L s)]
  refine List.map_congr_left fun b _ => ?_
  simp
theorem strL_size (ys : List Int) : (strL ys).size = ys.length := by
  rw [← L_size, L_strL, List.length_map]
def ltrI (b : Int) : Bool := (decide (65 ≤ b) && decide (b ≤ 90)) || (decide (97 ≤ b) && decide (b ≤ 122))
theorem specLetter_ev (b : Int) : spec_l6Letter.F b = some (ltrI b) := by
  unfold spec_l6Letter.F ltrI
  simp only [ge_iff_le]
  cases decide (65 ≤ b) <;> cases decide (b ≤ 90) <;> cases decide (97 ≤ b) <;> cases decide (b ≤ 122) <;> rfl
theorem isUpper_ev (b : Int) : impl_isUpper.F b = some (decide (65 ≤ b) && decide (b ≤ 90)) := by
  unfold impl_isUpper.F
  simp only [ge_iff_le]
  cases decide (65 ≤ b) <;> rfl
def lowI (b : Int) : Int := bif decide (65 ≤ b) && decide (b ≤ 90) then b + 32 else b
theorem specLowerByte_ev (b : Int) : spec_l6LowerByte.F b = some (lowI b) := by
  unfold spec_l6LowerByte.F lowI
  simp only [ge_iff_le]
  by_cases h1 : 65 ≤ b
  · by_cases h2 : b ≤ 90
    · have : IntKind.wrap .u8 (b + 32) = b + 32 := by rw [IntKind.wrap_u8]; omega
      simp only [dpos h1, dpos h2, cond_true, Bool.and_self, this]
    · simp only [dpos h1, dneg h2, cond_true, cond_false, Bool.and_false]
  · simp only [dneg h1, cond_false, Bool.false_and]
def mix (s : ByteArray) (i : Nat) : List Int := ((bytesL s).take i).map lowI ++ (bytesL s).drop i
theorem mix_len (s : ByteArray) (i : Nat) : (mix s i).length = (bytesL s).length := by
  unfold mix; simp; omega
theorem mix_at (s : ByteArray) (i : Nat) (h : i < (bytesL s).length) : (mix s i).getD i 0 = (bytesL s)[i] := by
  unfold mix
  rw [List.getD_eq_getElem?_getD, List.getElem?_append_right (by simp; omega)]
  simp [Nat.min_eq_left (Nat.le_of_lt h), h]
theorem mix_set (s : ByteArray) (i : Nat) (h : i < (bytesL s).length) : (mix s i).set i (lowI (bytesL s)[i]) = mix s (i + 1) := by
  unfold mix
  rw [List.set_append_right _ _ (by simp; omega)]
  simp only [List.length_map, List.length_take, Nat.min_eq_left (Nat.le_of_lt h), Nat.sub_self]
  rw [List.drop_eq_getElem_cons h, List.set_cons_zero, List.take_add_one, List.getElem?_eq_getElem h]
  simp only [Option.toList_some, List.map_append, List.map_cons, List.map_nil, List.append_assoc, List.cons_append, List.nil_append]
theorem mix_same (s : ByteArray) (i : Nat) (h : i < (bytesL s).length) (e : lowI (bytesL s)[i] = (bytesL s)[i]) : mix s (i + 1) = mix s i := by
  rw [← mix_set s i h, e]
  apply List.ext_getElem?
  intro j
  by_cases hj : i = j
  · subst hj
    have := mix_at s i h
    rw [List.getD_eq_getElem?_getD] at this
    rw [List.getElem?_set_self (by rw [mix_len]; exact h)]
    rw [List.getElem?_eq_getElem (by rw [mix_len]; exact h)] at this ⊢
    rw [← this]; rfl
  · rw [List.getElem?_set_ne hj]
theorem lower_l0 (s : ByteArray) (hs : s.size ≤ 1048576) : ∀ n i : Nat, i + n = s.size → Ev (fun k => impl_lower.l0 k (mix s i) s.size i) ((bytesL s).map lowI)
  | 0, i, h => by
    refine Ev.step (fun k => by rw [impl_lower.l0]) ?_
    simp (disch := omega) only [cneg]
    unfold mix
    rw [List.take_of_length_le (by rw [bytesL_len]; omega), List.drop_eq_nil_of_le (by rw [bytesL_len]; omega), List.append_nil]
    exact Ev.pure _
  | n + 1, i, h => by
    have hl := bytesL_len s
    have hi : i < (bytesL s).length := by omega
    have hm := mix_len s i
    have ih := lower_l0 s hs n (i + 1) (by omega)
    have hb := bytes_range s i hi
    refine Ev.step (fun k => by rw [impl_lower.l0]) ?_
    simp (disch := omega) only [cpos, Int.toNat_natCast, mix_at s i hi]
    refine Ev.bind0 (isUpper_ev _) ?_
    cases hu : decide (65 ≤ (bytesL s)[i]) && decide ((bytesL s)[i] ≤ 90) with
    | true =>
      have hu' := hu
      simp only [Bool.and_eq_true, decide_eq_true_eq] at hu'
      have e : IntKind.wrap .u8 (IntKind.wrap .u8 ((bytesL s)[i] + 97) - 65) = lowI (bytesL s)[i] := by
        unfold lowI
        rw [hu, cond_true, IntKind.wrap_u8, IntKind.wrap_u8]; omega
      simp (disch := omega) only [cond_true, cpos, e, mix_set s i hi, wrap_in]
      exact ih
    | false =>
      have e : lowI (bytesL s)[i] = (bytesL s)[i] := by unfold lowI; rw [hu, cond_false]
      rw [mix_same s i hi e] at ih
      simp (disch := omega) only [cond_false, wrap_in]
      exact ih
def lowS (s : ByteArray) : ByteArray := strL ((bytesL s).map lowI)
theorem lowS_size (s : ByteArray) : (lowS s).size = s.size := by unfold lowS; rw [strL_size, List.length_map, bytesL_len]
theorem lower_ev (s : ByteArray) (hs : s.size ≤ 1048576) : Ev (fun k => impl_lower.F k s) (lowS s) := by
  unfold impl_lower.F
  rw [bytesL_len]
  simp (disch := omega) only [cble]
  have := lower_l0 s hs s.size 0 (by omega)
  unfold mix at this
  rw [List.take_zero, List.map_nil, List.nil_append, List.drop_zero] at this
  exact Ev.bind this (Ev.pure _)
end Go.Proofs.YtdbfalcfejhjfaaGreatDoor
end
section
/- Plain laws: lower case, the other way. -/
namespace Go.Proofs.YtdbfalcfejhjfaaGreatDoor
open Go.Gx
set_option linter.unusedVariables false
set_option linter.unusedSimpArgs false

theorem specLower_l0 (s : ByteArray) (hs : s.size ≤ 1048576) : ∀ n i : Nat, i + n = s.size → Ev (fun k => spec_l6Lower.l0 k s (((bytesL s).take i).map lowI) i) ((bytesL s).map lowI)
  | 0, i, h => by
    refine Ev.step (fun k => by rw [spec_l6Lower.l0]) ?_
    simp (disch := omega) only [cneg]
    rw [List.take_of_length_le (by rw [bytesL_len]; omega)]
    exact Ev.pure _
  | n + 1, i, h => by
    have hl := bytesL_len s
    have hi : i < (bytesL s).length := by omega
    refine Ev.step (fun k => by rw [spec_l6Lower.l0]) ?_
    simp (disch := omega) only [cpos, Int.toNat_natCast, bt_bytes s i hi]
    refine Ev.bind0 (specLowerByte_ev _) ?_
    have hr : room ((((bytesL s).take i).map lowI).length + ([lowI (bytesL s)[i]] : List Int).length) (.int .u8) = true := by
      unfold room
      rw [Nat.ble_eq]
      have : nb (.int .u8) = 1 := rfl
      rw [this]
      simp; omega
    simp (disch := omega) only [hr, cond_true, wrap_in]
    have e : ((bytesL s).take i).map lowI ++ [lowI (bytesL s)[i]] = ((bytesL s).take (i + 1)).map lowI := by
      rw [List.take_add_one, List.getElem?_eq_getElem hi]
      simp only [Option.toList_some, List.map_append, List.map_cons, List.map_nil]
    rw [e]
    exact specLower_l0 s hs n (i + 1) (by omega)
theorem specLower_ev (s : ByteArray) (hs : s.size ≤ 1048576) : Ev (fun k => spec_l6Lower.F k s) (lowS s) := by
  unfold spec_l6Lower.F
  exact Ev.bind (specLower_l0 s hs s.size 0 (by omega)) (Ev.pure _)
end Go.Proofs.YtdbfalcfejhjfaaGreatDoor
end
section
/- The plain law of SuggestKey. -/
namespace Go.Proofs.YtdbfalcfejhjfaaGreatDoor
open Go.Gx
set_option linter.unusedVariables false
set_option linter.unusedSimpArgs false

/-! ### Letters -/
def letL : Nat → List Int → List Int
  | _, [] => []
  | n, b :: l => if n = 0 then [] else if ltrI b = true then b :: letL (n - 1) l else letL n l
theorem letL_zero (l : List Int) : letL 0 l = [] := by cases l <;> rfl
theorem ltrI_low (b : Int) : ltrI (lowI b) = ltrI b := by
  rw [Bool.eq_iff_iff]
  unfold ltrI lowI
  cases h : decide (65 ≤ b) && decide (b ≤ 90) with
  | true =>
    simp only [Bool.and_eq_true, decide_eq_true_eq] at h
    simp only [cond_true, Bool.true_or, Bool.or_eq_true, Bool.and_eq_true, decide_eq_true_eq, true_or, iff_true]
    omega
  | false => simp only [cond_false, h]
theorem letL_map : ∀ (l : List Int) (n : Nat), letL n (l.map lowI) = (letL n l).map lowI
  | [], n => rfl
  | b :: l, n => by
    rw [List.map_cons]
    unfold letL
    by_cases h : n = 0
    · rw [if_pos h, if_pos h]; rfl
    · rw [if_neg h, if_neg h, ltrI_low]
      by_cases h2 : ltrI b = true
      · rw [if_pos h2, if_pos h2, letL_map l]; rfl
      · rw [if_neg h2, if_neg h2, letL_map l]
theorem letL_sub : ∀ (l : List Int) (n : Nat), ∀ b ∈ letL n l, b ∈ l
  | [], n, b, h => h
  | c :: l, n, b, h => by
    unfold letL at h
    by_cases h1 : n = 0
    · rw [if_pos h1] at h; cases h
    · rw [if_neg h1] at h
      by_cases h2 : ltrI c = true
      · rw [if_pos h2] at h
        rcases List.mem_cons.1 h with rfl | h
        · exact List.mem_cons_self
        · exact List.mem_cons_of_mem _ (letL_sub l _ b h)
      · rw [if_neg h2] at h
        exact List.mem_cons_of_mem _ (letL_sub l _ b h)
theorem letL_len : ∀ (l : List Int) (n : Nat), (letL n l).length ≤ n
  | [], n => Nat.zero_le _
  | c :: l, n => by
    unfold letL
    by_cases h1 : n = 0
    · rw [if_pos h1]; exact Nat.zero_le _
    · rw [if_neg h1]
      by_cases h2 : ltrI c = true
      · rw [if_pos h2, List.length_cons]
        have := letL_len l (n - 1)
        omega
      · rw [if_neg h2]; exact letL_len l n
theorem strL_app (a b : List Int) : strL (a ++ b) = strL a ++ strL b := by
  apply L_inj
  rw [L_append, L_strL, L_strL, L_strL, List.map_append]
theorem strL_at (s : ByteArray) (i : Nat) (h : i < (bytesL s).length) : s.extract i (i + 1) = strL [(bytesL s)[i]] := by
  apply L_inj
  have hL : i < (L s).length := by rw [bytesL_len] at h; exact h
  have e : (L s)[i]? = some (L s)[i] := List.getElem?_eq_getElem hL
  rw [L_extract, L_strL, List.take_add_one, e, List.drop_append_of_le_length (by rw [List.length_take, L_size]; rw [bytesL_len] at h; omega)]
  have e0 : ((L s).take i).drop i = [] := List.drop_eq_nil_of_le (by simp; omega)
  rw [e0]
  simp [bytesL_map]
theorem bytes_str' (ys : List Int) (h : ∀ y ∈ ys, 0 ≤ y ∧ y ≤ 255) : bytesL (strL ys) = ys := by
  rw [bytesL_map, L_strL, List.map_map]
  conv => rhs; rw [← List.map_id ys]
  refine List.map_congr_left fun y hy => ?_
  have := h y hy
  simp only [Function.comp, id]
  rw [UInt8.toNat_ofNat_of_lt' (show y.toNat < UInt8.size by have : UInt8.size = 256 := rfl; omega)]
  omega
theorem lowI_rng {b : Int} (h : 0 ≤ b ∧ b ≤ 255) : 0 ≤ lowI b ∧ lowI b ≤ 255 := by
  unfold lowI
  cases h2 : decide (65 ≤ b) && decide (b ≤ 90) with
  | true =>
    simp only [Bool.and_eq_true, decide_eq_true_eq] at h2
    simp only [cond_true]; omega
  | false => simp only [cond_false]; exact h
theorem bytes_mem' {s : ByteArray} {b : Int} (h : b ∈ bytesL s) : 0 ≤ b ∧ b ≤ 255 := by
  obtain ⟨i, hi, rfl⟩ := List.getElem_of_mem h
  exact bytes_range s i hi
theorem ltr_ltrI (b : Int) : ltr b = ltrI b := by unfold ltr upc lowc ltrI; rfl
theorem sug_l0 (l : Library) (e : Entry) (nm : ByteArray) (hn : nm.size ≤ 1048576) : ∀ n i : Nat, i + n = nm.size → ∀ acc : ByteArray, acc.size ≤ 6 → Ev (fun k => spec_SuggestKey.l0 k l e acc nm i) (l, e, acc ++ strL (letL (6 - acc.size) ((bytesL nm).drop i)))
  | 0, i, h, acc, ha => by
    have hl := bytesL_len nm
    refine Ev.step (fun k => by rw [spec_SuggestKey.l0]) ?_
    simp (disch := omega) only [cneg]
    rw [List.drop_eq_nil_of_le (by omega)]
    have : acc ++ strL (letL (6 - acc.size) []) = acc := L_inj (by rw [L_append]; simp [letL, L_strL])
    rw [this]
    exact Ev.pure _
  | n + 1, i, h, acc, ha => by
    have hl := bytesL_len nm
    have hi : i < (bytesL nm).length := by omega
    refine Ev.step (fun k => by rw [spec_SuggestKey.l0]) ?_
    by_cases c : acc.size < 6
    · simp (disch := omega) only [cpos, Int.toNat_natCast, bt_bytes nm i hi]
      refine Ev.bind0 (specLetter_ev _) ?_
      rw [List.drop_eq_getElem_cons hi]
      conv => rhs; rw [letL]
      rw [if_neg (by omega)]
      cases hb : ltrI (bytesL nm)[i] with
      | true =>
        have e1 : ((i : Int) + 1).toNat = i + 1 := by omega
        have e2 : (strL [(bytesL nm)[i]]).size = 1 := strL_size _
        rw [if_pos rfl]
        simp (disch := first | omega | (rw [e2]; omega)) only [cond_true, cpos, wrap_in, e1, strL_at nm i hi, cble]
        have := sug_l0 l e nm hn n (i + 1) (by omega) (acc ++ strL [(bytesL nm)[i]]) (by rw [size_app, e2]; omega)
        rw [size_app, e2, show 6 - (acc.size + 1) = 6 - acc.size - 1 by omega] at this
        refine this.eq ?_
        rw [show (bytesL nm)[i] :: letL (6 - acc.size - 1) ((bytesL nm).drop (i + 1)) = [(bytesL nm)[i]] ++ letL (6 - acc.size - 1) ((bytesL nm).drop (i + 1)) from rfl, strL_app]
        congr 2
        exact L_inj (by rw [L_append, L_append, L_append, L_append, List.append_assoc])
      | false =>
        rw [if_neg (by decide)]
        simp (disch := omega) only [cond_false, wrap_in]
        exact sug_l0 l e nm hn n (i + 1) (by omega) acc ha
    · simp (disch := omega) only [cpos, cneg]
      rw [show 6 - acc.size = 0 by omega, letL_zero]
      have : acc ++ strL [] = acc := L_inj (by rw [L_append]; simp [L_strL])
      rw [this]
      exact Ev.pure _
theorem letters_l0 (s : ByteArray) (hs : s.size ≤ 1048576) : ∀ n i : Nat, i + n = s.size → ∀ acc : List Int, acc.length ≤ 6 → Ev (fun k => impl_lettersOf.l0 k s 6 acc i) (acc ++ letL (6 - acc.length) ((bytesL s).drop i))
  | 0, i, h, acc, ha => by
    have hl := bytesL_len s
    refine Ev.step (fun k => by rw [impl_lettersOf.l0]) ?_
    simp (disch := omega) only [cneg]
    rw [List.drop_eq_nil_of_le (by omega)]
    simp only [letL, List.append_nil]
    exact Ev.pure _
  | n + 1, i, h, acc, ha => by
    have hl := bytesL_len s
    have hi : i < (bytesL s).length := by omega
    refine Ev.step (fun k => by rw [impl_lettersOf.l0]) ?_
    by_cases c : acc.length < 6
    · simp (disch := omega) only [cpos, Int.toNat_natCast, bt_bytes s i hi]
      refine Ev.bind0 (iLetter _) ?_
      rw [ltr_ltrI, List.drop_eq_getElem_cons hi]
      conv => rhs; rw [letL]
      rw [if_neg (by omega)]
      cases hb : ltrI (bytesL s)[i] with
      | true =>
        have hr : room (acc.length + ([(bytesL s)[i]] : List Int).length) (.int .u8) = true := by
          unfold room
          rw [Nat.ble_eq]
          have : nb (.int .u8) = 1 := rfl
          rw [this]; simp; omega
        rw [if_pos rfl]
        simp (disch := omega) only [cond_true, hr, wrap_in]
        have := letters_l0 s hs n (i + 1) (by omega) (acc ++ [(bytesL s)[i]]) (by simp; omega)
        rw [List.append_assoc, List.length_append, List.length_singleton, show 6 - (acc.length + 1) = 6 - acc.length - 1 by omega] at this
        exact this
      | false =>
        rw [if_neg (by decide)]
        simp (disch := omega) only [cond_false, wrap_in]
        exact letters_l0 s hs n (i + 1) (by omega) acc ha
    · simp (disch := omega) only [cpos, cneg]
      rw [show 6 - acc.length = 0 by omega, letL_zero, List.append_nil]
      exact Ev.pure _
def baseT (s : ByteArray) : ByteArray := strL ((letL 6 (bytesL s)).map lowI)
theorem baseT_size (s : ByteArray) : (baseT s).size ≤ 6 := by
  unfold baseT
  rw [strL_size, List.length_map]
  exact letL_len _ 6
theorem specBase_ev (l : Library) (e : Entry) (s : ByteArray) (hs : s.size ≤ 1048576) : Ev (fun k => spec_SuggestKey.l0 k l e ⟨#[]⟩ (lowS s) 0) (l, e, baseT s) := by
  have h1 := lowS_size s
  have := sug_l0 l e (lowS s) (by omega) (lowS s).size 0 (by omega) ⟨#[]⟩ (Nat.zero_le _)
  refine this.eq ?_
  have eb : bytesL (lowS s) = (bytesL s).map lowI := by
    unfold lowS
    exact bytes_str' _ fun y hy => by
      obtain ⟨b, hb, rfl⟩ := List.mem_map.1 hy
      exact lowI_rng (bytes_mem' hb)
  rw [List.drop_zero, eb]
  congr 2
  show (⟨#[]⟩ : ByteArray) ++ strL (letL 6 _) = _
  rw [letL_map]
  exact L_inj (by rw [L_append]; rfl)
theorem implBase_ev (s : ByteArray) (hs : s.size ≤ 1048576) : ∃ t, Ev (fun k => impl_lettersOf.F k s 6) t ∧ Ev (fun k => impl_lower.F k t) (baseT s) := by
  have := letters_l0 s hs s.size 0 (by omega) [] (Nat.zero_le _)
  rw [List.drop_zero, List.nil_append] at this
  refine ⟨strL (letL 6 (bytesL s)), ?_, ?_⟩
  · unfold impl_lettersOf.F
    exact Ev.bind this (Ev.pure _)
  · have hl := letL_len (bytesL s) 6
    have := lower_ev (strL (letL 6 (bytesL s))) (by rw [strL_size]; omega)
    refine this.eq ?_
    unfold lowS baseT
    rw [bytes_str']
    intro y hy
    exact bytes_mem' (letL_sub _ _ y hy)

/-! ### Years -/
def dgt (n : Nat) : ByteArray := strL [((48 + n : Nat) : Int)]
theorem dgt_size (n : Nat) : (dgt n).size = 1 := strL_size _
theorem l1Num_ev (n : Nat) (h : n < 10) : Ev (fun k => spec_l1Num.F k (n : Int)) (dgt n) := by
  refine Ev.step (fun k => by rw [spec_l1Num.F]) ?_
  have hs : ((⟨#[48, 49, 50, 51, 52, 53, 54, 55, 56, 57]⟩ : ByteArray).size : Int) = 10 := rfl
  have e1 : ((n : Int) + 1).toNat = n + 1 := by omega
  simp (disch := first | omega | (rw [hs]; omega)) only [cpos, cneg, wrap_in, Int.toNat_natCast, e1, hs]
  refine (Ev.pure _).eq ?_
  rcases n with _ | _ | _ | _ | _ | _ | _ | _ | _ | _ | n
  all_goals first
    | rfl
    | omega
def two (n : Nat) : ByteArray := dgt (n / 10) ++ dgt (n % 10)
theorem digits_ev (n : Nat) (h : n < 100) : Ev (fun k => impl_digits.F k (n : Int) 2) (two n) := by
  unfold impl_digits.F
  have hi : strconv_Itoa.F (n : Int) = some ⟨(Lib.decDigits n).toArray⟩ := by
    unfold strconv_Itoa.F xItoa
    rw [decide_eq_true (by omega), decide_eq_true (by omega), Int.toNat_natCast]; rfl
  have sz : ∀ l : List UInt8, (⟨l.toArray⟩ : ByteArray).size = l.length := fun l => size_mk l
  have d0 : ∀ m : Nat, m < 10 → (⟨[UInt8.ofNat (48 + m)].toArray⟩ : ByteArray) = dgt m := fun m _ => by
    apply L_inj
    unfold dgt
    rw [L_mk, L_strL, List.map_cons, List.map_nil]
    congr 2
  refine Ev.bind0 hi (Ev.bind (a := two n) ?_ (Ev.pure _))
  have e48 : (⟨#[48]⟩ : ByteArray).size = 1 := rfl
  by_cases c : n < 10
  · rw [Lib.decDigits_one c]
    refine Ev.step (fun k => by rw [impl_digits.l0]) ?_
    have s1 : (⟨[UInt8.ofNat (48 + n)].toArray⟩ : ByteArray).size = 1 := sz _
    simp (disch := first | (rw [s1]; omega) | (rw [s1, e48]; omega) | omega) only [cpos, cble]
    refine Ev.step (fun k => by rw [impl_digits.l0]) ?_
    have s2 : ((⟨#[48]⟩ : ByteArray) ++ ⟨[UInt8.ofNat (48 + n)].toArray⟩).size = 2 := by rw [size_app, s1, e48]
    simp (disch := first | (rw [s2]; omega) | omega) only [cneg]
    refine (Ev.pure _).eq ?_
    unfold two
    rw [d0 n c, show n / 10 = 0 by omega, show n % 10 = n by omega]
    rfl
  · rw [Lib.decDigits_two c h]
    refine Ev.step (fun k => by rw [impl_digits.l0]) ?_
    have s2 : (⟨[UInt8.ofNat (48 + n / 10), UInt8.ofNat (48 + n % 10)].toArray⟩ : ByteArray).size = 2 := sz _
    simp (disch := first | (rw [s2]; omega) | omega) only [cneg]
    refine (Ev.pure _).eq ?_
    unfold two
    rw [← d0 (n / 10) (by omega), ← d0 (n % 10) (by omega)]
    apply L_inj
    rw [L_append, L_mk, L_mk, L_mk]; rfl
theorem two_size (n : Nat) : (two n).size = 2 := by unfold two; rw [size_app, dgt_size, dgt_size]

/-! ### A free key -/
theorem pig (g : Nat → ByteArray) (hg : ∀ i j, i < 100 → j < 100 → g i = g j → i = j) : ∀ (n : Nat), n < 100 → ∀ (K : List ByteArray), K.length ≤ n → ∃ i, i ≤ n ∧ g i ∉ K
  | 0, _, K, h => ⟨0, Nat.le_refl _, by rw [List.eq_nil_of_length_eq_zero (by omega : K.length = 0)]; exact List.not_mem_nil⟩
  | n + 1, hn, K, h => by
    by_cases c : g (n + 1) ∈ K
    · have hlt : (K.filter fun x => !beqS x (g (n + 1))).length < K.length := List.length_filter_lt_length_iff_exists.2 ⟨_, c, by rw [beqS_self]; decide⟩
      obtain ⟨i, hi, hm⟩ := pig g hg n (by omega) (K.filter fun x => !beqS x (g (n + 1))) (by omega)
      refine ⟨i, by omega, fun hk => hm (List.mem_filter.2 ⟨hk, ?_⟩)⟩
      cases e : beqS (g i) (g (n + 1)) with
      | false => rfl
      | true => have := hg i (n + 1) (by omega) (by omega) (beqS_iff.1 e); omega
    · exact ⟨n + 1, Nat.le_refl _, c⟩
def cand (t : ByteArray) (j : Nat) : ByteArray := t ++ strL [((97 + j : Nat) : Int)]
theorem cand_inj (t : ByteArray) (i j : Nat) (hi : i < 100) (hj : j < 100) (h : cand t i = cand t j) : i = j := by
  have := congrArg L h
  unfold cand at this
  rw [L_append, L_append] at this
  have := List.append_cancel_left this
  rw [L_strL, L_strL] at this
  simp only [List.map_cons, List.map_nil, List.cons.injEq, and_true] at this
  have := congrArg UInt8.toNat this
  rw [UInt8.toNat_ofNat_of_lt' (show ((97 + i : Nat) : Int).toNat < UInt8.size by have : UInt8.size = 256 := rfl; omega), UInt8.toNat_ofNat_of_lt' (show ((97 + j : Nat) : Int).toNat < UInt8.size by have : UInt8.size = 256 := rfl; omega)] at this
  omega
def keysL (l : Library) : List ByteArray := l.entries.map (·.key)
theorem lock_l (l : Library) (hl : l.entries.length ≤ 8) (b y : ByteArray) (hb : b.size ≤ 1000) (hy : y.size ≤ 1000) : ∀ m j : Nat, j + m ≤ 50 → (∃ i, j ≤ i ∧ i ≤ j + m ∧ cand (b ++ y) i ∉ keysL l) →
    ∃ r, Ev (fun k => spec_SuggestKey.l2 k l (b ++ y) ((97 + j : Nat) : Int)) (r, true) ∧ Ev (fun k => impl_SuggestKey.l0 k l b y (cand (b ++ y) j) ((97 + (j + 1) : Nat) : Int)) r := fun m => by
  induction m with
  | zero =>
    rintro j hj ⟨i, h1, h2, h3⟩
    obtain rfl : i = j := by omega
    obtain ⟨z, z1, z2, z3, z4, z5⟩ := find_ev l (cand (b ++ y) i) (by omega)
    have hz : z < 0 := by
      by_cases h : z < 0
      · exact h
      · exfalso
        apply h3
        have := beqS_iff.1 (z5 (by omega))
        rw [← this]
        have hz' : z.toNat < l.entries.length := by omega
        rw [getD_at hz']
        exact List.mem_map.2 ⟨_, List.getElem_mem hz', rfl⟩
    have s1 : (strL [((97 + i : Nat) : Int)]).size = 1 := strL_size _
    have sb := size_app b y
    refine ⟨cand (b ++ y) i, Ev.step (fun k => by rw [spec_SuggestKey.l2]) ?_, Ev.step (fun k => by rw [impl_SuggestKey.l0]) ?_⟩
    · simp (disch := first | (rw [s1, sb]; omega) | omega) only [cble]
      refine Ev.bind z1 ?_
      simp (disch := omega) only [cpos]
      exact Ev.pure _
    · refine Ev.bind z2 ?_
      simp (disch := omega) only [cneg]
      exact Ev.pure _
  | succ m ih =>
    rintro j hj ⟨i, h1, h2, h3⟩
    obtain ⟨z, z1, z2, z3, z4, z5⟩ := find_ev l (cand (b ++ y) j) (by omega)
    have s1 : (strL [((97 + j : Nat) : Int)]).size = 1 := strL_size _
    have s2 : (strL [((97 + (j + 1) : Nat) : Int)]).size = 1 := strL_size _
    have sb := size_app b y
    by_cases hz : z < 0
    · refine ⟨cand (b ++ y) j, Ev.step (fun k => by rw [spec_SuggestKey.l2]) ?_, Ev.step (fun k => by rw [impl_SuggestKey.l0]) ?_⟩
      · simp (disch := first | (rw [s1, sb]; omega) | omega) only [cble]
        refine Ev.bind z1 ?_
        simp (disch := omega) only [cpos]
        exact Ev.pure _
      · refine Ev.bind z2 ?_
        simp (disch := omega) only [cneg]
        exact Ev.pure _
    · have hij : i ≠ j := by
        rintro rfl
        apply h3
        have := beqS_iff.1 (z5 (by omega))
        rw [← this]
        have hz' : z.toNat < l.entries.length := by omega
        rw [getD_at hz']
        exact List.mem_map.2 ⟨_, List.getElem_mem hz', rfl⟩
      obtain ⟨r, r1, r2⟩ := ih (j + 1) (by omega) ⟨i, by omega, by omega, h3⟩
      have w1 : IntKind.wrap .u8 (((97 + j : Nat) : Int) + 1) = ((97 + (j + 1) : Nat) : Int) := by rw [IntKind.wrap_u8]; omega
      have w2 : IntKind.wrap .u8 (((97 + (j + 1) : Nat) : Int) + 1) = ((97 + (j + 1 + 1) : Nat) : Int) := by rw [IntKind.wrap_u8]; omega
      refine ⟨r, Ev.step (fun k => by rw [spec_SuggestKey.l2]) ?_, Ev.step (fun k => by rw [impl_SuggestKey.l0]) ?_⟩
      · simp (disch := first | (rw [s1, sb]; omega) | omega) only [cble]
        refine Ev.bind z1 ?_
        simp (disch := omega) only [cneg, w1]
        exact r1
      · refine Ev.bind z2 ?_
        simp (disch := first | (rw [s2, sb]; omega) | omega) only [cpos, cble, w2]
        exact r2
theorem free_ev (l : Library) (hl : l.entries.length ≤ 8) (b y : ByteArray) (hb : b.size ≤ 1000) (hy : y.size ≤ 1000) : ∃ r z, Ev (fun k => spec_l4Find.F k l (b ++ y)) z ∧ Ev (fun k => impl_SuggestKey.l0 k l b y (b ++ y) 97) r ∧
    ((z < 0 ∧ r = b ++ y) ∨ (¬ z < 0 ∧ Ev (fun k => spec_SuggestKey.l2 k l (b ++ y) 97) (r, true))) := by
  obtain ⟨z, z1, z2, z3, z4, z5⟩ := find_ev l (b ++ y) (by omega)
  have sb := size_app b y
  by_cases hz : z < 0
  · refine ⟨b ++ y, z, z1, Ev.step (fun k => by rw [impl_SuggestKey.l0]) ?_, .inl ⟨hz, rfl⟩⟩
    refine Ev.bind z2 ?_
    simp (disch := omega) only [cneg]
    exact Ev.pure _
  · obtain ⟨i, hi, hm⟩ := pig (cand (b ++ y)) (fun i j h1 h2 h => cand_inj _ i j h1 h2 h) 8 (by omega) (keysL l) (by unfold keysL; rw [List.length_map]; exact hl)
    obtain ⟨r, r1, r2⟩ := lock_l l hl b y hb hy 8 0 (by omega) ⟨i, by omega, by omega, hm⟩
    have s1 : (strL [(97 : Int)]).size = 1 := strL_size _
    refine ⟨r, z, z1, Ev.step (fun k => by rw [impl_SuggestKey.l0]) ?_, .inr ⟨hz, r1⟩⟩
    refine Ev.bind z2 ?_
    have w1 : IntKind.wrap .u8 ((97 : Int) + 1) = 98 := by rw [IntKind.wrap_u8]; omega
    simp (disch := first | (rw [s1, sb]; omega) | omega) only [cpos, cble, w1]
    exact r2

/-! ### The law -/
theorem date_year {d : Date} (h : dateB d = true) : d.y = 0 ∨ (1 ≤ d.y ∧ d.y ≤ 2999) := by
  have hd := specDate_ev d
  rw [h] at hd
  unfold spec_l3Good.F at hd
  cases c : (d.y == 0 && (d.m == 0 && (d.d == 0 && d.c == false))) with
  | true =>
    rw [Bool.and_eq_true, beq_iff_eq] at c
    exact .inl c.1
  | false =>
    rw [c, in_ev] at hd
    simp only [Option.bind_some, cond_false] at hd
    cases c1 : (decide (d.y ≥ 1) && decide (d.y ≤ 2999)) with
    | true =>
      simp only [Bool.and_eq_true, decide_eq_true_eq] at c1
      exact .inr ⟨c1.1, c1.2⟩
    | false =>
      rw [c1] at hd
      cases hd
theorem entry_facts {e : Entry} (h : entryB e = true) : dateB e.date = true ∧ ∀ n ∈ e.authors, n.family.size ≤ 12 := by
  unfold entryB at h
  simp only [Bool.and_eq_true] at h
  refine ⟨h.2.2.2.2.2.2.2.2.1, fun n hn => ?_⟩
  have h1 := h.2.2.1
  unfold namesB at h1
  rw [Bool.and_eq_true, List.all_eq_true] at h1
  have h2 := h1.1 n hn
  unfold nameB at h2
  simp only [Bool.and_eq_true] at h2
  have h3 := h2.2.2.2.1
  unfold gw at h3
  rw [Bool.and_eq_true] at h3
  have h4 := h3.1
  unfold wordB at h4
  rw [Bool.and_eq_true] at h4
  have := ins_le h4.1
  omega
/-- What follows the begin of a key, both ways. -/
theorem rest_nd (l : Library) (hl : l.entries.length ≤ 8) (b : ByteArray) (hb : b.size ≤ 6) : ∃ r, Ev (fun k => bif Nat.ble (b.size + (⟨#[110, 100]⟩ : ByteArray).size) 9223372036854775807 then ((spec_l4Find.F k l (b ++ (⟨#[110, 100]⟩ : ByteArray))).bind fun r6 => bif (decide (r6 < 0)) then (some ((b ++ (⟨#[110, 100]⟩ : ByteArray)), true)) else ((spec_SuggestKey.l2 k l (b ++ (⟨#[110, 100]⟩ : ByteArray)) 97).bind fun y8 => some (y8.1, y8.2))) else none) (r, true) ∧
    Ev (fun k => bif Nat.ble (b.size + (⟨#[110, 100]⟩ : ByteArray).size) 9223372036854775807 then ((impl_SuggestKey.l0 k l b (⟨#[110, 100]⟩ : ByteArray) (b ++ (⟨#[110, 100]⟩ : ByteArray)) 97).bind fun y9 => some (y9, true)) else none) (r, true) := by
  have s2 : (⟨#[110, 100]⟩ : ByteArray).size = 2 := rfl
  obtain ⟨r, z, z1, z2, z3⟩ := free_ev l hl b ⟨#[110, 100]⟩ (by omega) (by rw [s2]; omega)
  refine ⟨r, ?_, ?_⟩
  · simp (disch := (rw [s2]; omega)) only [cble]
    refine Ev.bind z1 ?_
    rcases z3 with ⟨h1, rfl⟩ | ⟨h1, h2⟩
    · simp (disch := omega) only [cpos]; exact Ev.pure _
    · simp (disch := omega) only [cneg]; exact Ev.bind h2 (Ev.pure _)
  · simp (disch := (rw [s2]; omega)) only [cble]
    exact Ev.bind z2 (Ev.pure _)
theorem rest_yr (l : Library) (hl : l.entries.length ≤ 8) (b : ByteArray) (hb : b.size ≤ 6) (y : Int) (h0 : 1 ≤ y) (h1 : y ≤ 2999) : ∃ r, Ev (fun k => (spec_l1Num.F k (Int.tmod (IntKind.wrap .i64 (Int.tdiv y 10)) 10)).bind fun r9 => bif Nat.ble (b.size + r9.size) 9223372036854775807 then (bif (10 == 0) then (none) else ((spec_l1Num.F k (Int.tmod y 10)).bind fun r10 => bif Nat.ble ((b ++ r9).size + r10.size) 9223372036854775807 then ((spec_l4Find.F k l ((b ++ r9) ++ r10)).bind fun r11 => bif (decide (r11 < 0)) then (some (((b ++ r9) ++ r10), true)) else ((spec_SuggestKey.l2 k l ((b ++ r9) ++ r10) 97).bind fun y13 => some (y13.1, y13.2))) else none)) else none) (r, true) ∧
    Ev (fun k => (impl_digits.F k (Int.tmod y 100) 2).bind fun r5 => bif Nat.ble (b.size + r5.size) 9223372036854775807 then ((impl_SuggestKey.l0 k l b r5 (b ++ r5) 97).bind fun y7 => some (y7, true)) else none) (r, true) := by
  obtain ⟨n, rfl⟩ : ∃ n : Nat, y = n := ⟨y.toNat, by omega⟩
  have e1 : Int.tdiv (n : Int) 10 = ((n / 10 : Nat) : Int) := by rw [Int.tdiv_eq_ediv_of_nonneg (by omega)]; omega
  have e2 : Int.tmod (((n / 10 : Nat) : Int)) 10 = ((n / 10 % 10 : Nat) : Int) := by rw [Int.tmod_eq_emod_of_nonneg (by omega)]; omega
  have e3 : Int.tmod (n : Int) 10 = ((n % 10 : Nat) : Int) := by rw [Int.tmod_eq_emod_of_nonneg (by omega)]; omega
  have e4 : Int.tmod (n : Int) 100 = ((n % 100 : Nat) : Int) := by rw [Int.tmod_eq_emod_of_nonneg (by omega)]; omega
  have w : IntKind.wrap .i64 ((n / 10 : Nat) : Int) = ((n / 10 : Nat) : Int) := wrap_in (by omega) (by omega)
  rw [e1, w, e2, e3, e4]
  have ht : two (n % 100) = dgt (n / 10 % 10) ++ dgt (n % 10) := by
    unfold two
    rw [show n % 100 / 10 = n / 10 % 10 by omega, show n % 100 % 10 = n % 10 by omega]
  obtain ⟨r, z, z1, z2, z3⟩ := free_ev l hl b (two (n % 100)) (by omega) (by rw [two_size]; omega)
  have ha : (b ++ dgt (n / 10 % 10)) ++ dgt (n % 10) = b ++ two (n % 100) := by
    rw [ht]
    exact L_inj (by rw [L_append, L_append, L_append, L_append, List.append_assoc])
  refine ⟨r, ?_, ?_⟩
  · refine Ev.bind (l1Num_ev _ (by omega)) ?_
    have q : ((10 : Nat) == 0) = false := rfl
    simp (disch := first | (rw [dgt_size]; omega) | (rw [size_app, dgt_size]; omega) | omega) only [cble, q, cond_false]
    refine Ev.bind (l1Num_ev _ (by omega)) ?_
    simp (disch := first | (rw [size_app, dgt_size, dgt_size]; omega) | omega) only [cble, ha]
    refine Ev.bind z1 ?_
    rcases z3 with ⟨h1, rfl⟩ | ⟨h1, h2⟩
    · simp (disch := omega) only [cpos]; exact Ev.pure _
    · simp (disch := omega) only [cneg]; exact Ev.bind h2 (Ev.pure _)
  · refine Ev.bind (digits_ev _ (by omega)) ?_
    simp (disch := (rw [two_size]; omega)) only [cble]
    exact Ev.bind z2 (Ev.pure _)
theorem suggest_ev (l : Library) (e : Entry) (sl : smallL l) (se : smallE e) : ∃ r, Ev (fun k => spec_SuggestKey.F k l e) r ∧ Ev (fun k => impl_SuggestKey.F k l e) r := by
  have a1 := specLib_ev l sl
  have a2 := isLib_ev l sl
  have b1 := specEntry_ev e se
  have b2 := isEntry_ev e se
  unfold spec_SuggestKey.F impl_SuggestKey.F
  cases ha : libB l with
  | false =>
    rw [ha] at a1 a2
    exact ⟨_, Ev.bind a1 (Ev.pure _), Ev.bind a2 (Ev.pure _)⟩
  | true =>
    rw [ha] at a1 a2
    cases hb : entryB e with
    | false =>
      rw [hb] at b1 b2
      exact ⟨_, Ev.bind a1 (Ev.bind b1 (Ev.pure _)), Ev.bind a2 (Ev.bind b2 (Ev.pure _))⟩
    | true =>
      rw [hb] at b1 b2
      have hl := libB_len ha
      obtain ⟨hd, hf⟩ := entry_facts hb
      have q : ((10 : Nat) == 0) = false := rfl
      have q2 : ((100 : Nat) == 0) = false := rfl
      by_cases c : (e.authors.length : Int) > 0
      · have h0 : 0 < e.authors.length := by omega
        have hfam := hf _ (List.getElem_mem h0)
        obtain ⟨t, t1, t2⟩ := implBase_ev e.authors[0].family (by omega)
        have s1 := specBase_ev l e e.authors[0].family (by omega)
        have hbs := baseT_size e.authors[0].family
        rcases date_year hd with hy | ⟨hy1, hy2⟩
        · obtain ⟨r, r1, r2⟩ := rest_nd l hl (baseT e.authors[0].family) hbs
          refine ⟨(r, true), Ev.bind a1 (Ev.bind b1 ?_), Ev.bind a2 (Ev.bind b2 ?_)⟩
          · simp (disch := omega) only [Bool.not_true, cond_false, cpos, show (0 : Int).toNat = 0 from rfl, getD_at h0]
            refine Ev.bind (specLower_ev _ (by omega)) (Ev.bind s1 ?_)
            simp (disch := omega) only [ceq]
            exact r1
          · simp (disch := omega) only [Bool.not_true, cond_false, cpos, show (0 : Int).toNat = 0 from rfl, getD_at h0]
            refine Ev.bind t1 (Ev.bind t2 ?_)
            simp (disch := omega) only [cneg]
            exact r2
        · obtain ⟨r, r1, r2⟩ := rest_yr l hl (baseT e.authors[0].family) hbs e.date.y hy1 hy2
          refine ⟨(r, true), Ev.bind a1 (Ev.bind b1 ?_), Ev.bind a2 (Ev.bind b2 ?_)⟩
          · simp (disch := omega) only [Bool.not_true, cond_false, cpos, show (0 : Int).toNat = 0 from rfl, getD_at h0]
            refine Ev.bind (specLower_ev _ (by omega)) (Ev.bind s1 ?_)
            simp (disch := omega) only [cne, q, cond_false]
            exact r1
          · simp (disch := omega) only [Bool.not_true, cond_false, cpos, show (0 : Int).toNat = 0 from rfl, getD_at h0]
            refine Ev.bind t1 (Ev.bind t2 ?_)
            simp (disch := omega) only [cpos, q2, cond_false]
            exact r2
      · have hbs : (⟨#[97, 110, 111, 110]⟩ : ByteArray).size ≤ 6 := by decide
        rcases date_year hd with hy | ⟨hy1, hy2⟩
        · obtain ⟨r, r1, r2⟩ := rest_nd l hl ⟨#[97, 110, 111, 110]⟩ hbs
          refine ⟨(r, true), Ev.bind a1 (Ev.bind b1 ?_), Ev.bind a2 (Ev.bind b2 ?_)⟩
          · simp (disch := omega) only [Bool.not_true, cond_false, cneg, ceq]
            exact r1
          · simp (disch := omega) only [Bool.not_true, cond_false, cneg]
            exact r2
        · obtain ⟨r, r1, r2⟩ := rest_yr l hl ⟨#[97, 110, 111, 110]⟩ hbs e.date.y hy1 hy2
          refine ⟨(r, true), Ev.bind a1 (Ev.bind b1 ?_), Ev.bind a2 (Ev.bind b2 ?_)⟩
          · simp (disch := omega) only [Bool.not_true, cond_false, cneg, cne, q]
            exact r1
          · simp (disch := omega) only [Bool.not_true, cond_false, cneg, cpos, q2]
            exact r2
theorem suggestKey_law (l : Library) (e : Entry) (ha : WF .lib l) (hb : WF .entry e) : ∃ k, laws_FnExactSuggestKey.F k l e = some true := by
  refine Ev.get (?_ : Ev (fun k => laws_FnExactSuggestKey.F k l e) true)
  unfold laws_FnExactSuggestKey.F
  obtain ⟨r, h1, h2⟩ := szL_ev l 1048576 (by omega) (by omega) ha
  refine Ev.bind h1 ?_
  by_cases c : r < 0
  · simp (disch := omega) only [cpos]
    exact Ev.pure _
  simp (disch := omega) only [cneg]
  have e1 := h2 (by omega)
  obtain ⟨q, h3, h4⟩ := szE_ev e r (by omega) (by omega) hb
  refine Ev.bind h3 ?_
  by_cases c' : q < 0
  · simp (disch := omega) only [cpos]
    exact Ev.pure _
  simp (disch := omega) only [cneg]
  have e2 := h4 (by omega)
  have sl : smallL l := by unfold smallL; omega
  have se : smallE e := by unfold smallE; omega
  obtain ⟨v, v1, v2⟩ := suggest_ev l e sl se
  have ta := toL_ev l sl
  have tb := toE_ev e se
  refine Ev.bind ta (Ev.bind tb (Ev.bind v1 (Ev.bind ta (Ev.bind tb (Ev.bind v2 ?_)))))
  simp only [beqS_self, beq_self_eq_true, Bool.not_true, cond_false]
  refine Ev.bind ta (Ev.bind (eqL_ev l sl) ?_)
  simp only [Bool.not_true, cond_false]
  exact Ev.bind tb (Ev.bind (eqE_ev e se) (Ev.pure _))
end Go.Proofs.YtdbfalcfejhjfaaGreatDoor
end
section
/- The law FnExactSuggestKey returns true for every input, the listed package variables being as the program's text lays it: the card. -/
namespace Go.Proofs.YtdbfalcfejhjfaaGreatDoor
open Go.Gx Go.RowKit Go.ChangeShapes Go.WideShapes Go.ChangeAt
set_option linter.unusedVariables false
theorem fnExactSuggestKey_own : ownKnob Tryz.prog.godebug = none := by kernel_rfl
set_option maxRecDepth 100000 in
theorem fnExactSuggestKey_contract (H : Type) (enc : TypeId × Value → H) (W : World) (base : Nat) (args : Array Value) (ds gs : List (DataW H)) (before : List MemPlace)
    (hval : ∀ (j : Nat) t v, Tryz.f5.params[j]? = some t → args[j]? = some v → Value.okWide Tryz.prog W .any base t v)
    (hW : DataW.Whole enc Tryz.prog Tryz.f5.params.toList Rows.fnExactSuggestKeySpec.vars false W args.toList ds gs before) (hsh : W.ShapedOpen Tryz.prog) :
    Calls Tryz.prog 5 args W fun e W' => ∃ v, e = .returned v ∧ Rows.fnExactSuggestKeySpec.post enc Tryz.prog Tryz.f5 false true false false W args v W' := by
  have hgs : gs = [] := by
    obtain ⟨p, q, _, hV, _⟩ := hW
    exact (trodVars_none hV).1
  subst hgs
  have hds : ∃ d1 d2, ds = [d1, d2] := by
    obtain ⟨p, q, hA, _⟩ := hW
    obtain ⟨_, _, d1, e0, _, _, _, rfl, _, _, h0⟩ := trodAll_cons hA
    obtain ⟨_, _, d2, e1, _, _, _, rfl, _, _, h1⟩ := trodAll_cons h0
    obtain ⟨_, rfl, _⟩ := trodAll_nil h1
    exact ⟨d1, d2, rfl⟩
  obtain ⟨d1, d2, rfl⟩ := hds
  have hgl : GlOk envX (Lt W) W := by
    refine ⟨fun g b h => (by cases h), fun g hg => ?_⟩
    have hg' : giT g = true := hg
    unfold giT at hg'
    split at hg'
    · obtain ⟨m, hm⟩ := cell_of_shapedOpen_int (P := Tryz.prog) (g := 1) (t := 3) (zero := #[.int .i64 0]) hsh (of_decide_eq_true (by kernel_rfl)) (by kernel_rfl) rfl (by kernel_rfl) (by kernel_rfl) (by kernel_rfl)
      exact ⟨World.block_lt_of_cell? _ _ hm, m, hm⟩
    · cases hg'
  refine law_contract (τs := [.lib, .entry]) (r := .t .bool true) envOk (by kernel_rfl) rfl (by kernel_rfl) (by kernel_rfl) rfl (by kernel_rfl) (by kernel_rfl) (fun t ht => ?_) rfl (fun x hx => by
      obtain ⟨k, hk⟩ := suggestKey_law x.1 x.2.1 hx.1 hx.2.1
      exact laws_FnExactSuggestKey.good envOk _ k _ _ hk) rfl hval hW hgl (fun q hq W' _ => ?_)
  · have : t ∈ [39, 26] := ht
    simp only [List.mem_cons, List.not_mem_nil, or_false] at this
    rcases this with rfl | rfl <;> exact ⟨by kernel_rfl, Nat.le_of_ble_eq_true (by kernel_rfl)⟩
  · obtain ⟨_, rfl⟩ := trodVars_none hq
    exact rfl
set_option maxRecDepth 100000 in
noncomputable def fnExactSuggestKey_world (os : Os) : World :=
  { World.holding Tryz.prog os ⟨#[], #[], []⟩ with heap := ((((((World.holding Tryz.prog os ⟨#[], #[], []⟩).heap.modify 4 fun
      | .cells _ t frozen => .cells #[.int .u8 0, .int .u8 1, .int .u8 28, .int .u8 2, .int .u8 29, .int .u8 14, .int .u8 24, .int .u8 3, .int .u8 30, .int .u8 22, .int .u8 20, .int .u8 15, .int .u8 25, .int .u8 17, .int .u8 4, .int .u8 8, .int .u8 31, .int .u8 27, .int .u8 13, .int .u8 23, .int .u8 21, .int .u8 19, .int .u8 16, .int .u8 7, .int .u8 26, .int .u8 12, .int .u8 18, .int .u8 6, .int .u8 11, .int .u8 5, .int .u8 10, .int .u8 9] t frozen
      | o => o).modify 5 fun
      | .cells _ t frozen => .cells #[.int .u8 0, .int .u8 1, .int .u8 56, .int .u8 2, .int .u8 57, .int .u8 49, .int .u8 28, .int .u8 3, .int .u8 61, .int .u8 58, .int .u8 42, .int .u8 50, .int .u8 38, .int .u8 29, .int .u8 17, .int .u8 4, .int .u8 62, .int .u8 47, .int .u8 59, .int .u8 36, .int .u8 45, .int .u8 43, .int .u8 51, .int .u8 22, .int .u8 53, .int .u8 39, .int .u8 33, .int .u8 30, .int .u8 24, .int .u8 18, .int .u8 12, .int .u8 5, .int .u8 63, .int .u8 55, .int .u8 48, .int .u8 27, .int .u8 60, .int .u8 41, .int .u8 37, .int .u8 16, .int .u8 46, .int .u8 35, .int .u8 44, .int .u8 21, .int .u8 52, .int .u8 32, .int .u8 23, .int .u8 11, .int .u8 54, .int .u8 26, .int .u8 40, .int .u8 15, .int .u8 34, .int .u8 20, .int .u8 31, .int .u8 10, .int .u8 25, .int .u8 14, .int .u8 19, .int .u8 9, .int .u8 13, .int .u8 8, .int .u8 7, .int .u8 6] t frozen
      | o => o).modify 0 fun
      | .cells _ t frozen => .cells #[.int .u64 1, .int .u64 10, .int .u64 100, .int .u64 1000, .int .u64 10000, .int .u64 100000, .int .u64 1000000, .int .u64 10000000, .int .u64 100000000, .int .u64 1000000000, .int .u64 10000000000, .int .u64 100000000000, .int .u64 1000000000000, .int .u64 10000000000000, .int .u64 100000000000000, .int .u64 1000000000000000, .int .u64 10000000000000000, .int .u64 100000000000000000, .int .u64 1000000000000000000, .int .u64 10000000000000000000] t frozen
      | o => o).modify 3 fun
      | .cells _ t frozen => .cells #[.int .u8 128, .int .u8 191, .int .u8 160, .int .u8 191, .int .u8 128, .int .u8 159, .int .u8 144, .int .u8 191, .int .u8 128, .int .u8 143, .int .u8 0, .int .u8 0, .int .u8 0, .int .u8 0, .int .u8 0, .int .u8 0, .int .u8 0, .int .u8 0, .int .u8 0, .int .u8 0, .int .u8 0, .int .u8 0, .int .u8 0, .int .u8 0, .int .u8 0, .int .u8 0, .int .u8 0, .int .u8 0, .int .u8 0, .int .u8 0, .int .u8 0, .int .u8 0] t frozen
      | o => o).modify 2 fun
      | .cells _ t frozen => .cells (Pinned.utf8FirstZ.map fun (n : Nat) => Value.int .u8 (n : Int)).toArray t frozen
      | o => o) }
theorem fnExactSuggestKey_met (os : Os) : laidMet Tryz.prog Rows.fnExactSuggestKeyRow.laid ((fnExactSuggestKey_world os).forCall (fun _ _ => 0) ⟨#[], #[.agg #[.slice none 0 0], .agg #[.string ⟨#[]⟩, .int .i64 0, .slice none 0 0, .slice none 0 0, .string ⟨#[]⟩, .string ⟨#[]⟩, .string ⟨#[]⟩, .int .i64 0, .int .i64 0, .int .i64 0, .bool false, .int .i64 0, .string ⟨#[]⟩, .string ⟨#[]⟩]], []⟩).memory :=
  laidMet_of_run' 8 (by kernel_rfl) (by kernel_rfl)
theorem fnExactSuggestKey_reads (os : Os) {H : Type} (enc : TypeId × Value → H) : ∃ places, DataW.whole enc Tryz.prog ((fnExactSuggestKey_world os).forCall (fun _ _ => 0) ⟨#[], #[.agg #[.slice none 0 0], .agg #[.string ⟨#[]⟩, .int .i64 0, .slice none 0 0, .slice none 0 0, .string ⟨#[]⟩, .string ⟨#[]⟩, .string ⟨#[]⟩, .int .i64 0, .int .i64 0, .int .i64 0, .bool false, .int .i64 0, .string ⟨#[]⟩, .string ⟨#[]⟩]], []⟩).memory Tryz.f5.params.toList Rows.fnExactSuggestKeySpec.vars false #[.agg #[.slice none 0 0], .agg #[.string ⟨#[]⟩, .int .i64 0, .slice none 0 0, .slice none 0 0, .string ⟨#[]⟩, .string ⟨#[]⟩, .string ⟨#[]⟩, .int .i64 0, .int .i64 0, .int .i64 0, .bool false, .int .i64 0, .string ⟨#[]⟩, .string ⟨#[]⟩]].toList 8 = some ([.agg [.nil], .agg [.lit (.string []), .lit (.int .i64 0), .nil, .nil, .lit (.string []), .lit (.string []), .lit (.string []), .agg [.lit (.int .i64 0), .lit (.int .i64 0), .lit (.int .i64 0), .lit (.bool false)], .lit (.int .i64 0), .lit (.string []), .lit (.string [])]], [], places) :=
  ⟨[], by kernel_rfl⟩
set_option maxRecDepth 100000 in
theorem fnExactSuggestKey_lifted (os : Os) (started : os.Started) (H : Type) (enc : TypeId × Value → H) (F : Stop.Interp) :
    ReturnsInHanded {} Tryz.checked os 5 .any ((OpenSpec.ofChange Rows.fnExactSuggestKeySpec).preRow enc Tryz.prog Tryz.f5 Rows.fnExactSuggestKeyRow.domain false Rows.fnExactSuggestKeyRow.laid) (((OpenSpec.ofChange Rows.fnExactSuggestKeySpec).at F).post enc Tryz.prog Tryz.f5 false true false false) := by
  obtain ⟨places, hx⟩ := fnExactSuggestKey_reads os enc
  refine returnsInHanded_of_row (C := Tryz.checked) (s := OpenSpec.ofChange Rows.fnExactSuggestKeySpec) fnExactSuggestKey_own started (by kernel_rfl) (by kernel_rfl)
    (witness_row_at (enc := enc) (C := Tryz.checked) false (fnExactSuggestKey_world os) #[.agg #[.slice none 0 0], .agg #[.string ⟨#[]⟩, .int .i64 0, .slice none 0 0, .slice none 0 0, .string ⟨#[]⟩, .string ⟨#[]⟩, .string ⟨#[]⟩, .int .i64 0, .int .i64 0, .int .i64 0, .bool false, .int .i64 0, .string ⟨#[]⟩, .string ⟨#[]⟩]] rfl (by kernel_rfl) (by kernel_rfl) (by kernel_rfl)
      (OpenSpec.preRow_of_cond 8 hx (by kernel_rfl) (fun k hk => by cases hk) (by kernel_rfl) (fnExactSuggestKey_met os))) ?_
  intro W base args ds gs before hval hW _ _ _ _ hsh _
  exact fnExactSuggestKey_contract H enc W base args ds gs before hval hW hsh
theorem fnExactSuggestKey_said : Rows.FnExactSuggestKeySaid :=
  OpenClaim.holds_of_cond 5 Tryz.f5 rfl rfl rfl rfl rfl rfl rfl ⟨rfl, rfl, rfl, rfl, rfl⟩ rfl rfl rfl rfl rfl (by kernel_rfl) (by kernel_rfl) (by kernel_rfl)
    (of_decide_eq_true (by kernel_rfl)) (by unfold Func.isWrapper; first | (rw [if_pos (by decide +kernel)]; kernel_rfl) | (rw [if_neg (by decide +kernel)]; exact ⟨rfl, rfl⟩))
    (fun os started H enc _ F => by rw [OpenClaim.pre_eq_preRow]; exact fnExactSuggestKey_lifted os started H enc F)
theorem fnExactSuggestKey_plain (f : FuncId) (fn : Func) (hf : Tryz.pinned.checked.prog.funcNamed "loop.example/g00896/laws.FnExactSuggestKey" = some f) (hfn : Tryz.pinned.checked.prog.funcs[f]? = some fn) :
    false = Tryz.pinned.checked.prog.looks [] ∧ ∀ (j : Nat) t, fn.params[j]? = some t → Tryz.pinned.checked.prog.wantsStandIn t = false := by
  obtain rfl : f = 5 := (Option.some.inj ((show Tryz.prog.funcNamed "loop.example/g00896/laws.FnExactSuggestKey" = some 5 by kernel_rfl).symm.trans hf)).symm
  obtain rfl : fn = Tryz.f5 := (Option.some.inj ((show Tryz.prog.funcs[5]? = some Tryz.f5 by kernel_rfl).symm.trans hfn)).symm
  refine ⟨by kernel_rfl, fun j t ht => ?_⟩
  have ht' : t ∈ [39, 26] := by simpa using Array.mem_of_getElem? (show (#[39, 26] : Array Nat)[j]? = some t from ht)
  simp only [List.mem_cons, List.not_mem_nil, or_false] at ht'
  rcases ht' with rfl | rfl
  · exact (show Tryz.prog.wantsStandIn 39 = false by kernel_rfl)
  · exact (show Tryz.prog.wantsStandIn 26 = false by kernel_rfl)
theorem FnExactSuggestKey_holds : Rows.FnExactSuggestKeyCardSaid :=
  Claim7.holds_tied_plain_at .later [] _ _ _ _ fnExactSuggestKey_said (fun _ h => by cases h) (by kernel_rfl) (fun _ h => by cases h) fnExactSuggestKey_row_tie rfl ⟨rfl, rfl⟩ (by kernel_rfl) rfl fnExactSuggestKey_plain (by kernel_rfl)
#print axioms FnExactSuggestKey_holds
end Go.Proofs.YtdbfalcfejhjfaaGreatDoor
end
