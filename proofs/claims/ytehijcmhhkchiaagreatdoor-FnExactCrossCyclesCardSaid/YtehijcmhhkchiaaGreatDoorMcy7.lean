/- The law FnExactCrossCycles returns true for every input, the listed package variables being as the program's text lays it: the card. -/
import Derived.Test.YtehijcmhhkchiaaGreatDoorMcy4
import Derived.Test.YtehijcmhhkchiaaGreatDoorMcy6
import Derived.Lib.ItoaNum
import Derived.Test.YtehijcmhhkchiaaGreatDoorCards
import Derived.Test.YtehijcmhhkchiaaGreatDoorTie
import Derived.Shelf.Vars
import Derived.WalkKit
import Derived.ProofKit
import Derived.OpenShut
import Derived.Deep.DeepHandedRow
import Derived.Lib.LaidTab
set_option linter.unusedVariables false
set_option linter.unusedSimpArgs false
set_option maxRecDepth 100000
section
namespace Go.Gx
section
variable {α : Type} {d : α} {p : α -> Bool} {q : Nat -> α -> Option Bool} {xs : List α}
theorem getDat {α : Type} {xs : List α} {i : Nat} (h : i < xs.length) (d : α) : xs.getD i d = xs[i]:= by simp [List.getD, List.getElem?_eq_getElem h]
theorem idx_l0 {l0 : Nat -> List α -> Int -> Int -> Option (Sum Int Unit)} (H : ∀ k x0 x7 x8, l0 (k + 1) x0 x7 x8 = bif (decide (x8 < x7)) then (bif decide (0 <= x8) then (bif decide (x8 < (x0.length : Int)) then ((q k (x0.getD (x8 : Int).toNat d)).bind fun r1=> bif r1 then (some (.inl x8)) else (l0 k x0 x7 (IntKind.wrap .i64 (x8 + 1)))) else none) else none) else (some (.inr ())))
  (hq : ∀ x, x ∈ xs -> Ev (fun k=> q k x) (p x)) (hl : xs.length <= 4611686018427387904) : ∀ n i : Nat, i + n = xs.length -> (∀ x ∈ xs.take i, p x = false) ->
  ∃ r, Ev (fun k=> l0 k xs xs.length i) r /\ ((r = .inr () /\ ∀ x ∈ xs, p x = false) \/ ∃ j : Nat, r = .inl j /\ j < xs.length /\ p (xs.getD j d) = true /\ ∀ x ∈ xs.take j, p x = false)
 | 0, i, h, ht=> by
  refine ⟨.inr (), Ev.step (fun k=> by rw [H]) ?_, .inl ⟨rfl, by rw [List.take_of_length_le (by omega)] at ht; exact ht⟩⟩
  simp (disch := omega) only [cneg]
  exact Ev.pure _
 | n + 1, i, h, ht=> by
  have hi : i < xs.length:= by omega
  cases hp : p xs[i] with
  | true=>
   refine ⟨.inl i, Ev.step (fun k=> by rw [H]) ?_, .inr ⟨i, rfl, hi, by rw [getDat hi, hp], ht⟩⟩
   simp (disch := omega) only [cpos, Int.toNat_natCast, getDat hi]
   refine Ev.bind (hq _ (List.getElem_mem hi)) ?_
   rw [hp]
   exact Ev.pure _
  | false=>
   obtain ⟨r, h1, h2⟩ := idx_l0 H hq hl n (i + 1) (by omega) (by
    intro x hx
    rw [List.take_add_one, List.getElem?_eq_getElem hi] at hx
    rcases List.mem_append.1 hx with hx | hx
    ·exact ht x hx
    ·simp only [Option.toList_some, List.mem_singleton] at hx
     rw [hx, hp])
   refine ⟨r, Ev.step (fun k=> by rw [H]) ?_, h2⟩
   simp (disch := omega) only [cpos, Int.toNat_natCast, getDat hi]
   refine Ev.bind (hq _ (List.getElem_mem hi)) ?_
   rw [hp]
   simp (disch := omega) only [cond_false, wrap_in]
   exact h1
theorem idx_ev {l0 : Nat -> List α -> Int -> Int -> Option (Sum Int Unit)} (H : ∀ k x0 x7 x8, l0 (k + 1) x0 x7 x8 = bif (decide (x8 < x7)) then (bif decide (0 <= x8) then (bif decide (x8 < (x0.length : Int)) then ((q k (x0.getD (x8 : Int).toNat d)).bind fun r1=> bif r1 then (some (.inl x8)) else (l0 k x0 x7 (IntKind.wrap .i64 (x8 + 1)))) else none) else none) else (some (.inr ())))
  (hq : ∀ x, x ∈ xs -> Ev (fun k=> q k x) (p x)) (hl : xs.length <= 4611686018427387904) {F : Nat -> List α -> Option Int} (HF : ∀ k a0, F k a0 = (l0 k a0 (a0.length : Int) 0).bind fun y2=> match y2 with | .inl z3=> some z3 | .inr z3=> some (-1)) :
  ∃ r, Ev (fun k=> F k xs) r /\ ((r = -1 /\ ∀ x ∈ xs, p x = false) \/ ∃ j : Nat, r = j /\ j < xs.length /\ p (xs.getD j d) = true /\ ∀ x ∈ xs.take j, p x = false):= by
 obtain ⟨r, h1, h2⟩ := idx_l0 H hq hl xs.length 0 (by omega) (fun x hx=> by simp at hx)
 rcases h2 with ⟨rfl, h2⟩ | ⟨j, rfl, h2⟩
 ·exact ⟨-1, Ev.congr (Ev.bind h1 (Ev.pure _)) (fun k=> HF k xs), .inl ⟨rfl, h2⟩⟩
 ·exact ⟨j, Ev.congr (Ev.bind h1 (Ev.pure _)) (fun k=> HF k xs), .inr ⟨j, rfl, h2⟩⟩
end
end Go.Gx
end
section
/- Plain laws: keys, names, dates, entries, libraries: are they valid? -/
namespace Go.Proofs.YtehijcmhhkchiaaGreatDoor
open Go.Gx
theorem in_ev (a b c : Int) : spec_l1In.F a b c = some (decide (a ≥ b) && decide (a <= c)):= by
 unfold spec_l1In.F
 cases decide (a ≥ b) <;> rfl
theorem inside_ev (a b c : Int) : impl_inside.F a b c = some (decide (a ≥ b) && decide (a <= c)):= by
 unfold impl_inside.F
 cases decide (a ≥ b) <;> rfl
theorem and_step {f : Nat -> Option Bool} {b c : Bool} (h : b = true -> Ev f c) : Ev (fun k=> bif (!b) then some false else f k) (b && c):= by
 cases b with
 | false=> exact Ev.pure _
 | true=> exact h rfl
theorem and_step' {f : Nat -> Option Bool} {b c : Bool} (h : b = true -> Ev f c) : Ev (fun k=> bif b then f k else some false) (b && c):= by
 cases b with
 | false=> exact Ev.pure _
 | true=> exact h rfl
def lowc (b : Int) : Bool := decide (97 <= b) && decide (b <= 122)
def upc (b : Int) : Bool := decide (65 <= b) && decide (b <= 90)
def ltr (b : Int) : Bool := upc b || lowc b
def dig (b : Int) : Bool := decide (48 <= b) && decide (b <= 57)
theorem sLower (b : Int) : spec_l2Lower.F b = some (lowc b):= by
 unfold spec_l2Lower.F lowc
 simp only [ge_iff_le]
 cases decide (97 <= b) <;> rfl
theorem sUpper (b : Int) : spec_l2Upper.F b = some (upc b):= by
 unfold spec_l2Upper.F upc
 simp only [ge_iff_le]
 cases decide (65 <= b) <;> rfl
theorem sLetter (b : Int) : spec_l2Letter.F b = some (ltr b):= by
 unfold spec_l2Letter.F ltr
 rw [sUpper, sLower]
 cases upc b <;> rfl
theorem iLower (b : Int) : impl_isLower.F b = some (lowc b):= by
 unfold impl_isLower.F lowc
 simp only [ge_iff_le]
 cases decide (97 <= b) <;> rfl
theorem iUpper (b : Int) : impl_isUpper.F b = some (upc b):= by
 unfold impl_isUpper.F upc
 simp only [ge_iff_le]
 cases decide (65 <= b) <;> rfl
theorem iLetter (b : Int) : impl_isLetter.F b = some (ltr b):= by
 unfold impl_isLetter.F ltr
 rw [iUpper, iLower]
 cases upc b <;> rfl
theorem iDigit (b : Int) : impl_isDigit.F b = some (dig b):= by
 unfold impl_isDigit.F dig
 simp only [ge_iff_le]
 cases decide (48 <= b) <;> rfl
def ins (n : Nat) (lo hi : Int) : Bool := decide ((n : Int) ≥ lo) && decide ((n : Int) <= hi)
theorem ins_le {n : Nat} {lo hi : Int} (h : ins n lo hi = true) : lo <= n /\ (n : Int) <= hi:= by
 unfold ins at h
 simp only [Bool.and_eq_true, decide_eq_true_eq] at h
 exact h
def kb (s : ByteArray) (i : Nat) : Bool := lowc (bt s i) || dig (bt s i)
def keyB (s : ByteArray) : Bool := ins s.size 1 10 && (lowc (bt s 0) && (List.range' 0 s.size).all (kb s))
theorem specKey_l0 (s : ByteArray) (hs : s.size <= 10) : Ev (fun k=> spec_l4Key.l0 k s ((0 : Nat) : Int)) (if (List.range' 0 s.size).all (kb s) = true then .inr () else .inl false):= by
 refine loop_all (f := fun k i=> spec_l4Key.l0 k s i) (n := s.size) (fun i hi hp=> ?_) (fun i r hi hp ih=> ?_) ?_ s.size 0 (by omega)
 ·refine Ev.step (fun k=> by rw [spec_l4Key.l0]) ?_
  unfold kb at hp
  rw [Bool.or_eq_false_iff] at hp
  simp (disch := omega) only [cpos, Int.toNat_natCast]
  refine Ev.bind0 (sLower _) ?_
  rw [hp.1]
  have h2 := hp.2
  unfold dig at h2
  by_cases c : bt s i < 48
  ·simp (disch := omega) only [cpos, Bool.not_false, cond_true]
   exact Ev.pure _
  ·have c2 : bt s i > 57:= by
    rw [decide_eq_true (show 48 <= bt s i by omega), Bool.true_and, decide_eq_false_iff_not] at h2
    omega
   simp (disch := omega) only [cpos, cneg, Bool.not_false, cond_true]
   exact Ev.pure _
 ·refine Ev.step (fun k=> by rw [spec_l4Key.l0]) ?_
  simp (disch := omega) only [cpos, Int.toNat_natCast]
  refine Ev.bind0 (sLower _) ?_
  cases hl : lowc (bt s i) with
  | true=>
   simp (disch := omega) only [Bool.not_true, cond_false, wrap_in]
   exact ih
  | false=>
   unfold kb at hp
   rw [hl, Bool.false_or] at hp
   unfold dig at hp
   simp only [Bool.and_eq_true, decide_eq_true_eq] at hp
   simp (disch := omega) only [Bool.not_false, cond_true, cpos, cneg, wrap_in]
   exact ih
 ·refine Ev.step (fun k=> by rw [spec_l4Key.l0]) ?_
  simp (disch := omega) only [cneg]
  exact Ev.pure _
theorem isKey_l0 (s : ByteArray) (hs : s.size <= 10) : Ev (fun k=> impl_isKey.l0 k s ((0 : Nat) : Int)) (if (List.range' 0 s.size).all (kb s) = true then .inr () else .inl false):= by
 refine loop_all (f := fun k i=> impl_isKey.l0 k s i) (n := s.size) (fun i hi hp=> ?_) (fun i r hi hp ih=> ?_) ?_ s.size 0 (by omega)
 ·refine Ev.step (fun k=> by rw [impl_isKey.l0]) ?_
  unfold kb at hp
  rw [Bool.or_eq_false_iff] at hp
  simp (disch := omega) only [cpos, Int.toNat_natCast]
  refine Ev.bind0 (iLower _) ?_
  rw [hp.1]
  simp (disch := omega) only [Bool.not_false, cond_true, cpos]
  refine Ev.bind0 (iDigit _) ?_
  rw [hp.2]
  exact Ev.pure _
 ·refine Ev.step (fun k=> by rw [impl_isKey.l0]) ?_
  simp (disch := omega) only [cpos, Int.toNat_natCast]
  refine Ev.bind0 (iLower _) ?_
  cases hl : lowc (bt s i) with
  | true=>
   simp (disch := omega) only [Bool.not_true, cond_false, wrap_in]
   exact ih
  | false=>
   unfold kb at hp
   rw [hl, Bool.false_or] at hp
   simp (disch := omega) only [Bool.not_false, cond_true, cpos]
   refine Ev.bind0 (iDigit _) ?_
   rw [hp]
   simp (disch := omega) only [Bool.not_true, cond_false, wrap_in]
   exact ih
 ·refine Ev.step (fun k=> by rw [impl_isKey.l0]) ?_
  simp (disch := omega) only [cneg]
  exact Ev.pure _
theorem specKey_ev (s : ByteArray) : Ev (fun k=> spec_l4Key.F k s) (keyB s):= by
 unfold spec_l4Key.F keyB
 refine Ev.bind0 (in_ev _ _ _) (and_step fun h=> ?_)
 obtain ⟨h1, h2⟩ := ins_le h
 simp (disch := omega) only [cpos, show (0 : Int).toNat = 0 from rfl]
 refine Ev.bind0 (sLower _) (and_step fun _=> ?_)
 have := specKey_l0 s (by omega)
 cases ha : (List.range' 0 s.size).all (kb s) with
 | true=> rw [ha] at this; exact Ev.bind this (Ev.pure _)
 | false=> rw [ha] at this; exact Ev.bind this (Ev.pure _)
theorem isKey_ev (s : ByteArray) : Ev (fun k=> impl_isKey.F k s) (keyB s):= by
 unfold impl_isKey.F keyB
 refine Ev.bind0 (inside_ev _ _ _) (and_step fun h=> ?_)
 obtain ⟨h1, h2⟩ := ins_le h
 simp (disch := omega) only [cpos, show (0 : Int).toNat = 0 from rfl]
 refine Ev.bind0 (iLower _) (and_step fun _=> ?_)
 have := isKey_l0 s (by omega)
 cases ha : (List.range' 0 s.size).all (kb s) with
 | true=> rw [ha] at this; exact Ev.bind this (Ev.pure _)
 | false=> rw [ha] at this; exact Ev.bind this (Ev.pure _)
def wp (s : ByteArray) (i : Nat) : Bool := ltr (bt s i) || ((bt s i == 45 || bt s i == 39) && ltr (bt s (i - 1)))
def wordB (s : ByteArray) : Bool := ins s.size 1 12 && (ltr (bt s 0) && (ltr (bt s (s.size - 1)) && (List.range' 1 (s.size - 1)).all (wp s)))
theorem wcase {s : ByteArray} {i : Nat} (h : ltr (bt s i) = false) (h1 : bt s i ≠ 45) (h2 : bt s i ≠ 39) : wp s i = false:= by
 unfold wp
 rw [h, show (bt s i == 45) = false by simpa using h1, show (bt s i == 39) = false by simpa using h2]; rfl
theorem wcase' {s : ByteArray} {i : Nat} (h : ltr (bt s i) = false) (h1 : bt s i = 45 \/ bt s i = 39) : wp s i = ltr (bt s (i - 1)):= by
 unfold wp
 rw [h]
 rcases h1 with h1 | h1 <;> rw [h1] <;> simp
theorem specWord_l0 (s : ByteArray) (hs : s.size <= 12) : ∀ m i : Nat, i + m = s.size -> 1 <= i -> Ev (fun k=> spec_l2Word.l0 k s i) (if (List.range' i m).all (wp s) = true then .inr () else .inl false)
 | 0, i, h, h1=> by
  refine Ev.step (fun k=> by rw [spec_l2Word.l0]) ?_
  simp (disch := omega) only [cneg]
  exact Ev.pure _
 | m + 1, i, h, h1=> by
  have ih := specWord_l0 s hs m (i + 1) (by omega) (by omega)
  have et : ((i : Int) - 1).toNat = i - 1:= by omega
  refine Ev.step (fun k=> by rw [spec_l2Word.l0]) ?_
  rw [List.range'_succ, List.all_cons]
  simp (disch := omega) only [cpos, Int.toNat_natCast]
  refine Ev.bind0 (sLetter _) ?_
  cases hl : ltr (bt s i) with
  | true=>
   have : wp s i = true:= by unfold wp; rw [hl]; rfl
   rw [this]
   simp (disch := omega) only [Bool.not_true, cond_false, Bool.true_and, wrap_in]
   exact ih
  | false=>
   have fin : (bt s i = 45 \/ bt s i = 39) -> Ev (fun k=> (spec_l2Letter.F (bt s (i - 1))).bind fun r5=> bif (!r5) then (some (.inl false)) else (spec_l2Word.l0 k s ((i : Int) + 1))) (if (wp s i && (List.range' (i + 1) m).all (wp s)) = true then .inr () else .inl false) := fun hh=> by
    refine Ev.bind0 (sLetter _) ?_
    rw [wcase' hl hh]
    cases ltr (bt s (i - 1)) with
    | true=> exact ih
    | false=> exact Ev.pure _
   by_cases c1 : bt s i = 45
   ·simp (disch := first | exact c1 | omega) only [Bool.not_false, cond_true, cpos, cbeq, wrap_in, et]
    exact fin (.inl c1)
   ·by_cases c2 : bt s i = 39
    ·simp (disch := first | exact c1 | exact c2 | omega) only [Bool.not_false, cond_true, cpos, cbne, cbeq, wrap_in, et]
     exact fin (.inr c2)
    ·rw [wcase hl c1 c2]
     simp (disch := first | exact c1 | exact c2 | omega) only [Bool.not_false, cond_true, cpos, cbne]
     exact Ev.pure _
theorem isWord_l0 (s : ByteArray) (hs : s.size <= 12) : ∀ m i : Nat, i + m = s.size -> 1 <= i -> Ev (fun k=> impl_isNameWord.l0 k s i) (if (List.range' i m).all (wp s) = true then .inr () else .inl false)
 | 0, i, h, h1=> by
  refine Ev.step (fun k=> by rw [impl_isNameWord.l0]) ?_
  simp (disch := omega) only [cneg]
  exact Ev.pure _
 | m + 1, i, h, h1=> by
  have ih := isWord_l0 s hs m (i + 1) (by omega) (by omega)
  have et : ((i : Int) - 1).toNat = i - 1:= by omega
  refine Ev.step (fun k=> by rw [impl_isNameWord.l0]) ?_
  rw [List.range'_succ, List.all_cons]
  simp (disch := omega) only [cpos, Int.toNat_natCast]
  refine Ev.bind0 (iLetter _) ?_
  cases hl : ltr (bt s i) with
  | true=>
   have : wp s i = true:= by unfold wp; rw [hl]; rfl
   rw [this]
   simp (disch := omega) only [Bool.not_true, cond_false, Bool.true_and, wrap_in]
   exact ih
  | false=>
   have fin : (bt s i = 45 \/ bt s i = 39) -> Ev (fun k=> (impl_isLetter.F (bt s (i - 1))).bind fun r5=> bif (!r5) then (some (.inl false)) else (impl_isNameWord.l0 k s ((i : Int) + 1))) (if (wp s i && (List.range' (i + 1) m).all (wp s)) = true then .inr () else .inl false) := fun hh=> by
    refine Ev.bind0 (iLetter _) ?_
    rw [wcase' hl hh]
    cases ltr (bt s (i - 1)) with
    | true=> exact ih
    | false=> exact Ev.pure _
   by_cases c1 : bt s i = 45
   ·simp (disch := first | exact c1 | omega) only [Bool.not_false, cond_true, cpos, cbeq, wrap_in, et]
    exact fin (.inl c1)
   ·by_cases c2 : bt s i = 39
    ·simp (disch := first | exact c1 | exact c2 | omega) only [Bool.not_false, cond_true, cpos, cbne, cbeq, wrap_in, et]
     exact fin (.inr c2)
    ·rw [wcase hl c1 c2]
     simp (disch := first | exact c1 | exact c2 | omega) only [Bool.not_false, cond_true, cpos, cbne]
     exact Ev.pure _
theorem specWord_ev (s : ByteArray) : Ev (fun k=> spec_l2Word.F k s) (wordB s):= by
 unfold spec_l2Word.F wordB
 refine Ev.bind0 (in_ev _ _ _) (and_step fun h=> ?_)
 obtain ⟨h1, h2⟩ := ins_le h
 have et : ((s.size : Int) - 1).toNat = s.size - 1:= by omega
 simp (disch := omega) only [cpos, show (0 : Int).toNat = 0 from rfl, wrap_in, et]
 refine Ev.bind0 (sLetter _) (and_step fun _=> ?_)
 refine Ev.bind0 (sLetter _) (and_step fun _=> ?_)
 have := specWord_l0 s (by omega) (s.size - 1) 1 (by omega) (Nat.le_refl _)
 cases ha : (List.range' 1 (s.size - 1)).all (wp s) with
 | true=> rw [ha] at this; exact Ev.bind this (Ev.pure _)
 | false=> rw [ha] at this; exact Ev.bind this (Ev.pure _)
theorem isWord_ev (s : ByteArray) : Ev (fun k=> impl_isNameWord.F k s) (wordB s):= by
 unfold impl_isNameWord.F wordB
 refine Ev.bind0 (inside_ev _ _ _) (and_step fun h=> ?_)
 obtain ⟨h1, h2⟩ := ins_le h
 have et : ((s.size : Int) - 1).toNat = s.size - 1:= by omega
 simp (disch := omega) only [cpos, show (0 : Int).toNat = 0 from rfl, wrap_in, et]
 refine (Ev.bind0 (iLetter _) (and_step (c := ltr (bt s 0) && (List.range' 1 (s.size - 1)).all (wp s)) fun _=> ?_)).eq (Bool.and_left_comm _ _ _)
 refine Ev.bind0 (iLetter _) (and_step fun h0=> ?_)
 have := isWord_l0 s (by omega) (s.size - 1) 1 (by omega) (Nat.le_refl _)
 refine Ev.bind (a := if (List.range' 1 (s.size - 1)).all (wp s) = true then .inr () else .inl false) ?_ ?_
 ·refine Ev.step (fun k=> by rw [impl_isNameWord.l0]) ?_
  simp (disch := omega) only [cpos, show (0 : Int).toNat = 0 from rfl]
  refine Ev.bind0 (iLetter _) ?_
  rw [h0]
  simp (disch := omega) only [Bool.not_true, cond_false, wrap_in]
  exact this
 ·cases (List.range' 1 (s.size - 1)).all (wp s) <;> exact Ev.pure _
def lowA (s : ByteArray) : Bool := (List.range' 0 s.size).all fun i=> lowc (bt s i)
theorem lowA_word {s : ByteArray} (h : lowA s = true) : wordB s = ins s.size 1 12:= by
 unfold lowA at h
 rw [List.all_eq_true] at h
 have hl : ∀ i, i < s.size -> ltr (bt s i) = true := fun i hi=> by
  unfold ltr
  rw [h i (by rw [List.mem_range'_1]; omega), Bool.or_true]
 unfold wordB
 cases hi : ins s.size 1 12 with
 | false=> rfl
 | true=>
  obtain ⟨h1, h2⟩ := ins_le hi
  rw [hl 0 (by omega), hl (s.size - 1) (by omega)]
  have : (List.range' 1 (s.size - 1)).all (wp s) = true:= by
   rw [List.all_eq_true]
   intro i hi
   rw [List.mem_range'_1] at hi
   unfold wp
   rw [hl i (by omega)]; rfl
  rw [this]; rfl
def pw (s : ByteArray) : Bool := ins s.size 1 12 && lowA s
theorem pw_eq (s : ByteArray) : (wordB s && lowA s) = pw s:= by
 unfold pw
 cases h : lowA s with
 | false=> rw [Bool.and_false, Bool.and_false]
 | true=> rw [lowA_word h]
def particleB (s : ByteArray) : Bool := decide (s.size = 0) || ((words s).all pw && decide ((words s).length <= 2))
theorem empty_eq (s : ByteArray) : beqS s ⟨#[]⟩ = decide (s.size = 0):= by
 rw [<- Bool.not_not (b := beqS s ⟨#[]⟩), size_pos]
 by_cases hz : s.size = 0
 ·simp [hz]
 ·rw [decide_eq_true (by omega : 0 < s.size), decide_eq_false hz]; rfl
theorem specPart_l2 (W : List ByteArray) (i : Nat) (hi : i < W.length) (hs : W[i].size <= 1048576) : Ev (fun k=> spec_l2Particle.l2 k W i ((0 : Nat) : Int)) (if lowA W[i] = true then .inr (W, (i : Int)) else .inl false):= by
 refine loop_all (f := fun k j=> spec_l2Particle.l2 k W i j) (n := W[i].size) (p := fun j=> lowc (bt W[i] j)) (fun j hj hp=> ?_) (fun j r hj hp ih=> ?_) ?_ W[i].size 0 (by omega)
 ·refine Ev.step (fun k=> by rw [spec_l2Particle.l2]) ?_
  simp (disch := omega) only [cpos, Int.toNat_natCast, getD_at hi]
  refine Ev.bind0 (sLower _) ?_
  rw [hp]
  exact Ev.pure _
 ·refine Ev.step (fun k=> by rw [spec_l2Particle.l2]) ?_
  simp (disch := omega) only [cpos, Int.toNat_natCast, getD_at hi]
  refine Ev.bind0 (sLower _) ?_
  rw [hp]
  simp (disch := omega) only [Bool.not_true, cond_false, wrap_in]
  exact ih
 ·refine Ev.step (fun k=> by rw [spec_l2Particle.l2]) ?_
  simp (disch := omega) only [cpos, cneg, Int.toNat_natCast, getD_at hi]
  exact Ev.pure _
theorem isPart_l2 (W : List ByteArray) (w : ByteArray) (n i : Int) (hs : w.size <= 1048576) : Ev (fun k=> impl_isParticle.l2 k W w ((0 : Nat) : Int) n i) (if lowA w = true then .inr (W, n, i) else .inl false):= by
 refine loop_all (f := fun k j=> impl_isParticle.l2 k W w j n i) (n := w.size) (p := fun j=> lowc (bt w j)) (fun j hj hp=> ?_) (fun j r hj hp ih=> ?_) ?_ w.size 0 (by omega)
 ·refine Ev.step (fun k=> by rw [impl_isParticle.l2]) ?_
  simp (disch := omega) only [cpos, Int.toNat_natCast]
  refine Ev.bind0 (iLower _) ?_
  rw [hp]
  exact Ev.pure _
 ·refine Ev.step (fun k=> by rw [impl_isParticle.l2]) ?_
  simp (disch := omega) only [cpos, Int.toNat_natCast]
  refine Ev.bind0 (iLower _) ?_
  rw [hp]
  simp (disch := omega) only [Bool.not_true, cond_false, wrap_in]
  exact ih
 ·refine Ev.step (fun k=> by rw [impl_isParticle.l2]) ?_
  simp (disch := omega) only [cneg]
  exact Ev.pure _
theorem specPart_l0 (W : List ByteArray) (hl : W.length <= 1048577) (hW : ∀ x ∈ W, x.size <= 1048576) : Ev (fun k=> spec_l2Particle.l0 k W ((0 : Nat) : Int)) (if (List.range' 0 W.length).all (fun i=> pw (W.getD i ⟨#[]⟩)) = true then .inr W else .inl false):= by
 refine loop_all (f := fun k j=> spec_l2Particle.l0 k W j) (n := W.length) (p := fun i=> pw (W.getD i ⟨#[]⟩)) (fun j hj hp=> ?_) (fun j r hj hp ih=> ?_) ?_ W.length 0 (by omega)
 ·rw [getD_at hj, <- pw_eq] at hp
  refine Ev.step (fun k=> by rw [spec_l2Particle.l0]) ?_
  simp (disch := omega) only [cpos, Int.toNat_natCast, getD_at hj]
  refine Ev.bind (specWord_ev _) ?_
  cases hw : wordB W[j] with
  | false=> exact Ev.pure _
  | true=>
   rw [hw, Bool.true_and] at hp
   have := specPart_l2 W j hj (hW _ (List.getElem_mem hj))
   rw [hp] at this
   exact Ev.bind this (Ev.pure _)
 ·rw [getD_at hj, <- pw_eq, Bool.and_eq_true] at hp
  refine Ev.step (fun k=> by rw [spec_l2Particle.l0]) ?_
  simp (disch := omega) only [cpos, Int.toNat_natCast, getD_at hj]
  refine Ev.bind (specWord_ev _) ?_
  rw [hp.1]
  have := specPart_l2 W j hj (hW _ (List.getElem_mem hj))
  rw [hp.2] at this
  refine Ev.bind (a := .inr (W, (j : Int))) this ?_
  simp (disch := omega) only [wrap_in]
  exact ih
 ·refine Ev.step (fun k=> by rw [spec_l2Particle.l0]) ?_
  simp (disch := omega) only [cneg]
  exact Ev.pure _
theorem isPart_l0 (W : List ByteArray) (hl : W.length <= 1048577) (hW : ∀ x ∈ W, x.size <= 1048576) : Ev (fun k=> impl_isParticle.l0 k W W.length ((0 : Nat) : Int)) (if (List.range' 0 W.length).all (fun i=> pw (W.getD i ⟨#[]⟩)) = true then .inr W else .inl false):= by
 refine loop_all (f := fun k j=> impl_isParticle.l0 k W W.length j) (n := W.length) (p := fun i=> pw (W.getD i ⟨#[]⟩)) (fun j hj hp=> ?_) (fun j r hj hp ih=> ?_) ?_ W.length 0 (by omega)
 ·rw [getD_at hj] at hp
  unfold pw at hp
  refine Ev.step (fun k=> by rw [impl_isParticle.l0]) ?_
  simp (disch := omega) only [cpos, Int.toNat_natCast, getD_at hj]
  refine Ev.bind0 (inside_ev _ _ _) ?_
  cases hw : ins W[j].size 1 12 with
  | false=>
   unfold ins at hw
   rw [hw]
   exact Ev.pure _
  | true=>
   rw [hw, Bool.true_and] at hp
   unfold ins at hw
   rw [hw]
   have := isPart_l2 W W[j] W.length j (hW _ (List.getElem_mem hj))
   rw [hp] at this
   exact Ev.bind this (Ev.pure _)
 ·rw [getD_at hj] at hp
  unfold pw at hp
  rw [Bool.and_eq_true] at hp
  obtain ⟨hp1, hp2⟩ := hp
  unfold ins at hp1
  refine Ev.step (fun k=> by rw [impl_isParticle.l0]) ?_
  simp (disch := omega) only [cpos, Int.toNat_natCast, getD_at hj]
  refine Ev.bind0 (inside_ev _ _ _) ?_
  rw [hp1]
  have := isPart_l2 W W[j] W.length j (hW _ (List.getElem_mem hj))
  rw [hp2] at this
  refine Ev.bind (a := .inr (W, (W.length : Int), (j : Int))) this ?_
  simp (disch := omega) only [wrap_in]
  exact ih
 ·refine Ev.step (fun k=> by rw [impl_isParticle.l0]) ?_
  simp (disch := omega) only [cneg]
  exact Ev.pure _
theorem specPart_ev (s : ByteArray) (hs : s.size <= 1048576) : Ev (fun k=> spec_l2Particle.F k s) (particleB s):= by
 unfold spec_l2Particle.F particleB
 rw [empty_eq]
 cases decide (s.size = 0) with
 | true=> exact Ev.pure _
 | false=>
  refine Ev.bind (specSplit_ev s hs) ?_
  have := specPart_l0 (words s) (by have := (words_len s).2; omega) (fun x hx=> by have := words_small _ _ x hx; omega)
  rw [range_all (words s) ⟨#[]⟩ pw] at this
  rw [Bool.false_or]
  cases ha : (words s).all pw with
  | true=>
   rw [ha] at this
   refine Ev.bind this ((Ev.pure _).eq ?_)
   rw [Bool.true_and]; exact decide_eq_decide.2 (by omega)
  | false=> rw [ha] at this; exact Ev.bind this (Ev.pure _)
theorem isPart_ev (s : ByteArray) (hs : s.size <= 1048576) : Ev (fun k=> impl_isParticle.F k s) (particleB s):= by
 unfold impl_isParticle.F particleB
 rw [empty_eq]
 cases decide (s.size = 0) with
 | true=> exact Ev.pure _
 | false=>
  refine Ev.bind0 (split_ev s hs) ?_
  have := isPart_l0 (words s) (by have := (words_len s).2; omega) (fun x hx=> by have := words_small _ _ x hx; omega)
  rw [range_all (words s) ⟨#[]⟩ pw] at this
  rw [Bool.false_or]
  cases ha : (words s).all pw with
  | true=>
   rw [ha] at this
   refine Ev.bind this ((Ev.pure _).eq ?_)
   rw [Bool.true_and]; exact decide_eq_decide.2 (by omega)
  | false=> rw [ha] at this; exact Ev.bind this (Ev.pure _)
def gw (s : ByteArray) : Bool := wordB s && upc (bt s 0)
theorem word_size {s : ByteArray} (h : wordB s = true) : 1 <= s.size:= by
 unfold wordB at h
 rw [Bool.and_eq_true] at h
 have := (ins_le h.1).1
 omega
theorem isGreat_ev (s : ByteArray) : Ev (fun k=> impl_isGreatWord.F k s) (gw s):= by
 unfold impl_isGreatWord.F gw
 refine Ev.bind (isWord_ev s) (and_step' fun h=> ?_)
 have := word_size h
 simp (disch := omega) only [cpos, show (0 : Int).toNat = 0 from rfl]
 exact Ev.bind0 (iUpper _) (Ev.pure _)
def suffB (s : ByteArray) : Bool := decide (s.size = 0) || wordB s
def nameB (n : Name) : Bool := n.given.all gw && (decide (n.given.length <= 3) && (particleB n.particle && (gw n.family && suffB n.suffix)))
theorem specGood_l0 (n : Name) (hn : n.given.length <= 1048576) : Ev (fun k=> spec_l2Good.l0 k n ((0 : Nat) : Int)) (if (List.range' 0 n.given.length).all (fun i=> gw (n.given.getD i ⟨#[]⟩)) = true then .inr n else .inl false):= by
 refine loop_all (f := fun k j=> spec_l2Good.l0 k n j) (n := n.given.length) (p := fun i=> gw (n.given.getD i ⟨#[]⟩)) (fun j hj hp=> ?_) (fun j r hj hp ih=> ?_) ?_ n.given.length 0 (by omega)
 ·rw [getD_at hj] at hp
  unfold gw at hp
  refine Ev.step (fun k=> by rw [spec_l2Good.l0]) ?_
  simp (disch := omega) only [cpos, Int.toNat_natCast, getD_at hj]
  refine Ev.bind (specWord_ev _) ?_
  cases hw : wordB n.given[j] with
  | false=> exact Ev.pure _
  | true=>
   rw [hw, Bool.true_and] at hp
   have := word_size hw
   simp (disch := omega) only [cpos, show (0 : Int).toNat = 0 from rfl, Bool.not_true, cond_false]
   refine Ev.bind0 (sUpper _) ?_
   rw [hp]
   exact Ev.pure _
 ·rw [getD_at hj] at hp
  unfold gw at hp
  rw [Bool.and_eq_true] at hp
  have := word_size hp.1
  refine Ev.step (fun k=> by rw [spec_l2Good.l0]) ?_
  simp (disch := omega) only [cpos, Int.toNat_natCast, getD_at hj]
  refine Ev.bind (specWord_ev _) ?_
  rw [hp.1]
  simp (disch := omega) only [cpos, show (0 : Int).toNat = 0 from rfl, Bool.not_true, cond_false]
  refine Ev.bind0 (sUpper _) ?_
  rw [hp.2]
  simp (disch := omega) only [Bool.not_true, cond_false, wrap_in]
  exact ih
 ·refine Ev.step (fun k=> by rw [spec_l2Good.l0]) ?_
  simp (disch := omega) only [cneg]
  exact Ev.pure _
theorem specName_ev (n : Name) (hs : smallN n) : Ev (fun k=> spec_l2Good.F k n) (nameB n):= by
 have hg : n.given.length <= 1048576:= by unfold smallN totN at hs; omega
 have hp : n.particle.size <= 1048576:= by unfold smallN totN at hs; omega
 unfold spec_l2Good.F nameB
 have := specGood_l0 n hg
 rw [range_all n.given ⟨#[]⟩ gw] at this
 cases ha : n.given.all gw with
 | false=> rw [ha] at this; exact Ev.bind this (Ev.pure _)
 | true=>
  rw [ha] at this
  refine Ev.bind (a := .inr n) this ?_
  dsimp only
  rw [Bool.true_and, show decide (n.given.length <= 3) = decide ((n.given.length : Int) <= 3) from decide_eq_decide.2 (by omega)]
  refine and_step' fun _=> ?_
  refine Ev.bind (specPart_ev _ hp) (and_step' fun _=> ?_)
  unfold gw
  rw [Bool.and_assoc]
  refine Ev.bind (specWord_ev _) (and_step' fun h=> ?_)
  have := word_size h
  simp (disch := omega) only [cpos, show (0 : Int).toNat = 0 from rfl]
  refine Ev.bind0 (sUpper _) (and_step' fun _=> ?_)
  unfold suffB
  rw [empty_eq]
  cases decide (n.suffix.size = 0) with
  | true=> exact Ev.pure _
  | false=> exact Ev.bind (specWord_ev _) (Ev.pure _)
theorem isName_ev (n : Name) (hs : smallN n) : Ev (fun k=> impl_IsValidName.F k n) (nameB n):= by
 have hg : n.given.length <= 1048576:= by unfold smallN totN at hs; omega
 have hp : n.particle.size <= 1048576:= by unfold smallN totN at hs; omega
 unfold impl_IsValidName.F nameB
 by_cases c : n.given.length <= 3
 ·simp (disch := omega) only [cneg, dpos, Bool.true_and]
  have hq : ∀ x, x ∈ n.given -> Ev (fun k=> impl_IsValidName_1.F k x) (!gw x) := fun x _=> by
   unfold impl_IsValidName_1.F
   exact Ev.bind (isGreat_ev x) (Ev.pure _)
  obtain ⟨r, h1, h2⟩ := idx_ev (d := (⟨#[]⟩ : ByteArray)) (p := fun x=> !gw x) (q := impl_IsValidName_1.F) (xs := n.given) (l0 := slices_IndexFunc_string_f108.l0) (fun k x0 x7 x8=> by rw [slices_IndexFunc_string_f108.l0]) hq (by omega) (F := slices_IndexFunc_string_f108.F) (fun k a0=> rfl)
  refine Ev.bind (a := !n.given.all gw) ?_ ?_
  ·unfold slices_ContainsFunc_string_f108.F
   refine Ev.bind h1 ((Ev.pure _).eq ?_)
   rcases h2 with ⟨rfl, h2⟩ | ⟨j, rfl, hj, hp, _⟩
   ·have : n.given.all gw = true := List.all_eq_true.2 fun x hx=> by have := h2 x hx; simpa using this
    rw [this]; rfl
   ·have : n.given.all gw = false:= by
     rw [List.all_eq_false]
     refine ⟨n.given[j], List.getElem_mem hj, ?_⟩
     rw [getD_at hj] at hp
     simpa using hp
    rw [this, decide_eq_true (by omega)]; rfl
  ·cases n.given.all gw with
   | false=> exact Ev.pure _
   | true=>
    rw [Bool.true_and]
    refine Ev.bind (isPart_ev _ hp) (and_step' fun _=> ?_)
    refine Ev.bind (isGreat_ev _) (and_step' fun _=> ?_)
    unfold suffB
    rw [empty_eq]
    cases decide (n.suffix.size = 0) with
    | true=> exact Ev.pure _
    | false=> exact Ev.bind (isWord_ev _) (Ev.pure _)
 ·simp (disch := omega) only [cpos, dneg, Bool.false_and, Bool.and_false]
  exact Ev.pure _
def namesB (l : List Name) : Bool := l.all nameB && decide (l.length <= 4)
theorem specList_l0 (l : List Name) (hl : l.length <= 1048576) (hs : ∀ n ∈ l, smallN n) : ∀ m i : Nat, i + m = l.length -> ∃ r, Ev (fun k=> spec_l2List.l0 k l i) r /\ (r = .inl false \/ r = .inr l) /\ (l.length <= 4 -> r = if (l.drop i).all nameB = true then .inr l else .inl false)
 | 0, i, h=> by
  refine ⟨.inr l, Ev.step (fun k=> by rw [spec_l2List.l0]) ?_, .inr rfl, fun _=> by rw [List.drop_eq_nil_of_le (by omega)]; rfl⟩
  simp (disch := omega) only [cneg]
  exact Ev.pure _
 | m + 1, i, h=> by
  have hi : i < l.length:= by omega
  by_cases c4 : (i : Int) <= 4
  ·cases hn : nameB l[i] with
   | false=>
    refine ⟨.inl false, Ev.step (fun k=> by rw [spec_l2List.l0]) ?_, .inl rfl, fun _=> by rw [List.drop_eq_getElem_cons hi, List.all_cons, hn]; rfl⟩
    simp (disch := omega) only [cpos, Int.toNat_natCast, getD_at hi]
    refine Ev.bind (specName_ev _ (hs _ (List.getElem_mem hi))) ?_
    rw [hn]
    exact Ev.pure _
   | true=>
    obtain ⟨r, h1, h2, h3⟩ := specList_l0 l hl hs m (i + 1) (by omega)
    refine ⟨r, Ev.step (fun k=> by rw [spec_l2List.l0]) ?_, h2, fun h4=> by rw [h3 h4, List.drop_eq_getElem_cons hi, List.all_cons, hn, Bool.true_and]⟩
    simp (disch := omega) only [cpos, Int.toNat_natCast, getD_at hi]
    refine Ev.bind (specName_ev _ (hs _ (List.getElem_mem hi))) ?_
    rw [hn]
    simp (disch := omega) only [Bool.not_true, cond_false, wrap_in]
    exact h1
  ·refine ⟨.inr l, Ev.step (fun k=> by rw [spec_l2List.l0]) ?_, .inr rfl, fun h4=> by omega⟩
   simp (disch := omega) only [cpos, cneg]
   exact Ev.pure _
theorem specNames_ev (l : List Name) (hl : totNs l <= 1048576) : Ev (fun k=> spec_l2List.F k l) (namesB l):= by
 unfold spec_l2List.F namesB
 obtain ⟨r, h1, h2, h3⟩ := specList_l0 l (smallNs_len hl) (fun n hn=> smallNs_at hl hn) l.length 0 (by omega)
 rw [List.drop_zero] at h3
 have e : decide (l.length <= 4) = decide ((l.length : Int) <= 4) := decide_eq_decide.2 (by omega)
 rw [e]
 by_cases c : l.length <= 4
 ·rw [h3 c] at h1
  cases ha : l.all nameB with
  | true=> rw [ha] at h1; exact Ev.bind h1 (Ev.pure _)
  | false=> rw [ha] at h1; exact Ev.bind h1 (Ev.pure _)
 ·rw [decide_eq_false (show ¬ (l.length : Int) <= 4 by omega), Bool.and_false]
  rcases h2 with rfl | rfl
  ·exact Ev.bind h1 (Ev.pure _)
  ·exact Ev.bind h1 ((Ev.pure _).eq (decide_eq_false (by omega)))
theorem areNames_ev (l : List Name) (hl : totNs l <= 1048576) : Ev (fun k=> impl_areNames.F k l) (namesB l):= by
 have hlen := smallNs_len hl
 unfold impl_areNames.F namesB
 by_cases c : l.length <= 4
 ·simp (disch := omega) only [cpos, dpos, Bool.and_true]
  have hq : ∀ x, x ∈ l -> Ev (fun k=> impl_areNames_1.F k x) (!nameB x) := fun x hx=> by
   unfold impl_areNames_1.F
   exact Ev.bind (isName_ev x (smallNs_at hl hx)) (Ev.pure _)
  obtain ⟨r, h1, h2⟩ := idx_ev (d := (dflt .name : Name)) (p := fun x=> !nameB x) (q := impl_areNames_1.F) (xs := l) (l0 := slices_IndexFunc_Name_f97.l0) (fun k x0 x7 x8=> by rw [slices_IndexFunc_Name_f97.l0]) hq (by omega) (F := slices_IndexFunc_Name_f97.F) (fun k a0=> rfl)
  refine Ev.bind (a := !l.all nameB) ?_ ?_
  ·unfold slices_ContainsFunc_Name_f97.F
   refine Ev.bind h1 ((Ev.pure _).eq ?_)
   rcases h2 with ⟨rfl, h2⟩ | ⟨j, rfl, hj, hp, _⟩
   ·have : l.all nameB = true := List.all_eq_true.2 fun x hx=> by have := h2 x hx; simpa using this
    rw [this]; rfl
   ·have : l.all nameB = false:= by
     rw [List.all_eq_false]
     refine ⟨l[j], List.getElem_mem hj, ?_⟩
     rw [getD_at hj] at hp
     simpa using hp
    rw [this, decide_eq_true (by omega)]; rfl
  ·rw [Bool.not_not]; exact Ev.pure _
 ·simp (disch := omega) only [cneg, dneg, Bool.and_false]
  exact Ev.pure _
theorem days_eq (y m : Int) (hy : 0 <= y) : ∃ r, spec_l3Days.F y m = some r /\ impl_daysInMonth.F y m = some r:= by
 have e1 : Int.tmod y 4 = y % 4 := Int.tmod_eq_emod_of_nonneg hy
 have e2 : Int.tmod y 100 = y % 100 := Int.tmod_eq_emod_of_nonneg hy
 have e3 : Int.tmod y 400 = y % 400 := Int.tmod_eq_emod_of_nonneg hy
 have z1 : ((4 : Nat) == 0) = false := rfl
 have z2 : ((100 : Nat) == 0) = false := rfl
 have z3 : ((400 : Nat) == 0) = false := rfl
 unfold spec_l3Days.F impl_daysInMonth.F
 rw [e1, e2, e3]
 by_cases c2 : m = 2
 ·by_cases d1 : y % 4 = 0
  ·by_cases d2 : y % 100 = 0
   ·by_cases d3 : y % 400 = 0
    ·exact ⟨29, by simp (disch := first | assumption | omega) only [ceq, cbeq, z1, z2, z3, cond_false], by simp (disch := first | assumption | omega) only [ceq, cbeq, z1, z2, z3, cond_false]⟩
    ·exact ⟨28, by simp (disch := first | assumption | omega) only [ceq, cne, cbeq, z1, z2, z3, cond_false], by simp (disch := first | assumption | omega) only [ceq, cne, cbeq, z1, z2, z3, cond_false]⟩
   ·exact ⟨29, by simp (disch := first | assumption | omega) only [ceq, cbne, z1, z2, z3, cond_false], by simp (disch := first | assumption | omega) only [ceq, cbne, z1, z2, z3, cond_false]⟩
  ·have d3 : y % 400 ≠ 0:= by omega
   exact ⟨28, by simp (disch := first | assumption | omega) only [ceq, cne, z1, z2, z3, cond_false], by simp (disch := first | assumption | omega) only [ceq, cne, z1, z2, z3, cond_false]⟩
 ·by_cases a : m = 4
  ·exact ⟨30, by simp (disch := first | assumption | omega) only [ceq, cne], by simp (disch := first | assumption | omega) only [ceq, cne]⟩
  ·by_cases b : m = 6
   ·exact ⟨30, by simp (disch := first | assumption | omega) only [ceq, cne], by simp (disch := first | assumption | omega) only [ceq, cne]⟩
   ·by_cases c : m = 9
    ·exact ⟨30, by simp (disch := first | assumption | omega) only [ceq, cne], by simp (disch := first | assumption | omega) only [ceq, cne]⟩
    ·by_cases d : m = 11
     ·exact ⟨30, by simp (disch := first | assumption | omega) only [ceq, cne], by simp (disch := first | assumption | omega) only [ceq, cne]⟩
     ·exact ⟨31, by simp (disch := first | assumption | omega) only [cne], by simp (disch := first | assumption | omega) only [cne]⟩
theorem date_eq2 (d : Date) : ∃ b, spec_l3Good.F d = some b /\ impl_IsValidDate.F d = some b:= by
 unfold spec_l3Good.F impl_IsValidDate.F
 cases (d.y == 0 && (d.m == 0 && (d.d == 0 && d.c == false))) with
 | true=> exact ⟨true, rfl, rfl⟩
 | false=>
  rw [in_ev, inside_ev]
  simp only [Option.bind_some, cond_false]
  cases h1 : (decide (d.y ≥ 1) && decide (d.y <= 2999)) with
  | false=> exact ⟨false, rfl, rfl⟩
  | true=>
   have hy : 0 <= d.y:= by
    simp only [Bool.and_eq_true, decide_eq_true_eq] at h1; omega
   rw [in_ev, inside_ev]
   simp only [Option.bind_some, Bool.not_true, cond_false]
   cases h2 : (decide (d.m ≥ 0) && decide (d.m <= 12)) with
   | false=> exact ⟨false, rfl, rfl⟩
   | true=>
    obtain ⟨r, r1, r2⟩ := days_eq d.y d.m hy
    rw [r1, r2]
    simp only [Option.bind_some, Bool.not_true, cond_false, in_ev, inside_ev]
    cases d.c with
    | true=>
     by_cases c : d.m = 0
     ·exact ⟨d.d == 0, by simp (disch := first | assumption | omega) only [cond_true, ceq], by simp (disch := first | assumption | omega) only [cond_true, ceq, cbeq]⟩
     ·exact ⟨false, by simp (disch := first | assumption | omega) only [cond_true, cne], by simp (disch := first | assumption | omega) only [cond_true, cbne]⟩
    | false=> exact ⟨bif d.m == 0 then (d.d == 0) else (decide (d.d ≥ 0) && decide (d.d <= r)), by cases (d.m == 0) <;> rfl, by cases (d.m == 0) <;> rfl⟩
open Classical in
noncomputable def dateB (d : Date) : Bool := (date_eq2 d).choose
theorem specDate_ev (d : Date) : spec_l3Good.F d = some (dateB d) := (date_eq2 d).choose_spec.1
theorem isDate_ev (d : Date) : impl_IsValidDate.F d = some (dateB d) := (date_eq2 d).choose_spec.2
def insI (n lo hi : Int) : Bool := decide (n ≥ lo) && decide (n <= hi)
def crossB (e : Entry) : Bool := decide (e.cross.size = 0) || (keyB e.cross && !beqS e.cross e.key)
noncomputable def entryB (e : Entry) : Bool := keyB e.key && (insI e.kind 1 4 && (namesB e.authors && (namesB e.editors && (textB e.title && (textB e.container && (textB e.publisher && (textB e.pages && (dateB e.date && (insI e.volume 0 9999 && crossB e)))))))))
theorem specEntry_ev (e : Entry) (hs : smallE e) : Ev (fun k=> spec_l4Entry.F k e) (entryB e):= by
 unfold spec_l4Entry.F entryB
 refine Ev.bind (specKey_ev _) (and_step fun _=> ?_)
 refine Ev.bind0 (in_ev _ _ _) (and_step fun _=> ?_)
 refine Ev.bind (specNames_ev _ (smallE_a hs)) (and_step fun _=> ?_)
 refine Ev.bind (specNames_ev _ (smallE_e hs)) (and_step fun _=> ?_)
 refine Ev.bind (specText_ev _) (and_step fun _=> ?_)
 refine Ev.bind (specText_ev _) (and_step fun _=> ?_)
 refine Ev.bind (specText_ev _) (and_step fun _=> ?_)
 refine Ev.bind (specText_ev _) (and_step fun _=> ?_)
 refine Ev.bind0 (specDate_ev _) (and_step' fun _=> ?_)
 refine Ev.bind0 (in_ev _ _ _) (and_step' fun _=> ?_)
 unfold crossB
 rw [empty_eq]
 cases decide (e.cross.size = 0) with
 | true=> exact Ev.pure _
 | false=>
  refine (Ev.bind (specKey_ev _) (and_step' fun _=> ?_)).eq (Bool.false_or _).symm
  exact Ev.pure _
theorem isEntry_ev (e : Entry) (hs : smallE e) : Ev (fun k=> impl_IsValidEntry.F k e) (entryB e):= by
 have key : Ev (fun k=> impl_IsValidEntry.F k e) (keyB e.key && (insI e.kind 1 4 && (namesB e.authors && (namesB e.editors && (dateB e.date && (insI e.volume 0 9999 && (textB e.title && (textB e.container && (textB e.publisher && (textB e.pages && crossB e)))))))))):= by
  unfold impl_IsValidEntry.F
  refine Ev.bind (isKey_ev _) (and_step fun _=> ?_)
  refine Ev.bind0 (a := insI e.kind 1 4) ?_ (and_step fun _=> ?_)
  ·unfold impl_isKind.F; rw [inside_ev]; rfl
  refine Ev.bind (areNames_ev _ (smallE_a hs)) (and_step fun _=> ?_)
  refine Ev.bind (areNames_ev _ (smallE_e hs)) (and_step fun _=> ?_)
  refine Ev.bind0 (isDate_ev _) (and_step fun _=> ?_)
  refine Ev.bind0 (inside_ev _ _ _) (and_step fun _=> ?_)
  refine Ev.bind (isText_ev _) (and_step' fun _=> ?_)
  refine Ev.bind (isText_ev _) (and_step' fun _=> ?_)
  refine Ev.bind (isText_ev _) (and_step' fun _=> ?_)
  refine Ev.bind (isText_ev _) (and_step' fun _=> ?_)
  unfold crossB
  rw [empty_eq]
  cases decide (e.cross.size = 0) with
  | true=> exact Ev.pure _
  | false=>
   refine (Ev.bind (isKey_ev _) (and_step' fun _=> ?_)).eq (Bool.false_or _).symm
   exact Ev.pure _
 refine key.eq ?_
 unfold entryB
 ac_rfl
noncomputable def okL (l : Library) (i : Nat) : Bool := entryB (l.entries.getD i (dflt .entry)) && (decide (i = 0) || ltS (l.entries.getD (i - 1) (dflt .entry)).key (l.entries.getD i (dflt .entry)).key)
noncomputable def libB (l : Library) : Bool := (List.range' 0 l.entries.length).all (okL l) && decide (l.entries.length <= 8)
theorem specGoodL_l0 (l : Library) (hs : smallL l) : Ev (fun k=> spec_l4Good.l0 k l ((0 : Nat) : Int)) (if (List.range' 0 l.entries.length).all (okL l) = true then .inr () else .inl false):= by
 have hlen := smallL_len hs
 refine loop_all (f := fun k i=> spec_l4Good.l0 k l i) (n := l.entries.length) (fun i hi hp=> ?_) (fun i r hi hp ih=> ?_) ?_ l.entries.length 0 (by omega)
 ·unfold okL at hp
  refine Ev.step (fun k=> by rw [spec_l4Good.l0]) ?_
  have hsm : smallE (l.entries.getD i (dflt .entry)):= by rw [getD_at hi]; exact smallL_at hs (List.getElem_mem hi)
  simp (disch := omega) only [cpos, Int.toNat_natCast]
  refine Ev.bind (specEntry_ev _ hsm) ?_
  cases he : entryB (l.entries.getD i (dflt .entry)) with
  | false=> exact Ev.pure _
  | true=>
   rw [he, Bool.true_and, Bool.or_eq_false_iff, decide_eq_false_iff_not] at hp
   have et : ((i : Int) - 1).toNat = i - 1:= by omega
   simp (disch := omega) only [Bool.not_true, cond_false, cpos, wrap_in, et, hp.2, Bool.not_false, cond_true]
   exact Ev.pure _
 ·unfold okL at hp
  rw [Bool.and_eq_true] at hp
  refine Ev.step (fun k=> by rw [spec_l4Good.l0]) ?_
  have hsm : smallE (l.entries.getD i (dflt .entry)):= by rw [getD_at hi]; exact smallL_at hs (List.getElem_mem hi)
  simp (disch := omega) only [cpos, Int.toNat_natCast]
  refine Ev.bind (specEntry_ev _ hsm) ?_
  rw [hp.1]
  by_cases c : i = 0
  ·simp (disch := omega) only [Bool.not_true, cond_false, cneg, wrap_in]
   exact ih
  ·have et : ((i : Int) - 1).toNat = i - 1:= by omega
   have h2 := hp.2
   rw [decide_eq_false c, Bool.false_or] at h2
   simp (disch := omega) only [Bool.not_true, cond_false, cpos, wrap_in, et, h2]
   exact ih
 ·refine Ev.step (fun k=> by rw [spec_l4Good.l0]) ?_
  simp (disch := omega) only [cneg]
  exact Ev.pure _
theorem isLib_l0 (l : Library) (hs : smallL l) : Ev (fun k=> impl_IsValidLibrary.l0 k l l.entries l.entries.length ((0 : Nat) : Int)) (if (List.range' 0 l.entries.length).all (okL l) = true then .inr l else .inl false):= by
 have hlen := smallL_len hs
 refine loop_all (f := fun k i=> impl_IsValidLibrary.l0 k l l.entries l.entries.length i) (n := l.entries.length) (fun i hi hp=> ?_) (fun i r hi hp ih=> ?_) ?_ l.entries.length 0 (by omega)
 ·unfold okL at hp
  refine Ev.step (fun k=> by rw [impl_IsValidLibrary.l0]) ?_
  have hsm : smallE (l.entries.getD i (dflt .entry)):= by rw [getD_at hi]; exact smallL_at hs (List.getElem_mem hi)
  simp (disch := omega) only [cpos, Int.toNat_natCast]
  refine Ev.bind (isEntry_ev _ hsm) ?_
  cases he : entryB (l.entries.getD i (dflt .entry)) with
  | false=> exact Ev.pure _
  | true=>
   rw [he, Bool.true_and, Bool.or_eq_false_iff, decide_eq_false_iff_not] at hp
   have et : ((i : Int) - 1).toNat = i - 1:= by omega
   simp (disch := omega) only [Bool.not_true, cond_false, cpos, wrap_in, et, hp.2, Bool.not_false, cond_true]
   exact Ev.pure _
 ·unfold okL at hp
  rw [Bool.and_eq_true] at hp
  refine Ev.step (fun k=> by rw [impl_IsValidLibrary.l0]) ?_
  have hsm : smallE (l.entries.getD i (dflt .entry)):= by rw [getD_at hi]; exact smallL_at hs (List.getElem_mem hi)
  simp (disch := omega) only [cpos, Int.toNat_natCast]
  refine Ev.bind (isEntry_ev _ hsm) ?_
  rw [hp.1]
  by_cases c : i = 0
  ·simp (disch := omega) only [Bool.not_true, cond_false, cneg, wrap_in]
   exact ih
  ·have et : ((i : Int) - 1).toNat = i - 1:= by omega
   have h2 := hp.2
   rw [decide_eq_false c, Bool.false_or] at h2
   simp (disch := omega) only [Bool.not_true, cond_false, cpos, wrap_in, et, h2]
   exact ih
 ·refine Ev.step (fun k=> by rw [impl_IsValidLibrary.l0]) ?_
  simp (disch := omega) only [cneg]
  exact Ev.pure _
theorem specLib_ev (l : Library) (hs : smallL l) : Ev (fun k=> spec_l4Good.F k l) (libB l):= by
 unfold spec_l4Good.F libB
 by_cases c : l.entries.length <= 8
 ·simp (disch := omega) only [cneg, dpos, Bool.and_true]
  have := specGoodL_l0 l hs
  cases ha : (List.range' 0 l.entries.length).all (okL l) with
  | true=> rw [ha] at this; exact Ev.bind this (Ev.pure _)
  | false=> rw [ha] at this; exact Ev.bind this (Ev.pure _)
 ·simp (disch := omega) only [cpos, dneg, Bool.and_false]
  exact Ev.pure _
theorem isLib_ev (l : Library) (hs : smallL l) : Ev (fun k=> impl_IsValidLibrary.F k l) (libB l):= by
 unfold impl_IsValidLibrary.F libB
 have := isLib_l0 l hs
 cases ha : (List.range' 0 l.entries.length).all (okL l) with
 | true=>
  rw [ha] at this
  refine Ev.bind this ((Ev.pure _).eq ?_)
  rw [Bool.true_and]; exact decide_eq_decide.2 (by omega)
 | false=> rw [ha] at this; exact Ev.bind this (Ev.pure _)
theorem libB_len {l : Library} (h : libB l = true) : l.entries.length <= 8:= by
 unfold libB at h
 rw [Bool.and_eq_true, decide_eq_true_eq] at h
 exact h.2
end Go.Proofs.YtehijcmhhkchiaaGreatDoor
end
section
/- Plain laws: an entry found by its key; its parent. -/
namespace Go.Proofs.YtehijcmhhkchiaaGreatDoor
open Go.Gx
theorem find_l (l : Library) (key : ByteArray) (hl : l.entries.length <= 1048576) : ∀ n i : Nat, i + n = l.entries.length ->
  ∃ r : Sum Int Unit, Ev (fun k=> spec_l4Find.l0 k key l i) r /\ Ev (fun k=> slices_IndexFunc_Entry_f86.l0 k l.entries key l.entries.length i) r /\ ∀ z, r = .inl z -> 0 <= z /\ z < l.entries.length
 | 0, i, h=> by
  refine ⟨.inr (), Ev.step (fun k=> by rw [spec_l4Find.l0]) ?_, Ev.step (fun k=> by rw [slices_IndexFunc_Entry_f86.l0]) ?_, fun z hz=> by cases hz⟩
  ·simp (disch := omega) only [cneg]; exact Ev.pure _
  ·simp (disch := omega) only [cneg]; exact Ev.pure _
 | n + 1, i, h=> by
  have hi : i < l.entries.length:= by omega
  have e1 : impl_entryIndex_1.F l.entries[i] key = some (beqS l.entries[i].key key) := rfl
  cases hb : beqS l.entries[i].key key with
  | true=>
   refine ⟨.inl i, Ev.step (fun k=> by rw [spec_l4Find.l0]) ?_, Ev.step (fun k=> by rw [slices_IndexFunc_Entry_f86.l0]) ?_, fun z hz=> by cases hz; omega⟩
   ·simp (disch := omega) only [cpos, Int.toNat_natCast, getD_at hi, hb, cond_true]
    exact Ev.pure _
   ·simp (disch := omega) only [cpos, Int.toNat_natCast, getD_at hi]
    refine Ev.bind0 e1 ?_
    rw [hb]
    exact Ev.pure _
  | false=>
   obtain ⟨r, r1, r2, r3⟩ := find_l l key hl n (i + 1) (by omega)
   refine ⟨r, Ev.step (fun k=> by rw [spec_l4Find.l0]) ?_, Ev.step (fun k=> by rw [slices_IndexFunc_Entry_f86.l0]) ?_, r3⟩
   ·simp (disch := omega) only [cpos, Int.toNat_natCast, getD_at hi, hb, cond_false, wrap_in]
    exact r1
   ·simp (disch := omega) only [cpos, Int.toNat_natCast, getD_at hi]
    refine Ev.bind0 e1 ?_
    rw [hb]
    simp (disch := omega) only [cond_false, wrap_in]
    exact r2
theorem find_ev (l : Library) (key : ByteArray) (hl : l.entries.length <= 1048576) : ∃ r : Int, Ev (fun k=> spec_l4Find.F k l key) r /\ Ev (fun k=> impl_entryIndex.F k l key) r /\ -1 <= r /\ r < l.entries.length:= by
 obtain ⟨r, r1, r2, r3⟩ := find_l l key hl l.entries.length 0 (by omega)
 unfold spec_l4Find.F impl_entryIndex.F slices_IndexFunc_Entry_f86.F
 cases r with
 | inl z=> exact ⟨z, Ev.bind r1 (Ev.pure _), Ev.bind (Ev.bind r2 (Ev.pure _)) (Ev.pure _), by have := r3 z rfl; omega, (r3 z rfl).2⟩
 | inr u=> exact ⟨-1, Ev.bind r1 (Ev.pure _), Ev.bind (Ev.bind r2 (Ev.pure _)) (Ev.pure _), by omega, by omega⟩
theorem parent_ev (l : Library) (hl : l.entries.length <= 1048576) (i : Int) (h0 : 0 <= i) (h1 : i < l.entries.length) : ∃ r : Int, Ev (fun k=> spec_l21Parent.F k l i) r /\ Ev (fun k=> impl_parentIndex.F k l i) r /\ -1 <= r /\ r < l.entries.length:= by
 unfold spec_l21Parent.F impl_parentIndex.F
 cases hb : beqS (l.entries.getD i.toNat (dflt .entry)).cross ⟨#[]⟩ with
 | true=>
  refine ⟨-1, ?_, ?_, by omega, by omega⟩
  ·simp (disch := omega) only [cpos, cond_true]; exact Ev.pure _
  ·simp (disch := omega) only [cpos, cond_true]; exact Ev.pure _
 | false=>
  obtain ⟨r, r1, r2, r3⟩ := find_ev l (l.entries.getD i.toNat (dflt .entry)).cross hl
  refine ⟨r, ?_, ?_, r3⟩
  ·simp (disch := omega) only [cpos, cond_false]; exact Ev.bind r1 (Ev.pure _)
  ·simp (disch := omega) only [cpos, cond_false]; exact Ev.bind r2 (Ev.pure _)
end Go.Proofs.YtehijcmhhkchiaaGreatDoor
end
section
/- Plain laws: the chain of an entry, keys, entries found by their keys. -/
namespace Go.Proofs.YtehijcmhhkchiaaGreatDoor
open Go.Gx
def kAt (l : Library) (x : Int) : ByteArray := (l.entries.getD x.toNat (dflt .entry)).key
theorem has_l (xs : List Int) (v : Int) (hl : xs.length <= 1048576) : ∀ n i : Nat, i + n = xs.length -> Ev (fun k=> spec_l1Has.l0 k xs v i) (if v ∈ xs.drop i then .inl true else .inr ()) /\
  ∃ r : Sum Int Unit, Ev (fun k=> slices_Index_int.l0 k xs v xs.length i) r /\ (v ∈ xs.drop i -> ∃ z : Int, r = .inl z /\ 0 <= z) /\ (v ∉ xs.drop i -> r = .inr ())
 | 0, i, h=> by
  have hd : xs.drop i = [] := List.drop_eq_nil_of_le (by omega)
  rw [hd]
  refine ⟨Ev.step (fun k=> by rw [spec_l1Has.l0]) ?_, .inr (), Ev.step (fun k=> by rw [slices_Index_int.l0]) ?_, (fun h=> by cases h), fun _=> rfl⟩
  ·simp (disch := omega) only [cneg]
   exact (Ev.pure _).eq (by simp)
  ·simp (disch := omega) only [cneg]; exact Ev.pure _
 | n + 1, i, h=> by
  have hi : i < xs.length:= by omega
  have hd : xs.drop i = xs[i] :: xs.drop (i + 1) := List.drop_eq_getElem_cons hi
  obtain ⟨h1, r, h2, h3, h4⟩ := has_l xs v hl n (i + 1) (by omega)
  by_cases hv : xs[i] = v
  ·have hm : v ∈ xs.drop i:= by rw [hd, hv]; exact List.mem_cons_self
   refine ⟨Ev.step (fun k=> by rw [spec_l1Has.l0]) ?_, .inl i, Ev.step (fun k=> by rw [slices_Index_int.l0]) ?_, fun _=> ⟨i, rfl, by omega⟩, fun hn=> absurd hm hn⟩
   ·rw [if_pos hm]
    simp (disch := omega) only [cpos, Int.toNat_natCast, getD_at hi, ceq]
    exact Ev.pure _
   ·simp (disch := omega) only [cpos, Int.toNat_natCast, getD_at hi, ceq]
    exact Ev.pure _
  ·have hm : v ∈ xs.drop i ↔ v ∈ xs.drop (i + 1):= by
    rw [hd, List.mem_cons]
    exact ⟨fun h=> h.resolve_left fun e=> hv e.symm, .inr⟩
   refine ⟨Ev.step (fun k=> by rw [spec_l1Has.l0]) ?_, r, Ev.step (fun k=> by rw [slices_Index_int.l0]) ?_, fun h=> h3 (hm.1 h), fun h=> h4 fun h'=> h (hm.2 h')⟩
   ·simp (disch := omega) only [cpos, Int.toNat_natCast, getD_at hi, cne, wrap_in]
    exact h1.eq (by simp only [hm])
   ·simp (disch := omega) only [cpos, Int.toNat_natCast, getD_at hi, cne, wrap_in]
    exact h2
theorem has_ev (xs : List Int) (v : Int) (hl : xs.length <= 1048576) : Ev (fun k=> spec_l1Has.F k xs v) (decide (v ∈ xs)) /\ Ev (fun k=> slices_Contains_int.F k xs v) (decide (v ∈ xs)):= by
 obtain ⟨h1, r, h2, h3, h4⟩ := has_l xs v hl xs.length 0 (by omega)
 rw [List.drop_zero] at h1 h3 h4
 unfold spec_l1Has.F slices_Contains_int.F slices_Index_int.F
 by_cases hv : v ∈ xs
 ·rw [if_pos hv] at h1
  obtain ⟨z, rfl, hz⟩ := h3 hv
  rw [decide_eq_true hv]
  refine ⟨Ev.bind h1 (Ev.pure _), Ev.bind (a := z) (Ev.bind h2 (Ev.pure _)) ((Ev.pure _).eq ?_)⟩
  rw [decide_eq_true (by omega)]
 ·rw [if_neg hv] at h1
  obtain rfl := h4 hv
  rw [decide_eq_false hv]
  exact ⟨Ev.bind h1 (Ev.pure _), Ev.bind (a := -1) (Ev.bind h2 (Ev.pure _)) (Ev.pure _)⟩
theorem pigeon : ∀ (n : Nat) (l : List Int), l.Nodup -> (∀ x ∈ l, 0 <= x /\ x < n) -> l.length <= n
 | 0, l, _, h=> by
  cases l with
  | nil=> simp
  | cons a l=> have := h a List.mem_cons_self; omega
 | n + 1, l, hn, h=> by
  by_cases hm : (n : Int) ∈ l
  ·have h1 := pigeon n (l.erase n) (hn.erase _) fun x hx=> by
    rw [hn.mem_erase_iff] at hx
    have := h x hx.2
    have := hx.1
    omega
   rw [List.length_erase_of_mem hm] at h1
   omega
  ·have h1 := pigeon n l hn fun x hx=> by
    have := h x hx
    have : x ≠ n := fun e=> hm (e ▸ hx)
    omega
   omega
theorem room_i8 {n : Nat} (h : n <= 8192) : room n (.int .i64) = true:= by
 show Nat.ble (n * 8) 140737488355328 = true
 exact Nat.ble_eq_true_of_le (by omega)
def chR (l : Library) : Sum (List Int × Bool) (List Int) -> Prop
 | .inl p=> p.2 = true /\ p.1.Nodup /\ ∀ x ∈ p.1, 0 <= x /\ x < l.entries.length
 | .inr c=> c.Nodup /\ ∀ x ∈ c, 0 <= x /\ x < l.entries.length
def chL : Sum (List Int × Bool) (List Int) -> List Int
 | .inl p=> p.1
 | .inr c=> c
theorem chain_l (l : Library) (hl : l.entries.length <= 8) : ∀ (d : Nat) (acc : List Int) (i : Int), acc.length + d = l.entries.length + 1 -> -1 <= i -> i < l.entries.length -> acc.Nodup -> (∀ x ∈ acc, 0 <= x /\ x < l.entries.length) ->
  ∃ r, Ev (fun k=> spec_l21Chain.l0 k i l acc) r /\ Ev (fun k=> impl_chainOf.l0 k i l acc) r /\ chR l r /\ ∃ t, chL r = acc ++ t /\ (0 <= i -> i ∉ acc -> i ∈ t)
 | 0, acc, i, hd, _, _, hn, ha=> by have := pigeon _ _ hn ha; omega
 | d + 1, acc, i, hd, h0, h1, hn, ha=> by
  have hlen := pigeon _ _ hn ha
  by_cases hi : i < 0
  ·refine ⟨.inr acc, Ev.step (fun k=> by rw [spec_l21Chain.l0]) ?_, Ev.step (fun k=> by rw [impl_chainOf.l0]) ?_, ⟨hn, ha⟩, [], by simp [chL], fun h=> absurd hi (by omega)⟩
   ·simp (disch := omega) only [cneg]; exact Ev.pure _
   ·simp (disch := omega) only [cneg]; exact Ev.pure _
  ·obtain ⟨e1, e2⟩ := has_ev acc i (by omega)
   by_cases hm : i ∈ acc
   ·rw [decide_eq_true hm] at e1 e2
    refine ⟨.inl (acc, true), Ev.step (fun k=> by rw [spec_l21Chain.l0]) ?_, Ev.step (fun k=> by rw [impl_chainOf.l0]) ?_, ⟨rfl, hn, ha⟩, [], by simp [chL], fun _ h=> absurd hm h⟩
    ·simp (disch := omega) only [cpos]; exact Ev.bind e1 (Ev.pure _)
    ·simp (disch := omega) only [cpos]; exact Ev.bind e2 (Ev.pure _)
   ·rw [decide_eq_false hm] at e1 e2
    obtain ⟨p, p1, p2, p3, p4⟩ := parent_ev l (by omega) i (by omega) h1
    obtain ⟨r, r1, r2, r3, t, r4, _⟩ := chain_l l hl d (acc ++ [i]) p (by simp; omega) p3 p4 (List.nodup_append.2 ⟨hn, by simp, fun a ha' b hb=> by simp at hb; subst hb; exact fun e=> hm (e ▸ ha')⟩) (fun x hx=> by
     rcases List.mem_append.1 hx with hx | hx
     ·exact ha x hx
     ·simp at hx; subst hx; omega)
    have hr : room (acc.length + ([i] : List Int).length) (.int .i64) = true := room_i8 (by simp; omega)
    refine ⟨r, Ev.step (fun k=> by rw [spec_l21Chain.l0]) ?_, Ev.step (fun k=> by rw [impl_chainOf.l0]) ?_, r3, i :: t, by rw [r4]; simp, fun _ _=> List.mem_cons_self⟩
    ·simp (disch := omega) only [cpos]
     refine Ev.bind e1 ?_
     simp only [cond_false, hr, cond_true]
     exact Ev.bind p1 r1
    ·simp (disch := omega) only [cpos]
     refine Ev.bind e2 ?_
     simp only [cond_false, hr, cond_true]
     exact Ev.bind p2 r2
theorem chain_ev2 (l : Library) (hl : l.entries.length <= 8) (i : Int) (h0 : 0 <= i) (h1 : i < l.entries.length) :
  ∃ c b, Ev (fun k=> spec_l21Chain.F k l i) (c, b) /\ Ev (fun k=> impl_chainOf.F k l i) (c, b) /\ c.Nodup /\ (∀ x ∈ c, 0 <= x /\ x < l.entries.length) /\ c.length <= l.entries.length /\ i ∈ c:= by
 obtain ⟨r, r1, r2, r3, t, r4, r5⟩ := chain_l l hl (l.entries.length + 1) [] i (by simp) (by omega) h1 List.nodup_nil (fun x hx=> by cases hx)
 have hi : i ∈ chL r:= by rw [r4]; simpa using r5 h0 (by simp)
 unfold spec_l21Chain.F impl_chainOf.F
 cases r with
 | inl p=>
  obtain ⟨c, b⟩ := p
  exact ⟨c, b, Ev.bind r1 (Ev.pure _), Ev.bind r2 (Ev.pure _), r3.2.1, r3.2.2, pigeon _ _ r3.2.1 r3.2.2, hi⟩
 | inr c=> exact ⟨c, false, Ev.bind r1 (Ev.pure _), Ev.bind r2 (Ev.pure _), r3.1, r3.2, pigeon _ _ r3.1 r3.2, hi⟩
end Go.Proofs.YtehijcmhhkchiaaGreatDoor
end
section
/- The fields of an entry as texts: both ways to write them answer alike. -/
namespace Go.Proofs.YtehijcmhhkchiaaGreatDoor
open Go.Gx
def cs2 : ByteArray := ⟨#[44, 32]⟩
end Go.Proofs.YtehijcmhhkchiaaGreatDoor
end
section
/- Entries with what they inherit: both ways answer alike. -/
namespace Go.Proofs.YtehijcmhhkchiaaGreatDoor
open Go.Gx
end Go.Proofs.YtehijcmhhkchiaaGreatDoor
end
section
/- Plain laws: marks of lists of texts; deep marks of names, entries and libraries. -/
namespace Go.Proofs.YtehijcmhhkchiaaGreatDoor
open Go.Gx
theorem markText_l0 : ∀ n : Nat, n <= 1099511627776 -> ∀ s : ByteArray, s.size + n <= 9223372036854775806 -> ∃ r, Ev (fun k=> laws_markText.l0 k (n : Int) s) r /\ r.size <= s.size + n := fun n=> by
 induction n using Nat.strongRecOn with
 | ind n ih=>
  intro hn s hs
  by_cases c : n = 0
  ·refine ⟨s, Ev.step (fun k=> by rw [laws_markText.l0]) ?_, by omega⟩
   simp (disch := omega) only [cneg]
   exact Ev.pure _
  ·have ed : Int.tdiv (n : Int) 10 = ((n / 10 : Nat) : Int):= by
    rw [Int.tdiv_eq_ediv_of_nonneg (by omega)]; omega
   have e1 : ∀ v : Int, (strL ([v] : List Int)).size = 1 := fun v=> rfl
   obtain ⟨r, r1, r2⟩ := ih (n / 10) (by omega) (by omega) (strL ([IntKind.wrap .u8 (IntKind.wrap .i64 (48 + Int.tmod (n : Int) 10))] : List Int) ++ s) (by rw [size_app, e1]; omega)
   rw [size_app, e1] at r2
   refine ⟨r, Ev.step (fun k=> by rw [laws_markText.l0]) ?_, by omega⟩
   have w1 : IntKind.wrap .i64 (Int.tdiv (n : Int) 10) = ((n / 10 : Nat) : Int):= by rw [ed, wrap_in (by omega) (by omega)]
   have hz : ((10 : Nat) == 0) = false := rfl
   rw [w1, hz]
   simp only [cond_false]
   simp (disch := (try simp only [e1]); omega) only [cpos, cble]
   exact r1
theorem markText_ev (n : Nat) (hn : n <= 1099511627776) : ∃ r, Ev (fun k=> laws_markText.F k (n : Int)) r:= by
 unfold laws_markText.F
 by_cases c : n = 0
 ·refine ⟨⟨#[109, 48]⟩, ?_⟩
  simp (disch := omega) only [cpos]
  exact Ev.pure _
 ·obtain ⟨r, r1, r2⟩ := markText_l0 n hn ⟨#[]⟩ (by rw [show (⟨#[]⟩ : ByteArray).size = 0 from rfl]; omega)
  have e0 : (⟨#[]⟩ : ByteArray).size = 0 := rfl
  have e1 : (⟨#[109]⟩ : ByteArray).size = 1 := rfl
  refine ⟨⟨#[109]⟩ ++ r, ?_⟩
  simp (disch := omega) only [cneg]
  refine Ev.bind r1 ?_
  simp (disch := omega) only [e1, cble]
  exact Ev.pure _
open Classical in
noncomputable def mt (n : Nat) : ByteArray := if h : ∃ r, Ev (fun k=> laws_markText.F k (n : Int)) r then h.choose else ⟨#[]⟩
theorem mt_ev (n : Nat) (hn : n <= 1099511627776) : Ev (fun k=> laws_markText.F k (n : Int)) (mt n):= by
 have h := markText_ev n hn
 unfold mt
 rw [dif_pos h]
 exact h.choose_spec
end Go.Proofs.YtehijcmhhkchiaaGreatDoor
end
section
/- Plain laws: deep marks of names, entries and libraries. -/
namespace Go.Proofs.YtehijcmhhkchiaaGreatDoor
open Go.Gx
theorem mtI (x : Int) (h0 : 0 <= x) (h1 : x <= 1099511627776) : ∃ r, Ev (fun k=> laws_markText.F k x) r:= by
 obtain ⟨n, rfl⟩ : ∃ n : Nat, x = n := ⟨x.toNat, by omega⟩
 exact markText_ev n (by omega)
theorem dmS_l0 (xs : List ByteArray) (hlen : xs.length <= 1048576) : ∀ n i : Nat, i + n = xs.length -> ∀ z : Int, 0 <= z -> z + n <= 1099511627776 -> Ev (fun k=> laws_markStringS_d.l0 k xs z i) (xs, z + n)
 | 0, i, h, z, h0, h1=> by
  refine Ev.step (fun k=> by rw [laws_markStringS_d.l0]) ?_
  simp (disch := omega) only [cneg]
  exact (Ev.pure _).eq (by simp)
 | n + 1, i, h, z, h0, h1=> by
  have hi : i < xs.length:= by omega
  refine Ev.step (fun k=> by rw [laws_markStringS_d.l0]) ?_
  simp (disch := omega) only [cpos]
  obtain ⟨r, hr⟩ := mtI z h0 (by omega)
  refine Ev.bind hr ?_
  simp (disch := omega) only [wrap_in]
  refine (dmS_l0 xs hlen n (i + 1) (by omega) (z + 1) (by omega) (by omega)).eq ?_
  rw [show z + 1 + (n : Int) = z + ((n + 1 : Nat) : Int) by omega]
theorem dmS_ev (xs : List ByteArray) (hlen : xs.length <= 1048576) (z : Int) (h0 : 0 <= z) (h1 : z + xs.length <= 1099511627776) : Ev (fun k=> laws_markStringS_d.F k xs z) (z + xs.length):= by
 unfold laws_markStringS_d.F
 exact Ev.bind (dmS_l0 xs hlen xs.length 0 (by omega) z h0 h1) (Ev.pure _)
def cntN (n : Name) : Nat := n.given.length + 3
def cntNs (xs : List Name) : Nat := (xs.map cntN).sum
theorem cntNs_drop {xs : List Name} {i : Nat} (hi : i < xs.length) : cntNs (xs.drop i) = cntN xs[i] + cntNs (xs.drop (i + 1)):= by
 unfold cntNs
 rw [List.drop_eq_getElem_cons hi, List.map_cons, List.sum_cons]
theorem dmN_l0 (xs : List Name) (hs : ∀ x ∈ xs, smallN x) (hlen : xs.length <= 1048576) : ∀ n i : Nat, i + n = xs.length -> ∀ z : Int, 0 <= z -> z + cntNs (xs.drop i) <= 1099511627776 -> Ev (fun k=> laws_markNameS_d.l0 k xs z i) (xs, z + cntNs (xs.drop i))
 | 0, i, h, z, h0, h1=> by
  refine Ev.step (fun k=> by rw [laws_markNameS_d.l0]) ?_
  simp (disch := omega) only [cneg]
  refine (Ev.pure _).eq ?_
  rw [List.drop_eq_nil_of_le (by omega)]
  simp [cntNs]
 | n + 1, i, h, z, h0, h1=> by
  have hi : i < xs.length:= by omega
  have hd := cntNs_drop hi
  rw [hd] at h1 ⊢
  unfold cntN at h1 ⊢
  have hg : xs[i].given.length <= 1048576:= by have := hs _ (List.getElem_mem hi); unfold smallN totN at this; omega
  refine Ev.step (fun k=> by rw [laws_markNameS_d.l0]) ?_
  simp (disch := omega) only [cpos, Int.toNat_natCast, getD_at hi]
  refine Ev.bind (dmS_ev xs[i].given hg z h0 (by omega)) ?_
  obtain ⟨r1, e1⟩ := mtI (z + xs[i].given.length) (by omega) (by omega)
  obtain ⟨r2, e2⟩ := mtI (z + xs[i].given.length + 1) (by omega) (by omega)
  obtain ⟨r3, e3⟩ := mtI (z + xs[i].given.length + 1 + 1) (by omega) (by omega)
  simp (disch := omega) only [wrap_in]
  refine Ev.bind e1 (Ev.bind e2 (Ev.bind e3 ?_))
  refine (dmN_l0 xs hs hlen n (i + 1) (by omega) (z + xs[i].given.length + 1 + 1 + 1) (by omega) (by omega)).eq ?_
  rw [show z + (xs[i].given.length : Int) + 1 + 1 + 1 + (cntNs (xs.drop (i + 1)) : Int) = z + ((xs[i].given.length + 3 + cntNs (xs.drop (i + 1)) : Nat) : Int) by omega]
theorem dmN_ev (xs : List Name) (hs : ∀ x ∈ xs, smallN x) (hlen : xs.length <= 1048576) (z : Int) (h0 : 0 <= z) (h1 : z + cntNs xs <= 1099511627776) : Ev (fun k=> laws_markNameS_d.F k xs z) (z + cntNs xs):= by
 unfold laws_markNameS_d.F
 exact Ev.bind (dmN_l0 xs hs hlen xs.length 0 (by omega) z h0 (by simpa using h1)) ((Ev.pure _).eq (by simp))
def cntE (e : Entry) : Nat := cntNs e.authors + cntNs e.editors + 12
def cntEs (xs : List Entry) : Nat := (xs.map cntE).sum
theorem cntEs_drop {xs : List Entry} {i : Nat} (hi : i < xs.length) : cntEs (xs.drop i) = cntE xs[i] + cntEs (xs.drop (i + 1)):= by
 unfold cntEs
 rw [List.drop_eq_getElem_cons hi, List.map_cons, List.sum_cons]
theorem cntNs_le : ∀ xs : List Name, cntNs xs <= 3 * totNs xs
 | []=> by simp [cntNs, totNs]
 | x :: xs=> by
  have := cntNs_le xs
  unfold cntNs totNs at *
  simp only [List.map_cons, List.sum_cons, List.length_cons]
  have h1 : cntN x <= totN x + 3:= by unfold cntN totN; omega
  omega
theorem cntEs_le : ∀ xs : List Entry, cntEs xs <= 12 * totEs xs
 | []=> by simp [cntEs, totEs]
 | x :: xs=> by
  have := cntEs_le xs
  unfold cntEs totEs at *
  simp only [List.map_cons, List.sum_cons, List.length_cons]
  have h1 : cntE x <= 3 * totE x + 12:= by
   have := cntNs_le x.authors
   have := cntNs_le x.editors
   unfold cntE totE
   omega
  omega
theorem dmE_l0 (xs : List Entry) (hs : ∀ x ∈ xs, smallE x) (hlen : xs.length <= 1048576) : ∀ n i : Nat, i + n = xs.length -> ∀ z : Int, 0 <= z -> z + cntEs (xs.drop i) <= 1099511627776 -> Ev (fun k=> laws_markEntryS_d.l0 k xs z i) (xs, z + cntEs (xs.drop i))
 | 0, i, h, z, h0, h1=> by
  refine Ev.step (fun k=> by rw [laws_markEntryS_d.l0]) ?_
  simp (disch := omega) only [cneg]
  refine (Ev.pure _).eq ?_
  rw [List.drop_eq_nil_of_le (by omega)]
  simp [cntEs]
 | n + 1, i, h, z, h0, h1=> by
  have hi : i < xs.length:= by omega
  have hd := cntEs_drop hi
  rw [hd] at h1 ⊢
  unfold cntE at h1 ⊢
  have hsm := hs _ (List.getElem_mem hi)
  have ha := smallE_a hsm
  have he := smallE_e hsm
  refine Ev.step (fun k=> by rw [laws_markEntryS_d.l0]) ?_
  obtain ⟨r1, e1⟩ := mtI z (by omega) (by omega)
  simp (disch := omega) only [cpos]
  refine Ev.bind e1 ?_
  simp (disch := omega) only [cpos, Int.toNat_natCast, getD_at hi, wrap_in]
  refine Ev.bind (dmN_ev xs[i].authors (fun x hx=> smallNs_at ha hx) (smallNs_len ha) (z + 1 + 1) (by omega) (by omega)) ?_
  refine Ev.bind (dmN_ev xs[i].editors (fun x hx=> smallNs_at he hx) (smallNs_len he) (z + 1 + 1 + cntNs xs[i].authors) (by omega) (by omega)) ?_
  generalize hw : z + 1 + 1 + (cntNs xs[i].authors : Int) + (cntNs xs[i].editors : Int) = w
  have h30 : ((3 : Int) == 0) = false := rfl
  obtain ⟨r4, e4⟩ := mtI w (by omega) (by omega)
  obtain ⟨r5, e5⟩ := mtI (w + 1) (by omega) (by omega)
  obtain ⟨r6, e6⟩ := mtI (w + 1 + 1) (by omega) (by omega)
  obtain ⟨r7, e7⟩ := mtI (w + 1 + 1 + 1 + 1 + 1 + 1 + 1 + 1) (by omega) (by omega)
  obtain ⟨r8, e8⟩ := mtI (w + 1 + 1 + 1 + 1 + 1 + 1 + 1 + 1 + 1) (by omega) (by omega)
  simp (disch := omega) only [wrap_in, h30, cond_false]
  refine Ev.bind e4 (Ev.bind e5 (Ev.bind e6 (Ev.bind e7 (Ev.bind e8 ?_))))
  refine (dmE_l0 xs hs hlen n (i + 1) (by omega) (w + 1 + 1 + 1 + 1 + 1 + 1 + 1 + 1 + 1 + 1) (by omega) (by omega)).eq ?_
  rw [show w + 1 + 1 + 1 + 1 + 1 + 1 + 1 + 1 + 1 + 1 + (cntEs (xs.drop (i + 1)) : Int) = z + ((cntNs xs[i].authors + cntNs xs[i].editors + 12 + cntEs (xs.drop (i + 1)) : Nat) : Int) by omega]
theorem dmL_ev (l : Library) (hs : smallL l) : EvP (fun k=> laws_markLibrary_d.F k l 1) fun r=> 0 <= r:= by
 have h1 := cntEs_le l.entries
 have h2 : totEs l.entries <= 1048576 := hs
 unfold laws_markLibrary_d.F laws_markEntryS_d.F
 refine ⟨1 + cntEs l.entries, Ev.bind (Ev.bind (dmE_l0 l.entries (fun x hx=> smallL_at hs hx) (smallL_len hs) l.entries.length 0 (by omega) 1 (by omega) (by simp; omega)) ((Ev.pure _).eq (by simp))) (Ev.pure _), by omega⟩
end Go.Proofs.YtehijcmhhkchiaaGreatDoor
end
section
/- Marks of trees: what they hold then, and that it is held. -/
namespace Go.Proofs.YtehijcmhhkchiaaGreatDoor
open Go.Gx
theorem set_mid {α : Type} (pre : List α) (e y : α) (xs : List α) : (pre ++ e :: xs).set pre.length y = pre ++ y :: xs:= by simp
theorem getD_mid {α : Type} (pre : List α) (e d : α) (xs : List α) : (pre ++ e :: xs).getD pre.length d = e:= by simp [List.getD]
theorem app_one {α : Type} (pre : List α) (y : α) (xs : List α) : pre ++ y :: xs = (pre ++ [y]) ++ xs:= by simp
theorem len_one {α : Type} (pre : List α) (y : α) : (pre.length : Int) + 1 = ((pre ++ [y]).length : Int):= by simp
theorem beqS_id (s : ByteArray) : beqS s s = true:= by simp [beqS]
noncomputable def mtZ (z : Int) : ByteArray := mt z.toNat
theorem mtZ_ev {z : Int} (h0 : 0 <= z) (h1 : z <= 1099511627776) : Ev (fun k=> laws_markText.F k z) (mtZ z):= by
 have h := mt_ev z.toNat (by omega)
 rw [show ((z.toNat : Nat) : Int) = z by omega] at h
 exact h
noncomputable def mkS : List ByteArray -> Int -> List ByteArray
 | [], _=> []
 | _ :: xs, z=> mtZ z :: mkS xs (z + 1)
theorem xS_l0 : ∀ (xs pre : List ByteArray) (z : Int), pre.length + xs.length <= 1048576 -> 0 <= z -> z + xs.length <= 1099511627776 -> Ev (fun k=> laws_markStringS_x.l0 k (pre ++ xs) z pre.length) (pre ++ mkS xs z, z + xs.length)
 | [], pre, z, h, h0, h1=> by
  refine Ev.step (fun k=> by rw [laws_markStringS_x.l0]) ?_
  simp (disch := omega) only [List.append_nil, cneg]
  exact (Ev.pure _).eq (by simp [mkS])
 | x :: xs, pre, z, h, h0, h1=> by
  simp only [List.length_cons] at h h1
  refine Ev.step (fun k=> by rw [laws_markStringS_x.l0]) ?_
  simp (disch := omega) only [List.length_append, List.length_cons, cpos]
  refine Ev.bind (mtZ_ev h0 (by omega)) (Ev.bind (Ev.pure _) ?_)
  simp (disch := omega) only [Int.toNat_natCast, set_mid, wrap_in]
  rw [app_one, len_one pre (mtZ z)]
  refine (xS_l0 xs (pre ++ [mtZ z]) (z + 1) (by simp; omega) (by omega) (by omega)).eq ?_
  simp only [mkS, List.append_assoc, List.singleton_append, List.length_cons]
  congr 1; omega
theorem xS_ev (xs : List ByteArray) (z : Int) (h : xs.length <= 1048576) (h0 : 0 <= z) (h1 : z + xs.length <= 1099511627776) : Ev (fun k=> laws_markStringS_x.F k xs z) (mkS xs z, z + xs.length):= by
 unfold laws_markStringS_x.F
 exact Ev.bind (xS_l0 xs [] z (by simpa using h) h0 h1) ((Ev.pure _).eq (by simp))
theorem hS_l0 : ∀ (xs pre : List ByteArray) (z : Int), pre.length + xs.length <= 1048576 -> 0 <= z -> z + xs.length <= 1099511627776 -> Ev (fun k=> laws_heldStringS.l0 k (pre ++ mkS xs z) z pre.length) (.inr (z + xs.length))
 | [], pre, z, h, h0, h1=> by
  refine Ev.step (fun k=> by rw [laws_heldStringS.l0]) ?_
  simp (disch := omega) only [mkS, List.append_nil, cneg]
  exact (Ev.pure _).eq (by simp)
 | x :: xs, pre, z, h, h0, h1=> by
  simp only [List.length_cons] at h h1
  refine Ev.step (fun k=> by rw [laws_heldStringS.l0]) ?_
  simp (disch := omega) only [mkS, List.length_append, List.length_cons, cpos, Int.toNat_natCast, getD_mid]
  refine Ev.bind (mtZ_ev h0 (by omega)) ?_
  simp (disch := omega) only [beqS_id, Bool.not_true, cond_false, wrap_in]
  rw [app_one, len_one pre (mtZ z)]
  refine (hS_l0 xs (pre ++ [mtZ z]) (z + 1) (by simp; omega) (by omega) (by omega)).eq ?_
  congr 1; push_cast [List.length_cons]; omega
theorem hS_ev (xs : List ByteArray) (z : Int) (h : xs.length <= 1048576) (h0 : 0 <= z) (h1 : z + xs.length <= 1099511627776) : Ev (fun k=> laws_heldStringS.F k (mkS xs z) z) (z + xs.length):= by
 unfold laws_heldStringS.F
 exact Ev.bind (hS_l0 xs [] z (by simpa using h) h0 h1) (Ev.pure _)
def cntSS (xs : List (List ByteArray)) : Nat := (xs.map List.length).sum
noncomputable def mkSS : List (List ByteArray) -> Int -> List (List ByteArray)
 | [], _=> []
 | x :: xs, z=> mkS x z :: mkSS xs (z + x.length)
theorem cntSS_cons (x : List ByteArray) (xs : List (List ByteArray)) : (cntSS (x :: xs) : Int) = x.length + cntSS xs:= by
 simp only [cntSS, List.map_cons, List.sum_cons]; omega
theorem xSS_l0 : ∀ (xs pre : List (List ByteArray)) (z : Int), pre.length + xs.length <= 1048576 -> cntSS xs <= 1048576 -> 0 <= z -> z + cntSS xs <= 1099511627776 -> Ev (fun k=> laws_markStringSS_x.l0 k (pre ++ xs) z pre.length) (pre ++ mkSS xs z, z + cntSS xs)
 | [], pre, z, h, hc, h0, h1=> by
  refine Ev.step (fun k=> by rw [laws_markStringSS_x.l0]) ?_
  simp (disch := omega) only [List.append_nil, cneg]
  exact (Ev.pure _).eq (by simp [mkSS, cntSS])
 | x :: xs, pre, z, h, hc, h0, h1=> by
  have hc' := cntSS_cons x xs
  rw [hc'] at h1
  simp only [List.length_cons] at h
  refine Ev.step (fun k=> by rw [laws_markStringSS_x.l0]) ?_
  simp (disch := omega) only [List.length_append, List.length_cons, cpos, Int.toNat_natCast, getD_mid]
  refine Ev.bind (xS_ev x z (by omega) h0 (by omega)) (Ev.bind (Ev.pure _) ?_)
  simp (disch := omega) only [set_mid, wrap_in]
  rw [app_one, len_one pre (mkS x z)]
  refine (xSS_l0 xs (pre ++ [mkS x z]) (z + x.length) (by simp; omega) (by omega) (by omega) (by omega)).eq ?_
  simp only [mkSS, List.append_assoc, List.singleton_append, hc']
  congr 1; omega
theorem hSS_l0 : ∀ (xs pre : List (List ByteArray)) (z : Int), pre.length + xs.length <= 1048576 -> cntSS xs <= 1048576 -> 0 <= z -> z + cntSS xs <= 1099511627776 -> Ev (fun k=> laws_heldStringSS.l0 k (pre ++ mkSS xs z) z pre.length) (.inr (z + cntSS xs))
 | [], pre, z, h, hc, h0, h1=> by
  refine Ev.step (fun k=> by rw [laws_heldStringSS.l0]) ?_
  simp (disch := omega) only [mkSS, List.append_nil, cneg]
  exact (Ev.pure _).eq (by simp [cntSS])
 | x :: xs, pre, z, h, hc, h0, h1=> by
  have hc' := cntSS_cons x xs
  rw [hc'] at h1
  simp only [List.length_cons] at h
  refine Ev.step (fun k=> by rw [laws_heldStringSS.l0]) ?_
  simp (disch := omega) only [mkSS, List.length_append, List.length_cons, cpos, Int.toNat_natCast, getD_mid]
  refine Ev.bind (hS_ev x z (by omega) h0 (by omega)) ?_
  simp (disch := omega) only [cneg, wrap_in]
  rw [app_one, len_one pre (mkS x z)]
  refine (hSS_l0 xs (pre ++ [mkS x z]) (z + x.length) (by simp; omega) (by omega) (by omega) (by omega)).eq ?_
  rw [hc']
  congr 1; omega
theorem xSS_ev (xs : List (List ByteArray)) (h : xs.length <= 1048576) (hc : cntSS xs <= 1048576) : ∃ ys, ∃ m : Int, 0 <= m /\ Ev (fun k=> laws_markStringSS_x.F k xs 1) (ys, m) /\ Ev (fun k=> laws_heldStringSS.F k ys 1) m:= by
 refine ⟨mkSS xs 1, 1 + cntSS xs, by omega, ?_, ?_⟩
 ·unfold laws_markStringSS_x.F
  exact Ev.bind (xSS_l0 xs [] 1 (by simpa using h) hc (by omega) (by omega)) ((Ev.pure _).eq (by simp))
 ·unfold laws_heldStringSS.F
  exact Ev.bind (hSS_l0 xs [] 1 (by simpa using h) hc (by omega) (by omega)) (Ev.pure _)
end Go.Proofs.YtehijcmhhkchiaaGreatDoor
end
section
/- Plain laws: resolved entries, whose answers are trees. -/
namespace Go.Proofs.YtehijcmhhkchiaaGreatDoor
open Go.Gx
theorem chainT_l0 : ∀ (k : Nat) (a : Int) (b : Library) (c : List Int), impl_chainOf_t.l0 k a b c = impl_chainOf.l0 k a b c
 | 0, _, _, _=> rfl
 | k + 1, a, b, c=> by simp only [impl_chainOf_t.l0, impl_chainOf.l0, chainT_l0 k]
theorem chainT (k : Nat) (a : Library) (b : Int) : impl_chainOf_t.F k a b = impl_chainOf.F k a b:= by
 simp only [impl_chainOf_t.F, impl_chainOf.F, chainT_l0]
end Go.Proofs.YtehijcmhhkchiaaGreatDoor
end
section
/- The plain laws of CrossChain, ChildrenOf, BrokenCrosses and DependentsOf. -/
namespace Go.Proofs.YtehijcmhhkchiaaGreatDoor
open Go.Gx
theorem room_s8 {n : Nat} (h : n <= 8192) : room n .str = true := room_s h
end Go.Proofs.YtehijcmhhkchiaaGreatDoor
end
section
/- The plain law of CrossCycles. -/
namespace Go.Proofs.YtehijcmhhkchiaaGreatDoor
open Go.Gx
theorem keysT_l (l : Library) (c : List Int) (hc : ∀ x ∈ c, 0 <= x /\ x < l.entries.length) (hlen : c.length <= 8) : ∀ n i : Nat, i + n = c.length -> ∀ acc : List ByteArray, acc.length + n <= 100 -> Ev (fun k=> impl_keysOf_t.l0 k l acc c c.length i) (acc ++ (c.drop i).map (kAt l))
 | 0, i, h, acc, ha=> by
  have hd : c.drop i = [] := List.drop_eq_nil_of_le (by omega)
  refine Ev.step (fun k=> by rw [impl_keysOf_t.l0]) ?_
  simp (disch := omega) only [cneg]; exact (Ev.pure _).eq (by simp [hd])
 | n + 1, i, h, acc, ha=> by
  have hi : i < c.length:= by omega
  have hx := hc _ (List.getElem_mem hi)
  have hr : ∀ z : ByteArray, room (acc.length + ([z] : List ByteArray).length) .str = true := fun z=> room_s8 (by simp; omega)
  refine Ev.step (fun k=> by rw [impl_keysOf_t.l0]) ?_
  simp (disch := omega) only [cpos, Int.toNat_natCast, getD_at hi, hr, cond_true, wrap_in]
  refine (keysT_l l c hc hlen n (i + 1) (by omega) _ (by simp; omega)).eq ?_
  rw [List.drop_eq_getElem_cons hi]
  simp only [List.map_cons, List.append_assoc, List.singleton_append]
  rfl
theorem keysT_ev (l : Library) (c : List Int) (hc : ∀ x ∈ c, 0 <= x /\ x < l.entries.length) (hlen : c.length <= 8) : Ev (fun k=> impl_keysOf_t.F k l c) (c.map (kAt l)):= by
 unfold impl_keysOf_t.F
 exact Ev.bind (keysT_l l c hc hlen c.length 0 (by omega) [] (by simp; omega)) (Ev.pure _)
theorem least_l (l : Library) (x4 : List (List ByteArray)) (z : Int) (c : List Int) (hc : ∀ x ∈ c, 0 <= x /\ x < l.entries.length) (hlen : c.length <= 8) : ∀ n i : Nat, i + n = c.length -> ∀ (acc : List ByteArray) (b : Bool), acc.length + n <= 100 ->
  Ev (fun k=> spec_CrossCycles.l2 k l x4 z c acc b i) (l, x4, z, acc ++ (c.drop i).map (kAt l), (b && (c.drop i).all fun x=> decide (x ≥ z)))
 | 0, i, h, acc, b, ha=> by
  have hd : c.drop i = [] := List.drop_eq_nil_of_le (by omega)
  refine Ev.step (fun k=> by rw [spec_CrossCycles.l2]) ?_
  simp (disch := omega) only [cneg]; exact (Ev.pure _).eq (by simp [hd])
 | n + 1, i, h, acc, b, ha=> by
  have hi : i < c.length:= by omega
  have hx := hc _ (List.getElem_mem hi)
  have hr : ∀ z : ByteArray, room (acc.length + ([z] : List ByteArray).length) .str = true := fun z=> room_s8 (by simp; omega)
  refine Ev.step (fun k=> by rw [spec_CrossCycles.l2]) ?_
  have ih := fun b'=> least_l l x4 z c hc hlen n (i + 1) (by omega) (acc ++ [kAt l c[i]]) b' (by simp; omega)
  rw [List.drop_eq_getElem_cons hi]
  cases b with
  | true=>
   simp (disch := omega) only [cpos, Int.toNat_natCast, getD_at hi, hr, cond_true, wrap_in]
   refine (ih (decide (c[i] ≥ z))).eq ?_
   simp only [List.map_cons, List.all_cons, List.append_assoc, List.singleton_append, Bool.true_and]
  | false=>
   simp (disch := omega) only [cpos, Int.toNat_natCast, getD_at hi, hr, cond_true, cond_false, wrap_in]
   refine (ih false).eq ?_
   simp only [List.map_cons, List.all_cons, List.append_assoc, List.singleton_append, Bool.false_and]
def minL : List Int -> Int -> Int
 | [], m=> m
 | x :: xs, m=> minL xs (if x < m then x else m)
theorem minL_le : ∀ (xs : List Int) (m z : Int), (z <= minL xs m ↔ z <= m /\ ∀ x ∈ xs, z <= x)
 | [], m, z=> by simp [minL]
 | x :: xs, m, z=> by
  rw [minL, minL_le xs]
  simp only [List.mem_cons, forall_eq_or_imp]
  constructor
  ·rintro ⟨h1, h2⟩
   split at h1 <;> exact ⟨by omega, by omega, h2⟩
  ·rintro ⟨h1, h2, h3⟩
   exact ⟨by split <;> omega, h3⟩
theorem min_l (c : List Int) (hlen : c.length <= 8) : ∀ n i : Nat, i + n = c.length -> ∀ m : Int, Ev (fun k=> slices_Min_int.l0 k c m i) (minL (c.drop i) m)
 | 0, i, h, m=> by
  have hd : c.drop i = [] := List.drop_eq_nil_of_le (by omega)
  refine Ev.step (fun k=> by rw [slices_Min_int.l0]) ?_
  simp (disch := omega) only [cneg]; exact (Ev.pure _).eq (by simp [hd, minL])
 | n + 1, i, h, m=> by
  have hi : i < c.length:= by omega
  refine Ev.step (fun k=> by rw [slices_Min_int.l0]) ?_
  simp (disch := omega) only [cpos, Int.toNat_natCast, getD_at hi, wrap_in]
  refine (min_l c hlen n (i + 1) (by omega) _).eq ?_
  rw [List.drop_eq_getElem_cons hi, minL]
theorem min_ev (c : List Int) (hlen : c.length <= 8) (i : Int) (hi : i ∈ c) : ∃ m, Ev (fun k=> slices_Min_int.F k c) m /\ (m = i ↔ (c.all fun x=> decide (x ≥ i)) = true):= by
 cases c with
 | nil=> cases hi
 | cons x c=>
  refine ⟨minL c x, ?_, ?_⟩
  ·unfold slices_Min_int.F
   have := min_l (x :: c) hlen c.length 1 (by simp; omega) x
   simp (disch := (simp only [List.length_cons]; omega)) only [cneg, cpos]
   exact Ev.bind this (Ev.pure _)
  ·have h1 := minL_le c x i
   have h2 := minL_le c x (i + 1)
   simp only [List.all_cons, Bool.and_eq_true, decide_eq_true_eq, List.all_eq_true, ge_iff_le]
   rw [<- h1]
   have h3 : ¬ (i + 1 <= minL c x):= by
    rw [h2]
    rintro ⟨a, b⟩
    rcases List.mem_cons.1 hi with rfl | hi
    ·omega
    ·have := b i hi; omega
   omega
theorem room_ss {n : Nat} (h : n <= 8192) : room n (.sl .str) = true:= by
 have h2 : nb (.sl .str) <= 1000:= by decide
 have h3 : n * nb (.sl .str) <= 8192 * 1000 := Nat.mul_le_mul h h2
 exact Nat.ble_eq_true_of_le (Nat.le_trans h3 (by decide))
theorem cyc_l (l : Library) (hl : l.entries.length <= 8) : ∀ n i : Nat, i + n = l.entries.length -> ∀ acc : List (List ByteArray), acc.length <= i -> (∀ x ∈ acc, x.length <= 8) ->
  ∃ out : List (List ByteArray), out.length <= 8 /\ (∀ x ∈ out, x.length <= 8) /\ Ev (fun k=> spec_CrossCycles.l0 k l acc i) out /\ Ev (fun k=> impl_CrossCycles_t.l0 k l acc l.entries.length i) out
 | 0, i, h, acc, ha, hsm=> by
  refine ⟨acc, by omega, hsm, Ev.step (fun k=> by rw [spec_CrossCycles.l0]) ?_, Ev.step (fun k=> by rw [impl_CrossCycles_t.l0]) ?_⟩ <;>
   (simp (disch := omega) only [cneg]; exact Ev.pure _)
 | n + 1, i, h, acc, ha, hsm=> by
  obtain ⟨c, b, c1, c2, c3, c4, c5, c6⟩ := chain_ev2 l hl i (by omega) (by omega)
  have c2 : Ev (fun k=> impl_chainOf_t.F k l i) (c, b) := c2.congr fun k=> chainT k l i
  obtain ⟨out, o1, o2, o3, o4⟩ := cyc_l l hl n (i + 1) (by omega) acc (by omega) hsm
  have hpos := List.length_pos_of_mem c6
  cases b with
  | false=>
   refine ⟨out, o1, o2, Ev.step (fun k=> by rw [spec_CrossCycles.l0]) ?_, Ev.step (fun k=> by rw [impl_CrossCycles_t.l0]) ?_⟩
   ·simp (disch := omega) only [cpos]
    refine Ev.bind c1 ?_
    simp (disch := omega) only [Bool.not_false, cond_true, wrap_in]
    exact o3
   ·simp (disch := omega) only [cpos]
    refine Ev.bind c2 ?_
    simp (disch := omega) only [cond_false, wrap_in]
    exact o4
  | true=>
   have hc : ((c.length : Int) - 1).toNat < c.length:= by omega
   have hx := c4 _ (List.getElem_mem hc)
   obtain ⟨p, p1, p2, p3, p4⟩ := parent_ev l (by omega) c[((c.length : Int) - 1).toNat] hx.1 hx.2
   by_cases hp : p = i
   ·obtain ⟨m, m1, m2⟩ := min_ev c (by omega) i c6
    have k1 := keysT_ev l c c4 (by omega)
    have k2 := least_l l acc i c c4 (by omega) c.length 0 (by omega) [] true (by simp; omega)
    rw [List.drop_zero, List.nil_append, Bool.true_and] at k2
    by_cases hm : m = i
    ·obtain ⟨out, o1, o2, o3, o4⟩ := cyc_l l hl n (i + 1) (by omega) (acc ++ [c.map (kAt l)]) (by simp; omega) (fun x hx=> by
      rcases List.mem_append.1 hx with hx | hx
      ·exact hsm x hx
      ·rw [List.mem_singleton.1 hx, List.length_map]; omega)
     rw [m2.1 hm] at k2
     have hr : room (acc.length + ([c.map (kAt l)] : List (List ByteArray)).length) (.sl .str) = true := room_ss (by simp; omega)
     refine ⟨out, o1, o2, Ev.step (fun k=> by rw [spec_CrossCycles.l0]) ?_, Ev.step (fun k=> by rw [impl_CrossCycles_t.l0]) ?_⟩
     ·simp (disch := omega) only [cpos]
      refine Ev.bind c1 ?_
      simp (disch := omega) only [Bool.not_true, cond_false, wrap_in, cpos, getD_at hc]
      refine Ev.bind p1 ?_
      simp (disch := omega) only [cbeq]
      refine Ev.bind k2 ?_
      simp (disch := omega) only [hr, cond_true, wrap_in]
      exact o3
     ·simp (disch := omega) only [cpos]
      refine Ev.bind c2 ?_
      simp (disch := omega) only [cond_true, wrap_in, cpos, getD_at hc]
      refine Ev.bind p2 ?_
      simp (disch := omega) only [ceq]
      refine Ev.bind m1 ?_
      simp (disch := omega) only [ceq]
      refine Ev.bind k1 ?_
      simp (disch := omega) only [hr, cond_true, wrap_in]
      exact o4
    ·rw [show (c.all fun x=> decide (x ≥ (i : Int))) = false by
      cases e : c.all fun x=> decide (x ≥ (i : Int)) with
      | false=> rfl
      | true=> exact absurd (m2.2 e) hm] at k2
     refine ⟨out, o1, o2, Ev.step (fun k=> by rw [spec_CrossCycles.l0]) ?_, Ev.step (fun k=> by rw [impl_CrossCycles_t.l0]) ?_⟩
     ·simp (disch := omega) only [cpos]
      refine Ev.bind c1 ?_
      simp (disch := omega) only [Bool.not_true, cond_false, wrap_in, cpos, getD_at hc]
      refine Ev.bind p1 ?_
      simp (disch := omega) only [cbeq]
      refine Ev.bind k2 ?_
      simp (disch := omega) only [cond_false, wrap_in]
      exact o3
     ·simp (disch := omega) only [cpos]
      refine Ev.bind c2 ?_
      simp (disch := omega) only [cond_true, wrap_in, cpos, getD_at hc]
      refine Ev.bind p2 ?_
      simp (disch := omega) only [ceq]
      refine Ev.bind m1 ?_
      simp (disch := omega) only [cne, wrap_in]
      exact o4
   ·refine ⟨out, o1, o2, Ev.step (fun k=> by rw [spec_CrossCycles.l0]) ?_, Ev.step (fun k=> by rw [impl_CrossCycles_t.l0]) ?_⟩
    ·simp (disch := omega) only [cpos]
     refine Ev.bind c1 ?_
     simp (disch := omega) only [Bool.not_true, cond_false, wrap_in, cpos, getD_at hc]
     refine Ev.bind p1 ?_
     simp (disch := omega) only [cbne, wrap_in]
     exact o3
    ·simp (disch := omega) only [cpos]
     refine Ev.bind c2 ?_
     simp (disch := omega) only [cond_true, wrap_in, cpos, getD_at hc]
     refine Ev.bind p2 ?_
     simp (disch := omega) only [cne, wrap_in]
     exact o4
theorem eqSS_l0 (xs : List (List ByteArray)) (hlen : xs.length <= 1048576) (hx : ∀ x ∈ xs, x.length <= 1048576) : ∀ n i : Nat, i + n = xs.length -> Ev (fun k=> laws_eqStringSS.l0 k xs xs i) (.inr ())
 | 0, i, h=> by
  refine Ev.step (fun k=> by rw [laws_eqStringSS.l0]) ?_
  simp (disch := omega) only [cneg]
  exact Ev.pure _
 | n + 1, i, h=> by
  have hi : i < xs.length:= by omega
  refine Ev.step (fun k=> by rw [laws_eqStringSS.l0]) ?_
  simp (disch := omega) only [cpos, Int.toNat_natCast, getD_at hi]
  refine Ev.bind (eqS_ev _ (hx _ (List.getElem_mem hi))) ?_
  simp (disch := omega) only [Bool.not_true, cond_false, wrap_in]
  exact eqSS_l0 xs hlen hx n (i + 1) (by omega)
theorem eqSS_ev (xs : List (List ByteArray)) (hlen : xs.length <= 1048576) (hx : ∀ x ∈ xs, x.length <= 1048576) : Ev (fun k=> laws_eqStringSS.F k xs xs) true:= by
 unfold laws_eqStringSS.F
 simp (disch := omega) only [cbeq]
 exact Ev.bind (eqSS_l0 xs hlen hx xs.length 0 (by omega)) (Ev.pure _)
theorem cntSS_le : ∀ xs : List (List ByteArray), (∀ x ∈ xs, x.length <= 8) -> cntSS xs <= 8 * xs.length
 | [], _=> by simp [cntSS]
 | x :: xs, h=> by
  have h1 := h x List.mem_cons_self
  have h2 := cntSS_le xs fun y hy=> h y (List.mem_cons_of_mem _ hy)
  simp only [cntSS, List.map_cons, List.sum_cons, List.length_cons] at h2 ⊢
  omega
theorem crossCycles_ev (l : Library) (hs : smallL l) : ∃ r b, Ev (fun k=> spec_CrossCycles.F k l) (r, b) /\ Ev (fun k=> impl_CrossCycles_t.F k l) (r, b) /\ r.length <= 8 /\ ∀ x ∈ r, x.length <= 8:= by
 have a1 := specLib_ev l hs
 have a2 := isLib_ev l hs
 unfold spec_CrossCycles.F impl_CrossCycles_t.F
 cases hB : libB l with
 | false=>
  rw [hB] at a1 a2
  exact ⟨[], false, Ev.bind a1 (Ev.pure _), Ev.bind a2 (Ev.pure _), by simp, fun _ h=> by cases h⟩
 | true=>
  rw [hB] at a1 a2
  have hl := libB_len hB
  obtain ⟨out, o1, o2, o3, o4⟩ := cyc_l l hl l.entries.length 0 (by omega) [] (by simp) (fun _ h=> by cases h)
  exact ⟨out, true, Ev.bind a1 (Ev.bind o3 (Ev.pure _)), Ev.bind a2 (Ev.bind o4 (Ev.pure _)), o1, o2⟩
theorem crossCycles_law (l : Library) (hw : WF .lib l) : ∃ k, laws_FnExactCrossCycles.F k l = some true:= by
 refine Ev.get (?_ : Ev (fun k=> laws_FnExactCrossCycles.F k l) true)
 unfold laws_FnExactCrossCycles.F
 obtain ⟨r, h1, h2⟩ := szL_ev l 1048576 (by omega) (by omega) hw
 refine Ev.bind h1 ?_
 by_cases c : r < 0
 ·simp (disch := omega) only [cpos]
  exact Ev.pure _
 simp (disch := omega) only [cneg]
 have hs : smallL l:= by have := h2 (by omega); unfold smallL; omega
 obtain ⟨v, b, v1, v2, v3, v4⟩ := crossCycles_ev l hs
 have tl := toL_ev l hs
 have eqv := eqSS_ev v (by omega) fun x hx=> Nat.le_trans (v4 x hx) (by omega)
 have hcn := cntSS_le v v4
 refine Ev.bind tl (Ev.bind v1 (Ev.bind tl (Ev.bind v2 (Ev.bind eqv ?_))))
 simp only [beq_self_eq_true, Bool.not_true, cond_false]
 refine Ev.bind tl (Ev.bind (eqL_ev l hs) ?_)
 simp only [Bool.not_true, cond_false]
 obtain ⟨m, m1, m2⟩ := dmL_ev l hs
 refine Ev.bind m1 ?_
 simp (disch := omega) only [cneg]
 refine Ev.bind eqv ?_
 simp only [beq_self_eq_true, Bool.not_true, cond_false]
 obtain ⟨ys, m', n0, n1, n2⟩ := xSS_ev v (by omega) (by omega)
 refine Ev.bind n1 (Ev.bind n2 ?_)
 simp (disch := omega) only [cneg, cbeq]
 refine Ev.bind tl (Ev.bind v2 (Ev.bind eqv ?_))
 simp only [beq_self_eq_true, Bool.not_true, cond_false]
 refine Ev.bind n2 ?_
 simp (disch := omega) only [cneg, cbeq]
 exact Ev.pure _
end Go.Proofs.YtehijcmhhkchiaaGreatDoor
end
section
/- The law FnExactCrossCycles returns true for every input, the listed package variables being as the program's text lays it: the card. -/
namespace Go.Proofs.YtehijcmhhkchiaaGreatDoor
open Go.Gx Go.RowKit Go.ChangeShapes Go.WideShapes Go.ChangeAt
theorem fnExactCrossCycles_own : ownKnob Tryz.prog.godebug = none:= by kernel_rfl
set_option maxRecDepth 100000 in
theorem fnExactCrossCycles_contract (H : Type) (enc : TypeId × Value -> H) (W : World) (base : Nat) (args : Array Value) (ds gs : List (DataW H)) (before : List MemPlace)
  (hval : ∀ (j : Nat) t v, Tryz.f4.params[j]? = some t -> args[j]? = some v -> Value.okWide Tryz.prog W .any base t v)
  (hW : DataW.Whole enc Tryz.prog Tryz.f4.params.toList Rows.fnExactCrossCyclesSpec.vars false W args.toList ds gs before) (hsh : W.ShapedOpen Tryz.prog) :
  Calls Tryz.prog 4 args W fun e W'=> ∃ v, e = .returned v /\ Rows.fnExactCrossCyclesSpec.post enc Tryz.prog Tryz.f4 false true false false W args v W':= by
 have hgs : gs = []:= by
  obtain ⟨p, q, _, hV, _⟩ := hW
  exact (trodVars_none hV).1
 subst hgs
 have hds : ∃ d1, ds = [d1]:= by
  obtain ⟨p, q, hA, _⟩ := hW
  obtain ⟨_, _, d1, e0, _, _, _, rfl, _, _, h0⟩ := trodAll_cons hA
  obtain ⟨_, rfl, _⟩ := trodAll_nil h0
  exact ⟨d1, rfl⟩
 obtain ⟨d1, rfl⟩ := hds
 have hgl : GlOk envX (fun _=> undef) (Lt W) W:= by
  refine GlOk.mk0 (fun g b h=> (by cases h)) (fun g hg=> ?_)
  have hg' : giT g = true := hg
  unfold giT at hg'
  split at hg'
  ·obtain ⟨m, hm⟩ := cell_of_shapedOpen_int (P := Tryz.prog) (g := 2) (t := 3) (zero := #[.int .i64 0]) hsh (of_decide_eq_true (by kernel_rfl)) (by kernel_rfl) rfl (by kernel_rfl) (by kernel_rfl) (by kernel_rfl)
   exact ⟨World.block_lt_of_cell? _ _ hm, m, hm⟩
  ·cases hg'
 refine law_contract (τs := [.lib]) (r := .t .bool true) envOk (by kernel_rfl) rfl (by kernel_rfl) (by kernel_rfl) rfl (by kernel_rfl) (by kernel_rfl) (fun t ht=> ?_) rfl (fun x hx=> by
   obtain ⟨k, hk⟩ := crossCycles_law x.1 hx.1
   exact laws_FnExactCrossCycles.good envOk _ k _ hk) rfl hval hW hgl (fun q hq W' _=> ?_)
 ·have : t ∈ [40] := ht
  simp only [List.mem_cons, List.not_mem_nil, or_false] at this
  rcases this with rfl <;> exact ⟨by kernel_rfl, Nat.le_of_ble_eq_true (by kernel_rfl)⟩
 ·obtain ⟨_, rfl⟩ := trodVars_none hq
  exact rfl
set_option maxRecDepth 100000 in
noncomputable def fnExactCrossCycles_world (os : Os) : World :=
 { World.holding Tryz.prog os ⟨#[], #[], []⟩ with heap := (((World.holding Tryz.prog os ⟨#[], #[], []⟩).heap.modify 1 fun
   | .cells _ t frozen=> .cells #[.int .u8 128, .int .u8 191, .int .u8 160, .int .u8 191, .int .u8 128, .int .u8 159, .int .u8 144, .int .u8 191, .int .u8 128, .int .u8 143, .int .u8 0, .int .u8 0, .int .u8 0, .int .u8 0, .int .u8 0, .int .u8 0, .int .u8 0, .int .u8 0, .int .u8 0, .int .u8 0, .int .u8 0, .int .u8 0, .int .u8 0, .int .u8 0, .int .u8 0, .int .u8 0, .int .u8 0, .int .u8 0, .int .u8 0, .int .u8 0, .int .u8 0, .int .u8 0] t frozen
   | o=> o).modify 0 fun
   | .cells _ t frozen=> .cells (Pinned.utf8FirstZ.map fun (n : Nat)=> Value.int .u8 (n : Int)).toArray t frozen
   | o=> o) }
theorem fnExactCrossCycles_met (os : Os) : laidMet Tryz.prog Rows.fnExactCrossCyclesRow.laid ((fnExactCrossCycles_world os).forCall (fun _ _=> 0) ⟨#[], #[.agg #[.slice none 0 0]], []⟩).memory :=
 laidMet_of_run' 8 (by kernel_rfl) (by kernel_rfl)
theorem fnExactCrossCycles_reads (os : Os) {H : Type} (enc : TypeId × Value -> H) : ∃ places, DataW.whole enc Tryz.prog ((fnExactCrossCycles_world os).forCall (fun _ _=> 0) ⟨#[], #[.agg #[.slice none 0 0]], []⟩).memory Tryz.f4.params.toList Rows.fnExactCrossCyclesSpec.vars false #[.agg #[.slice none 0 0]].toList 8 = some ([.agg [.nil]], [], places) :=
 ⟨[], by kernel_rfl⟩
set_option maxRecDepth 100000 in
theorem fnExactCrossCycles_lifted (os : Os) (started : os.Started) (H : Type) (enc : TypeId × Value -> H) (F : Stop.Interp) :
  ReturnsInHanded {} Tryz.checked os 4 .any ((OpenSpec.ofChange Rows.fnExactCrossCyclesSpec).preRow enc Tryz.prog Tryz.f4 Rows.fnExactCrossCyclesRow.domain false Rows.fnExactCrossCyclesRow.laid) (((OpenSpec.ofChange Rows.fnExactCrossCyclesSpec).at F).post enc Tryz.prog Tryz.f4 false true false false):= by
 obtain ⟨places, hx⟩ := fnExactCrossCycles_reads os enc
 refine returnsInHanded_of_row (C := Tryz.checked) (s := OpenSpec.ofChange Rows.fnExactCrossCyclesSpec) fnExactCrossCycles_own started (by kernel_rfl) (by kernel_rfl)
  (witness_row_at (enc := enc) (C := Tryz.checked) false (fnExactCrossCycles_world os) #[.agg #[.slice none 0 0]] rfl (by kernel_rfl) (by kernel_rfl) (by kernel_rfl)
   (OpenSpec.preRow_of_cond 8 hx (by kernel_rfl) (fun k hk=> by cases hk) (by kernel_rfl) (fnExactCrossCycles_met os))) ?_
 intro W base args ds gs before hval hW _ _ _ _ hsh _
 exact fnExactCrossCycles_contract H enc W base args ds gs before hval hW hsh
theorem fnExactCrossCycles_said : Rows.FnExactCrossCyclesSaid :=
 OpenClaim.holds_of_cond 4 Tryz.f4 rfl rfl rfl rfl rfl rfl rfl ⟨rfl, rfl, rfl, rfl, rfl⟩ rfl rfl rfl rfl rfl (by kernel_rfl) (by kernel_rfl) (by kernel_rfl)
  (of_decide_eq_true (by kernel_rfl)) (by unfold Func.isWrapper; first | (rw [if_pos (by decide +kernel)]; kernel_rfl) | (rw [if_neg (by decide +kernel)]; exact ⟨rfl, rfl⟩))
  (fun os started H enc _ F=> by rw [OpenClaim.pre_eq_preRow]; exact fnExactCrossCycles_lifted os started H enc F)
theorem fnExactCrossCycles_plain (f : FuncId) (fn : Func) (hf : Tryz.pinned.checked.prog.funcNamed "loop.example/g00896/laws.FnExactCrossCycles" = some f) (hfn : Tryz.pinned.checked.prog.funcs[f]? = some fn) :
  false = Tryz.pinned.checked.prog.looks [] /\ ∀ (j : Nat) t, fn.params[j]? = some t -> Tryz.pinned.checked.prog.wantsStandIn t = false:= by
 obtain rfl : f = 4 := (Option.some.inj ((show Tryz.prog.funcNamed "loop.example/g00896/laws.FnExactCrossCycles" = some 4 by kernel_rfl).symm.trans hf)).symm
 obtain rfl : fn = Tryz.f4 := (Option.some.inj ((show Tryz.prog.funcs[4]? = some Tryz.f4 by kernel_rfl).symm.trans hfn)).symm
 refine ⟨by kernel_rfl, fun j t ht=> ?_⟩
 have ht' : t ∈ [40]:= by simpa using Array.mem_of_getElem? (show (#[40] : Array Nat)[j]? = some t from ht)
 simp only [List.mem_cons, List.not_mem_nil, or_false] at ht'
 rcases ht' with rfl
 ·exact (show Tryz.prog.wantsStandIn 40 = false by kernel_rfl)
theorem FnExactCrossCycles_holds : Rows.FnExactCrossCyclesCardSaid :=
 Claim7.holds_tied_plain_at .later [] _ _ _ _ fnExactCrossCycles_said (fun _ h=> by cases h) (by kernel_rfl) (fun _ h=> by cases h) fnExactCrossCycles_row_tie rfl ⟨rfl, rfl⟩ (by kernel_rfl) rfl fnExactCrossCycles_plain (by kernel_rfl)
#print axioms FnExactCrossCycles_holds
end Go.Proofs.YtehijcmhhkchiaaGreatDoor
end
