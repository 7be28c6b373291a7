/- The law FnExactFieldConflicts returns true for every input, the listed package variables being as the program's text lays it: the card. -/
import Derived.Test.YtfnibdpepbgamaaGreatDoorMfc3
import Derived.Test.YtfnibdpepbgamaaGreatDoorMfc5
import Derived.Lib.ItoaNum
import Derived.Test.YtfnibdpepbgamaaGreatDoorCards
import Derived.Test.YtfnibdpepbgamaaGreatDoorTie
import Derived.Shelf.Vars
import Derived.WalkKit
import Derived.ProofKit
import Derived.OpenShut
import Derived.Deep.DeepHandedRow
import Derived.Lib.LaidTab
section
namespace Go.Gx
set_option linter.unusedVariables false
set_option linter.unusedSimpArgs false

section
variable {α : Type} {d : α} {p : α → Bool} {q : Nat → α → Option Bool} {xs : List α}
theorem getDat {α : Type} {xs : List α} {i : Nat} (h : i < xs.length) (d : α) : xs.getD i d = xs[i] := by simp [List.getD, List.getElem?_eq_getElem h]
theorem idx_l0 {l0 : Nat → List α → Int → Int → Option (Sum Int Unit)} (H : ∀ k x0 x7 x8, l0 (k + 1) x0 x7 x8 = bif (decide (x8 < x7)) then (bif decide (0 ≤ x8) then (bif decide (x8 < (x0.length : Int)) then ((q k (x0.getD (x8 : Int).toNat d)).bind fun r1 => bif r1 then (some (.inl x8)) else (l0 k x0 x7 (IntKind.wrap .i64 (x8 + 1)))) else none) else none) else (some (.inr ())))
    (hq : ∀ x, x ∈ xs → Ev (fun k => q k x) (p x)) (hl : xs.length ≤ 4611686018427387904) : ∀ n i : Nat, i + n = xs.length → (∀ x ∈ xs.take i, p x = false) →
    ∃ r, Ev (fun k => l0 k xs xs.length i) r ∧ ((r = .inr () ∧ ∀ x ∈ xs, p x = false) ∨ ∃ j : Nat, r = .inl j ∧ j < xs.length ∧ p (xs.getD j d) = true ∧ ∀ x ∈ xs.take j, p x = false)
  | 0, i, h, ht => by
    refine ⟨.inr (), Ev.step (fun k => by rw [H]) ?_, .inl ⟨rfl, by rw [List.take_of_length_le (by omega)] at ht; exact ht⟩⟩
    simp (disch := omega) only [cneg]
    exact Ev.pure _
  | n + 1, i, h, ht => by
    have hi : i < xs.length := by omega
    cases hp : p xs[i] with
    | true =>
      refine ⟨.inl i, Ev.step (fun k => by rw [H]) ?_, .inr ⟨i, rfl, hi, by rw [getDat hi, hp], ht⟩⟩
      simp (disch := omega) only [cpos, Int.toNat_natCast, getDat hi]
      refine Ev.bind (hq _ (List.getElem_mem hi)) ?_
      rw [hp]
      exact Ev.pure _
    | false =>
      obtain ⟨r, h1, h2⟩ := idx_l0 H hq hl n (i + 1) (by omega) (by
        intro x hx
        rw [List.take_add_one, List.getElem?_eq_getElem hi] at hx
        rcases List.mem_append.1 hx with hx | hx
        · exact ht x hx
        · simp only [Option.toList_some, List.mem_singleton] at hx
          rw [hx, hp])
      refine ⟨r, Ev.step (fun k => by rw [H]) ?_, h2⟩
      simp (disch := omega) only [cpos, Int.toNat_natCast, getDat hi]
      refine Ev.bind (hq _ (List.getElem_mem hi)) ?_
      rw [hp]
      simp (disch := omega) only [cond_false, wrap_in]
      exact h1
theorem idx_ev {l0 : Nat → List α → Int → Int → Option (Sum Int Unit)} (H : ∀ k x0 x7 x8, l0 (k + 1) x0 x7 x8 = bif (decide (x8 < x7)) then (bif decide (0 ≤ x8) then (bif decide (x8 < (x0.length : Int)) then ((q k (x0.getD (x8 : Int).toNat d)).bind fun r1 => bif r1 then (some (.inl x8)) else (l0 k x0 x7 (IntKind.wrap .i64 (x8 + 1)))) else none) else none) else (some (.inr ())))
    (hq : ∀ x, x ∈ xs → Ev (fun k => q k x) (p x)) (hl : xs.length ≤ 4611686018427387904) {F : Nat → List α → Option Int} (HF : ∀ k a0, F k a0 = (l0 k a0 (a0.length : Int) 0).bind fun y2 => match y2 with | .inl z3 => some z3 | .inr z3 => some (-1)) :
    ∃ r, Ev (fun k => F k xs) r ∧ ((r = -1 ∧ ∀ x ∈ xs, p x = false) ∨ ∃ j : Nat, r = j ∧ j < xs.length ∧ p (xs.getD j d) = true ∧ ∀ x ∈ xs.take j, p x = false) := by
  obtain ⟨r, h1, h2⟩ := idx_l0 H hq hl xs.length 0 (by omega) (fun x hx => by simp at hx)
  rcases h2 with ⟨rfl, h2⟩ | ⟨j, rfl, h2⟩
  · exact ⟨-1, Ev.congr (Ev.bind h1 (Ev.pure _)) (fun k => HF k xs), .inl ⟨rfl, h2⟩⟩
  · exact ⟨j, Ev.congr (Ev.bind h1 (Ev.pure _)) (fun k => HF k xs), .inr ⟨j, rfl, h2⟩⟩
theorem del_l0 {l0 : Nat → List α → Int → Int → Option (List α × Int)} (H : ∀ k x0 x5 x6, l0 (k + 1) x0 x5 x6 = bif (decide (x6 < (x0.length : Int))) then (bif decide (0 ≤ x6) then (bif decide (x6 < (x0.length : Int)) then ((q k (x0.getD ((x6 : Int).toNat) d)).bind fun r2 => bif (!r2) then (bif decide (0 ≤ x5) then (bif decide (x5 < (x0.length : Int)) then (l0 k (x0.set ((x5 : Int).toNat) (x0.getD ((x6 : Int).toNat) d)) (IntKind.wrap .i64 (x5 + 1)) (IntKind.wrap .i64 (x6 + 1))) else none) else none) else (l0 k x0 x5 (IntKind.wrap .i64 (x6 + 1)))) else none) else none) else (some (x0, x5)))
    (hq : ∀ x, x ∈ xs → Ev (fun k => q k x) (p x)) (hl : xs.length ≤ 4611686018427387904) : ∀ n j : Nat, j + n = xs.length → ∀ (ys : List α) (i : Nat), ys.length = xs.length → i ≤ j → ys.drop j = xs.drop j →
    ∃ zs, ∃ i' : Nat, Ev (fun k => l0 k ys i j) (zs, (i' : Int)) ∧ i' ≤ xs.length ∧ zs.length = xs.length ∧ zs.take i' = ys.take i ++ (xs.drop j).filter fun x => !p x
  | 0, j, h, ys, i, hy, hij, hd => by
    refine ⟨ys, i, Ev.step (fun k => by rw [H]) ?_, by omega, hy, ?_⟩
    · simp (disch := omega) only [cneg]
      exact Ev.pure _
    · rw [List.drop_eq_nil_of_le (by omega), List.filter_nil, List.append_nil]
  | n + 1, j, h, ys, i, hy, hij, hd => by
    have hj : j < xs.length := by omega
    have hj' : j < ys.length := by omega
    have hx : ys[j] = xs[j] := by
      have h0 := congrArg (·[0]?) hd
      simpa [hj, hj'] using h0
    have hd1 : ys.drop (j + 1) = xs.drop (j + 1) := by
      have := congrArg (List.drop 1) hd
      simpa [List.drop_drop] using this
    cases hp : p xs[j] with
    | true =>
      obtain ⟨zs, i', h1, h2, h3, h4⟩ := del_l0 H hq hl n (j + 1) (by omega) ys i hy (by omega) hd1
      refine ⟨zs, i', Ev.step (fun k => by rw [H]) ?_, h2, h3, ?_⟩
      · simp (disch := omega) only [cpos, Int.toNat_natCast, getDat hj', hx]
        refine Ev.bind (hq _ (List.getElem_mem hj)) ?_
        rw [hp]
        simp (disch := omega) only [Bool.not_true, cond_false, wrap_in]
        exact h1
      · rw [h4, List.drop_eq_getElem_cons hj, List.filter_cons_of_neg (by rw [hp]; decide)]
    | false =>
      obtain ⟨zs, i', h1, h2, h3, h4⟩ := del_l0 H hq hl n (j + 1) (by omega) (ys.set i xs[j]) (i + 1) (by simpa using hy) (by omega) (by rw [List.drop_set_of_lt (by omega)]; exact hd1)
      refine ⟨zs, i', Ev.step (fun k => by rw [H]) ?_, h2, h3, ?_⟩
      · simp (disch := omega) only [cpos, Int.toNat_natCast, getDat hj', hx]
        refine Ev.bind (hq _ (List.getElem_mem hj)) ?_
        rw [hp]
        simp (disch := omega) only [Bool.not_false, cond_true, cpos, Int.toNat_natCast, wrap_in]
        exact h1
      · rw [h4, List.drop_eq_getElem_cons hj, List.filter_cons_of_pos (by rw [hp]; decide), List.take_add_one, List.take_set_of_le (Nat.le_refl i)]
        have : (ys.set i xs[j])[i]? = some xs[j] := by rw [List.getElem?_set_self (by omega)]
        rw [this]
        simp
theorem delete_ev {l0 : Nat → List α → Int → Int → Option (List α × Int)} (H : ∀ k x0 x5 x6, l0 (k + 1) x0 x5 x6 = bif (decide (x6 < (x0.length : Int))) then (bif decide (0 ≤ x6) then (bif decide (x6 < (x0.length : Int)) then ((q k (x0.getD ((x6 : Int).toNat) d)).bind fun r2 => bif (!r2) then (bif decide (0 ≤ x5) then (bif decide (x5 < (x0.length : Int)) then (l0 k (x0.set ((x5 : Int).toNat) (x0.getD ((x6 : Int).toNat) d)) (IntKind.wrap .i64 (x5 + 1)) (IntKind.wrap .i64 (x6 + 1))) else none) else none) else (l0 k x0 x5 (IntKind.wrap .i64 (x6 + 1)))) else none) else none) else (some (x0, x5)))
    (hq : ∀ x, x ∈ xs → Ev (fun k => q k x) (p x)) (hl : xs.length ≤ 4611686018427387904) {I F : Nat → List α → Option _} {e : α}
    (hI : ∃ r : Int, Ev (fun k => I k xs) r ∧ ((r = -1 ∧ ∀ x ∈ xs, p x = false) ∨ ∃ j : Nat, r = j ∧ j < xs.length ∧ p (xs.getD j d) = true ∧ ∀ x ∈ xs.take j, p x = false))
    (HF : ∀ k a0, F k a0 = (I k a0).bind fun r1 => bif (r1 == (-1)) then (some a0) else ((l0 k a0 r1 (IntKind.wrap .i64 (r1 + 1))).bind fun y3 => bif decide (0 ≤ y3.2) then (bif decide (y3.2 ≤ (y3.1.length : Int)) then (bif decide (0 ≤ y3.2) then (bif decide (y3.2 ≤ ((y3.1.take ((y3.2 : Int).toNat) ++ List.replicate (y3.1.length - ((y3.2 : Int).toNat)) e).length : Int)) then (some ((y3.1.take ((y3.2 : Int).toNat) ++ List.replicate (y3.1.length - ((y3.2 : Int).toNat)) e).take (y3.2 : Int).toNat)) else none) else none) else none) else none)) :
    Ev (fun k => F k xs) (xs.filter fun x => !p x) := by
  obtain ⟨r, h1, h2⟩ := hI
  refine Ev.congr (?_ : Ev _ _) (fun k => HF k xs)
  refine Ev.bind h1 ?_
  rcases h2 with ⟨rfl, h2⟩ | ⟨j, rfl, hj, hp, h2⟩
  · have : (xs.filter fun x => !p x) = xs := List.filter_eq_self.2 fun x hx => by rw [h2 x hx]; rfl
    rw [this]
    exact Ev.pure _
  · obtain ⟨zs, i', h3, h4, h5, h6⟩ := del_l0 H hq hl (xs.length - (j + 1)) (j + 1) (by omega) xs j rfl (by omega) rfl
    rw [getDat hj] at hp
    have hz : zs.take i' = xs.filter fun x => !p x := by
      rw [h6]
      conv => rhs; rw [← List.take_append_drop j xs, List.filter_append, List.drop_eq_getElem_cons hj, List.filter_cons_of_neg (by rw [hp]; decide)]
      congr 1
      exact (List.filter_eq_self.2 fun x hx => by rw [h2 x hx]; rfl).symm
    simp (disch := omega) only [cne, wrap_in]
    refine Ev.bind h3 ?_
    have e1 : ((zs.take i' ++ List.replicate (zs.length - i') e)).length = zs.length := by simp; omega
    simp (disch := (try simp only [Int.toNat_natCast, e1]); omega) only [cpos, Int.toNat_natCast, e1]
    rw [List.take_append_of_le_length (by simp; omega), List.take_take, Nat.min_self, hz]
    exact Ev.pure _
end
end Go.Gx
end
section
/- Plain laws: keys, names, dates, entries, libraries: are they valid? -/
namespace Go.Proofs.YtfnibdpepbgamaaGreatDoor
open Go.Gx
set_option linter.unusedVariables false
set_option linter.unusedSimpArgs false

theorem in_ev (a b c : Int) : spec_l1In.F a b c = some (decide (a ≥ b) && decide (a ≤ c)) := by
  unfold spec_l1In.F
  cases decide (a ≥ b) <;> rfl
theorem inside_ev (a b c : Int) : impl_inside.F a b c = some (decide (a ≥ b) && decide (a ≤ c)) := by
  unfold impl_inside.F
  cases decide (a ≥ b) <;> rfl
theorem and_step {f : Nat → Option Bool} {b c : Bool} (h : b = true → Ev f c) : Ev (fun k => bif (!b) then some false else f k) (b && c) := by
  cases b with
  | false => exact Ev.pure _
  | true => exact h rfl
theorem and_step' {f : Nat → Option Bool} {b c : Bool} (h : b = true → Ev f c) : Ev (fun k => bif b then f k else some false) (b && c) := by
  cases b with
  | false => exact Ev.pure _
  | true => exact h rfl
theorem cbx (b : Bool) {α : Type} (x : α) : (bif b then x else x) = x := by cases b <;> rfl

/-! ### Bytes -/
def lowc (b : Int) : Bool := decide (97 ≤ b) && decide (b ≤ 122)
def upc (b : Int) : Bool := decide (65 ≤ b) && decide (b ≤ 90)
def ltr (b : Int) : Bool := upc b || lowc b
def dig (b : Int) : Bool := decide (48 ≤ b) && decide (b ≤ 57)
theorem sLower (b : Int) : spec_l2Lower.F b = some (lowc b) := by
  unfold spec_l2Lower.F lowc
  simp only [ge_iff_le]
  cases decide (97 ≤ b) <;> rfl
theorem sUpper (b : Int) : spec_l2Upper.F b = some (upc b) := by
  unfold spec_l2Upper.F upc
  simp only [ge_iff_le]
  cases decide (65 ≤ b) <;> rfl
theorem sLetter (b : Int) : spec_l2Letter.F b = some (ltr b) := by
  unfold spec_l2Letter.F ltr
  rw [sUpper, sLower]
  cases upc b <;> rfl
theorem iLower (b : Int) : impl_isLower.F b = some (lowc b) := by
  unfold impl_isLower.F lowc
  simp only [ge_iff_le]
  cases decide (97 ≤ b) <;> rfl
theorem iUpper (b : Int) : impl_isUpper.F b = some (upc b) := by
  unfold impl_isUpper.F upc
  simp only [ge_iff_le]
  cases decide (65 ≤ b) <;> rfl
theorem iLetter (b : Int) : impl_isLetter.F b = some (ltr b) := by
  unfold impl_isLetter.F ltr
  rw [iUpper, iLower]
  cases upc b <;> rfl
theorem iDigit (b : Int) : impl_isDigit.F b = some (dig b) := by
  unfold impl_isDigit.F dig
  simp only [ge_iff_le]
  cases decide (48 ≤ b) <;> rfl
def ins (n : Nat) (lo hi : Int) : Bool := decide ((n : Int) ≥ lo) && decide ((n : Int) ≤ hi)
theorem ins_le {n : Nat} {lo hi : Int} (h : ins n lo hi = true) : lo ≤ n ∧ (n : Int) ≤ hi := by
  unfold ins at h
  simp only [Bool.and_eq_true, decide_eq_true_eq] at h
  exact h

/-! ### Keys -/
def kb (s : ByteArray) (i : Nat) : Bool := lowc (bt s i) || dig (bt s i)
def keyB (s : ByteArray) : Bool := ins s.size 1 10 && (lowc (bt s 0) && (List.range' 0 s.size).all (kb s))
theorem specKey_l0 (s : ByteArray) (hs : s.size ≤ 10) : Ev (fun k => spec_l4Key.l0 k s ((0 : Nat) : Int)) (if (List.range' 0 s.size).all (kb s) = true then .inr () else .inl false) := by
  refine loop_all (f := fun k i => spec_l4Key.l0 k s i) (n := s.size) (fun i hi hp => ?_) (fun i r hi hp ih => ?_) ?_ s.size 0 (by omega)
  · refine Ev.step (fun k => by rw [spec_l4Key.l0]) ?_
    unfold kb at hp
    rw [Bool.or_eq_false_iff] at hp
    simp (disch := omega) only [cpos, Int.toNat_natCast]
    refine Ev.bind0 (sLower _) ?_
    rw [hp.1]
    have h2 := hp.2
    unfold dig at h2
    by_cases c : bt s i < 48
    · simp (disch := omega) only [cpos, Bool.not_false, cond_true]
      exact Ev.pure _
    · have c2 : bt s i > 57 := by
        rw [decide_eq_true (show 48 ≤ bt s i by omega), Bool.true_and, decide_eq_false_iff_not] at h2
        omega
      simp (disch := omega) only [cpos, cneg, Bool.not_false, cond_true]
      exact Ev.pure _
  · refine Ev.step (fun k => by rw [spec_l4Key.l0]) ?_
    simp (disch := omega) only [cpos, Int.toNat_natCast]
    refine Ev.bind0 (sLower _) ?_
    cases hl : lowc (bt s i) with
    | true =>
      simp (disch := omega) only [Bool.not_true, cond_false, wrap_in]
      exact ih
    | false =>
      unfold kb at hp
      rw [hl, Bool.false_or] at hp
      unfold dig at hp
      simp only [Bool.and_eq_true, decide_eq_true_eq] at hp
      simp (disch := omega) only [Bool.not_false, cond_true, cpos, cneg, wrap_in]
      exact ih
  · refine Ev.step (fun k => by rw [spec_l4Key.l0]) ?_
    simp (disch := omega) only [cneg]
    exact Ev.pure _
theorem isKey_l0 (s : ByteArray) (hs : s.size ≤ 10) : Ev (fun k => impl_isKey.l0 k s ((0 : Nat) : Int)) (if (List.range' 0 s.size).all (kb s) = true then .inr () else .inl false) := by
  refine loop_all (f := fun k i => impl_isKey.l0 k s i) (n := s.size) (fun i hi hp => ?_) (fun i r hi hp ih => ?_) ?_ s.size 0 (by omega)
  · refine Ev.step (fun k => by rw [impl_isKey.l0]) ?_
    unfold kb at hp
    rw [Bool.or_eq_false_iff] at hp
    simp (disch := omega) only [cpos, Int.toNat_natCast]
    refine Ev.bind0 (iLower _) ?_
    rw [hp.1]
    simp (disch := omega) only [Bool.not_false, cond_true, cpos]
    refine Ev.bind0 (iDigit _) ?_
    rw [hp.2]
    exact Ev.pure _
  · refine Ev.step (fun k => by rw [impl_isKey.l0]) ?_
    simp (disch := omega) only [cpos, Int.toNat_natCast]
    refine Ev.bind0 (iLower _) ?_
    cases hl : lowc (bt s i) with
    | true =>
      simp (disch := omega) only [Bool.not_true, cond_false, wrap_in]
      exact ih
    | false =>
      unfold kb at hp
      rw [hl, Bool.false_or] at hp
      simp (disch := omega) only [Bool.not_false, cond_true, cpos]
      refine Ev.bind0 (iDigit _) ?_
      rw [hp]
      simp (disch := omega) only [Bool.not_true, cond_false, wrap_in]
      exact ih
  · refine Ev.step (fun k => by rw [impl_isKey.l0]) ?_
    simp (disch := omega) only [cneg]
    exact Ev.pure _
theorem specKey_ev (s : ByteArray) : Ev (fun k => spec_l4Key.F k s) (keyB s) := by
  unfold spec_l4Key.F keyB
  refine Ev.bind0 (in_ev _ _ _) (and_step fun h => ?_)
  obtain ⟨h1, h2⟩ := ins_le h
  simp (disch := omega) only [cpos, show (0 : Int).toNat = 0 from rfl]
  refine Ev.bind0 (sLower _) (and_step fun _ => ?_)
  have := specKey_l0 s (by omega)
  cases ha : (List.range' 0 s.size).all (kb s) with
  | true => rw [ha] at this; exact Ev.bind this (Ev.pure _)
  | false => rw [ha] at this; exact Ev.bind this (Ev.pure _)
theorem isKey_ev (s : ByteArray) : Ev (fun k => impl_isKey.F k s) (keyB s) := by
  unfold impl_isKey.F keyB
  refine Ev.bind0 (inside_ev _ _ _) (and_step fun h => ?_)
  obtain ⟨h1, h2⟩ := ins_le h
  simp (disch := omega) only [cpos, show (0 : Int).toNat = 0 from rfl]
  refine Ev.bind0 (iLower _) (and_step fun _ => ?_)
  have := isKey_l0 s (by omega)
  cases ha : (List.range' 0 s.size).all (kb s) with
  | true => rw [ha] at this; exact Ev.bind this (Ev.pure _)
  | false => rw [ha] at this; exact Ev.bind this (Ev.pure _)

/-! ### Words of names -/
def wp (s : ByteArray) (i : Nat) : Bool := ltr (bt s i) || ((bt s i == 45 || bt s i == 39) && ltr (bt s (i - 1)))
def wordB (s : ByteArray) : Bool := ins s.size 1 12 && (ltr (bt s 0) && (ltr (bt s (s.size - 1)) && (List.range' 1 (s.size - 1)).all (wp s)))
theorem wcase {s : ByteArray} {i : Nat} (h : ltr (bt s i) = false) (h1 : bt s i ≠ 45) (h2 : bt s i ≠ 39) : wp s i = false := by
  unfold wp
  rw [h, show (bt s i == 45) = false by simpa using h1, show (bt s i == 39) = false by simpa using h2]; rfl
theorem wcase' {s : ByteArray} {i : Nat} (h : ltr (bt s i) = false) (h1 : bt s i = 45 ∨ bt s i = 39) : wp s i = ltr (bt s (i - 1)) := by
  unfold wp
  rw [h]
  rcases h1 with h1 | h1 <;> rw [h1] <;> simp
theorem specWord_l0 (s : ByteArray) (hs : s.size ≤ 12) : ∀ m i : Nat, i + m = s.size → 1 ≤ i → Ev (fun k => spec_l2Word.l0 k s i) (if (List.range' i m).all (wp s) = true then .inr () else .inl false)
  | 0, i, h, h1 => by
    refine Ev.step (fun k => by rw [spec_l2Word.l0]) ?_
    simp (disch := omega) only [cneg]
    exact Ev.pure _
  | m + 1, i, h, h1 => by
    have ih := specWord_l0 s hs m (i + 1) (by omega) (by omega)
    have et : ((i : Int) - 1).toNat = i - 1 := by omega
    refine Ev.step (fun k => by rw [spec_l2Word.l0]) ?_
    rw [List.range'_succ, List.all_cons]
    simp (disch := omega) only [cpos, Int.toNat_natCast]
    refine Ev.bind0 (sLetter _) ?_
    cases hl : ltr (bt s i) with
    | true =>
      have : wp s i = true := by unfold wp; rw [hl]; rfl
      rw [this]
      simp (disch := omega) only [Bool.not_true, cond_false, Bool.true_and, wrap_in]
      exact ih
    | false =>
      have fin : (bt s i = 45 ∨ bt s i = 39) → Ev (fun k => (spec_l2Letter.F (bt s (i - 1))).bind fun r5 => bif (!r5) then (some (.inl false)) else (spec_l2Word.l0 k s ((i : Int) + 1))) (if (wp s i && (List.range' (i + 1) m).all (wp s)) = true then .inr () else .inl false) := fun hh => by
        refine Ev.bind0 (sLetter _) ?_
        rw [wcase' hl hh]
        cases ltr (bt s (i - 1)) with
        | true => exact ih
        | false => exact Ev.pure _
      by_cases c1 : bt s i = 45
      · simp (disch := first | exact c1 | omega) only [Bool.not_false, cond_true, cpos, cbeq, wrap_in, et]
        exact fin (.inl c1)
      · by_cases c2 : bt s i = 39
        · simp (disch := first | exact c1 | exact c2 | omega) only [Bool.not_false, cond_true, cpos, cbne, cbeq, wrap_in, et]
          exact fin (.inr c2)
        · rw [wcase hl c1 c2]
          simp (disch := first | exact c1 | exact c2 | omega) only [Bool.not_false, cond_true, cpos, cbne]
          exact Ev.pure _
theorem isWord_l0 (s : ByteArray) (hs : s.size ≤ 12) : ∀ m i : Nat, i + m = s.size → 1 ≤ i → Ev (fun k => impl_isNameWord.l0 k s i) (if (List.range' i m).all (wp s) = true then .inr () else .inl false)
  | 0, i, h, h1 => by
    refine Ev.step (fun k => by rw [impl_isNameWord.l0]) ?_
    simp (disch := omega) only [cneg]
    exact Ev.pure _
  | m + 1, i, h, h1 => by
    have ih := isWord_l0 s hs m (i + 1) (by omega) (by omega)
    have et : ((i : Int) - 1).toNat = i - 1 := by omega
    refine Ev.step (fun k => by rw [impl_isNameWord.l0]) ?_
    rw [List.range'_succ, List.all_cons]
    simp (disch := omega) only [cpos, Int.toNat_natCast]
    refine Ev.bind0 (iLetter _) ?_
    cases hl : ltr (bt s i) with
    | true =>
      have : wp s i = true := by unfold wp; rw [hl]; rfl
      rw [this]
      simp (disch := omega) only [Bool.not_true, cond_false, Bool.true_and, wrap_in]
      exact ih
    | false =>
      have fin : (bt s i = 45 ∨ bt s i = 39) → Ev (fun k => (impl_isLetter.F (bt s (i - 1))).bind fun r5 => bif (!r5) then (some (.inl false)) else (impl_isNameWord.l0 k s ((i : Int) + 1))) (if (wp s i && (List.range' (i + 1) m).all (wp s)) = true then .inr () else .inl false) := fun hh => by
        refine Ev.bind0 (iLetter _) ?_
        rw [wcase' hl hh]
        cases ltr (bt s (i - 1)) with
        | true => exact ih
        | false => exact Ev.pure _
      by_cases c1 : bt s i = 45
      · simp (disch := first | exact c1 | omega) only [Bool.not_false, cond_true, cpos, cbeq, wrap_in, et]
        exact fin (.inl c1)
      · by_cases c2 : bt s i = 39
        · simp (disch := first | exact c1 | exact c2 | omega) only [Bool.not_false, cond_true, cpos, cbne, cbeq, wrap_in, et]
          exact fin (.inr c2)
        · rw [wcase hl c1 c2]
          simp (disch := first | exact c1 | exact c2 | omega) only [Bool.not_false, cond_true, cpos, cbne]
          exact Ev.pure _
theorem specWord_ev (s : ByteArray) : Ev (fun k => spec_l2Word.F k s) (wordB s) := by
  unfold spec_l2Word.F wordB
  refine Ev.bind0 (in_ev _ _ _) (and_step fun h => ?_)
  obtain ⟨h1, h2⟩ := ins_le h
  have et : ((s.size : Int) - 1).toNat = s.size - 1 := by omega
  simp (disch := omega) only [cpos, show (0 : Int).toNat = 0 from rfl, wrap_in, et]
  refine Ev.bind0 (sLetter _) (and_step fun _ => ?_)
  refine Ev.bind0 (sLetter _) (and_step fun _ => ?_)
  have := specWord_l0 s (by omega) (s.size - 1) 1 (by omega) (Nat.le_refl _)
  cases ha : (List.range' 1 (s.size - 1)).all (wp s) with
  | true => rw [ha] at this; exact Ev.bind this (Ev.pure _)
  | false => rw [ha] at this; exact Ev.bind this (Ev.pure _)
theorem isWord_ev (s : ByteArray) : Ev (fun k => impl_isNameWord.F k s) (wordB s) := by
  unfold impl_isNameWord.F wordB
  refine Ev.bind0 (inside_ev _ _ _) (and_step fun h => ?_)
  obtain ⟨h1, h2⟩ := ins_le h
  have et : ((s.size : Int) - 1).toNat = s.size - 1 := by omega
  simp (disch := omega) only [cpos, show (0 : Int).toNat = 0 from rfl, wrap_in, et]
  refine (Ev.bind0 (iLetter _) (and_step (c := ltr (bt s 0) && (List.range' 1 (s.size - 1)).all (wp s)) fun _ => ?_)).eq (Bool.and_left_comm _ _ _)
  refine Ev.bind0 (iLetter _) (and_step fun h0 => ?_)
  have := isWord_l0 s (by omega) (s.size - 1) 1 (by omega) (Nat.le_refl _)
  refine Ev.bind (a := if (List.range' 1 (s.size - 1)).all (wp s) = true then .inr () else .inl false) ?_ ?_
  · refine Ev.step (fun k => by rw [impl_isNameWord.l0]) ?_
    simp (disch := omega) only [cpos, show (0 : Int).toNat = 0 from rfl]
    refine Ev.bind0 (iLetter _) ?_
    rw [h0]
    simp (disch := omega) only [Bool.not_true, cond_false, wrap_in]
    exact this
  · cases (List.range' 1 (s.size - 1)).all (wp s) <;> exact Ev.pure _

/-! ### Particles -/
def lowA (s : ByteArray) : Bool := (List.range' 0 s.size).all fun i => lowc (bt s i)
theorem lowA_word {s : ByteArray} (h : lowA s = true) : wordB s = ins s.size 1 12 := by
  unfold lowA at h
  rw [List.all_eq_true] at h
  have hl : ∀ i, i < s.size → ltr (bt s i) = true := fun i hi => by
    unfold ltr
    rw [h i (by rw [List.mem_range'_1]; omega), Bool.or_true]
  unfold wordB
  cases hi : ins s.size 1 12 with
  | false => rfl
  | true =>
    obtain ⟨h1, h2⟩ := ins_le hi
    rw [hl 0 (by omega), hl (s.size - 1) (by omega)]
    have : (List.range' 1 (s.size - 1)).all (wp s) = true := by
      rw [List.all_eq_true]
      intro i hi
      rw [List.mem_range'_1] at hi
      unfold wp
      rw [hl i (by omega)]; rfl
    rw [this]; rfl
def pw (s : ByteArray) : Bool := ins s.size 1 12 && lowA s
theorem pw_eq (s : ByteArray) : (wordB s && lowA s) = pw s := by
  unfold pw
  cases h : lowA s with
  | false => rw [Bool.and_false, Bool.and_false]
  | true => rw [lowA_word h]
def particleB (s : ByteArray) : Bool := decide (s.size = 0) || ((words s).all pw && decide ((words s).length ≤ 2))
theorem empty_eq (s : ByteArray) : beqS s ⟨#[]⟩ = decide (s.size = 0) := by
  rw [← Bool.not_not (b := beqS s ⟨#[]⟩), size_pos]
  by_cases hz : s.size = 0
  · simp [hz]
  · rw [decide_eq_true (by omega : 0 < s.size), decide_eq_false hz]; rfl
theorem specPart_l2 (W : List ByteArray) (i : Nat) (hi : i < W.length) (hs : W[i].size ≤ 1048576) : Ev (fun k => spec_l2Particle.l2 k W i ((0 : Nat) : Int)) (if lowA W[i] = true then .inr (W, (i : Int)) else .inl false) := by
  refine loop_all (f := fun k j => spec_l2Particle.l2 k W i j) (n := W[i].size) (p := fun j => lowc (bt W[i] j)) (fun j hj hp => ?_) (fun j r hj hp ih => ?_) ?_ W[i].size 0 (by omega)
  · refine Ev.step (fun k => by rw [spec_l2Particle.l2]) ?_
    simp (disch := omega) only [cpos, Int.toNat_natCast, getD_at hi]
    refine Ev.bind0 (sLower _) ?_
    rw [hp]
    exact Ev.pure _
  · refine Ev.step (fun k => by rw [spec_l2Particle.l2]) ?_
    simp (disch := omega) only [cpos, Int.toNat_natCast, getD_at hi]
    refine Ev.bind0 (sLower _) ?_
    rw [hp]
    simp (disch := omega) only [Bool.not_true, cond_false, wrap_in]
    exact ih
  · refine Ev.step (fun k => by rw [spec_l2Particle.l2]) ?_
    simp (disch := omega) only [cpos, cneg, Int.toNat_natCast, getD_at hi]
    exact Ev.pure _
theorem isPart_l2 (W : List ByteArray) (w : ByteArray) (n i : Int) (hs : w.size ≤ 1048576) : Ev (fun k => impl_isParticle.l2 k W w ((0 : Nat) : Int) n i) (if lowA w = true then .inr (W, n, i) else .inl false) := by
  refine loop_all (f := fun k j => impl_isParticle.l2 k W w j n i) (n := w.size) (p := fun j => lowc (bt w j)) (fun j hj hp => ?_) (fun j r hj hp ih => ?_) ?_ w.size 0 (by omega)
  · refine Ev.step (fun k => by rw [impl_isParticle.l2]) ?_
    simp (disch := omega) only [cpos, Int.toNat_natCast]
    refine Ev.bind0 (iLower _) ?_
    rw [hp]
    exact Ev.pure _
  · refine Ev.step (fun k => by rw [impl_isParticle.l2]) ?_
    simp (disch := omega) only [cpos, Int.toNat_natCast]
    refine Ev.bind0 (iLower _) ?_
    rw [hp]
    simp (disch := omega) only [Bool.not_true, cond_false, wrap_in]
    exact ih
  · refine Ev.step (fun k => by rw [impl_isParticle.l2]) ?_
    simp (disch := omega) only [cneg]
    exact Ev.pure _
theorem specPart_l0 (W : List ByteArray) (hl : W.length ≤ 1048577) (hW : ∀ x ∈ W, x.size ≤ 1048576) : Ev (fun k => spec_l2Particle.l0 k W ((0 : Nat) : Int)) (if (List.range' 0 W.length).all (fun i => pw (W.getD i ⟨#[]⟩)) = true then .inr W else .inl false) := by
  refine loop_all (f := fun k j => spec_l2Particle.l0 k W j) (n := W.length) (p := fun i => pw (W.getD i ⟨#[]⟩)) (fun j hj hp => ?_) (fun j r hj hp ih => ?_) ?_ W.length 0 (by omega)
  · rw [getD_at hj, ← pw_eq] at hp
    refine Ev.step (fun k => by rw [spec_l2Particle.l0]) ?_
    simp (disch := omega) only [cpos, Int.toNat_natCast, getD_at hj]
    refine Ev.bind (specWord_ev _) ?_
    cases hw : wordB W[j] with
    | false => exact Ev.pure _
    | true =>
      rw [hw, Bool.true_and] at hp
      have := specPart_l2 W j hj (hW _ (List.getElem_mem hj))
      rw [hp] at this
      exact Ev.bind this (Ev.pure _)
  · rw [getD_at hj, ← pw_eq, Bool.and_eq_true] at hp
    refine Ev.step (fun k => by rw [spec_l2Particle.l0]) ?_
    simp (disch := omega) only [cpos, Int.toNat_natCast, getD_at hj]
    refine Ev.bind (specWord_ev _) ?_
    rw [hp.1]
    have := specPart_l2 W j hj (hW _ (List.getElem_mem hj))
    rw [hp.2] at this
    refine Ev.bind (a := .inr (W, (j : Int))) this ?_
    simp (disch := omega) only [wrap_in]
    exact ih
  · refine Ev.step (fun k => by rw [spec_l2Particle.l0]) ?_
    simp (disch := omega) only [cneg]
    exact Ev.pure _
theorem isPart_l0 (W : List ByteArray) (hl : W.length ≤ 1048577) (hW : ∀ x ∈ W, x.size ≤ 1048576) : Ev (fun k => impl_isParticle.l0 k W W.length ((0 : Nat) : Int)) (if (List.range' 0 W.length).all (fun i => pw (W.getD i ⟨#[]⟩)) = true then .inr W else .inl false) := by
  refine loop_all (f := fun k j => impl_isParticle.l0 k W W.length j) (n := W.length) (p := fun i => pw (W.getD i ⟨#[]⟩)) (fun j hj hp => ?_) (fun j r hj hp ih => ?_) ?_ W.length 0 (by omega)
  · rw [getD_at hj] at hp
    unfold pw at hp
    refine Ev.step (fun k => by rw [impl_isParticle.l0]) ?_
    simp (disch := omega) only [cpos, Int.toNat_natCast, getD_at hj]
    refine Ev.bind0 (inside_ev _ _ _) ?_
    cases hw : ins W[j].size 1 12 with
    | false =>
      unfold ins at hw
      rw [hw]
      exact Ev.pure _
    | true =>
      rw [hw, Bool.true_and] at hp
      unfold ins at hw
      rw [hw]
      have := isPart_l2 W W[j] W.length j (hW _ (List.getElem_mem hj))
      rw [hp] at this
      exact Ev.bind this (Ev.pure _)
  · rw [getD_at hj] at hp
    unfold pw at hp
    rw [Bool.and_eq_true] at hp
    obtain ⟨hp1, hp2⟩ := hp
    unfold ins at hp1
    refine Ev.step (fun k => by rw [impl_isParticle.l0]) ?_
    simp (disch := omega) only [cpos, Int.toNat_natCast, getD_at hj]
    refine Ev.bind0 (inside_ev _ _ _) ?_
    rw [hp1]
    have := isPart_l2 W W[j] W.length j (hW _ (List.getElem_mem hj))
    rw [hp2] at this
    refine Ev.bind (a := .inr (W, (W.length : Int), (j : Int))) this ?_
    simp (disch := omega) only [wrap_in]
    exact ih
  · refine Ev.step (fun k => by rw [impl_isParticle.l0]) ?_
    simp (disch := omega) only [cneg]
    exact Ev.pure _
theorem specPart_ev (s : ByteArray) (hs : s.size ≤ 1048576) : Ev (fun k => spec_l2Particle.F k s) (particleB s) := by
  unfold spec_l2Particle.F particleB
  rw [empty_eq]
  cases decide (s.size = 0) with
  | true => exact Ev.pure _
  | false =>
    refine Ev.bind (specSplit_ev s hs) ?_
    have := specPart_l0 (words s) (by have := (words_len s).2; omega) (fun x hx => by have := words_small _ _ x hx; omega)
    rw [range_all (words s) ⟨#[]⟩ pw] at this
    rw [Bool.false_or]
    cases ha : (words s).all pw with
    | true =>
      rw [ha] at this
      refine Ev.bind this ((Ev.pure _).eq ?_)
      rw [Bool.true_and]; exact decide_eq_decide.2 (by omega)
    | false => rw [ha] at this; exact Ev.bind this (Ev.pure _)
theorem isPart_ev (s : ByteArray) (hs : s.size ≤ 1048576) : Ev (fun k => impl_isParticle.F k s) (particleB s) := by
  unfold impl_isParticle.F particleB
  rw [empty_eq]
  cases decide (s.size = 0) with
  | true => exact Ev.pure _
  | false =>
    refine Ev.bind0 (split_ev s hs) ?_
    have := isPart_l0 (words s) (by have := (words_len s).2; omega) (fun x hx => by have := words_small _ _ x hx; omega)
    rw [range_all (words s) ⟨#[]⟩ pw] at this
    rw [Bool.false_or]
    cases ha : (words s).all pw with
    | true =>
      rw [ha] at this
      refine Ev.bind this ((Ev.pure _).eq ?_)
      rw [Bool.true_and]; exact decide_eq_decide.2 (by omega)
    | false => rw [ha] at this; exact Ev.bind this (Ev.pure _)

/-! ### Names -/
def gw (s : ByteArray) : Bool := wordB s && upc (bt s 0)
theorem word_size {s : ByteArray} (h : wordB s = true) : 1 ≤ s.size := by
  unfold wordB at h
  rw [Bool.and_eq_true] at h
  have := (ins_le h.1).1
  omega
theorem isGreat_ev (s : ByteArray) : Ev (fun k => impl_isGreatWord.F k s) (gw s) := by
  unfold impl_isGreatWord.F gw
  refine Ev.bind (isWord_ev s) (and_step' fun h => ?_)
  have := word_size h
  simp (disch := omega) only [cpos, show (0 : Int).toNat = 0 from rfl]
  exact Ev.bind0 (iUpper _) (Ev.pure _)
def suffB (s : ByteArray) : Bool := decide (s.size = 0) || wordB s
def nameB (n : Name) : Bool := n.given.all gw && (decide (n.given.length ≤ 3) && (particleB n.particle && (gw n.family && suffB n.suffix)))
theorem specGood_l0 (n : Name) (hn : n.given.length ≤ 1048576) : Ev (fun k => spec_l2Good.l0 k n ((0 : Nat) : Int)) (if (List.range' 0 n.given.length).all (fun i => gw (n.given.getD i ⟨#[]⟩)) = true then .inr n else .inl false) := by
  refine loop_all (f := fun k j => spec_l2Good.l0 k n j) (n := n.given.length) (p := fun i => gw (n.given.getD i ⟨#[]⟩)) (fun j hj hp => ?_) (fun j r hj hp ih => ?_) ?_ n.given.length 0 (by omega)
  · rw [getD_at hj] at hp
    unfold gw at hp
    refine Ev.step (fun k => by rw [spec_l2Good.l0]) ?_
    simp (disch := omega) only [cpos, Int.toNat_natCast, getD_at hj]
    refine Ev.bind (specWord_ev _) ?_
    cases hw : wordB n.given[j] with
    | false => exact Ev.pure _
    | true =>
      rw [hw, Bool.true_and] at hp
      have := word_size hw
      simp (disch := omega) only [cpos, show (0 : Int).toNat = 0 from rfl, Bool.not_true, cond_false]
      refine Ev.bind0 (sUpper _) ?_
      rw [hp]
      exact Ev.pure _
  · rw [getD_at hj] at hp
    unfold gw at hp
    rw [Bool.and_eq_true] at hp
    have := word_size hp.1
    refine Ev.step (fun k => by rw [spec_l2Good.l0]) ?_
    simp (disch := omega) only [cpos, Int.toNat_natCast, getD_at hj]
    refine Ev.bind (specWord_ev _) ?_
    rw [hp.1]
    simp (disch := omega) only [cpos, show (0 : Int).toNat = 0 from rfl, Bool.not_true, cond_false]
    refine Ev.bind0 (sUpper _) ?_
    rw [hp.2]
    simp (disch := omega) only [Bool.not_true, cond_false, wrap_in]
    exact ih
  · refine Ev.step (fun k => by rw [spec_l2Good.l0]) ?_
    simp (disch := omega) only [cneg]
    exact Ev.pure _
theorem specName_ev (n : Name) (hs : smallN n) : Ev (fun k => spec_l2Good.F k n) (nameB n) := by
  have hg : n.given.length ≤ 1048576 := by unfold smallN totN at hs; omega
  have hp : n.particle.size ≤ 1048576 := by unfold smallN totN at hs; omega
  unfold spec_l2Good.F nameB
  have := specGood_l0 n hg
  rw [range_all n.given ⟨#[]⟩ gw] at this
  cases ha : n.given.all gw with
  | false => rw [ha] at this; exact Ev.bind this (Ev.pure _)
  | true =>
    rw [ha] at this
    refine Ev.bind (a := .inr n) this ?_
    dsimp only
    rw [Bool.true_and, show decide (n.given.length ≤ 3) = decide ((n.given.length : Int) ≤ 3) from decide_eq_decide.2 (by omega)]
    refine and_step' fun _ => ?_
    refine Ev.bind (specPart_ev _ hp) (and_step' fun _ => ?_)
    unfold gw
    rw [Bool.and_assoc]
    refine Ev.bind (specWord_ev _) (and_step' fun h => ?_)
    have := word_size h
    simp (disch := omega) only [cpos, show (0 : Int).toNat = 0 from rfl]
    refine Ev.bind0 (sUpper _) (and_step' fun _ => ?_)
    unfold suffB
    rw [empty_eq]
    cases decide (n.suffix.size = 0) with
    | true => exact Ev.pure _
    | false => exact Ev.bind (specWord_ev _) (Ev.pure _)
theorem isName_ev (n : Name) (hs : smallN n) : Ev (fun k => impl_IsValidName.F k n) (nameB n) := by
  have hg : n.given.length ≤ 1048576 := by unfold smallN totN at hs; omega
  have hp : n.particle.size ≤ 1048576 := by unfold smallN totN at hs; omega
  unfold impl_IsValidName.F nameB
  by_cases c : n.given.length ≤ 3
  · simp (disch := omega) only [cneg, dpos, Bool.true_and]
    have hq : ∀ x, x ∈ n.given → Ev (fun k => impl_IsValidName_1.F k x) (!gw x) := fun x _ => by
      unfold impl_IsValidName_1.F
      exact Ev.bind (isGreat_ev x) (Ev.pure _)
    obtain ⟨r, h1, h2⟩ := idx_ev (d := (⟨#[]⟩ : ByteArray)) (p := fun x => !gw x) (q := impl_IsValidName_1.F) (xs := n.given) (l0 := slices_IndexFunc_string_f117.l0) (fun k x0 x7 x8 => by rw [slices_IndexFunc_string_f117.l0]) hq (by omega) (F := slices_IndexFunc_string_f117.F) (fun k a0 => rfl)
    refine Ev.bind (a := !n.given.all gw) ?_ ?_
    · unfold slices_ContainsFunc_string_f117.F
      refine Ev.bind h1 ((Ev.pure _).eq ?_)
      rcases h2 with ⟨rfl, h2⟩ | ⟨j, rfl, hj, hp, _⟩
      · have : n.given.all gw = true := List.all_eq_true.2 fun x hx => by have := h2 x hx; simpa using this
        rw [this]; rfl
      · have : n.given.all gw = false := by
          rw [List.all_eq_false]
          refine ⟨n.given[j], List.getElem_mem hj, ?_⟩
          rw [getD_at hj] at hp
          simpa using hp
        rw [this, decide_eq_true (by omega)]; rfl
    · cases n.given.all gw with
      | false => exact Ev.pure _
      | true =>
        rw [Bool.true_and]
        refine Ev.bind (isPart_ev _ hp) (and_step' fun _ => ?_)
        refine Ev.bind (isGreat_ev _) (and_step' fun _ => ?_)
        unfold suffB
        rw [empty_eq]
        cases decide (n.suffix.size = 0) with
        | true => exact Ev.pure _
        | false => exact Ev.bind (isWord_ev _) (Ev.pure _)
  · simp (disch := omega) only [cpos, dneg, Bool.false_and, Bool.and_false]
    exact Ev.pure _
def namesB (l : List Name) : Bool := l.all nameB && decide (l.length ≤ 4)
theorem specList_l0 (l : List Name) (hl : l.length ≤ 1048576) (hs : ∀ n ∈ l, smallN n) : ∀ m i : Nat, i + m = l.length → ∃ r, Ev (fun k => spec_l2List.l0 k l i) r ∧ (r = .inl false ∨ r = .inr l) ∧ (l.length ≤ 4 → r = if (l.drop i).all nameB = true then .inr l else .inl false)
  | 0, i, h => by
    refine ⟨.inr l, Ev.step (fun k => by rw [spec_l2List.l0]) ?_, .inr rfl, fun _ => by rw [List.drop_eq_nil_of_le (by omega)]; rfl⟩
    simp (disch := omega) only [cneg]
    exact Ev.pure _
  | m + 1, i, h => by
    have hi : i < l.length := by omega
    by_cases c4 : (i : Int) ≤ 4
    · cases hn : nameB l[i] with
      | false =>
        refine ⟨.inl false, Ev.step (fun k => by rw [spec_l2List.l0]) ?_, .inl rfl, fun _ => by rw [List.drop_eq_getElem_cons hi, List.all_cons, hn]; rfl⟩
        simp (disch := omega) only [cpos, Int.toNat_natCast, getD_at hi]
        refine Ev.bind (specName_ev _ (hs _ (List.getElem_mem hi))) ?_
        rw [hn]
        exact Ev.pure _
      | true =>
        obtain ⟨r, h1, h2, h3⟩ := specList_l0 l hl hs m (i + 1) (by omega)
        refine ⟨r, Ev.step (fun k => by rw [spec_l2List.l0]) ?_, h2, fun h4 => by rw [h3 h4, List.drop_eq_getElem_cons hi, List.all_cons, hn, Bool.true_and]⟩
        simp (disch := omega) only [cpos, Int.toNat_natCast, getD_at hi]
        refine Ev.bind (specName_ev _ (hs _ (List.getElem_mem hi))) ?_
        rw [hn]
        simp (disch := omega) only [Bool.not_true, cond_false, wrap_in]
        exact h1
    · refine ⟨.inr l, Ev.step (fun k => by rw [spec_l2List.l0]) ?_, .inr rfl, fun h4 => by omega⟩
      simp (disch := omega) only [cpos, cneg]
      exact Ev.pure _
theorem specNames_ev (l : List Name) (hl : totNs l ≤ 1048576) : Ev (fun k => spec_l2List.F k l) (namesB l) := by
  unfold spec_l2List.F namesB
  obtain ⟨r, h1, h2, h3⟩ := specList_l0 l (smallNs_len hl) (fun n hn => smallNs_at hl hn) l.length 0 (by omega)
  rw [List.drop_zero] at h3
  have e : decide (l.length ≤ 4) = decide ((l.length : Int) ≤ 4) := decide_eq_decide.2 (by omega)
  rw [e]
  by_cases c : l.length ≤ 4
  · rw [h3 c] at h1
    cases ha : l.all nameB with
    | true => rw [ha] at h1; exact Ev.bind h1 (Ev.pure _)
    | false => rw [ha] at h1; exact Ev.bind h1 (Ev.pure _)
  · rw [decide_eq_false (show ¬ (l.length : Int) ≤ 4 by omega), Bool.and_false]
    rcases h2 with rfl | rfl
    · exact Ev.bind h1 (Ev.pure _)
    · exact Ev.bind h1 ((Ev.pure _).eq (decide_eq_false (by omega)))
theorem areNames_ev (l : List Name) (hl : totNs l ≤ 1048576) : Ev (fun k => impl_areNames.F k l) (namesB l) := by
  have hlen := smallNs_len hl
  unfold impl_areNames.F namesB
  by_cases c : l.length ≤ 4
  · simp (disch := omega) only [cpos, dpos, Bool.and_true]
    have hq : ∀ x, x ∈ l → Ev (fun k => impl_areNames_1.F k x) (!nameB x) := fun x hx => by
      unfold impl_areNames_1.F
      exact Ev.bind (isName_ev x (smallNs_at hl hx)) (Ev.pure _)
    obtain ⟨r, h1, h2⟩ := idx_ev (d := (dflt .name : Name)) (p := fun x => !nameB x) (q := impl_areNames_1.F) (xs := l) (l0 := slices_IndexFunc_Name_f101.l0) (fun k x0 x7 x8 => by rw [slices_IndexFunc_Name_f101.l0]) hq (by omega) (F := slices_IndexFunc_Name_f101.F) (fun k a0 => rfl)
    refine Ev.bind (a := !l.all nameB) ?_ ?_
    · unfold slices_ContainsFunc_Name_f101.F
      refine Ev.bind h1 ((Ev.pure _).eq ?_)
      rcases h2 with ⟨rfl, h2⟩ | ⟨j, rfl, hj, hp, _⟩
      · have : l.all nameB = true := List.all_eq_true.2 fun x hx => by have := h2 x hx; simpa using this
        rw [this]; rfl
      · have : l.all nameB = false := by
          rw [List.all_eq_false]
          refine ⟨l[j], List.getElem_mem hj, ?_⟩
          rw [getD_at hj] at hp
          simpa using hp
        rw [this, decide_eq_true (by omega)]; rfl
    · rw [Bool.not_not]; exact Ev.pure _
  · simp (disch := omega) only [cneg, dneg, Bool.and_false]
    exact Ev.pure _

/-! ### Dates -/
theorem days_eq (y m : Int) (hy : 0 ≤ y) : ∃ r, spec_l3Days.F y m = some r ∧ impl_daysInMonth.F y m = some r := by
  have e1 : Int.tmod y 4 = y % 4 := Int.tmod_eq_emod_of_nonneg hy
  have e2 : Int.tmod y 100 = y % 100 := Int.tmod_eq_emod_of_nonneg hy
  have e3 : Int.tmod y 400 = y % 400 := Int.tmod_eq_emod_of_nonneg hy
  have z1 : ((4 : Nat) == 0) = false := rfl
  have z2 : ((100 : Nat) == 0) = false := rfl
  have z3 : ((400 : Nat) == 0) = false := rfl
  unfold spec_l3Days.F impl_daysInMonth.F
  rw [e1, e2, e3]
  by_cases c2 : m = 2
  · by_cases d1 : y % 4 = 0
    · by_cases d2 : y % 100 = 0
      · by_cases d3 : y % 400 = 0
        · exact ⟨29, by simp (disch := first | assumption | omega) only [ceq, cbeq, z1, z2, z3, cond_false], by simp (disch := first | assumption | omega) only [ceq, cbeq, z1, z2, z3, cond_false]⟩
        · exact ⟨28, by simp (disch := first | assumption | omega) only [ceq, cne, cbeq, z1, z2, z3, cond_false], by simp (disch := first | assumption | omega) only [ceq, cne, cbeq, z1, z2, z3, cond_false]⟩
      · exact ⟨29, by simp (disch := first | assumption | omega) only [ceq, cbne, z1, z2, z3, cond_false], by simp (disch := first | assumption | omega) only [ceq, cbne, z1, z2, z3, cond_false]⟩
    · have d3 : y % 400 ≠ 0 := by omega
      exact ⟨28, by simp (disch := first | assumption | omega) only [ceq, cne, z1, z2, z3, cond_false], by simp (disch := first | assumption | omega) only [ceq, cne, z1, z2, z3, cond_false]⟩
  · by_cases a : m = 4
    · exact ⟨30, by simp (disch := first | assumption | omega) only [ceq, cne], by simp (disch := first | assumption | omega) only [ceq, cne]⟩
    · by_cases b : m = 6
      · exact ⟨30, by simp (disch := first | assumption | omega) only [ceq, cne], by simp (disch := first | assumption | omega) only [ceq, cne]⟩
      · by_cases c : m = 9
        · exact ⟨30, by simp (disch := first | assumption | omega) only [ceq, cne], by simp (disch := first | assumption | omega) only [ceq, cne]⟩
        · by_cases d : m = 11
          · exact ⟨30, by simp (disch := first | assumption | omega) only [ceq, cne], by simp (disch := first | assumption | omega) only [ceq, cne]⟩
          · exact ⟨31, by simp (disch := first | assumption | omega) only [cne], by simp (disch := first | assumption | omega) only [cne]⟩
theorem date_eq2 (d : Date) : ∃ b, spec_l3Good.F d = some b ∧ impl_IsValidDate.F d = some b := by
  unfold spec_l3Good.F impl_IsValidDate.F
  cases (d.y == 0 && (d.m == 0 && (d.d == 0 && d.c == false))) with
  | true => exact ⟨true, rfl, rfl⟩
  | false =>
    rw [in_ev, inside_ev]
    simp only [Option.bind_some, cond_false]
    cases h1 : (decide (d.y ≥ 1) && decide (d.y ≤ 2999)) with
    | false => exact ⟨false, rfl, rfl⟩
    | true =>
      have hy : 0 ≤ d.y := by
        simp only [Bool.and_eq_true, decide_eq_true_eq] at h1; omega
      rw [in_ev, inside_ev]
      simp only [Option.bind_some, Bool.not_true, cond_false]
      cases h2 : (decide (d.m ≥ 0) && decide (d.m ≤ 12)) with
      | false => exact ⟨false, rfl, rfl⟩
      | true =>
        obtain ⟨r, r1, r2⟩ := days_eq d.y d.m hy
        rw [r1, r2]
        simp only [Option.bind_some, Bool.not_true, cond_false, in_ev, inside_ev]
        cases d.c with
        | true =>
          by_cases c : d.m = 0
          · exact ⟨d.d == 0, by simp (disch := first | assumption | omega) only [cond_true, ceq], by simp (disch := first | assumption | omega) only [cond_true, ceq, cbeq]⟩
          · exact ⟨false, by simp (disch := first | assumption | omega) only [cond_true, cne], by simp (disch := first | assumption | omega) only [cond_true, cbne]⟩
        | false => exact ⟨bif d.m == 0 then (d.d == 0) else (decide (d.d ≥ 0) && decide (d.d ≤ r)), by cases (d.m == 0) <;> rfl, by cases (d.m == 0) <;> rfl⟩
open Classical in
noncomputable def dateB (d : Date) : Bool := (date_eq2 d).choose
theorem specDate_ev (d : Date) : spec_l3Good.F d = some (dateB d) := (date_eq2 d).choose_spec.1
theorem isDate_ev (d : Date) : impl_IsValidDate.F d = some (dateB d) := (date_eq2 d).choose_spec.2

/-! ### Entries -/
def insI (n lo hi : Int) : Bool := decide (n ≥ lo) && decide (n ≤ hi)
def crossB (e : Entry) : Bool := decide (e.cross.size = 0) || (keyB e.cross && !beqS e.cross e.key)
noncomputable def entryB (e : Entry) : Bool := keyB e.key && (insI e.kind 1 4 && (namesB e.authors && (namesB e.editors && (textB e.title && (textB e.container && (textB e.publisher && (textB e.pages && (dateB e.date && (insI e.volume 0 9999 && crossB e)))))))))
theorem specEntry_ev (e : Entry) (hs : smallE e) : Ev (fun k => spec_l4Entry.F k e) (entryB e) := by
  unfold spec_l4Entry.F entryB
  refine Ev.bind (specKey_ev _) (and_step fun _ => ?_)
  refine Ev.bind0 (in_ev _ _ _) (and_step fun _ => ?_)
  refine Ev.bind (specNames_ev _ (smallE_a hs)) (and_step fun _ => ?_)
  refine Ev.bind (specNames_ev _ (smallE_e hs)) (and_step fun _ => ?_)
  refine Ev.bind (specText_ev _) (and_step fun _ => ?_)
  refine Ev.bind (specText_ev _) (and_step fun _ => ?_)
  refine Ev.bind (specText_ev _) (and_step fun _ => ?_)
  refine Ev.bind (specText_ev _) (and_step fun _ => ?_)
  refine Ev.bind0 (specDate_ev _) (and_step' fun _ => ?_)
  refine Ev.bind0 (in_ev _ _ _) (and_step' fun _ => ?_)
  unfold crossB
  rw [empty_eq]
  cases decide (e.cross.size = 0) with
  | true => exact Ev.pure _
  | false =>
    refine (Ev.bind (specKey_ev _) (and_step' fun _ => ?_)).eq (Bool.false_or _).symm
    exact Ev.pure _
theorem isEntry_ev (e : Entry) (hs : smallE e) : Ev (fun k => impl_IsValidEntry.F k e) (entryB e) := by
  have key : Ev (fun k => impl_IsValidEntry.F k e) (keyB e.key && (insI e.kind 1 4 && (namesB e.authors && (namesB e.editors && (dateB e.date && (insI e.volume 0 9999 && (textB e.title && (textB e.container && (textB e.publisher && (textB e.pages && crossB e)))))))))) := by
    unfold impl_IsValidEntry.F
    refine Ev.bind (isKey_ev _) (and_step fun _ => ?_)
    refine Ev.bind0 (a := insI e.kind 1 4) ?_ (and_step fun _ => ?_)
    · unfold impl_isKind.F; rw [inside_ev]; rfl
    refine Ev.bind (areNames_ev _ (smallE_a hs)) (and_step fun _ => ?_)
    refine Ev.bind (areNames_ev _ (smallE_e hs)) (and_step fun _ => ?_)
    refine Ev.bind0 (isDate_ev _) (and_step fun _ => ?_)
    refine Ev.bind0 (inside_ev _ _ _) (and_step fun _ => ?_)
    refine Ev.bind (isText_ev _) (and_step' fun _ => ?_)
    refine Ev.bind (isText_ev _) (and_step' fun _ => ?_)
    refine Ev.bind (isText_ev _) (and_step' fun _ => ?_)
    refine Ev.bind (isText_ev _) (and_step' fun _ => ?_)
    unfold crossB
    rw [empty_eq]
    cases decide (e.cross.size = 0) with
    | true => exact Ev.pure _
    | false =>
      refine (Ev.bind (isKey_ev _) (and_step' fun _ => ?_)).eq (Bool.false_or _).symm
      exact Ev.pure _
  refine key.eq ?_
  unfold entryB
  ac_rfl

/-! ### Libraries -/
noncomputable def okL (l : Library) (i : Nat) : Bool := entryB (l.entries.getD i (dflt .entry)) && (decide (i = 0) || ltS (l.entries.getD (i - 1) (dflt .entry)).key (l.entries.getD i (dflt .entry)).key)
noncomputable def libB (l : Library) : Bool := (List.range' 0 l.entries.length).all (okL l) && decide (l.entries.length ≤ 8)
theorem libB_len {l : Library} (h : libB l = true) : l.entries.length ≤ 8 := by
  unfold libB at h
  rw [Bool.and_eq_true, decide_eq_true_eq] at h
  exact h.2
end Go.Proofs.YtfnibdpepbgamaaGreatDoor
end
section
/- The fields of an entry as texts: both ways to write them answer alike. -/
namespace Go.Proofs.YtfnibdpepbgamaaGreatDoor
open Go.Gx
set_option linter.unusedVariables false
set_option linter.unusedSimpArgs false

/-! ### Texts joined -/
def nonE (x : ByteArray) : Bool := !beqS x ⟨#[]⟩
theorem nonE_no {x : ByteArray} (h : nonE x = false) : x = ⟨#[]⟩ := by
  unfold nonE at h
  exact beqS_iff.1 (by simpa using h)
theorem nonE_pos {x : ByteArray} (h : 1 ≤ x.size) : nonE x = true := by
  unfold nonE; rw [size_pos]; exact decide_eq_true h
def joinT (sep : List UInt8) (xs : List ByteArray) : ByteArray := ⟨(Lib.join (xs.map L) sep).toArray⟩
theorem L_joinT (sep : List UInt8) (xs : List ByteArray) : L (joinT sep xs) = Lib.join (xs.map L) sep := by unfold joinT; exact L_mk _
theorem tail_len (sep : List UInt8) : ∀ xs : List ByteArray, (Lib.joinTail sep (xs.map L)).length = totS xs + sep.length * xs.length
  | [] => by simp [Lib.joinTail, totS]
  | x :: r => by
    have := tail_len sep r
    simp only [Lib.joinTail, totS, List.map_cons, List.flatten_cons, List.length_append, List.sum_cons, List.length_cons, L_size] at this ⊢
    rw [this, Nat.mul_succ]; omega
theorem joinT_size (sep : List UInt8) (xs : List ByteArray) : (joinT sep xs).size ≤ totS xs + sep.length * xs.length := by
  rw [← L_size, L_joinT]
  cases xs with
  | nil => simp [Lib.join_nil]
  | cons x r =>
    rw [List.map_cons, Lib.join_cons, List.length_append, tail_len, L_size]
    simp only [totS, List.map_cons, List.sum_cons, List.length_cons, Nat.mul_succ]
    omega
theorem xJoin_eq (sep : ByteArray) (xs : List ByteArray) (h1 : xs.length ≤ 4194304) (h2 : totS xs ≤ 8388608) (h3 : sep.size ≤ 2) : xJoin xs sep = some (joinT (L sep) xs) := by
  unfold xJoin
  have hl : (Lib.join (xs.map (·.data.toList)) sep.data.toList).length ≤ 140737488355328 := by
    have := joinT_size (L sep) xs
    rw [← L_size, L_joinT, L_size] at this
    have h4 : sep.size * xs.length ≤ 2 * xs.length := Nat.mul_le_mul_right _ h3
    exact Nat.le_trans this (by omega)
  rw [Nat.ble_eq_true_of_le (by omega : xs.length ≤ 140737488355328), Nat.ble_eq_true_of_le hl]
  rfl
def jn : ByteArray → List ByteArray → ByteArray
  | s, [] => s
  | s, x :: r => jn (bif nonE s then (bif nonE x then (s ++ ⟨#[32]⟩) ++ x else s ++ x) else s ++ x) r
theorem nonE_app {s t : ByteArray} (h : nonE s = true) : nonE (s ++ t) = true := by
  unfold nonE at h ⊢
  rw [size_pos] at h ⊢
  have := of_decide_eq_true h
  rw [size_app]
  exact decide_eq_true (by omega)
theorem app_empty (s : ByteArray) : s ++ (⟨#[]⟩ : ByteArray) = s := by apply L_inj; rw [L_append]; simp [L]
theorem empty_app (s : ByteArray) : (⟨#[]⟩ : ByteArray) ++ s = s := by apply L_inj; rw [L_append]; simp [L]
theorem L_jn : ∀ (r : List ByteArray) (s : ByteArray), (nonE s = true → L (jn s r) = L s ++ Lib.joinTail [32] ((r.filter nonE).map L)) ∧ (nonE s = false → L (jn s r) = Lib.join ((r.filter nonE).map L) [32])
  | [], s => ⟨fun _ => by simp [jn, Lib.joinTail], fun h => by rw [nonE_no h]; rfl⟩
  | x :: r, s => by
    refine ⟨fun h => ?_, fun h => ?_⟩
    · simp only [jn, h, cond_true]
      cases hx : nonE x with
      | true =>
        simp only [cond_true]
        rw [(L_jn r _).1 (nonE_app (nonE_app h)), List.filter_cons_of_pos hx, List.map_cons, tail_cons, L_append, L_append, L32]
        simp
      | false =>
        rw [List.filter_cons_of_neg (by simp [hx]), nonE_no hx]
        simp only [cond_false, app_empty]
        exact (L_jn r _).1 h
    · simp only [jn, h, cond_false]
      rw [nonE_no h, empty_app]
      cases hx : nonE x with
      | true => rw [(L_jn r x).1 hx, List.filter_cons_of_pos hx, List.map_cons, Lib.join_cons]
      | false =>
        rw [List.filter_cons_of_neg (by simp [hx])]
        exact (L_jn r x).2 hx
theorem totS_drop {xs : List ByteArray} {i : Nat} (hi : i < xs.length) : totS (xs.drop i) = xs[i].size + totS (xs.drop (i + 1)) := by
  rw [List.drop_eq_getElem_cons hi]; simp only [totS, List.map_cons, List.sum_cons]
theorem l2Join_l0 (xs : List ByteArray) (hlen : xs.length ≤ 4194304) : ∀ n i : Nat, i + n = xs.length → ∀ s : ByteArray, s.size + n + totS (xs.drop i) ≤ 1099511627776 → Ev (fun k => spec_l2Join.l0 k xs s i) (jn s (xs.drop i))
  | 0, i, h, s, hs => by
    rw [List.drop_eq_nil_of_le (by omega)]
    refine Ev.step (fun k => by rw [spec_l2Join.l0]) ?_
    simp (disch := omega) only [cneg]
    exact Ev.pure _
  | n + 1, i, h, s, hs => by
    have hi : i < xs.length := by omega
    rw [totS_drop hi] at hs
    rw [List.drop_eq_getElem_cons hi]
    simp only [jn]
    refine Ev.step (fun k => by rw [spec_l2Join.l0]) ?_
    have ih := fun s hs => l2Join_l0 xs hlen n (i + 1) (by omega) s hs
    have e1 : (⟨#[32]⟩ : ByteArray).size = 1 := rfl
    have hb1 : (!beqS s ⟨#[]⟩) = nonE s := rfl
    have hb2 : (!beqS xs[i] ⟨#[]⟩) = nonE xs[i] := rfl
    simp (disch := omega) only [cpos, Int.toNat_natCast, getD_at hi, hb1, hb2, wrap_in, cble, size_app, e1]
    cases nonE s with
    | false => exact ih _ (by rw [size_app]; omega)
    | true =>
      cases nonE xs[i] with
      | false => exact ih _ (by rw [size_app]; omega)
      | true => exact ih _ (by rw [size_app, size_app, e1]; omega)
theorem l2Join_ev (xs : List ByteArray) (hlen : xs.length ≤ 4194304) (ht : totS xs ≤ 8388608) : Ev (fun k => spec_l2Join.F k xs) (joinT [32] (xs.filter nonE)) := by
  unfold spec_l2Join.F
  have := l2Join_l0 xs hlen xs.length 0 (by omega) ⟨#[]⟩ (by rw [List.drop_zero, show (⟨#[]⟩ : ByteArray).size = 0 from rfl]; omega)
  refine Ev.bind this ((Ev.pure _).eq ?_)
  apply L_inj
  rw [List.drop_zero, (L_jn xs ⟨#[]⟩).2 (by unfold nonE; rw [beqS_self]; rfl), L_joinT]
theorem totS_filter (p : ByteArray → Bool) : ∀ xs : List ByteArray, totS (xs.filter p) ≤ totS xs
  | [] => Nat.le_refl _
  | x :: r => by
    have := totS_filter p r
    cases h : p x with
    | true => rw [List.filter_cons_of_pos h]; simp only [totS, List.map_cons, List.sum_cons] at this ⊢; omega
    | false => rw [List.filter_cons_of_neg (by simp [h])]; simp only [totS, List.map_cons, List.sum_cons] at this ⊢; omega
theorem spaced_ev (xs : List ByteArray) (hlen : xs.length ≤ 4194304) (ht : totS xs ≤ 8388608) : Ev (fun k => impl_spaced.F k xs) (joinT [32] (xs.filter nonE)) := by
  unfold impl_spaced.F
  have hq : ∀ x, x ∈ xs → Ev (fun _ => impl_spaced_1.F x) (beqS x ⟨#[]⟩) := fun x _ => Ev.pure _
  have hdel := delete_ev (d := (⟨#[]⟩ : ByteArray)) (p := fun x => beqS x ⟨#[]⟩) (q := fun _ x => impl_spaced_1.F x) (xs := xs) (l0 := slices_DeleteFunc_string_f143.l0) (fun k x0 x5 x6 => by rw [slices_DeleteFunc_string_f143.l0]) hq (by omega) (I := slices_IndexFunc_string_f143.F) (F := slices_DeleteFunc_string_f143.F)
    (idx_ev (d := (⟨#[]⟩ : ByteArray)) (p := fun x => beqS x ⟨#[]⟩) (q := fun _ x => impl_spaced_1.F x) (l0 := slices_IndexFunc_string_f143.l0) (fun k x0 x7 x8 => by rw [slices_IndexFunc_string_f143.l0]) hq (by omega) (fun k a0 => rfl)) (fun k a0 => rfl)
  refine Ev.bind hdel (Ev.bind0 ?_ (Ev.pure _))
  have hf : (xs.filter nonE).length ≤ xs.length := List.length_filter_le _ _
  exact xJoin_eq ⟨#[32]⟩ (xs.filter nonE) (by omega) (by have := totS_filter nonE xs; omega) (by decide)

/-! ### Names -/
def cs2 : ByteArray := ⟨#[44, 32]⟩
def invT (n : Name) : ByteArray :=
  let r1 := joinT [32] ([n.particle, n.family].filter nonE)
  let r2 := bif decide ((n.given.length : Int) > 0) || nonE n.suffix then (r1 ++ cs2) ++ joinT [32] n.given else r1
  bif nonE n.suffix then (r2 ++ cs2) ++ n.suffix else r2
theorem given_all {n : Name} (h : nameB n = true) : n.given.filter nonE = n.given := by
  unfold nameB at h
  simp only [Bool.and_eq_true] at h
  refine List.filter_eq_self.2 fun x hx => ?_
  have := List.all_eq_true.1 h.1 x hx
  unfold gw at this
  simp only [Bool.and_eq_true] at this
  exact nonE_pos (word_size this.1)
theorem small_parts {n : Name} (hs : smallN n) : n.given.length + totS n.given + n.particle.size + n.family.size + n.suffix.size ≤ 1048576 := hs
theorem tot2 (a b : ByteArray) : totS [a, b] = a.size + b.size := by simp [totS]
theorem r1_size (n : Name) : (joinT [32] ([n.particle, n.family].filter nonE)).size ≤ n.particle.size + n.family.size + 2 := by
  have h1 := joinT_size [32] ([n.particle, n.family].filter nonE)
  have h2 := totS_filter nonE [n.particle, n.family]
  have h3 : ([n.particle, n.family].filter nonE).length ≤ 2 := List.length_filter_le _ _
  rw [tot2] at h2
  simp only [List.length_singleton, Nat.one_mul] at h1
  omega
theorem gv_size (n : Name) : (joinT [32] n.given).size ≤ totS n.given + n.given.length := by
  have h1 := joinT_size [32] n.given
  simpa using h1
theorem invT_size (n : Name) (hs : smallN n) : (invT n).size ≤ 1048590 := by
  have h1 := r1_size n
  have h2 := gv_size n
  have h3 := small_parts hs
  have e2 : cs2.size = 2 := rfl
  unfold invT
  dsimp only
  cases nonE n.suffix <;> cases decide ((n.given.length : Int) > 0) <;> simp only [Bool.or_true, Bool.or_false, cond_true, cond_false, Bool.true_or, Bool.false_or, size_app, e2] <;> omega
theorem app_assoc (a b c : ByteArray) : (a ++ b) ++ c = a ++ (b ++ c) := by apply L_inj; simp only [L_append, List.append_assoc]
theorem specInv_ev (n : Name) (hs : smallN n) (hv : nameB n = true) : Ev (fun k => spec_l2Inverse.F k n) (invT n) := by
  have h3 := small_parts hs
  have h1 := r1_size n
  have h2 := gv_size n
  have hj := l2Join_ev [n.particle, n.family] (by simp) (by rw [tot2]; omega)
  have hg := l2Join_ev n.given (by omega) (by omega)
  rw [given_all hv] at hg
  have hg' : Ev (fun k => spec_l2Given.F k n) (joinT [32] n.given) := by unfold spec_l2Given.F; exact Ev.bind hg (Ev.pure _)
  unfold spec_l2Inverse.F invT
  refine Ev.bind hj ?_
  have e2 : (⟨#[44, 32]⟩ : ByteArray).size = 2 := rfl
  have hb : (!beqS n.suffix ⟨#[]⟩) = nonE n.suffix := rfl
  simp (disch := omega) only [hb, size_app, e2, cble]
  cases hx : decide ((n.given.length : Int) > 0) with
  | true =>
    simp only [cond_true, Bool.true_or]
    refine Ev.bind hg' ?_
    simp (disch := omega) only [size_app, e2, cble]
    cases nonE n.suffix <;> exact Ev.pure _
  | false =>
    cases nonE n.suffix with
    | false => exact Ev.pure _
    | true =>
      simp only [cond_true, cond_false, Bool.or_true]
      refine Ev.bind hg' ?_
      simp (disch := omega) only [size_app, e2, cble]
      exact Ev.pure _
theorem implInv_ev (n : Name) (hs : smallN n) : Ev (fun k => impl_inverseForm.F k n) (invT n) := by
  have h3 := small_parts hs
  have h1 := r1_size n
  have h2 := gv_size n
  have hj := spaced_ev [n.particle, n.family] (by simp) (by rw [tot2]; omega)
  have hg : strings_Join.F n.given ⟨#[32]⟩ = some (joinT [32] n.given) := xJoin_eq ⟨#[32]⟩ n.given (by omega) (by omega) (by decide)
  unfold impl_inverseForm.F invT
  refine Ev.bind hj ?_
  have e2 : (⟨#[44, 32]⟩ : ByteArray).size = 2 := rfl
  have hb : (!beqS n.suffix ⟨#[]⟩) = nonE n.suffix := rfl
  simp (disch := omega) only [hb, hg, Option.bind_some, size_app, e2, cble, app_assoc]
  cases decide ((n.given.length : Int) > 0) <;> cases nonE n.suffix <;> simp only [cond_true, cond_false, Bool.or_true, Bool.or_false, Bool.true_or, Bool.false_or, app_assoc] <;> exact Ev.pure _
def sc2 : List UInt8 := [59, 32]
def namesT (l : List Name) : ByteArray := joinT sc2 (l.map invT)
theorem tail_cons2 (x : List UInt8) (r : List (List UInt8)) : Lib.joinTail sc2 (x :: r) = sc2 ++ (x ++ Lib.joinTail sc2 r) := by simp [Lib.joinTail]
theorem specNamesT_l0 (xs : List Name) (hl : xs.length ≤ 4) (hs : ∀ n ∈ xs, smallN n) (hv : ∀ n ∈ xs, nameB n = true) : ∀ m i : Nat, i + m = xs.length → 1 ≤ i → ∀ s : ByteArray, s.size ≤ i * 1048600 →
    Ev (fun k => spec_l4Names.l0 k xs s i) ⟨(L s ++ Lib.joinTail sc2 (((xs.drop i).map invT).map L)).toArray⟩
  | 0, i, h, h1, s, hz => by
    rw [List.drop_eq_nil_of_le (by omega)]
    refine Ev.step (fun k => by rw [spec_l4Names.l0]) ?_
    simp (disch := omega) only [cneg]
    refine (Ev.pure _).eq ?_
    apply L_inj; rw [L_mk]; exact (List.append_nil _).symm
  | m + 1, i, h, h1, s, hz => by
    have hi : i < xs.length := by omega
    have hm := List.getElem_mem hi
    have hq := invT_size xs[i] (hs _ hm)
    have e2 : (⟨#[59, 32]⟩ : ByteArray).size = 2 := rfl
    have hz2 : s.size ≤ 4194400 := by have : i * 1048600 ≤ 4 * 1048600 := Nat.mul_le_mul_right _ (by omega); omega
    refine Ev.step (fun k => by rw [spec_l4Names.l0]) ?_
    simp (disch := omega) only [cpos, Int.toNat_natCast, getD_at hi, size_app, e2, cble]
    refine Ev.bind (specInv_ev _ (hs _ hm) (hv _ hm)) ?_
    simp (disch := omega) only [cble, wrap_in]
    have ih := specNamesT_l0 xs hl hs hv m (i + 1) (by omega) (by omega) ((s ++ ⟨#[59, 32]⟩) ++ invT xs[i]) (by rw [size_app, size_app, e2, Nat.add_mul]; omega)
    refine Ev.eq ih ?_
    rw [List.drop_eq_getElem_cons hi, List.map_cons, List.map_cons, tail_cons2, L_append, L_append]
    simp only [List.append_assoc]
    rfl
theorem specNamesT_ev (xs : List Name) (hl : xs.length ≤ 4) (hs : ∀ n ∈ xs, smallN n) (hv : ∀ n ∈ xs, nameB n = true) : Ev (fun k => spec_l4Names.F k xs) (namesT xs) := by
  unfold spec_l4Names.F
  have e0 : (⟨#[]⟩ : ByteArray).size = 0 := rfl
  refine Ev.bind (a := namesT xs) ?_ (Ev.pure _)
  refine Ev.step (fun k => by rw [spec_l4Names.l0]) ?_
  cases xs with
  | nil => exact Ev.pure _
  | cons n r =>
    have hm : n ∈ n :: r := List.mem_cons_self
    have hq := invT_size n (hs _ hm)
    simp (disch := first | omega | (simp only [List.length_cons]; omega)) only [cpos, cneg, show ((0 : Int).toNat) = 0 from rfl, List.getD_cons_zero]
    refine Ev.bind (specInv_ev _ (hs _ hm) (hv _ hm)) ?_
    simp (disch := omega) only [cble, wrap_in, e0]
    have := specNamesT_l0 (n :: r) hl hs hv r.length 1 (by simp; omega) (by omega) (⟨#[]⟩ ++ invT n) (by rw [size_app, e0]; omega)
    refine Ev.eq this ?_
    unfold namesT joinT
    rw [empty_app, List.drop_one, List.tail_cons, List.map_cons, List.map_cons, Lib.join_cons]
theorem namesT_l0 (xs : List Name) (hl : xs.length ≤ 4) (hs : ∀ n ∈ xs, smallN n) : ∀ m i : Nat, i + m = xs.length → ∀ acc : List ByteArray, acc.length = i → Ev (fun k => impl_namesText.l0 k acc xs xs.length i) (acc ++ (xs.drop i).map invT)
  | 0, i, h, acc, ha => by
    rw [List.drop_eq_nil_of_le (by omega), List.map_nil, List.append_nil]
    refine Ev.step (fun k => by rw [impl_namesText.l0]) ?_
    simp (disch := omega) only [cneg]
    exact Ev.pure _
  | m + 1, i, h, acc, ha => by
    have hi : i < xs.length := by omega
    have hr : ∀ z : ByteArray, room (acc.length + ([z] : List ByteArray).length) .str = true := fun z => room_s (by simp; omega)
    refine Ev.step (fun k => by rw [impl_namesText.l0]) ?_
    simp (disch := omega) only [cpos, Int.toNat_natCast, getD_at hi]
    refine Ev.bind (implInv_ev _ (hs _ (List.getElem_mem hi))) ?_
    simp (disch := omega) only [hr, cond_true, wrap_in]
    have ih := namesT_l0 xs hl hs m (i + 1) (by omega) (acc ++ [invT xs[i]]) (by simp; omega)
    refine Ev.eq ih ?_
    rw [List.drop_eq_getElem_cons hi, List.map_cons]; simp
theorem totS_inv : ∀ xs : List Name, (∀ n ∈ xs, smallN n) → totS (xs.map invT) ≤ xs.length * 1048600
  | [], _ => by simp [totS]
  | n :: r, h => by
    have h1 := totS_inv r fun x hx => h x (List.mem_cons_of_mem _ hx)
    have h2 := invT_size n (h n List.mem_cons_self)
    simp only [totS, List.map_cons, List.sum_cons, List.length_cons] at h1 ⊢
    rw [Nat.add_mul]; omega
theorem namesT_ev (xs : List Name) (hl : xs.length ≤ 4) (hs : ∀ n ∈ xs, smallN n) : Ev (fun k => impl_namesText.F k xs) (namesT xs) := by
  unfold impl_namesText.F
  have h0 := namesT_l0 xs hl hs xs.length 0 (by omega) [] rfl
  refine Ev.bind h0 (Ev.bind0 ?_ (Ev.pure _))
  rw [List.drop_zero, List.nil_append]
  have ht := totS_inv xs hs
  have h4 : xs.length * 1048600 ≤ 4 * 1048600 := Nat.mul_le_mul_right _ hl
  exact xJoin_eq ⟨#[59, 32]⟩ (xs.map invT) (by simp; omega) (by omega) (by decide)

/-! ### Numbers -/
def numT (n : Nat) : ByteArray := ⟨(Lib.decDigits n).toArray⟩
def D10 : ByteArray := ⟨#[48, 49, 50, 51, 52, 53, 54, 55, 56, 57]⟩
theorem D10_at : ∀ i : Fin 10, L (D10.extract i.val (i.val + 1)) = [UInt8.ofNat (48 + i.val)] := by decide +kernel
theorem D10_ext {i : Nat} (h : i < 10) : D10.extract i (i + 1) = ⟨#[UInt8.ofNat (48 + i)]⟩ := by
  apply L_inj; exact (D10_at ⟨i, h⟩).trans rfl
theorem numT_size (n : Nat) : (numT n).size ≤ n + 1 := by
  induction n using Nat.strongRecOn with
  | _ n ih =>
    rw [← L_size]
    unfold numT
    rw [L_mk, Lib.decDigits]
    split
    · simp
    · rename_i h
      have := ih (n / 10) (by omega)
      rw [← L_size] at this
      unfold numT at this
      rw [L_mk] at this
      rw [List.length_append, List.length_singleton]
      omega
theorem l1Num_ev (n : Nat) (hn : n ≤ 1000000) : Ev (fun k => spec_l1Num.F k (n : Int)) (numT n) := by
  induction n using Nat.strongRecOn with
  | _ n ih =>
    have hD : (⟨#[48, 49, 50, 51, 52, 53, 54, 55, 56, 57]⟩ : ByteArray) = D10 := rfl
    have hz : D10.size = 10 := rfl
    have h10 : ((10 : Int) == 0) = false := rfl
    refine Ev.step (fun k => by rw [spec_l1Num.F]) ?_
    by_cases h : n < 10
    · have e : ((n : Int) + 1).toNat = n + 1 := by omega
      simp (disch := omega) only [cneg, cpos, wrap_in, hD, hz, e, Int.toNat_natCast, D10_ext h]
      refine (Ev.pure _).eq ?_
      unfold numT
      rw [Lib.decDigits, dif_pos h]
    · have hd : Int.tdiv (n : Int) 10 = ((n / 10 : Nat) : Int) := rfl
      have hm : Int.tmod (n : Int) 10 = ((n % 10 : Nat) : Int) := rfl
      have h9 : n % 10 < 10 := Nat.mod_lt _ (by decide)
      have e : (((n % 10 : Nat) : Int) + 1).toNat = n % 10 + 1 := by omega
      have hsz := numT_size (n / 10)
      have e1 : (⟨#[UInt8.ofNat (48 + n % 10)]⟩ : ByteArray).size = 1 := rfl
      simp (disch := omega) only [cneg, h10, cond_false, hd, hm, wrap_in]
      refine Ev.bind (ih (n / 10) (by omega) (by omega)) ?_
      simp (disch := omega) only [cpos, hD, hz, e, Int.toNat_natCast, D10_ext h9, cble, e1]
      refine (Ev.pure _).eq ?_
      apply L_inj
      rw [L_append]
      unfold numT
      rw [L_mk, L_mk, Lib.decDigits.eq_def n, dif_neg h]
      rfl
theorem itoa_ev (n : Nat) (hn : n ≤ 1000000) : strconv_Itoa.F (n : Int) = some (numT n) := by
  unfold strconv_Itoa.F xItoaN
  rw [decide_eq_true (by omega : -9223372036854775808 ≤ (n : Int)), decide_eq_true (by omega : (n : Int) ≤ 9223372036854775807)]
  simp only [Bool.and_self, cond_true, Lib.itoa, if_neg (by omega : ¬ (n : Int) < 0), Int.toNat_natCast]
  rfl
theorem pad_l0 (w : Nat) (hw : w ≤ 10) : ∀ (d : Nat) (s : ByteArray), d = w - s.size → s.size ≤ 1000001 → ∃ r, Ev (fun k => spec_l3Pad.l0 k w s) r ∧ Ev (fun k => impl_digits.l0 k w s) r ∧ r.size ≤ 1000001
  | 0, s, h, hs => by
    refine ⟨s, Ev.step (fun k => by rw [spec_l3Pad.l0]) ?_, Ev.step (fun k => by rw [impl_digits.l0]) ?_, hs⟩ <;>
      (simp (disch := omega) only [cneg]; exact Ev.pure _)
  | d + 1, s, h, hs => by
    have e1 : (⟨#[48]⟩ : ByteArray).size = 1 := rfl
    obtain ⟨r, r1, r2, r3⟩ := pad_l0 w hw d (⟨#[48]⟩ ++ s) (by rw [size_app, e1]; omega) (by rw [size_app, e1]; omega)
    refine ⟨r, Ev.step (fun k => by rw [spec_l3Pad.l0]) ?_, Ev.step (fun k => by rw [impl_digits.l0]) ?_, r3⟩
    · simp (disch := omega) only [cpos, e1, cble]; exact r1
    · simp (disch := omega) only [cpos, e1, cble]; exact r2
theorem pad_ev (n w : Nat) (hn : n ≤ 1000000) (hw : w ≤ 10) : ∃ r, Ev (fun k => spec_l3Pad.F k n w) r ∧ Ev (fun k => impl_digits.F k n w) r ∧ r.size ≤ 1000001 := by
  obtain ⟨r, r1, r2, r3⟩ := pad_l0 w hw _ (numT n) rfl (by have := numT_size n; omega)
  refine ⟨r, ?_, ?_, r3⟩
  · unfold spec_l3Pad.F; exact Ev.bind (l1Num_ev n hn) (Ev.bind r1 (Ev.pure _))
  · unfold impl_digits.F; exact Ev.bind0 (itoa_ev n hn) (Ev.bind r2 (Ev.pure _))

/-! ### Dates -/
def ole (f : Option Int) : Prop := ∀ r, f = some r → r ≤ 100
theorem ole_cond {b : Bool} {x y : Option Int} (hx : ole x) (hy : ole y) : ole (cond b x y) := by cases b <;> assumption
theorem ole_none : ole none := fun r h => by cases h
theorem ole_some {n : Int} (h : n ≤ 100) : ole (some n) := fun r e => by cases e; exact h
theorem days_le {y m r : Int} (h : impl_daysInMonth.F y m = some r) : r ≤ 100 := by
  refine (?_ : ole (impl_daysInMonth.F y m)) r h
  unfold impl_daysInMonth.F
  repeat first | exact ole_none | exact ole_some (by decide) | apply ole_cond
theorem dateB_rng {d : Date} (h : dateB d = true) : 0 ≤ d.y ∧ d.y ≤ 2999 ∧ (d.y ≠ 0 → 0 ≤ d.m ∧ d.m ≤ 12 ∧ 0 ≤ d.d ∧ d.d ≤ 100) := by
  have h1 := isDate_ev d
  rw [h] at h1
  unfold impl_IsValidDate.F at h1
  cases hz : (d.y == 0 && (d.m == 0 && (d.d == 0 && d.c == false))) with
  | true =>
    simp only [Bool.and_eq_true, beq_iff_eq] at hz
    exact ⟨by omega, by omega, fun hn => absurd hz.1 hn⟩
  | false =>
    rw [hz] at h1
    simp only [cond_false, inside_ev, Option.bind_some] at h1
    cases hy : (decide (d.y ≥ 1) && decide (d.y ≤ 2999)) with
    | false => rw [hy] at h1; cases h1
    | true =>
      rw [hy] at h1
      cases hm : (decide (d.m ≥ 0) && decide (d.m ≤ 12)) with
      | false => rw [hm] at h1; cases h1
      | true =>
        rw [hm] at h1
        simp only [Bool.and_eq_true, decide_eq_true_eq] at hy hm
        obtain ⟨r, r1, r2⟩ := days_eq d.y d.m (by omega)
        have hr : r ≤ 100 := days_le r2
        rw [r2] at h1
        simp only [Bool.not_true, cond_false, Option.bind_some, inside_ev] at h1
        refine ⟨by omega, by omega, fun _ => ⟨by omega, by omega, ?_⟩⟩
        cases hc : d.c <;> rw [hc] at h1 <;> simp only [cond_true, cond_false] at h1 <;> cases h2 : (d.m == 0) <;> (have h3 : (d.m != 0) = !(d.m == 0) := rfl) <;> simp only [h3, h2, Bool.not_true, Bool.not_false, cond_true, cond_false, Option.some.injEq, beq_iff_eq, Bool.and_eq_true, decide_eq_true_eq] at h1 <;> first | omega | (cases h1; done)
def dateX (c m d : Bool) (ry rm rd : ByteArray) : ByteArray :=
  let r2 := bif m then (ry ++ ⟨#[45]⟩) ++ rm else ry
  let r3 := bif d then (r2 ++ ⟨#[45]⟩) ++ rd else r2
  bif c then ⟨#[99]⟩ ++ r3 else r3
theorem dateT_ev (d : Date) (h : dateB d = true) (hy : d.y ≠ 0) : ∃ r, Ev (fun k => spec_l3Text.F k d) r ∧ Ev (fun k => impl_formatDate.F k d) r := by
  obtain ⟨h1, h2, h3⟩ := dateB_rng h
  obtain ⟨h4, h5, h6, h7⟩ := h3 hy
  obtain ⟨ry, y1, y2, y3⟩ := pad_ev d.y.toNat 4 (by omega) (by omega)
  obtain ⟨rm, m1, m2, m3⟩ := pad_ev d.m.toNat 2 (by omega) (by omega)
  obtain ⟨rd, d1, d2, d3⟩ := pad_ev d.d.toNat 2 (by omega) (by omega)
  rw [Int.toNat_of_nonneg h1] at y1 y2
  replace y1 : Ev (fun k => spec_l3Pad.F k d.y 4) ry := y1
  replace y2 : Ev (fun k => impl_digits.F k d.y 4) ry := y2
  rw [Int.toNat_of_nonneg h4] at m1 m2
  replace m1 : Ev (fun k => spec_l3Pad.F k d.m 2) rm := m1
  replace m2 : Ev (fun k => impl_digits.F k d.m 2) rm := m2
  rw [Int.toNat_of_nonneg h6] at d1 d2
  replace d1 : Ev (fun k => spec_l3Pad.F k d.d 2) rd := d1
  replace d2 : Ev (fun k => impl_digits.F k d.d 2) rd := d2
  have e45 : (⟨#[45]⟩ : ByteArray).size = 1 := rfl
  have e99 : (⟨#[99]⟩ : ByteArray).size = 1 := rfl
  unfold spec_l3Text.F impl_formatDate.F
  simp (disch := omega) only [cne]
  refine ⟨dateX d.c (decide (d.m > 0)) (decide (d.d > 0)) ry rm rd, ?_, ?_⟩
  all_goals
    unfold dateX
    dsimp only
    by_cases hm : d.m > 0 <;> by_cases hd : d.d > 0 <;> cases d.c
    all_goals
      simp (disch := omega) only [cpos, cneg, cond_true, cond_false]
      repeat (first | exact (Ev.pure _).eq (by apply L_inj; simp only [L_append, List.append_assoc]) | refine Ev.bind y1 ?_ | refine Ev.bind m1 ?_ | refine Ev.bind d1 ?_ | refine Ev.bind y2 ?_ | refine Ev.bind m2 ?_ | refine Ev.bind d2 ?_ | simp (disch := omega) only [size_app, e45, e99, cble])

/-! ### Fields -/
theorem fw_0_1 : beqS (⟨#[97, 117, 116, 104, 111, 114, 115]⟩ : ByteArray) (⟨#[101, 100, 105, 116, 111, 114, 115]⟩ : ByteArray) = false := by rw [beqS_eq]; decide
theorem fw_0_2 : beqS (⟨#[97, 117, 116, 104, 111, 114, 115]⟩ : ByteArray) (⟨#[116, 105, 116, 108, 101]⟩ : ByteArray) = false := by rw [beqS_eq]; decide
theorem fw_0_3 : beqS (⟨#[97, 117, 116, 104, 111, 114, 115]⟩ : ByteArray) (⟨#[99, 111, 110, 116, 97, 105, 110, 101, 114]⟩ : ByteArray) = false := by rw [beqS_eq]; decide
theorem fw_0_4 : beqS (⟨#[97, 117, 116, 104, 111, 114, 115]⟩ : ByteArray) (⟨#[112, 117, 98, 108, 105, 115, 104, 101, 114]⟩ : ByteArray) = false := by rw [beqS_eq]; decide
theorem fw_0_5 : beqS (⟨#[97, 117, 116, 104, 111, 114, 115]⟩ : ByteArray) (⟨#[100, 97, 116, 101]⟩ : ByteArray) = false := by rw [beqS_eq]; decide
theorem fw_0_6 : beqS (⟨#[97, 117, 116, 104, 111, 114, 115]⟩ : ByteArray) (⟨#[118, 111, 108, 117, 109, 101]⟩ : ByteArray) = false := by rw [beqS_eq]; decide
theorem fw_0_7 : beqS (⟨#[97, 117, 116, 104, 111, 114, 115]⟩ : ByteArray) (⟨#[112, 97, 103, 101, 115]⟩ : ByteArray) = false := by rw [beqS_eq]; decide
theorem fw_1_0 : beqS (⟨#[101, 100, 105, 116, 111, 114, 115]⟩ : ByteArray) (⟨#[97, 117, 116, 104, 111, 114, 115]⟩ : ByteArray) = false := by rw [beqS_eq]; decide
theorem fw_1_2 : beqS (⟨#[101, 100, 105, 116, 111, 114, 115]⟩ : ByteArray) (⟨#[116, 105, 116, 108, 101]⟩ : ByteArray) = false := by rw [beqS_eq]; decide
theorem fw_1_3 : beqS (⟨#[101, 100, 105, 116, 111, 114, 115]⟩ : ByteArray) (⟨#[99, 111, 110, 116, 97, 105, 110, 101, 114]⟩ : ByteArray) = false := by rw [beqS_eq]; decide
theorem fw_1_4 : beqS (⟨#[101, 100, 105, 116, 111, 114, 115]⟩ : ByteArray) (⟨#[112, 117, 98, 108, 105, 115, 104, 101, 114]⟩ : ByteArray) = false := by rw [beqS_eq]; decide
theorem fw_1_5 : beqS (⟨#[101, 100, 105, 116, 111, 114, 115]⟩ : ByteArray) (⟨#[100, 97, 116, 101]⟩ : ByteArray) = false := by rw [beqS_eq]; decide
theorem fw_1_6 : beqS (⟨#[101, 100, 105, 116, 111, 114, 115]⟩ : ByteArray) (⟨#[118, 111, 108, 117, 109, 101]⟩ : ByteArray) = false := by rw [beqS_eq]; decide
theorem fw_1_7 : beqS (⟨#[101, 100, 105, 116, 111, 114, 115]⟩ : ByteArray) (⟨#[112, 97, 103, 101, 115]⟩ : ByteArray) = false := by rw [beqS_eq]; decide
theorem fw_2_0 : beqS (⟨#[116, 105, 116, 108, 101]⟩ : ByteArray) (⟨#[97, 117, 116, 104, 111, 114, 115]⟩ : ByteArray) = false := by rw [beqS_eq]; decide
theorem fw_2_1 : beqS (⟨#[116, 105, 116, 108, 101]⟩ : ByteArray) (⟨#[101, 100, 105, 116, 111, 114, 115]⟩ : ByteArray) = false := by rw [beqS_eq]; decide
theorem fw_2_3 : beqS (⟨#[116, 105, 116, 108, 101]⟩ : ByteArray) (⟨#[99, 111, 110, 116, 97, 105, 110, 101, 114]⟩ : ByteArray) = false := by rw [beqS_eq]; decide
theorem fw_2_4 : beqS (⟨#[116, 105, 116, 108, 101]⟩ : ByteArray) (⟨#[112, 117, 98, 108, 105, 115, 104, 101, 114]⟩ : ByteArray) = false := by rw [beqS_eq]; decide
theorem fw_2_5 : beqS (⟨#[116, 105, 116, 108, 101]⟩ : ByteArray) (⟨#[100, 97, 116, 101]⟩ : ByteArray) = false := by rw [beqS_eq]; decide
theorem fw_2_6 : beqS (⟨#[116, 105, 116, 108, 101]⟩ : ByteArray) (⟨#[118, 111, 108, 117, 109, 101]⟩ : ByteArray) = false := by rw [beqS_eq]; decide
theorem fw_2_7 : beqS (⟨#[116, 105, 116, 108, 101]⟩ : ByteArray) (⟨#[112, 97, 103, 101, 115]⟩ : ByteArray) = false := by rw [beqS_eq]; decide
theorem fw_3_0 : beqS (⟨#[99, 111, 110, 116, 97, 105, 110, 101, 114]⟩ : ByteArray) (⟨#[97, 117, 116, 104, 111, 114, 115]⟩ : ByteArray) = false := by rw [beqS_eq]; decide
theorem fw_3_1 : beqS (⟨#[99, 111, 110, 116, 97, 105, 110, 101, 114]⟩ : ByteArray) (⟨#[101, 100, 105, 116, 111, 114, 115]⟩ : ByteArray) = false := by rw [beqS_eq]; decide
theorem fw_3_2 : beqS (⟨#[99, 111, 110, 116, 97, 105, 110, 101, 114]⟩ : ByteArray) (⟨#[116, 105, 116, 108, 101]⟩ : ByteArray) = false := by rw [beqS_eq]; decide
theorem fw_3_4 : beqS (⟨#[99, 111, 110, 116, 97, 105, 110, 101, 114]⟩ : ByteArray) (⟨#[112, 117, 98, 108, 105, 115, 104, 101, 114]⟩ : ByteArray) = false := by rw [beqS_eq]; decide
theorem fw_3_5 : beqS (⟨#[99, 111, 110, 116, 97, 105, 110, 101, 114]⟩ : ByteArray) (⟨#[100, 97, 116, 101]⟩ : ByteArray) = false := by rw [beqS_eq]; decide
theorem fw_3_6 : beqS (⟨#[99, 111, 110, 116, 97, 105, 110, 101, 114]⟩ : ByteArray) (⟨#[118, 111, 108, 117, 109, 101]⟩ : ByteArray) = false := by rw [beqS_eq]; decide
theorem fw_3_7 : beqS (⟨#[99, 111, 110, 116, 97, 105, 110, 101, 114]⟩ : ByteArray) (⟨#[112, 97, 103, 101, 115]⟩ : ByteArray) = false := by rw [beqS_eq]; decide
theorem fw_4_0 : beqS (⟨#[112, 117, 98, 108, 105, 115, 104, 101, 114]⟩ : ByteArray) (⟨#[97, 117, 116, 104, 111, 114, 115]⟩ : ByteArray) = false := by rw [beqS_eq]; decide
theorem fw_4_1 : beqS (⟨#[112, 117, 98, 108, 105, 115, 104, 101, 114]⟩ : ByteArray) (⟨#[101, 100, 105, 116, 111, 114, 115]⟩ : ByteArray) = false := by rw [beqS_eq]; decide
theorem fw_4_2 : beqS (⟨#[112, 117, 98, 108, 105, 115, 104, 101, 114]⟩ : ByteArray) (⟨#[116, 105, 116, 108, 101]⟩ : ByteArray) = false := by rw [beqS_eq]; decide
theorem fw_4_3 : beqS (⟨#[112, 117, 98, 108, 105, 115, 104, 101, 114]⟩ : ByteArray) (⟨#[99, 111, 110, 116, 97, 105, 110, 101, 114]⟩ : ByteArray) = false := by rw [beqS_eq]; decide
theorem fw_4_5 : beqS (⟨#[112, 117, 98, 108, 105, 115, 104, 101, 114]⟩ : ByteArray) (⟨#[100, 97, 116, 101]⟩ : ByteArray) = false := by rw [beqS_eq]; decide
theorem fw_4_6 : beqS (⟨#[112, 117, 98, 108, 105, 115, 104, 101, 114]⟩ : ByteArray) (⟨#[118, 111, 108, 117, 109, 101]⟩ : ByteArray) = false := by rw [beqS_eq]; decide
theorem fw_4_7 : beqS (⟨#[112, 117, 98, 108, 105, 115, 104, 101, 114]⟩ : ByteArray) (⟨#[112, 97, 103, 101, 115]⟩ : ByteArray) = false := by rw [beqS_eq]; decide
theorem fw_5_0 : beqS (⟨#[100, 97, 116, 101]⟩ : ByteArray) (⟨#[97, 117, 116, 104, 111, 114, 115]⟩ : ByteArray) = false := by rw [beqS_eq]; decide
theorem fw_5_1 : beqS (⟨#[100, 97, 116, 101]⟩ : ByteArray) (⟨#[101, 100, 105, 116, 111, 114, 115]⟩ : ByteArray) = false := by rw [beqS_eq]; decide
theorem fw_5_2 : beqS (⟨#[100, 97, 116, 101]⟩ : ByteArray) (⟨#[116, 105, 116, 108, 101]⟩ : ByteArray) = false := by rw [beqS_eq]; decide
theorem fw_5_3 : beqS (⟨#[100, 97, 116, 101]⟩ : ByteArray) (⟨#[99, 111, 110, 116, 97, 105, 110, 101, 114]⟩ : ByteArray) = false := by rw [beqS_eq]; decide
theorem fw_5_4 : beqS (⟨#[100, 97, 116, 101]⟩ : ByteArray) (⟨#[112, 117, 98, 108, 105, 115, 104, 101, 114]⟩ : ByteArray) = false := by rw [beqS_eq]; decide
theorem fw_5_6 : beqS (⟨#[100, 97, 116, 101]⟩ : ByteArray) (⟨#[118, 111, 108, 117, 109, 101]⟩ : ByteArray) = false := by rw [beqS_eq]; decide
theorem fw_5_7 : beqS (⟨#[100, 97, 116, 101]⟩ : ByteArray) (⟨#[112, 97, 103, 101, 115]⟩ : ByteArray) = false := by rw [beqS_eq]; decide
theorem fw_6_0 : beqS (⟨#[118, 111, 108, 117, 109, 101]⟩ : ByteArray) (⟨#[97, 117, 116, 104, 111, 114, 115]⟩ : ByteArray) = false := by rw [beqS_eq]; decide
theorem fw_6_1 : beqS (⟨#[118, 111, 108, 117, 109, 101]⟩ : ByteArray) (⟨#[101, 100, 105, 116, 111, 114, 115]⟩ : ByteArray) = false := by rw [beqS_eq]; decide
theorem fw_6_2 : beqS (⟨#[118, 111, 108, 117, 109, 101]⟩ : ByteArray) (⟨#[116, 105, 116, 108, 101]⟩ : ByteArray) = false := by rw [beqS_eq]; decide
theorem fw_6_3 : beqS (⟨#[118, 111, 108, 117, 109, 101]⟩ : ByteArray) (⟨#[99, 111, 110, 116, 97, 105, 110, 101, 114]⟩ : ByteArray) = false := by rw [beqS_eq]; decide
theorem fw_6_4 : beqS (⟨#[118, 111, 108, 117, 109, 101]⟩ : ByteArray) (⟨#[112, 117, 98, 108, 105, 115, 104, 101, 114]⟩ : ByteArray) = false := by rw [beqS_eq]; decide
theorem fw_6_5 : beqS (⟨#[118, 111, 108, 117, 109, 101]⟩ : ByteArray) (⟨#[100, 97, 116, 101]⟩ : ByteArray) = false := by rw [beqS_eq]; decide
theorem fw_6_7 : beqS (⟨#[118, 111, 108, 117, 109, 101]⟩ : ByteArray) (⟨#[112, 97, 103, 101, 115]⟩ : ByteArray) = false := by rw [beqS_eq]; decide
theorem fw_7_0 : beqS (⟨#[112, 97, 103, 101, 115]⟩ : ByteArray) (⟨#[97, 117, 116, 104, 111, 114, 115]⟩ : ByteArray) = false := by rw [beqS_eq]; decide
theorem fw_7_1 : beqS (⟨#[112, 97, 103, 101, 115]⟩ : ByteArray) (⟨#[101, 100, 105, 116, 111, 114, 115]⟩ : ByteArray) = false := by rw [beqS_eq]; decide
theorem fw_7_2 : beqS (⟨#[112, 97, 103, 101, 115]⟩ : ByteArray) (⟨#[116, 105, 116, 108, 101]⟩ : ByteArray) = false := by rw [beqS_eq]; decide
theorem fw_7_3 : beqS (⟨#[112, 97, 103, 101, 115]⟩ : ByteArray) (⟨#[99, 111, 110, 116, 97, 105, 110, 101, 114]⟩ : ByteArray) = false := by rw [beqS_eq]; decide
theorem fw_7_4 : beqS (⟨#[112, 97, 103, 101, 115]⟩ : ByteArray) (⟨#[112, 117, 98, 108, 105, 115, 104, 101, 114]⟩ : ByteArray) = false := by rw [beqS_eq]; decide
theorem fw_7_5 : beqS (⟨#[112, 97, 103, 101, 115]⟩ : ByteArray) (⟨#[100, 97, 116, 101]⟩ : ByteArray) = false := by rw [beqS_eq]; decide
theorem fw_7_6 : beqS (⟨#[112, 97, 103, 101, 115]⟩ : ByteArray) (⟨#[118, 111, 108, 117, 109, 101]⟩ : ByteArray) = false := by rw [beqS_eq]; decide

theorem parts_of {e : Entry} (h : entryB e = true) : namesB e.authors = true ∧ namesB e.editors = true ∧ dateB e.date = true ∧ 0 ≤ e.volume ∧ e.volume ≤ 9999 := by
  unfold entryB insI at h
  simp only [Bool.and_eq_true, decide_eq_true_eq] at h
  exact ⟨h.2.2.1, h.2.2.2.1, h.2.2.2.2.2.2.2.2.1, h.2.2.2.2.2.2.2.2.2.1.1, h.2.2.2.2.2.2.2.2.2.1.2⟩
theorem names_of {l : List Name} (h : namesB l = true) : l.length ≤ 4 ∧ ∀ n ∈ l, nameB n = true := by
  unfold namesB at h
  simp only [Bool.and_eq_true, decide_eq_true_eq] at h
  exact ⟨h.2, fun n hn => List.all_eq_true.1 h.1 n hn⟩
theorem field_ev (e : Entry) (hs : smallE e) (hv : entryB e = true) (f : ByteArray) (hf : f ∈ glV0) : ∃ t b, Ev (fun k => spec_l4Field.F k e f) (t, b) ∧ Ev (fun k => impl_fieldText.F k e f) t := by
  obtain ⟨ha, he, hd, v0, v1⟩ := parts_of hv
  obtain ⟨a1, a2⟩ := names_of ha
  obtain ⟨e1, e2⟩ := names_of he
  have sa : ∀ n ∈ e.authors, smallN n := fun n hn => smallNs_at (smallE_a hs) hn
  have se : ∀ n ∈ e.editors, smallN n := fun n hn => smallNs_at (smallE_e hs) hn
  unfold glV0 at hf
  simp only [List.mem_cons, List.not_mem_nil, or_false] at hf
  unfold spec_l4Field.F impl_fieldText.F
  rcases hf with rfl | rfl | rfl | rfl | rfl | rfl | rfl | rfl
  all_goals simp only [fw_0_1, fw_0_2, fw_0_3, fw_0_4, fw_0_5, fw_0_6, fw_0_7, fw_1_0, fw_1_2, fw_1_3, fw_1_4, fw_1_5, fw_1_6, fw_1_7, fw_2_0, fw_2_1, fw_2_3, fw_2_4, fw_2_5, fw_2_6, fw_2_7, fw_3_0, fw_3_1, fw_3_2, fw_3_4, fw_3_5, fw_3_6, fw_3_7, fw_4_0, fw_4_1, fw_4_2, fw_4_3, fw_4_5, fw_4_6, fw_4_7, fw_5_0, fw_5_1, fw_5_2, fw_5_3, fw_5_4, fw_5_6, fw_5_7, fw_6_0, fw_6_1, fw_6_2, fw_6_3, fw_6_4, fw_6_5, fw_6_7, fw_7_0, fw_7_1, fw_7_2, fw_7_3, fw_7_4, fw_7_5, fw_7_6, beqS_self, cond_true, cond_false]
  · exact ⟨_, _, Ev.bind (specNamesT_ev _ a1 sa a2) (Ev.pure _), Ev.bind (namesT_ev _ a1 sa) (Ev.pure _)⟩
  · exact ⟨_, _, Ev.bind (specNamesT_ev _ e1 se e2) (Ev.pure _), Ev.bind (namesT_ev _ e1 se) (Ev.pure _)⟩
  · exact ⟨_, _, Ev.pure _, Ev.pure _⟩
  · exact ⟨_, _, Ev.pure _, Ev.pure _⟩
  · exact ⟨_, _, Ev.pure _, Ev.pure _⟩
  · obtain ⟨y0, _, _⟩ := dateB_rng hd
    by_cases hy : e.date.y = 0
    · simp (disch := omega) only [ceq, cneg]
      exact ⟨_, _, Ev.pure _, Ev.pure _⟩
    · obtain ⟨r, r1, r2⟩ := dateT_ev e.date hd hy
      simp (disch := omega) only [cne, cpos]
      exact ⟨_, _, Ev.bind r1 (Ev.pure _), Ev.bind r2 (Ev.pure _)⟩
  · by_cases hy : e.volume = 0
    · simp (disch := omega) only [ceq, cneg]
      exact ⟨_, _, Ev.pure _, Ev.pure _⟩
    · have n1 := l1Num_ev e.volume.toNat (by omega)
      have n2 := itoa_ev e.volume.toNat (by omega)
      rw [Int.toNat_of_nonneg v0] at n1 n2
      simp (disch := omega) only [cne, cpos, n2, Option.bind_some]
      exact ⟨_, _, Ev.bind n1 (Ev.pure _), Ev.pure _⟩
  · exact ⟨_, _, Ev.pure _, Ev.pure _⟩
end Go.Proofs.YtfnibdpepbgamaaGreatDoor
end
section
/- Plain laws: marks of lists of texts; deep marks of names, entries and libraries. -/
namespace Go.Proofs.YtfnibdpepbgamaaGreatDoor
open Go.Gx
set_option linter.unusedVariables false
set_option linter.unusedSimpArgs false

theorem markText_l0 : ∀ n : Nat, n ≤ 1099511627776 → ∀ s : ByteArray, s.size + n ≤ 9223372036854775806 → ∃ r, Ev (fun k => laws_markText.l0 k (n : Int) s) r ∧ r.size ≤ s.size + n := fun n => by
  induction n using Nat.strongRecOn with
  | ind n ih =>
    intro hn s hs
    by_cases c : n = 0
    · refine ⟨s, Ev.step (fun k => by rw [laws_markText.l0]) ?_, by omega⟩
      simp (disch := omega) only [cneg]
      exact Ev.pure _
    · have ed : Int.tdiv (n : Int) 10 = ((n / 10 : Nat) : Int) := by
        rw [Int.tdiv_eq_ediv_of_nonneg (by omega)]; omega
      have e1 : ∀ v : Int, (strL ([v] : List Int)).size = 1 := fun v => rfl
      obtain ⟨r, r1, r2⟩ := ih (n / 10) (by omega) (by omega) (strL ([IntKind.wrap .u8 (IntKind.wrap .i64 (48 + Int.tmod (n : Int) 10))] : List Int) ++ s) (by rw [size_app, e1]; omega)
      rw [size_app, e1] at r2
      refine ⟨r, Ev.step (fun k => by rw [laws_markText.l0]) ?_, by omega⟩
      have w1 : IntKind.wrap .i64 (Int.tdiv (n : Int) 10) = ((n / 10 : Nat) : Int) := by rw [ed, wrap_in (by omega) (by omega)]
      have hz : ((10 : Nat) == 0) = false := rfl
      rw [w1, hz]
      simp only [cond_false]
      simp (disch := (try simp only [e1]); omega) only [cpos, cble]
      exact r1
theorem markText_ev (n : Nat) (hn : n ≤ 1099511627776) : ∃ r, Ev (fun k => laws_markText.F k (n : Int)) r := by
  unfold laws_markText.F
  by_cases c : n = 0
  · refine ⟨⟨#[109, 48]⟩, ?_⟩
    simp (disch := omega) only [cpos]
    exact Ev.pure _
  · obtain ⟨r, r1, r2⟩ := markText_l0 n hn ⟨#[]⟩ (by rw [show (⟨#[]⟩ : ByteArray).size = 0 from rfl]; omega)
    have e0 : (⟨#[]⟩ : ByteArray).size = 0 := rfl
    have e1 : (⟨#[109]⟩ : ByteArray).size = 1 := rfl
    refine ⟨⟨#[109]⟩ ++ r, ?_⟩
    simp (disch := omega) only [cneg]
    refine Ev.bind r1 ?_
    simp (disch := omega) only [e1, cble]
    exact Ev.pure _
open Classical in
noncomputable def mt (n : Nat) : ByteArray := if h : ∃ r, Ev (fun k => laws_markText.F k (n : Int)) r then h.choose else ⟨#[]⟩
theorem mt_ev (n : Nat) (hn : n ≤ 1099511627776) : Ev (fun k => laws_markText.F k (n : Int)) (mt n) := by
  have h := markText_ev n hn
  unfold mt
  rw [dif_pos h]
  exact h.choose_spec
noncomputable def marks (i : Nat) : List ByteArray := (List.range i).map fun j => mt (j + 1)
theorem marks_len (i : Nat) : (marks i).length = i := by simp [marks]
theorem mark_l0 (xs : List ByteArray) (hlen : xs.length ≤ 1048576) : ∀ n i : Nat, i + n = xs.length → Ev (fun k => laws_markStringS.l0 k (marks i ++ xs.drop i) ((1 + i : Nat) : Int) i) (marks xs.length, ((1 + xs.length : Nat) : Int))
  | 0, i, h => by
    have hl : (marks i ++ xs.drop i).length = xs.length := by rw [List.length_append, marks_len, List.length_drop]; omega
    refine Ev.step (fun k => by rw [laws_markStringS.l0]) ?_
    simp (disch := omega) only [cneg]
    rw [List.drop_eq_nil_of_le (by omega), List.append_nil, show i = xs.length by omega]
    exact Ev.pure _
  | n + 1, i, h => by
    have hi : i < xs.length := by omega
    have hl : (marks i ++ xs.drop i).length = xs.length := by rw [List.length_append, marks_len, List.length_drop]; omega
    refine Ev.step (fun k => by rw [laws_markStringS.l0]) ?_
    simp (disch := omega) only [cpos, Int.toNat_natCast]
    refine Ev.bind (mt_ev (1 + i) (by omega)) ?_
    have e : (marks i ++ xs.drop i).set i (mt (1 + i)) = marks (i + 1) ++ xs.drop (i + 1) := by
      rw [List.set_append_right _ _ (by rw [marks_len]; exact Nat.le_refl _), marks_len, Nat.sub_self, List.drop_eq_getElem_cons hi, List.set_cons_zero]
      unfold marks
      rw [List.range_succ, List.map_append, List.append_assoc, Nat.add_comm 1]
      rfl
    simp (disch := omega) only [wrap_in, e]
    rw [show (((1 + i : Nat) : Int) + 1) = ((1 + (i + 1) : Nat) : Int) by omega]
    exact mark_l0 xs hlen n (i + 1) (by omega)
theorem mark_ev (xs : List ByteArray) (hlen : xs.length ≤ 1048576) : Ev (fun k => laws_markStringS.F k xs 1) (marks xs.length, ((1 + xs.length : Nat) : Int)) := by
  unfold laws_markStringS.F
  refine Ev.bind (mark_l0 xs hlen xs.length 0 (by omega)) ?_
  rw [show Nat.beq (marks xs.length, ((1 + xs.length : Nat) : Int)).1.length xs.length = true by rw [Nat.beq_eq]; exact marks_len _]
  exact Ev.pure _
theorem held_l0 (m : Nat) (hlen : m ≤ 1048576) : ∀ n i : Nat, i + n = m → Ev (fun k => laws_heldStringS.l0 k (marks m) ((1 + i : Nat) : Int) i) (.inr ((1 + m : Nat) : Int))
  | 0, i, h => by
    have hl := marks_len m
    refine Ev.step (fun k => by rw [laws_heldStringS.l0]) ?_
    simp (disch := omega) only [cneg]
    rw [show i = m by omega]
    exact Ev.pure _
  | n + 1, i, h => by
    have hl := marks_len m
    have hi : i < (marks m).length := by omega
    have e : (marks m)[i] = mt (1 + i) := by simp [marks, Nat.add_comm]
    refine Ev.step (fun k => by rw [laws_heldStringS.l0]) ?_
    simp (disch := omega) only [cpos, Int.toNat_natCast, getD_at hi, e]
    refine Ev.bind (mt_ev (1 + i) (by omega)) ?_
    simp (disch := omega) only [beqS_self, Bool.not_true, cond_false, wrap_in]
    rw [show (((1 + i : Nat) : Int) + 1) = ((1 + (i + 1) : Nat) : Int) by omega]
    exact held_l0 m hlen n (i + 1) (by omega)
theorem held_ev (m : Nat) (hlen : m ≤ 1048576) : Ev (fun k => laws_heldStringS.F k (marks m) 1) ((1 + m : Nat) : Int) := by
  unfold laws_heldStringS.F
  exact Ev.bind (held_l0 m hlen m 0 (by omega)) (Ev.pure _)
end Go.Proofs.YtfnibdpepbgamaaGreatDoor
end
section
/- Plain laws: deep marks of names, entries and libraries. -/
namespace Go.Proofs.YtfnibdpepbgamaaGreatDoor
open Go.Gx
set_option linter.unusedVariables false
set_option linter.unusedSimpArgs false

/-! ### Deep marks: numbers go up -/
theorem mtI (x : Int) (h0 : 0 ≤ x) (h1 : x ≤ 1099511627776) : ∃ r, Ev (fun k => laws_markText.F k x) r := by
  obtain ⟨n, rfl⟩ : ∃ n : Nat, x = n := ⟨x.toNat, by omega⟩
  exact markText_ev n (by omega)
theorem dmS_l0 (xs : List ByteArray) (hlen : xs.length ≤ 1048576) : ∀ n i : Nat, i + n = xs.length → ∀ z : Int, 0 ≤ z → z + n ≤ 1099511627776 → Ev (fun k => laws_markStringS_d.l0 k xs z i) (xs, z + n)
  | 0, i, h, z, h0, h1 => by
    refine Ev.step (fun k => by rw [laws_markStringS_d.l0]) ?_
    simp (disch := omega) only [cneg]
    exact (Ev.pure _).eq (by simp)
  | n + 1, i, h, z, h0, h1 => by
    have hi : i < xs.length := by omega
    refine Ev.step (fun k => by rw [laws_markStringS_d.l0]) ?_
    simp (disch := omega) only [cpos]
    obtain ⟨r, hr⟩ := mtI z h0 (by omega)
    refine Ev.bind hr ?_
    simp (disch := omega) only [wrap_in]
    refine (dmS_l0 xs hlen n (i + 1) (by omega) (z + 1) (by omega) (by omega)).eq ?_
    rw [show z + 1 + (n : Int) = z + ((n + 1 : Nat) : Int) by omega]
theorem dmS_ev (xs : List ByteArray) (hlen : xs.length ≤ 1048576) (z : Int) (h0 : 0 ≤ z) (h1 : z + xs.length ≤ 1099511627776) : Ev (fun k => laws_markStringS_d.F k xs z) (z + xs.length) := by
  unfold laws_markStringS_d.F
  exact Ev.bind (dmS_l0 xs hlen xs.length 0 (by omega) z h0 h1) (Ev.pure _)
def cntN (n : Name) : Nat := n.given.length + 3
def cntNs (xs : List Name) : Nat := (xs.map cntN).sum
theorem cntNs_drop {xs : List Name} {i : Nat} (hi : i < xs.length) : cntNs (xs.drop i) = cntN xs[i] + cntNs (xs.drop (i + 1)) := by
  unfold cntNs
  rw [List.drop_eq_getElem_cons hi, List.map_cons, List.sum_cons]
theorem dmN_l0 (xs : List Name) (hs : ∀ x ∈ xs, smallN x) (hlen : xs.length ≤ 1048576) : ∀ n i : Nat, i + n = xs.length → ∀ z : Int, 0 ≤ z → z + cntNs (xs.drop i) ≤ 1099511627776 → Ev (fun k => laws_markNameS_d.l0 k xs z i) (xs, z + cntNs (xs.drop i))
  | 0, i, h, z, h0, h1 => by
    refine Ev.step (fun k => by rw [laws_markNameS_d.l0]) ?_
    simp (disch := omega) only [cneg]
    refine (Ev.pure _).eq ?_
    rw [List.drop_eq_nil_of_le (by omega)]
    simp [cntNs]
  | n + 1, i, h, z, h0, h1 => by
    have hi : i < xs.length := by omega
    have hd := cntNs_drop hi
    rw [hd] at h1 ⊢
    unfold cntN at h1 ⊢
    have hg : xs[i].given.length ≤ 1048576 := by have := hs _ (List.getElem_mem hi); unfold smallN totN at this; omega
    refine Ev.step (fun k => by rw [laws_markNameS_d.l0]) ?_
    simp (disch := omega) only [cpos, Int.toNat_natCast, getD_at hi]
    refine Ev.bind (dmS_ev xs[i].given hg z h0 (by omega)) ?_
    obtain ⟨r1, e1⟩ := mtI (z + xs[i].given.length) (by omega) (by omega)
    obtain ⟨r2, e2⟩ := mtI (z + xs[i].given.length + 1) (by omega) (by omega)
    obtain ⟨r3, e3⟩ := mtI (z + xs[i].given.length + 1 + 1) (by omega) (by omega)
    simp (disch := omega) only [wrap_in]
    refine Ev.bind e1 (Ev.bind e2 (Ev.bind e3 ?_))
    refine (dmN_l0 xs hs hlen n (i + 1) (by omega) (z + xs[i].given.length + 1 + 1 + 1) (by omega) (by omega)).eq ?_
    rw [show z + (xs[i].given.length : Int) + 1 + 1 + 1 + (cntNs (xs.drop (i + 1)) : Int) = z + ((xs[i].given.length + 3 + cntNs (xs.drop (i + 1)) : Nat) : Int) by omega]
theorem dmN_ev (xs : List Name) (hs : ∀ x ∈ xs, smallN x) (hlen : xs.length ≤ 1048576) (z : Int) (h0 : 0 ≤ z) (h1 : z + cntNs xs ≤ 1099511627776) : Ev (fun k => laws_markNameS_d.F k xs z) (z + cntNs xs) := by
  unfold laws_markNameS_d.F
  exact Ev.bind (dmN_l0 xs hs hlen xs.length 0 (by omega) z h0 (by simpa using h1)) ((Ev.pure _).eq (by simp))
def cntE (e : Entry) : Nat := cntNs e.authors + cntNs e.editors + 12
def cntEs (xs : List Entry) : Nat := (xs.map cntE).sum
theorem cntEs_drop {xs : List Entry} {i : Nat} (hi : i < xs.length) : cntEs (xs.drop i) = cntE xs[i] + cntEs (xs.drop (i + 1)) := by
  unfold cntEs
  rw [List.drop_eq_getElem_cons hi, List.map_cons, List.sum_cons]
theorem cntNs_le : ∀ xs : List Name, cntNs xs ≤ 3 * totNs xs
  | [] => by simp [cntNs, totNs]
  | x :: xs => by
    have := cntNs_le xs
    unfold cntNs totNs at *
    simp only [List.map_cons, List.sum_cons, List.length_cons]
    have h1 : cntN x ≤ totN x + 3 := by unfold cntN totN; omega
    omega
theorem cntEs_le : ∀ xs : List Entry, cntEs xs ≤ 12 * totEs xs
  | [] => by simp [cntEs, totEs]
  | x :: xs => by
    have := cntEs_le xs
    unfold cntEs totEs at *
    simp only [List.map_cons, List.sum_cons, List.length_cons]
    have h1 : cntE x ≤ 3 * totE x + 12 := by
      have := cntNs_le x.authors
      have := cntNs_le x.editors
      unfold cntE totE
      omega
    omega
end Go.Proofs.YtfnibdpepbgamaaGreatDoor
end
section
/- Conflicts of two entries: both ways answer alike. -/
namespace Go.Proofs.YtfnibdpepbgamaaGreatDoor
open Go.Gx
set_option linter.unusedVariables false
set_option linter.unusedSimpArgs false

theorem fw_len : glV0.length = 8 := rfl
theorem conf_l (a b : Entry) (ha : smallE a) (hb : smallE b) (va : entryB a = true) (vb : entryB b = true) : ∀ n i : Nat, i + n = 8 → ∀ acc : List ByteArray, acc.length ≤ i →
    ∃ r, Ev (fun k => spec_FieldConflicts.l0 k a b acc glV0 i) r ∧ Ev (fun k => impl_FieldConflicts.l0 k a b acc glV0 i) r ∧ r.length ≤ 8
  | 0, i, h, acc, hc => by
    refine ⟨acc, Ev.step (fun k => by rw [spec_FieldConflicts.l0]) ?_, Ev.step (fun k => by rw [impl_FieldConflicts.l0]) ?_, by omega⟩
    · simp (disch := (try rw [fw_len]); omega) only [cneg]; exact Ev.pure _
    · simp (disch := omega) only [cneg]; exact Ev.pure _
  | n + 1, i, h, acc, hc => by
    have hl := fw_len
    have hi : i < glV0.length := by omega
    have hr : ∀ z : ByteArray, room (acc.length + ([z] : List ByteArray).length) .str = true := fun z => room_s (by simp; omega)
    have hm := List.getElem_mem hi
    obtain ⟨t1, b1, x1, x2⟩ := field_ev a ha va _ hm
    obtain ⟨t2, b2, y1, y2⟩ := field_ev b hb vb _ hm
    obtain ⟨r, r1, r2, r3⟩ := conf_l a b ha hb va vb n (i + 1) (by omega) acc (by omega)
    obtain ⟨q, q1, q2, q3⟩ := conf_l a b ha hb va vb n (i + 1) (by omega) (acc ++ [glV0[i]]) (by simp; omega)
    refine ⟨bif (!beqS t1 ⟨#[]⟩) && ((!beqS t2 ⟨#[]⟩) && (!beqS t1 t2)) then q else r, Ev.step (fun k => by rw [spec_FieldConflicts.l0]) ?_, Ev.step (fun k => by rw [impl_FieldConflicts.l0]) ?_, ?_⟩
    · simp (disch := omega) only [cpos, Int.toNat_natCast, getD_at hi]
      refine Ev.bind x1 (Ev.bind y1 ?_)
      cases beqS t1 ⟨#[]⟩ <;> cases beqS t2 ⟨#[]⟩ <;> cases beqS t1 t2 <;> simp (disch := omega) only [Bool.not_true, Bool.not_false, cond_true, cond_false, Bool.and_true, Bool.and_false, Bool.true_and, Bool.false_and, hr, wrap_in] <;> first | exact q1 | exact r1
    · simp (disch := omega) only [cpos, Int.toNat_natCast, getD_at hi]
      refine Ev.bind x2 (Ev.bind y2 ?_)
      cases beqS t1 ⟨#[]⟩ <;> cases beqS t2 ⟨#[]⟩ <;> cases beqS t1 t2 <;> simp (disch := omega) only [Bool.not_true, Bool.not_false, cond_true, cond_false, Bool.and_true, Bool.and_false, Bool.true_and, Bool.false_and, hr, wrap_in] <;> first | exact q2 | exact r2
    · cases ((!beqS t1 ⟨#[]⟩) && ((!beqS t2 ⟨#[]⟩) && (!beqS t1 t2))) <;> assumption
theorem conflicts_ev (a b : Entry) (ha : smallE a) (hb : smallE b) : ∃ r v, Ev (fun k => spec_FieldConflicts.F k a b) (r, v) ∧ Ev (fun k => impl_FieldConflicts.F k a b) (r, v) ∧ r.length ≤ 8 := by
  unfold spec_FieldConflicts.F impl_FieldConflicts.F
  have a1 := specEntry_ev a ha
  have a2 := isEntry_ev a ha
  have b1 := specEntry_ev b hb
  have b2 := isEntry_ev b hb
  cases va : entryB a with
  | false => rw [va] at a1 a2; exact ⟨[], false, Ev.bind a1 (Ev.pure _), Ev.bind a2 (Ev.pure _), by simp⟩
  | true =>
    rw [va] at a1 a2
    cases vb : entryB b with
    | false => rw [vb] at b1 b2; exact ⟨[], false, Ev.bind a1 (Ev.bind b1 (Ev.pure _)), Ev.bind a2 (Ev.bind b2 (Ev.pure _)), by simp⟩
    | true =>
      rw [vb] at b1 b2
      obtain ⟨r, r1, r2, r3⟩ := conf_l a b ha hb va vb 8 0 (by omega) [] (by simp)
      exact ⟨r, true, Ev.bind a1 (Ev.bind b1 (Ev.bind r1 (Ev.pure _))), Ev.bind a2 (Ev.bind b2 (Ev.bind r2 (Ev.pure _))), r3⟩
theorem dmE_ev (e : Entry) (hs : smallE e) (z : Int) (h0 : 0 ≤ z) (h1 : z ≤ 200000000) : ∃ r, Ev (fun k => laws_markEntry_d.F k e z) r ∧ 0 ≤ r ∧ r ≤ z + 100000000 := by
  have ha := smallE_a hs
  have he := smallE_e hs
  have c1 := cntNs_le e.authors
  have c2 := cntNs_le e.editors
  unfold laws_markEntry_d.F
  refine ⟨z + cntNs e.authors + cntNs e.editors, Ev.bind (dmN_ev _ (fun x hx => smallNs_at ha hx) (smallNs_len ha) z h0 (by omega)) (Ev.bind (dmN_ev _ (fun x hx => smallNs_at he hx) (smallNs_len he) _ (by omega) (by omega)) (Ev.pure _)), by omega, by omega⟩
end Go.Proofs.YtfnibdpepbgamaaGreatDoor
end
section
/- The plain law of FieldConflicts. -/
namespace Go.Proofs.YtfnibdpepbgamaaGreatDoor
open Go.Gx
set_option linter.unusedVariables false
set_option linter.unusedSimpArgs false

theorem fieldConflicts_law (a b : Entry) (hwa : WF .entry a) (hwb : WF .entry b) : ∃ k, laws_FnExactFieldConflicts.F k a b = some true := by
  refine Ev.get (?_ : Ev (fun k => laws_FnExactFieldConflicts.F k a b) true)
  unfold laws_FnExactFieldConflicts.F
  obtain ⟨r, h1, h2⟩ := szE_ev a 1048576 (by omega) (by omega) hwa
  refine Ev.bind h1 ?_
  by_cases c : r < 0
  · simp (disch := omega) only [cpos]
    exact Ev.pure _
  simp (disch := omega) only [cneg]
  have h2 := h2 (by omega)
  have ha : smallE a := by unfold smallE; omega
  obtain ⟨q, h3, h4⟩ := szE_ev b r (by omega) (by omega) hwb
  refine Ev.bind h3 ?_
  by_cases c : q < 0
  · simp (disch := omega) only [cpos]
    exact Ev.pure _
  simp (disch := omega) only [cneg]
  have h4 := h4 (by omega)
  have hb : smallE b := by unfold smallE; omega
  obtain ⟨v, w, v1, v2, v3⟩ := conflicts_ev a b ha hb
  have ta := toE_ev a ha
  have tb := toE_ev b hb
  have eqv := eqS_ev v (by omega)
  refine Ev.bind ta (Ev.bind tb (Ev.bind v1 (Ev.bind ta (Ev.bind tb (Ev.bind v2 (Ev.bind eqv ?_))))))
  simp only [beq_self_eq_true, Bool.not_true, cond_false]
  refine Ev.bind ta (Ev.bind (eqE_ev a ha) ?_)
  simp only [Bool.not_true, cond_false]
  refine Ev.bind tb (Ev.bind (eqE_ev b hb) ?_)
  simp only [Bool.not_true, cond_false]
  obtain ⟨m, m1, m2, m3⟩ := dmE_ev a ha 1 (by omega) (by omega)
  obtain ⟨m', m4, m5, m6⟩ := dmE_ev b hb m m2 (by omega)
  refine Ev.bind m1 (Ev.bind m4 ?_)
  simp (disch := omega) only [cneg]
  refine Ev.bind eqv ?_
  simp only [beq_self_eq_true, Bool.not_true, cond_false]
  refine Ev.bind (mark_ev v (by omega)) (Ev.bind (held_ev v.length (by omega)) ?_)
  simp (disch := omega) only [cneg, cbeq]
  refine Ev.bind ta (Ev.bind tb (Ev.bind v2 (Ev.bind eqv ?_)))
  simp only [beq_self_eq_true, Bool.not_true, cond_false]
  refine Ev.bind (held_ev v.length (by omega)) ?_
  simp (disch := omega) only [cneg, cbeq]
  exact Ev.pure _
end Go.Proofs.YtfnibdpepbgamaaGreatDoor
end
section
/- The law FnExactFieldConflicts returns true for every input, the listed package variables being as the program's text lays it: the card. -/
namespace Go.Proofs.YtfnibdpepbgamaaGreatDoor
open Go.Gx Go.RowKit Go.ChangeShapes Go.WideShapes Go.ChangeAt
set_option linter.unusedVariables false
def fnExactFieldConflicts_ss4 : List (List UInt8) := [[97, 117, 116, 104, 111, 114, 115], [101, 100, 105, 116, 111, 114, 115], [116, 105, 116, 108, 101], [99, 111, 110, 116, 97, 105, 110, 101, 114], [112, 117, 98, 108, 105, 115, 104, 101, 114], [100, 97, 116, 101], [118, 111, 108, 117, 109, 101], [112, 97, 103, 101, 115]]
theorem fnExactFieldConflicts_own : ownKnob Tryz.prog.godebug = none := by kernel_rfl
set_option maxRecDepth 100000 in
theorem fnExactFieldConflicts_contract (H : Type) (enc : TypeId × Value → H) (W : World) (base : Nat) (args : Array Value) (ds gs : List (DataW H)) (before : List MemPlace)
    (hval : ∀ (j : Nat) t v, Tryz.f8.params[j]? = some t → args[j]? = some v → Value.okWide Tryz.prog W .any base t v)
    (hW : DataW.Whole enc Tryz.prog Tryz.f8.params.toList Rows.fnExactFieldConflictsSpec.vars false W args.toList ds gs before) (hL : laidMetH Tryz.prog Rows.fnExactFieldConflictsRow.laid W) (hsh : W.ShapedOpen Tryz.prog) :
    Calls Tryz.prog 8 args W fun e W' => ∃ v, e = .returned v ∧ Rows.fnExactFieldConflictsSpec.post enc Tryz.prog Tryz.f8 false true false false W args v W' := by
  have hgs : ∃ g1, gs = [g1] := by
    obtain ⟨p, q, _, hV, _⟩ := hW
    match gs, hV with
    | [g1], _ => exact ⟨g1, rfl⟩
    | [], hV => exact hV.elim
    | _ :: _ :: _, ⟨_, _, _, _, _, _, _, _, _, _, hV, _⟩ => exact hV.elim
  obtain ⟨g1, rfl⟩ := hgs
  have hds : ∃ d1 d2, ds = [d1, d2] := by
    obtain ⟨p, q, hA, _⟩ := hW
    obtain ⟨_, _, d1, e0, _, _, _, rfl, _, _, h0⟩ := trodAll_cons hA
    obtain ⟨_, _, d2, e1, _, _, _, rfl, _, _, h1⟩ := trodAll_cons h0
    obtain ⟨_, rfl, _⟩ := trodAll_nil h1
    exact ⟨d1, d2, rfl⟩
  obtain ⟨d1, d2, rfl⟩ := hds
  have hgl : GlOk envX (fun _ => undef) (Lt W) W := by
    refine GlOk.mk0 (fun g b h => ?_) (fun g hg => ?_)
    · have h' : glT g = some b := h
      unfold glT at h'
      split at h'
      · cases h'; exact laid_strs (ss := fnExactFieldConflicts_ss4) (name := "loop.example/g00896/impl.fieldWords") (g := 0) (t := 82) (e := 9) (n := 8) 4 (by kernel_rfl) (by kernel_rfl) (by kernel_rfl) (by kernel_rfl) (by kernel_rfl) (by kernel_rfl) (by kernel_rfl) hL (by kernel_rfl)
      · cases h'; exact laid_ints (zs := Lib.pow10Tab) (name := "internal/strconv.uint64pow10") (g := 1) (t := 154) (e := 140) (n := 20) 2 (by kernel_rfl) (by kernel_rfl) (by kernel_rfl) (by kernel_rfl) (by kernel_rfl) (by kernel_rfl) (by kernel_rfl) hL (by kernel_rfl)
      · cases h'
    · have hg' : giT g = true := hg
      unfold giT at hg'
      split at hg'
      · obtain ⟨m, hm⟩ := cell_of_shapedOpen_int (P := Tryz.prog) (g := 2) (t := 3) (zero := #[.int .i64 0]) hsh (of_decide_eq_true (by kernel_rfl)) (by kernel_rfl) rfl (by kernel_rfl) (by kernel_rfl) (by kernel_rfl)
        exact ⟨World.block_lt_of_cell? _ _ hm, m, hm⟩
      · cases hg'
  refine law_contract (τs := [.entry, .entry]) (r := .t .bool true) envOk (by kernel_rfl) rfl (by kernel_rfl) (by kernel_rfl) rfl (by kernel_rfl) (by kernel_rfl) (fun t ht => ?_) rfl (fun x hx => by
      obtain ⟨k, hk⟩ := fieldConflicts_law x.1 x.2.1 hx.1 hx.2.1
      exact laws_FnExactFieldConflicts.good envOk _ k _ _ hk) rfl hval hW hgl (fun q hq W' hb => vars_stay (by kernel_rfl) hb (fun nm hn g t h1 h2 => ?_) hq)
  · have : t ∈ [46, 46] := ht
    simp only [List.mem_cons, List.not_mem_nil, or_false] at this
    rcases this with rfl | rfl <;> exact ⟨by kernel_rfl, Nat.le_of_ble_eq_true (by kernel_rfl)⟩
  · have hnm : nm = "loop.example/g00896/impl.fieldWords" := by
      have : nm ∈ ["loop.example/g00896/impl.fieldWords"] := hn
      simpa using this
    subst hnm
    obtain rfl : g = 0 := Option.some.inj (h1.symm.trans (by kernel_rfl : Tryz.prog.globalNamed "loop.example/g00896/impl.fieldWords" = some 0))
    obtain rfl : t = 82 := Option.some.inj (h2.symm.trans (by kernel_rfl : (Tryz.prog.globals[0]?).map (·.type) = some 82))
    exact ⟨by kernel_rfl, Nat.le_of_ble_eq_true (by kernel_rfl)⟩
set_option maxRecDepth 100000 in
noncomputable def fnExactFieldConflicts_world (os : Os) : World :=
  { World.holding Tryz.prog os ⟨#[], #[], []⟩ with heap := (((((((World.holding Tryz.prog os ⟨#[], #[], []⟩).heap.modify 5 fun
      | .cells _ t frozen => .cells #[.int .u8 0, .int .u8 1, .int .u8 28, .int .u8 2, .int .u8 29, .int .u8 14, .int .u8 24, .int .u8 3, .int .u8 30, .int .u8 22, .int .u8 20, .int .u8 15, .int .u8 25, .int .u8 17, .int .u8 4, .int .u8 8, .int .u8 31, .int .u8 27, .int .u8 13, .int .u8 23, .int .u8 21, .int .u8 19, .int .u8 16, .int .u8 7, .int .u8 26, .int .u8 12, .int .u8 18, .int .u8 6, .int .u8 11, .int .u8 5, .int .u8 10, .int .u8 9] t frozen
      | o => o).modify 6 fun
      | .cells _ t frozen => .cells #[.int .u8 0, .int .u8 1, .int .u8 56, .int .u8 2, .int .u8 57, .int .u8 49, .int .u8 28, .int .u8 3, .int .u8 61, .int .u8 58, .int .u8 42, .int .u8 50, .int .u8 38, .int .u8 29, .int .u8 17, .int .u8 4, .int .u8 62, .int .u8 47, .int .u8 59, .int .u8 36, .int .u8 45, .int .u8 43, .int .u8 51, .int .u8 22, .int .u8 53, .int .u8 39, .int .u8 33, .int .u8 30, .int .u8 24, .int .u8 18, .int .u8 12, .int .u8 5, .int .u8 63, .int .u8 55, .int .u8 48, .int .u8 27, .int .u8 60, .int .u8 41, .int .u8 37, .int .u8 16, .int .u8 46, .int .u8 35, .int .u8 44, .int .u8 21, .int .u8 52, .int .u8 32, .int .u8 23, .int .u8 11, .int .u8 54, .int .u8 26, .int .u8 40, .int .u8 15, .int .u8 34, .int .u8 20, .int .u8 31, .int .u8 10, .int .u8 25, .int .u8 14, .int .u8 19, .int .u8 9, .int .u8 13, .int .u8 8, .int .u8 7, .int .u8 6] t frozen
      | o => o).modify 1 fun
      | .cells _ t frozen => .cells #[.int .u64 1, .int .u64 10, .int .u64 100, .int .u64 1000, .int .u64 10000, .int .u64 100000, .int .u64 1000000, .int .u64 10000000, .int .u64 100000000, .int .u64 1000000000, .int .u64 10000000000, .int .u64 100000000000, .int .u64 1000000000000, .int .u64 10000000000000, .int .u64 100000000000000, .int .u64 1000000000000000, .int .u64 10000000000000000, .int .u64 100000000000000000, .int .u64 1000000000000000000, .int .u64 10000000000000000000] t frozen
      | o => o).modify 4 fun
      | .cells _ t frozen => .cells #[.int .u8 128, .int .u8 191, .int .u8 160, .int .u8 191, .int .u8 128, .int .u8 159, .int .u8 144, .int .u8 191, .int .u8 128, .int .u8 143, .int .u8 0, .int .u8 0, .int .u8 0, .int .u8 0, .int .u8 0, .int .u8 0, .int .u8 0, .int .u8 0, .int .u8 0, .int .u8 0, .int .u8 0, .int .u8 0, .int .u8 0, .int .u8 0, .int .u8 0, .int .u8 0, .int .u8 0, .int .u8 0, .int .u8 0, .int .u8 0, .int .u8 0, .int .u8 0] t frozen
      | o => o).modify 0 fun
      | .cells _ t frozen => .cells #[.string ⟨#[97, 117, 116, 104, 111, 114, 115]⟩, .string ⟨#[101, 100, 105, 116, 111, 114, 115]⟩, .string ⟨#[116, 105, 116, 108, 101]⟩, .string ⟨#[99, 111, 110, 116, 97, 105, 110, 101, 114]⟩, .string ⟨#[112, 117, 98, 108, 105, 115, 104, 101, 114]⟩, .string ⟨#[100, 97, 116, 101]⟩, .string ⟨#[118, 111, 108, 117, 109, 101]⟩, .string ⟨#[112, 97, 103, 101, 115]⟩] t frozen
      | o => o).modify 3 fun
      | .cells _ t frozen => .cells (Pinned.utf8FirstZ.map fun (n : Nat) => Value.int .u8 (n : Int)).toArray t frozen
      | o => o) }
theorem fnExactFieldConflicts_met (os : Os) : laidMet Tryz.prog Rows.fnExactFieldConflictsRow.laid ((fnExactFieldConflicts_world os).forCall (fun _ _ => 0) ⟨#[], #[.agg #[.string ⟨#[]⟩, .int .i64 0, .slice none 0 0, .slice none 0 0, .string ⟨#[]⟩, .string ⟨#[]⟩, .string ⟨#[]⟩, .int .i64 0, .int .i64 0, .int .i64 0, .bool false, .int .i64 0, .string ⟨#[]⟩, .string ⟨#[]⟩], .agg #[.string ⟨#[]⟩, .int .i64 0, .slice none 0 0, .slice none 0 0, .string ⟨#[]⟩, .string ⟨#[]⟩, .string ⟨#[]⟩, .int .i64 0, .int .i64 0, .int .i64 0, .bool false, .int .i64 0, .string ⟨#[]⟩, .string ⟨#[]⟩]], []⟩).memory :=
  laidMet_of_run' 8 (by kernel_rfl) (by kernel_rfl)
theorem fnExactFieldConflicts_reads (os : Os) {H : Type} (enc : TypeId × Value → H) : ∃ places, DataW.whole enc Tryz.prog ((fnExactFieldConflicts_world os).forCall (fun _ _ => 0) ⟨#[], #[.agg #[.string ⟨#[]⟩, .int .i64 0, .slice none 0 0, .slice none 0 0, .string ⟨#[]⟩, .string ⟨#[]⟩, .string ⟨#[]⟩, .int .i64 0, .int .i64 0, .int .i64 0, .bool false, .int .i64 0, .string ⟨#[]⟩, .string ⟨#[]⟩], .agg #[.string ⟨#[]⟩, .int .i64 0, .slice none 0 0, .slice none 0 0, .string ⟨#[]⟩, .string ⟨#[]⟩, .string ⟨#[]⟩, .int .i64 0, .int .i64 0, .int .i64 0, .bool false, .int .i64 0, .string ⟨#[]⟩, .string ⟨#[]⟩]], []⟩).memory Tryz.f8.params.toList Rows.fnExactFieldConflictsSpec.vars false #[.agg #[.string ⟨#[]⟩, .int .i64 0, .slice none 0 0, .slice none 0 0, .string ⟨#[]⟩, .string ⟨#[]⟩, .string ⟨#[]⟩, .int .i64 0, .int .i64 0, .int .i64 0, .bool false, .int .i64 0, .string ⟨#[]⟩, .string ⟨#[]⟩], .agg #[.string ⟨#[]⟩, .int .i64 0, .slice none 0 0, .slice none 0 0, .string ⟨#[]⟩, .string ⟨#[]⟩, .string ⟨#[]⟩, .int .i64 0, .int .i64 0, .int .i64 0, .bool false, .int .i64 0, .string ⟨#[]⟩, .string ⟨#[]⟩]].toList 8 = some ([.agg [.lit (.string []), .lit (.int .i64 0), .nil, .nil, .lit (.string []), .lit (.string []), .lit (.string []), .agg [.lit (.int .i64 0), .lit (.int .i64 0), .lit (.int .i64 0), .lit (.bool false)], .lit (.int .i64 0), .lit (.string []), .lit (.string [])], .agg [.lit (.string []), .lit (.int .i64 0), .nil, .nil, .lit (.string []), .lit (.string []), .lit (.string []), .agg [.lit (.int .i64 0), .lit (.int .i64 0), .lit (.int .i64 0), .lit (.bool false)], .lit (.int .i64 0), .lit (.string []), .lit (.string [])]], [strData fnExactFieldConflicts_ss4], places) :=
  ⟨[.cell 0 0, .cell 0 1, .cell 0 2, .cell 0 3, .cell 0 4, .cell 0 5, .cell 0 6, .cell 0 7], by kernel_rfl⟩
set_option maxRecDepth 100000 in
theorem fnExactFieldConflicts_lifted (os : Os) (started : os.Started) (H : Type) (enc : TypeId × Value → H) (F : Stop.Interp) :
    ReturnsInHanded {} Tryz.checked os 8 .any ((OpenSpec.ofChange Rows.fnExactFieldConflictsSpec).preRow enc Tryz.prog Tryz.f8 Rows.fnExactFieldConflictsRow.domain false Rows.fnExactFieldConflictsRow.laid) (((OpenSpec.ofChange Rows.fnExactFieldConflictsSpec).at F).post enc Tryz.prog Tryz.f8 false true false false) := by
  obtain ⟨places, hx⟩ := fnExactFieldConflicts_reads os enc
  refine returnsInHanded_of_row (C := Tryz.checked) (s := OpenSpec.ofChange Rows.fnExactFieldConflictsSpec) fnExactFieldConflicts_own started (by kernel_rfl) (by kernel_rfl)
    (witness_row_at (enc := enc) (C := Tryz.checked) false (fnExactFieldConflicts_world os) #[.agg #[.string ⟨#[]⟩, .int .i64 0, .slice none 0 0, .slice none 0 0, .string ⟨#[]⟩, .string ⟨#[]⟩, .string ⟨#[]⟩, .int .i64 0, .int .i64 0, .int .i64 0, .bool false, .int .i64 0, .string ⟨#[]⟩, .string ⟨#[]⟩], .agg #[.string ⟨#[]⟩, .int .i64 0, .slice none 0 0, .slice none 0 0, .string ⟨#[]⟩, .string ⟨#[]⟩, .string ⟨#[]⟩, .int .i64 0, .int .i64 0, .int .i64 0, .bool false, .int .i64 0, .string ⟨#[]⟩, .string ⟨#[]⟩]] rfl (by kernel_rfl) (by kernel_rfl) (by kernel_rfl)
      (OpenSpec.preRow_of_cond 8 hx (by kernel_rfl) (fun k hk => by cases hk) (by kernel_rfl) (fnExactFieldConflicts_met os))) ?_
  intro W base args ds gs before hval hW _ _ _ hL hsh _
  exact fnExactFieldConflicts_contract H enc W base args ds gs before hval hW hL hsh
theorem fnExactFieldConflicts_said : Rows.FnExactFieldConflictsSaid :=
  OpenClaim.holds_of_cond 8 Tryz.f8 rfl rfl rfl rfl rfl rfl rfl ⟨rfl, rfl, rfl, rfl, rfl⟩ rfl rfl rfl rfl rfl (by kernel_rfl) (by kernel_rfl) (by kernel_rfl)
    (of_decide_eq_true (by kernel_rfl)) (by unfold Func.isWrapper; first | (rw [if_pos (by decide +kernel)]; kernel_rfl) | (rw [if_neg (by decide +kernel)]; exact ⟨rfl, rfl⟩))
    (fun os started H enc _ F => by rw [OpenClaim.pre_eq_preRow]; exact fnExactFieldConflicts_lifted os started H enc F)
theorem fnExactFieldConflicts_plain (f : FuncId) (fn : Func) (hf : Tryz.pinned.checked.prog.funcNamed "loop.example/g00896/laws.FnExactFieldConflicts" = some f) (hfn : Tryz.pinned.checked.prog.funcs[f]? = some fn) :
    false = Tryz.pinned.checked.prog.looks [] ∧ ∀ (j : Nat) t, fn.params[j]? = some t → Tryz.pinned.checked.prog.wantsStandIn t = false := by
  obtain rfl : f = 8 := (Option.some.inj ((show Tryz.prog.funcNamed "loop.example/g00896/laws.FnExactFieldConflicts" = some 8 by kernel_rfl).symm.trans hf)).symm
  obtain rfl : fn = Tryz.f8 := (Option.some.inj ((show Tryz.prog.funcs[8]? = some Tryz.f8 by kernel_rfl).symm.trans hfn)).symm
  refine ⟨by kernel_rfl, fun j t ht => ?_⟩
  have ht' : t ∈ [46, 46] := by simpa using Array.mem_of_getElem? (show (#[46, 46] : Array Nat)[j]? = some t from ht)
  simp only [List.mem_cons, List.not_mem_nil, or_false] at ht'
  rcases ht' with rfl | rfl
  · exact (show Tryz.prog.wantsStandIn 46 = false by kernel_rfl)
  · exact (show Tryz.prog.wantsStandIn 46 = false by kernel_rfl)
theorem FnExactFieldConflicts_holds : Rows.FnExactFieldConflictsCardSaid :=
  Claim7.holds_tied_plain_at .later [] _ _ _ _ fnExactFieldConflicts_said (fun _ h => by cases h) (by kernel_rfl) (fun _ h => by cases h) fnExactFieldConflicts_row_tie rfl ⟨rfl, rfl⟩ (by kernel_rfl) rfl fnExactFieldConflicts_plain (by kernel_rfl)
#print axioms FnExactFieldConflicts_holds
end Go.Proofs.YtfnibdpepbgamaaGreatDoor
end
