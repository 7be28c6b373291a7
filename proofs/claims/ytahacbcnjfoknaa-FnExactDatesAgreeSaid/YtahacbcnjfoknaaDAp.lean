/- The plain law of DatesAgree. (Draft: names of a seat's printed module.) -/
import Derived.Test.YtahacbcnjfoknaaDA
namespace Go.Proofs.Ytahacbcnjfoknaa
open Go.Gx
theorem leap (y : Int) (h : Int.tmod y 4 ≠ 0) : Int.tmod y 400 ≠ 0 := fun h2 => h (by
  have h3 := Int.dvd_of_tmod_eq_zero h2
  exact Int.tmod_eq_zero_of_dvd (Int.dvd_trans (by decide : (4 : Int) ∣ 400) h3))
theorem days_eq (y m : Int) : spec_l3Days.F y m = impl_daysInMonth.F y m := by
  unfold spec_l3Days.F impl_daysInMonth.F
  by_cases h2 : m = 2
  · by_cases h4 : Int.tmod y 4 = 0
    · simp [h2, h4]
    · have e1 : (Int.tmod y 4 == 0) = false := by simpa using h4
      have e2 : (Int.tmod y 400 == 0) = false := by simpa using leap y h4
      simp [h2, e1, e2]
  · simp only [show (m == 2) = false by simpa using h2, cond_false]
    repeat' (first | rfl | (cases (m == _) <;> simp only [cond_true, cond_false]))
theorem in_eq (a b c : Int) : spec_l1In.F a b c = impl_inside.F a b c := rfl
theorem good_eq (d : Date) : spec_l3Good.F d = impl_IsValidDate.F d := by
  unfold spec_l3Good.F impl_IsValidDate.F
  simp only [days_eq, in_eq]
  cases (d.y == 0 && (d.m == 0 && (d.d == 0 && d.c == false))) <;> simp only [cond_true, cond_false]
  congr 1; funext r1
  cases r1 <;> simp only [Bool.not_true, Bool.not_false, cond_true, cond_false]
  congr 1; funext r2
  cases r2 <;> simp only [Bool.not_true, Bool.not_false, cond_true, cond_false]
  cases d.c <;> simp only [cond_true, cond_false, bne]
  cases (d.m == 0) <;> simp
theorem near_eq (a b : Int) : spec_l20Near.F a b = bif (a == b) then some true else bif (a == 0) then some true else some (b == 0) := rfl
theorem agree_eq (a b : Date) : spec_l20Agree.F a b = impl_datesAgree.F a b := by
  unfold spec_l20Agree.F impl_datesAgree.F
  simp only [near_eq, bne]
  cases (a.y == 0) <;> simp only [cond_true, cond_false]
  cases (b.y == 0) <;> simp only [cond_true, cond_false]
  cases (a.y == b.y) <;> simp only [cond_true, cond_false, Bool.not_true, Bool.not_false]
  cases (a.m == b.m) <;> cases (a.m == 0) <;> cases (b.m == 0) <;> cases (a.d == b.d) <;> cases (a.d == 0) <;> simp
theorem dates_eq (a b : Date) : spec_DatesAgree.F a b = impl_DatesAgree.F a b := by
  unfold spec_DatesAgree.F impl_DatesAgree.F
  simp only [good_eq, agree_eq]
/-- What the law's function needs: some answer of the library's function. -/
theorem law_true (a b : Date) (h : (impl_DatesAgree.F a b).isSome = true) : laws_FnExactDatesAgree.F a b = some true := by
  unfold laws_FnExactDatesAgree.F laws_toDate.F
  simp only [Option.bind_some, dates_eq]
  obtain ⟨r, hr⟩ := Option.isSome_iff_exists.1 h
  simp [hr]
theorem days_some (y m : Int) : ∃ r, impl_daysInMonth.F y m = some r := by
  unfold impl_daysInMonth.F
  cases (m == 2) <;> cases (Int.tmod y 4 == 0) <;> cases (Int.tmod y 100 != 0) <;> cases (Int.tmod y 400 == 0) <;> cases (m == 4) <;> cases (m == 6) <;> cases (m == 9) <;> cases (m == 11) <;> exact ⟨_, rfl⟩
theorem inside_some (a b c : Int) : ∃ r, impl_inside.F a b c = some r := by
  unfold impl_inside.F
  cases decide (a ≥ b) <;> exact ⟨_, rfl⟩
theorem valid_some (d : Date) : ∃ r, impl_IsValidDate.F d = some r := by
  unfold impl_IsValidDate.F
  obtain ⟨r1, h1⟩ := inside_some d.y 1 2999
  obtain ⟨r2, h2⟩ := inside_some d.m 0 12
  obtain ⟨r3, h3⟩ := days_some d.y d.m
  obtain ⟨r4, h4⟩ := inside_some d.d 0 r3
  simp only [h1, h2, h3, h4, Option.bind_some]
  cases (d.y == 0 && (d.m == 0 && (d.d == 0 && d.c == false))) <;> cases r1 <;> cases r2 <;> cases d.c <;> cases (d.m != 0) <;> cases (d.m == 0) <;> exact ⟨_, rfl⟩
theorem datesAgree_some (a b : Date) : ∃ r, impl_datesAgree.F a b = some r := by
  unfold impl_datesAgree.F
  cases (a.y == 0) <;> cases (b.y == 0) <;> cases (a.y != b.y) <;> cases (a.m == 0) <;> cases (b.m == 0) <;> cases (a.m == b.m) <;> cases (a.d == b.d) <;> cases (a.d == 0) <;> exact ⟨_, rfl⟩
theorem law (a b : Date) : laws_FnExactDatesAgree.F a b = some true := law_true a b (by
  unfold impl_DatesAgree.F
  obtain ⟨r1, h1⟩ := valid_some a
  obtain ⟨r2, h2⟩ := valid_some b
  obtain ⟨r3, h3⟩ := datesAgree_some a b
  simp only [h1, h2, h3, Option.bind_some]
  cases r1 <;> cases r2 <;> rfl)
end Go.Proofs.Ytahacbcnjfoknaa
