import Derived.Test.YtahacbcnjfoknaaProg
import Derived.Test.YtahacbcnjfoknaaGxTab
import Derived.Test.YtahacbcnjfoknaaGxEq
import Derived.KernelRfl
namespace Go.Proofs.Ytahacbcnjfoknaa
open Go.Gx
set_option linter.unusedVariables false
def tyT (t : Nat) : Option Ty := match t with
  | 2 => some (.int .i64)
  | 3 => some (.int .i64)
  | 4 => some .bool
  | 5 => some (.int .u8)
  | 9 => some .str
  | 10 => some .str
  | 11 => some .str
  | 23 => some .date
  | 26 => some .date
  | 29 => some (.sl .abbr)
  | 32 => some (.sl .abbr)
  | 37 => some .abbr
  | 41 => some .abbr
  | 67 => some (.sl (.int .u8))
  | 76 => some (.int .u64)
  | 77 => some (.int .u32)
  | 88 => some (.int .u8)
  | _ => none
def elT (t : Nat) : Nat := match t with
  | 29 => 37
  | 32 => 41
  | 67 => 5
  | _ => 0
def envX : Env := ⟨tyT, elT, fun _ => none⟩
theorem env_ty : ∀ T τ, envX.ty T = some τ → TyOk Try.prog envX T τ := fun T τ h => by
  dsimp only [envX, tyT] at h
  split at h <;> first
    | (cases h; done)
    | (cases h; exact tyOk_of (by kernel_rfl) (by kernel_rfl))
theorem envOk : EnvOk Try.prog envX := ⟨env_ty, by kernel_rfl, fun T h => by
  dsimp only [envX, tyT] at h
  split at h <;> first
    | (cases h; done)
    | exact date_eq env_ty rfl (by kernel_rfl) (by kernel_rfl) (by kernel_rfl), fun T h => by
  dsimp only [envX, tyT] at h
  split at h <;> first
    | (cases h; done)
    | exact abbr_eq env_ty rfl (by kernel_rfl) (by kernel_rfl) (by kernel_rfl)⟩
/-! ### 39 loop.example/g00896/spec.l1In -/
def spec_l1In.F (a0 : Int) (a1 : Int) (a2 : Int) : Option (Bool) := bif (decide (a0 ≥ a1)) then (some (decide (a0 ≤ a2))) else (some false)
def spec_l1In.C : Cal → Option CArm := fun c => match c with
  | _ => none
theorem spec_l1In.run (a0 : Int) (a1 : Int) (a2 : Int) : runF envX (tabC spec_l1In.C) (tabL 15 0 (fun _ => none)) Try.f39 [.t (.int .i64) a0, .t (.int .i64) a1, .t (.int .i64) a2] (viewR1 (.t .bool)) = spec_l1In.F a0 a1 a2 := by kernel_rfl
theorem spec_l1In.G (hE : EnvOk Try.prog envX) (pv : Nat → Value) : ∀ cal A, spec_l1In.C cal = some A → ArmOk Try.prog envX pv cal A := by
  intro cal A h
  unfold spec_l1In.C at h
  cases h
theorem spec_l1In.good (hE : EnvOk Try.prog envX) (pv : Nat → Value) (a0 : Int) (a1 : Int) (a2 : Int) {y : _} (h : spec_l1In.F a0 a1 a2 = some y) : Meets Try.prog envX pv (.f 39) (tvals [(.int .i64), (.int .i64), (.int .i64)] (a0, a1, a2, ())) (.t .bool y) :=
  fun_plain hE (spec_l1In.G hE pv) (f := 39) (fn := Try.f39) (by kernel_rfl) rfl (by kernel_rfl) (by kernel_rfl) ((spec_l1In.run a0 a1 a2).trans h) fun r hr => wk_view1 hr
/-! ### 40 loop.example/g00896/spec.l3Days -/
def spec_l3Days.F (a0 : Int) (a1 : Int) : Option (Int) := bif (a1 == 2) then (bif (4 == 0) then (none) else (bif ((Int.tmod a0 4) == 0) then (bif (100 == 0) then (none) else (bif ((Int.tmod a0 100) != 0) then (some 29) else (bif (400 == 0) then (none) else (bif ((Int.tmod a0 400) == 0) then (some 29) else (some 28))))) else (bif (400 == 0) then (none) else (bif ((Int.tmod a0 400) == 0) then (some 29) else (some 28))))) else (bif (a1 == 4) then (some 30) else (bif (a1 == 6) then (some 30) else (bif (a1 == 9) then (some 30) else (bif (a1 == 11) then (some 30) else (some 31)))))
def spec_l3Days.C : Cal → Option CArm := fun c => match c with
  | _ => none
theorem spec_l3Days.run (a0 : Int) (a1 : Int) : runF envX (tabC spec_l3Days.C) (tabL 34 0 (fun _ => none)) Try.f40 [.t (.int .i64) a0, .t (.int .i64) a1] (viewR1 (.t (.int .i64))) = spec_l3Days.F a0 a1 := by kernel_rfl
theorem spec_l3Days.G (hE : EnvOk Try.prog envX) (pv : Nat → Value) : ∀ cal A, spec_l3Days.C cal = some A → ArmOk Try.prog envX pv cal A := by
  intro cal A h
  unfold spec_l3Days.C at h
  cases h
theorem spec_l3Days.good (hE : EnvOk Try.prog envX) (pv : Nat → Value) (a0 : Int) (a1 : Int) {y : _} (h : spec_l3Days.F a0 a1 = some y) : Meets Try.prog envX pv (.f 40) (tvals [(.int .i64), (.int .i64)] (a0, a1, ())) (.t (.int .i64) y) :=
  fun_plain hE (spec_l3Days.G hE pv) (f := 40) (fn := Try.f40) (by kernel_rfl) rfl (by kernel_rfl) (by kernel_rfl) ((spec_l3Days.run a0 a1).trans h) fun r hr => wk_view1 hr
/-! ### 23 loop.example/g00896/spec.l3Good -/
def spec_l3Good.F (a0 : Date) : Option (Bool) := bif ((a0.y == 0 && (a0.m == 0 && (a0.d == 0 && a0.c == false)))) then (some true) else ((spec_l1In.F a0.y 1 2999).bind fun r1 => bif (!r1) then (some false) else ((spec_l1In.F a0.m 0 12).bind fun r2 => bif (!r2) then (some false) else (bif a0.c then (bif (a0.m == 0) then (some (a0.d == 0)) else (some false)) else (bif (a0.m == 0) then (some (a0.d == 0)) else ((spec_l3Days.F a0.y a0.m).bind fun r3 => (spec_l1In.F a0.d 0 r3).bind fun r4 => some r4)))))
def spec_l3Good.C : Cal → Option CArm := fun c => match c with
  | .f 39 => some ⟨[(.int .i64), (.int .i64), (.int .i64)], _, fun x => spec_l1In.F x.1 x.2.1 x.2.2.1, fun r => (.t .bool r)⟩
  | .f 40 => some ⟨[(.int .i64), (.int .i64)], _, fun x => spec_l3Days.F x.1 x.2.1, fun r => (.t (.int .i64) r)⟩
  | _ => none
theorem spec_l3Good.run (a0 : Date) : runF envX (tabC spec_l3Good.C) (tabL 44 0 (fun _ => none)) Try.f23 [.t .date a0] (viewR1 (.t .bool)) = spec_l3Good.F a0 := by kernel_rfl
theorem spec_l3Good.G (hE : EnvOk Try.prog envX) (pv : Nat → Value) : ∀ cal A, spec_l3Good.C cal = some A → ArmOk Try.prog envX pv cal A := by
  intro cal A h
  unfold spec_l3Good.C at h
  split at h
  · cases h; exact fun x y hy => spec_l1In.good hE pv x.1 x.2.1 x.2.2.1 hy
  · cases h; exact fun x y hy => spec_l3Days.good hE pv x.1 x.2.1 hy
  · cases h
theorem spec_l3Good.good (hE : EnvOk Try.prog envX) (pv : Nat → Value) (a0 : Date) {y : _} (h : spec_l3Good.F a0 = some y) : Meets Try.prog envX pv (.f 23) (tvals [.date] (a0, ())) (.t .bool y) :=
  fun_plain hE (spec_l3Good.G hE pv) (f := 23) (fn := Try.f23) (by kernel_rfl) rfl (by kernel_rfl) (by kernel_rfl) ((spec_l3Good.run a0).trans h) fun r hr => wk_view1 hr
/-! ### 41 loop.example/g00896/spec.l20Near -/
def spec_l20Near.F (a0 : Int) (a1 : Int) : Option (Bool) := bif (a0 == a1) then (some true) else (bif (a0 == 0) then (some true) else (some (a1 == 0)))
def spec_l20Near.C : Cal → Option CArm := fun c => match c with
  | _ => none
theorem spec_l20Near.run (a0 : Int) (a1 : Int) : runF envX (tabC spec_l20Near.C) (tabL 16 0 (fun _ => none)) Try.f41 [.t (.int .i64) a0, .t (.int .i64) a1] (viewR1 (.t .bool)) = spec_l20Near.F a0 a1 := by kernel_rfl
theorem spec_l20Near.G (hE : EnvOk Try.prog envX) (pv : Nat → Value) : ∀ cal A, spec_l20Near.C cal = some A → ArmOk Try.prog envX pv cal A := by
  intro cal A h
  unfold spec_l20Near.C at h
  cases h
theorem spec_l20Near.good (hE : EnvOk Try.prog envX) (pv : Nat → Value) (a0 : Int) (a1 : Int) {y : _} (h : spec_l20Near.F a0 a1 = some y) : Meets Try.prog envX pv (.f 41) (tvals [(.int .i64), (.int .i64)] (a0, a1, ())) (.t .bool y) :=
  fun_plain hE (spec_l20Near.G hE pv) (f := 41) (fn := Try.f41) (by kernel_rfl) rfl (by kernel_rfl) (by kernel_rfl) ((spec_l20Near.run a0 a1).trans h) fun r hr => wk_view1 hr
/-! ### 24 loop.example/g00896/spec.l20Agree -/
def spec_l20Agree.F (a0 : Date) (a1 : Date) : Option (Bool) := bif (a0.y == 0) then (some true) else (bif (a1.y == 0) then (some true) else (bif (a0.y == a1.y) then ((spec_l20Near.F a0.m a1.m).bind fun r1 => bif r1 then (bif (a0.m == 0) then (some true) else (bif (a1.m == 0) then (some true) else ((spec_l20Near.F a0.d a1.d).bind fun r2 => some r2))) else (some false)) else (some false)))
def spec_l20Agree.C : Cal → Option CArm := fun c => match c with
  | .f 41 => some ⟨[(.int .i64), (.int .i64)], _, fun x => spec_l20Near.F x.1 x.2.1, fun r => (.t .bool r)⟩
  | _ => none
theorem spec_l20Agree.run (a0 : Date) (a1 : Date) : runF envX (tabC spec_l20Agree.C) (tabL 42 0 (fun _ => none)) Try.f24 [.t .date a0, .t .date a1] (viewR1 (.t .bool)) = spec_l20Agree.F a0 a1 := by kernel_rfl
theorem spec_l20Agree.G (hE : EnvOk Try.prog envX) (pv : Nat → Value) : ∀ cal A, spec_l20Agree.C cal = some A → ArmOk Try.prog envX pv cal A := by
  intro cal A h
  unfold spec_l20Agree.C at h
  split at h
  · cases h; exact fun x y hy => spec_l20Near.good hE pv x.1 x.2.1 hy
  · cases h
theorem spec_l20Agree.good (hE : EnvOk Try.prog envX) (pv : Nat → Value) (a0 : Date) (a1 : Date) {y : _} (h : spec_l20Agree.F a0 a1 = some y) : Meets Try.prog envX pv (.f 24) (tvals [.date, .date] (a0, a1, ())) (.t .bool y) :=
  fun_plain hE (spec_l20Agree.G hE pv) (f := 24) (fn := Try.f24) (by kernel_rfl) rfl (by kernel_rfl) (by kernel_rfl) ((spec_l20Agree.run a0 a1).trans h) fun r hr => wk_view1 hr
/-! ### 7 loop.example/g00896/spec.DatesAgree -/
def spec_DatesAgree.F (a0 : Date) (a1 : Date) : Option (Bool × Bool) := (spec_l3Good.F a0).bind fun r1 => bif (!r1) then (some (false, false)) else ((spec_l3Good.F a1).bind fun r2 => bif (!r2) then (some (false, false)) else ((spec_l20Agree.F a0 a1).bind fun r3 => some (r3, true)))
def spec_DatesAgree.C : Cal → Option CArm := fun c => match c with
  | .f 23 => some ⟨[.date], _, fun x => spec_l3Good.F x.1, fun r => (.t .bool r)⟩
  | .f 24 => some ⟨[.date, .date], _, fun x => spec_l20Agree.F x.1 x.2.1, fun r => (.t .bool r)⟩
  | _ => none
theorem spec_DatesAgree.run (a0 : Date) (a1 : Date) : runF envX (tabC spec_DatesAgree.C) (tabL 17 0 (fun _ => none)) Try.f7 [.t .date a0, .t .date a1] (viewR2 (.t .bool) (.t .bool)) = spec_DatesAgree.F a0 a1 := by kernel_rfl
theorem spec_DatesAgree.G (hE : EnvOk Try.prog envX) (pv : Nat → Value) : ∀ cal A, spec_DatesAgree.C cal = some A → ArmOk Try.prog envX pv cal A := by
  intro cal A h
  unfold spec_DatesAgree.C at h
  split at h
  · cases h; exact fun x y hy => spec_l3Good.good hE pv x.1 hy
  · cases h; exact fun x y hy => spec_l20Agree.good hE pv x.1 x.2.1 hy
  · cases h
theorem spec_DatesAgree.good (hE : EnvOk Try.prog envX) (pv : Nat → Value) (a0 : Date) (a1 : Date) {y : _} (h : spec_DatesAgree.F a0 a1 = some y) : Meets Try.prog envX pv (.f 7) (tvals [.date, .date] (a0, a1, ())) (.tup [.t .bool y.1, .t .bool y.2]) :=
  fun_plain hE (spec_DatesAgree.G hE pv) (f := 7) (fn := Try.f7) (by kernel_rfl) rfl (by kernel_rfl) (by kernel_rfl) ((spec_DatesAgree.run a0 a1).trans h) fun r hr => wk_view2 hr
/-! ### 8 loop.example/g00896/laws.toDate -/
def laws_toDate.F (a0 : Date) : Option (Date) := some (⟨a0.y, a0.m, a0.d, a0.c⟩ : Date)
def laws_toDate.C : Cal → Option CArm := fun c => match c with
  | _ => none
theorem laws_toDate.run (a0 : Date) : runF envX (tabC laws_toDate.C) (tabL 17 0 (fun _ => none)) Try.f8 [.t .date a0] (viewR1 (.t .date)) = laws_toDate.F a0 := by kernel_rfl
theorem laws_toDate.G (hE : EnvOk Try.prog envX) (pv : Nat → Value) : ∀ cal A, laws_toDate.C cal = some A → ArmOk Try.prog envX pv cal A := by
  intro cal A h
  unfold laws_toDate.C at h
  cases h
theorem laws_toDate.good (hE : EnvOk Try.prog envX) (pv : Nat → Value) (a0 : Date) {y : _} (h : laws_toDate.F a0 = some y) : Meets Try.prog envX pv (.f 8) (tvals [.date] (a0, ())) (.t .date y) :=
  fun_plain hE (laws_toDate.G hE pv) (f := 8) (fn := Try.f8) (by kernel_rfl) rfl (by kernel_rfl) (by kernel_rfl) ((laws_toDate.run a0).trans h) fun r hr => wk_view1 hr
/-! ### 35 loop.example/g00896/impl.inside -/
def impl_inside.F (a0 : Int) (a1 : Int) (a2 : Int) : Option (Bool) := bif (decide (a0 ≥ a1)) then (some (decide (a0 ≤ a2))) else (some false)
def impl_inside.C : Cal → Option CArm := fun c => match c with
  | _ => none
theorem impl_inside.run (a0 : Int) (a1 : Int) (a2 : Int) : runF envX (tabC impl_inside.C) (tabL 15 0 (fun _ => none)) Try.f35 [.t (.int .i64) a0, .t (.int .i64) a1, .t (.int .i64) a2] (viewR1 (.t .bool)) = impl_inside.F a0 a1 a2 := by kernel_rfl
theorem impl_inside.G (hE : EnvOk Try.prog envX) (pv : Nat → Value) : ∀ cal A, impl_inside.C cal = some A → ArmOk Try.prog envX pv cal A := by
  intro cal A h
  unfold impl_inside.C at h
  cases h
theorem impl_inside.good (hE : EnvOk Try.prog envX) (pv : Nat → Value) (a0 : Int) (a1 : Int) (a2 : Int) {y : _} (h : impl_inside.F a0 a1 a2 = some y) : Meets Try.prog envX pv (.f 35) (tvals [(.int .i64), (.int .i64), (.int .i64)] (a0, a1, a2, ())) (.t .bool y) :=
  fun_plain hE (impl_inside.G hE pv) (f := 35) (fn := Try.f35) (by kernel_rfl) rfl (by kernel_rfl) (by kernel_rfl) ((impl_inside.run a0 a1 a2).trans h) fun r hr => wk_view1 hr
/-! ### 42 loop.example/g00896/impl.daysInMonth -/
def impl_daysInMonth.F (a0 : Int) (a1 : Int) : Option (Int) := bif (a1 == 2) then (bif (4 == 0) then (none) else (bif ((Int.tmod a0 4) == 0) then (bif (100 == 0) then (none) else (bif ((Int.tmod a0 100) != 0) then (some 29) else (bif (400 == 0) then (none) else (bif ((Int.tmod a0 400) == 0) then (some 29) else (some 28))))) else (some 28))) else (bif (a1 == 4) then (bif (a1 == 4) then (some 30) else (some 31)) else (bif (a1 == 6) then (bif (a1 == 6) then (some 30) else (some 31)) else (bif (a1 == 9) then (bif (a1 == 9) then (some 30) else (some 31)) else (bif (a1 == 11) then (some 30) else (some 31)))))
def impl_daysInMonth.C : Cal → Option CArm := fun c => match c with
  | _ => none
theorem impl_daysInMonth.run (a0 : Int) (a1 : Int) : runF envX (tabC impl_daysInMonth.C) (tabL 26 0 (fun _ => none)) Try.f42 [.t (.int .i64) a0, .t (.int .i64) a1] (viewR1 (.t (.int .i64))) = impl_daysInMonth.F a0 a1 := by kernel_rfl
theorem impl_daysInMonth.G (hE : EnvOk Try.prog envX) (pv : Nat → Value) : ∀ cal A, impl_daysInMonth.C cal = some A → ArmOk Try.prog envX pv cal A := by
  intro cal A h
  unfold impl_daysInMonth.C at h
  cases h
theorem impl_daysInMonth.good (hE : EnvOk Try.prog envX) (pv : Nat → Value) (a0 : Int) (a1 : Int) {y : _} (h : impl_daysInMonth.F a0 a1 = some y) : Meets Try.prog envX pv (.f 42) (tvals [(.int .i64), (.int .i64)] (a0, a1, ())) (.t (.int .i64) y) :=
  fun_plain hE (impl_daysInMonth.G hE pv) (f := 42) (fn := Try.f42) (by kernel_rfl) rfl (by kernel_rfl) (by kernel_rfl) ((impl_daysInMonth.run a0 a1).trans h) fun r hr => wk_view1 hr
/-! ### 25 loop.example/g00896/impl.IsValidDate -/
def impl_IsValidDate.F (a0 : Date) : Option (Bool) := bif ((a0.y == 0 && (a0.m == 0 && (a0.d == 0 && a0.c == false)))) then (some true) else ((impl_inside.F a0.y 1 2999).bind fun r1 => bif (!r1) then (some false) else ((impl_inside.F a0.m 0 12).bind fun r2 => bif (!r2) then (some false) else (bif a0.c then (bif (a0.m != 0) then (some false) else (bif (a0.m == 0) then (some (a0.d == 0)) else ((impl_daysInMonth.F a0.y a0.m).bind fun r3 => (impl_inside.F a0.d 0 r3).bind fun r4 => some r4))) else (bif (a0.m == 0) then (some (a0.d == 0)) else ((impl_daysInMonth.F a0.y a0.m).bind fun r5 => (impl_inside.F a0.d 0 r5).bind fun r6 => some r6)))))
def impl_IsValidDate.C : Cal → Option CArm := fun c => match c with
  | .f 35 => some ⟨[(.int .i64), (.int .i64), (.int .i64)], _, fun x => impl_inside.F x.1 x.2.1 x.2.2.1, fun r => (.t .bool r)⟩
  | .f 42 => some ⟨[(.int .i64), (.int .i64)], _, fun x => impl_daysInMonth.F x.1 x.2.1, fun r => (.t (.int .i64) r)⟩
  | _ => none
theorem impl_IsValidDate.run (a0 : Date) : runF envX (tabC impl_IsValidDate.C) (tabL 39 0 (fun _ => none)) Try.f25 [.t .date a0] (viewR1 (.t .bool)) = impl_IsValidDate.F a0 := by kernel_rfl
theorem impl_IsValidDate.G (hE : EnvOk Try.prog envX) (pv : Nat → Value) : ∀ cal A, impl_IsValidDate.C cal = some A → ArmOk Try.prog envX pv cal A := by
  intro cal A h
  unfold impl_IsValidDate.C at h
  split at h
  · cases h; exact fun x y hy => impl_inside.good hE pv x.1 x.2.1 x.2.2.1 hy
  · cases h; exact fun x y hy => impl_daysInMonth.good hE pv x.1 x.2.1 hy
  · cases h
theorem impl_IsValidDate.good (hE : EnvOk Try.prog envX) (pv : Nat → Value) (a0 : Date) {y : _} (h : impl_IsValidDate.F a0 = some y) : Meets Try.prog envX pv (.f 25) (tvals [.date] (a0, ())) (.t .bool y) :=
  fun_plain hE (impl_IsValidDate.G hE pv) (f := 25) (fn := Try.f25) (by kernel_rfl) rfl (by kernel_rfl) (by kernel_rfl) ((impl_IsValidDate.run a0).trans h) fun r hr => wk_view1 hr
/-! ### 26 loop.example/g00896/impl.datesAgree -/
def impl_datesAgree.F (a0 : Date) (a1 : Date) : Option (Bool) := bif (a0.y == 0) then (some true) else (bif (a1.y == 0) then (some true) else (bif (a0.y != a1.y) then (some false) else (bif (a0.m == 0) then (some true) else (bif (a1.m == 0) then (some true) else (bif (a0.m == a1.m) then (bif (a0.d == a1.d) then (some true) else (bif (a0.d == 0) then (some true) else (some (a1.d == 0)))) else (some false))))))
def impl_datesAgree.C : Cal → Option CArm := fun c => match c with
  | _ => none
theorem impl_datesAgree.run (a0 : Date) (a1 : Date) : runF envX (tabC impl_datesAgree.C) (tabL 48 0 (fun _ => none)) Try.f26 [.t .date a0, .t .date a1] (viewR1 (.t .bool)) = impl_datesAgree.F a0 a1 := by kernel_rfl
theorem impl_datesAgree.G (hE : EnvOk Try.prog envX) (pv : Nat → Value) : ∀ cal A, impl_datesAgree.C cal = some A → ArmOk Try.prog envX pv cal A := by
  intro cal A h
  unfold impl_datesAgree.C at h
  cases h
theorem impl_datesAgree.good (hE : EnvOk Try.prog envX) (pv : Nat → Value) (a0 : Date) (a1 : Date) {y : _} (h : impl_datesAgree.F a0 a1 = some y) : Meets Try.prog envX pv (.f 26) (tvals [.date, .date] (a0, a1, ())) (.t .bool y) :=
  fun_plain hE (impl_datesAgree.G hE pv) (f := 26) (fn := Try.f26) (by kernel_rfl) rfl (by kernel_rfl) (by kernel_rfl) ((impl_datesAgree.run a0 a1).trans h) fun r hr => wk_view1 hr
/-! ### 9 loop.example/g00896/impl.DatesAgree -/
def impl_DatesAgree.F (a0 : Date) (a1 : Date) : Option (Bool × Bool) := (impl_IsValidDate.F a0).bind fun r1 => bif (!r1) then (some (false, false)) else ((impl_IsValidDate.F a1).bind fun r2 => bif (!r2) then (some (false, false)) else ((impl_datesAgree.F a0 a1).bind fun r3 => some (r3, true)))
def impl_DatesAgree.C : Cal → Option CArm := fun c => match c with
  | .f 25 => some ⟨[.date], _, fun x => impl_IsValidDate.F x.1, fun r => (.t .bool r)⟩
  | .f 26 => some ⟨[.date, .date], _, fun x => impl_datesAgree.F x.1 x.2.1, fun r => (.t .bool r)⟩
  | _ => none
theorem impl_DatesAgree.run (a0 : Date) (a1 : Date) : runF envX (tabC impl_DatesAgree.C) (tabL 17 0 (fun _ => none)) Try.f9 [.t .date a0, .t .date a1] (viewR2 (.t .bool) (.t .bool)) = impl_DatesAgree.F a0 a1 := by kernel_rfl
theorem impl_DatesAgree.G (hE : EnvOk Try.prog envX) (pv : Nat → Value) : ∀ cal A, impl_DatesAgree.C cal = some A → ArmOk Try.prog envX pv cal A := by
  intro cal A h
  unfold impl_DatesAgree.C at h
  split at h
  · cases h; exact fun x y hy => impl_IsValidDate.good hE pv x.1 hy
  · cases h; exact fun x y hy => impl_datesAgree.good hE pv x.1 x.2.1 hy
  · cases h
theorem impl_DatesAgree.good (hE : EnvOk Try.prog envX) (pv : Nat → Value) (a0 : Date) (a1 : Date) {y : _} (h : impl_DatesAgree.F a0 a1 = some y) : Meets Try.prog envX pv (.f 9) (tvals [.date, .date] (a0, a1, ())) (.tup [.t .bool y.1, .t .bool y.2]) :=
  fun_plain hE (impl_DatesAgree.G hE pv) (f := 9) (fn := Try.f9) (by kernel_rfl) rfl (by kernel_rfl) (by kernel_rfl) ((impl_DatesAgree.run a0 a1).trans h) fun r hr => wk_view2 hr
/-! ### 3 loop.example/g00896/laws.FnExactDatesAgree -/
def laws_FnExactDatesAgree.F (a0 : Date) (a1 : Date) : Option (Bool) := (laws_toDate.F a0).bind fun r1 => (laws_toDate.F a1).bind fun r2 => (spec_DatesAgree.F r1 r2).bind fun r3 => (laws_toDate.F a0).bind fun r4 => (laws_toDate.F a1).bind fun r5 => (impl_DatesAgree.F r4 r5).bind fun r6 => bif (!(r6.1 == r3.1)) then (some false) else (bif (!(r6.2 == r3.2)) then (some false) else (some true))
def laws_FnExactDatesAgree.C : Cal → Option CArm := fun c => match c with
  | .f 8 => some ⟨[.date], _, fun x => laws_toDate.F x.1, fun r => (.t .date r)⟩
  | .f 7 => some ⟨[.date, .date], _, fun x => spec_DatesAgree.F x.1 x.2.1, fun r => (.tup [.t .bool r.1, .t .bool r.2])⟩
  | .f 9 => some ⟨[.date, .date], _, fun x => impl_DatesAgree.F x.1 x.2.1, fun r => (.tup [.t .bool r.1, .t .bool r.2])⟩
  | _ => none
theorem laws_FnExactDatesAgree.run (a0 : Date) (a1 : Date) : runF envX (tabC laws_FnExactDatesAgree.C) (tabL 33 0 (fun _ => none)) Try.f3 [.t .date a0, .t .date a1] (viewR1 (.t .bool)) = laws_FnExactDatesAgree.F a0 a1 := by kernel_rfl
theorem laws_FnExactDatesAgree.G (hE : EnvOk Try.prog envX) (pv : Nat → Value) : ∀ cal A, laws_FnExactDatesAgree.C cal = some A → ArmOk Try.prog envX pv cal A := by
  intro cal A h
  unfold laws_FnExactDatesAgree.C at h
  split at h
  · cases h; exact fun x y hy => laws_toDate.good hE pv x.1 hy
  · cases h; exact fun x y hy => spec_DatesAgree.good hE pv x.1 x.2.1 hy
  · cases h; exact fun x y hy => impl_DatesAgree.good hE pv x.1 x.2.1 hy
  · cases h
theorem laws_FnExactDatesAgree.good (hE : EnvOk Try.prog envX) (pv : Nat → Value) (a0 : Date) (a1 : Date) {y : _} (h : laws_FnExactDatesAgree.F a0 a1 = some y) : Meets Try.prog envX pv (.f 3) (tvals [.date, .date] (a0, a1, ())) (.t .bool y) :=
  fun_plain hE (laws_FnExactDatesAgree.G hE pv) (f := 3) (fn := Try.f3) (by kernel_rfl) rfl (by kernel_rfl) (by kernel_rfl) ((laws_FnExactDatesAgree.run a0 a1).trans h) fun r hr => wk_view1 hr
end Go.Proofs.Ytahacbcnjfoknaa
