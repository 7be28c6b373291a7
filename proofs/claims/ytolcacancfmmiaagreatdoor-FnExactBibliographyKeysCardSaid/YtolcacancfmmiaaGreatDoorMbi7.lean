/- Plain laws: bytes, pieces, edges of a text; no function of the program. -/
import Derived.Test.YtolcacancfmmiaaGreatDoorMbi6
import Derived.Test.YtolcacancfmmiaaGreatDoorMbi4
import Derived.Lib.IndexBytes
import Derived.Lib.IndexLaws
import Derived.Lib.CountLaws
import Derived.Lib.Split
import Derived.Lib.SplitLaws
import Derived.Lib.TrimByte
import Derived.Lib.Join
section
namespace Go.Proofs.YtolcacancfmmiaaGreatDoor
open Go.Gx
set_option linter.unusedVariables false
set_option maxRecDepth 100000
def slices_ContainsFunc_Name_f120.F (k : Nat) (a0 : List Name) : Option (Bool) := (slices_IndexFunc_Name_f120.F k a0).bind fun r1 => some (decide (r1 ≥ 0))
def slices_ContainsFunc_Name_f120.C (k : Nat) : Cal → Option CArm := fun c => match c with
  | .f 139 => some (.q [.t (.sl .name), .clo 120 []] _ (fun x => slices_IndexFunc_Name_f120.F k x.1) (fun r => (.t (.int .i64) r)))
  | _ => none
theorem slices_ContainsFunc_Name_f120.run (k : Nat) (a0 : List Name) : runF envX (tabC (slices_ContainsFunc_Name_f120.C k)) (tabL 9 0 (fun _ => none)) Tryz.f119 [.t (.sl .name) a0, .clo 120 []] (viewR1 (.t .bool)) = slices_ContainsFunc_Name_f120.F k a0 := by kernel_rfl
theorem slices_ContainsFunc_Name_f120.G (hE : EnvOk Tryz.prog envX) (pv : Nat → Value) (k : Nat) : ∀ cal A, slices_ContainsFunc_Name_f120.C k cal = some A → ArmOk Tryz.prog envX pv cal A := by
  intro cal A h
  unfold slices_ContainsFunc_Name_f120.C at h
  split at h
  · cases h; exact fun x y hy => slices_IndexFunc_Name_f120.good hE pv k x.1 hy
  · cases h
theorem slices_ContainsFunc_Name_f120.good (hE : EnvOk Tryz.prog envX) (pv : Nat → Value) (k : Nat) (a0 : List Name) {y : _} (h : slices_ContainsFunc_Name_f120.F k a0 = some y) : Meets Tryz.prog envX pv (.f 119) (pvals [.t (.sl .name), .clo 120 []] (a0, (()), ())) (.t .bool y) :=
  fun_plain hE (slices_ContainsFunc_Name_f120.G hE pv k) (f := 119) (fn := Tryz.f119) (by kernel_rfl) rfl (by kernel_rfl) (by kernel_rfl) ((slices_ContainsFunc_Name_f120.run k a0).trans h) fun r hr => wk_view1 hr
def impl_areNames.F (k : Nat) (a0 : List Name) : Option (Bool) := bif (decide ((a0.length : Int) ≤ 4)) then ((slices_ContainsFunc_Name_f120.F k a0).bind fun r1 => some (!r1)) else (some false)
def impl_areNames.C (k : Nat) : Cal → Option CArm := fun c => match c with
  | .f 119 => some (.q [.t (.sl .name), .clo 120 []] _ (fun x => slices_ContainsFunc_Name_f120.F k x.1) (fun r => (.t .bool r)))
  | _ => none
theorem impl_areNames.run (k : Nat) (a0 : List Name) : runF envX (tabC (impl_areNames.C k)) (tabL 11 0 (fun _ => none)) Tryz.f90 [.t (.sl .name) a0] (viewR1 (.t .bool)) = impl_areNames.F k a0 := by kernel_rfl
theorem impl_areNames.G (hE : EnvOk Tryz.prog envX) (pv : Nat → Value) (k : Nat) : ∀ cal A, impl_areNames.C k cal = some A → ArmOk Tryz.prog envX pv cal A := by
  intro cal A h
  unfold impl_areNames.C at h
  split at h
  · cases h; exact fun x y hy => slices_ContainsFunc_Name_f120.good hE pv k x.1 hy
  · cases h
theorem impl_areNames.good (hE : EnvOk Tryz.prog envX) (pv : Nat → Value) (k : Nat) (a0 : List Name) {y : _} (h : impl_areNames.F k a0 = some y) : Meets Tryz.prog envX pv (.f 90) (tvals [(.sl .name)] (a0, ())) (.t .bool y) :=
  fun_plain hE (impl_areNames.G hE pv k) (f := 90) (fn := Tryz.f90) (by kernel_rfl) rfl (by kernel_rfl) (by kernel_rfl) ((impl_areNames.run k a0).trans h) fun r hr => wk_view1 hr
def impl_daysInMonth.F (a0 : Int) (a1 : Int) : Option (Int) := bif (a1 == 2) then (bif (4 == 0) then (none) else (bif ((Int.tmod a0 4) == 0) then (bif (100 == 0) then (none) else (bif ((Int.tmod a0 100) != 0) then (some 29) else (bif (400 == 0) then (none) else (bif ((Int.tmod a0 400) == 0) then (some 29) else (some 28))))) else (some 28))) else (bif (a1 == 4) then (bif (a1 == 4) then (some 30) else (some 31)) else (bif (a1 == 6) then (bif (a1 == 6) then (some 30) else (some 31)) else (bif (a1 == 9) then (bif (a1 == 9) then (some 30) else (some 31)) else (bif (a1 == 11) then (some 30) else (some 31)))))
def impl_daysInMonth.C : Cal → Option CArm := fun c => match c with
  | _ => none
theorem impl_daysInMonth.run (a0 : Int) (a1 : Int) : runF envX (tabC impl_daysInMonth.C) (tabL 26 0 (fun _ => none)) Tryz.f122 [.t (.int .i64) a0, .t (.int .i64) a1] (viewR1 (.t (.int .i64))) = impl_daysInMonth.F a0 a1 := by kernel_rfl
theorem impl_daysInMonth.G (hE : EnvOk Tryz.prog envX) (pv : Nat → Value) : ∀ cal A, impl_daysInMonth.C cal = some A → ArmOk Tryz.prog envX pv cal A := by
  intro cal A h
  unfold impl_daysInMonth.C at h
  cases h
theorem impl_daysInMonth.good (hE : EnvOk Tryz.prog envX) (pv : Nat → Value) (a0 : Int) (a1 : Int) {y : _} (h : impl_daysInMonth.F a0 a1 = some y) : Meets Tryz.prog envX pv (.f 122) (tvals [(.int .i64), (.int .i64)] (a0, a1, ())) (.t (.int .i64) y) :=
  fun_plain hE (impl_daysInMonth.G hE pv) (f := 122) (fn := Tryz.f122) (by kernel_rfl) rfl (by kernel_rfl) (by kernel_rfl) ((impl_daysInMonth.run a0 a1).trans h) fun r hr => wk_view1 hr
def impl_IsValidDate.F (a0 : Date) : Option (Bool) := bif ((a0.y == 0 && (a0.m == 0 && (a0.d == 0 && a0.c == false)))) then (some true) else ((impl_inside.F a0.y 1 2999).bind fun r1 => bif (!r1) then (some false) else ((impl_inside.F a0.m 0 12).bind fun r2 => bif (!r2) then (some false) else (bif a0.c then (bif (a0.m != 0) then (some false) else (bif (a0.m == 0) then (some (a0.d == 0)) else ((impl_daysInMonth.F a0.y a0.m).bind fun r3 => (impl_inside.F a0.d 0 r3).bind fun r4 => some r4))) else (bif (a0.m == 0) then (some (a0.d == 0)) else ((impl_daysInMonth.F a0.y a0.m).bind fun r5 => (impl_inside.F a0.d 0 r5).bind fun r6 => some r6)))))
def impl_IsValidDate.C : Cal → Option CArm := fun c => match c with
  | .f 31 => some (.p [(.int .i64), (.int .i64), (.int .i64)] _ (fun x => impl_inside.F x.1 x.2.1 x.2.2.1) (fun r => (.t .bool r)))
  | .f 122 => some (.p [(.int .i64), (.int .i64)] _ (fun x => impl_daysInMonth.F x.1 x.2.1) (fun r => (.t (.int .i64) r)))
  | _ => none
theorem impl_IsValidDate.run (a0 : Date) : runF envX (tabC impl_IsValidDate.C) (tabL 39 0 (fun _ => none)) Tryz.f91 [.t .date a0] (viewR1 (.t .bool)) = impl_IsValidDate.F a0 := by kernel_rfl
theorem impl_IsValidDate.G (hE : EnvOk Tryz.prog envX) (pv : Nat → Value) : ∀ cal A, impl_IsValidDate.C cal = some A → ArmOk Tryz.prog envX pv cal A := by
  intro cal A h
  unfold impl_IsValidDate.C at h
  split at h
  · cases h; exact fun x y hy => impl_inside.good hE pv x.1 x.2.1 x.2.2.1 hy
  · cases h; exact fun x y hy => impl_daysInMonth.good hE pv x.1 x.2.1 hy
  · cases h
theorem impl_IsValidDate.good (hE : EnvOk Tryz.prog envX) (pv : Nat → Value) (a0 : Date) {y : _} (h : impl_IsValidDate.F a0 = some y) : Meets Tryz.prog envX pv (.f 91) (tvals [.date] (a0, ())) (.t .bool y) :=
  fun_plain hE (impl_IsValidDate.G hE pv) (f := 91) (fn := Tryz.f91) (by kernel_rfl) rfl (by kernel_rfl) (by kernel_rfl) ((impl_IsValidDate.run a0).trans h) fun r hr => wk_view1 hr
def strings_Trim.F (a0 : ByteArray) (a1 : ByteArray) : Option (ByteArray) := xTrim1 a0 a1
theorem strings_Trim.good (hE : EnvOk Tryz.prog envX) (pv : Nat → Value) (a0 : ByteArray) (a1 : ByteArray) {y : _} (h : strings_Trim.F a0 a1 = some y) : Meets Tryz.prog envX pv (.f 145) (tvals [.str, .str] (a0, a1, ())) (.t .str y) :=
  ext_trim1 (fn := Tryz.f145) (by kernel_rfl) rfl (by kernel_rfl) Tryz.strings_Trim_one h
def impl_isPrintable.l0 : Nat → ByteArray → Int → Option (Sum Bool ByteArray)
  | 0, _, _ => none
  | k + 1, x0, x3 => bif (decide (x3 < (x0.size : Int))) then (bif decide (0 ≤ x3) then (bif decide (x3 < (x0.size : Int)) then (bif (decide ((bt x0 (x3 : Int).toNat) < 32)) then (some (.inl false)) else (bif decide (0 ≤ x3) then (bif decide (x3 < (x0.size : Int)) then (bif (decide ((bt x0 (x3 : Int).toNat) > 126)) then (some (.inl false)) else (impl_isPrintable.l0 k x0 (IntKind.wrap .i64 (x3 + 1)))) else none) else none)) else none) else none) else (some (.inr x0))
def impl_isPrintable.F (k : Nat) (a0 : ByteArray) : Option (Bool) := (impl_isPrintable.l0 k a0 0).bind fun y1 => match y1 with | .inl z2 => some z2 | .inr z2 => (strings_Trim.F z2 (⟨#[32]⟩ : ByteArray)).bind fun r3 => some (beqS r3 z2)
def impl_isPrintable.C (k : Nat) : Cal → Option CArm := fun c => match c with
  | .f 145 => some (.p [.str, .str] _ (fun x => strings_Trim.F x.1 x.2.1) (fun r => (.t .str r)))
  | _ => none
def impl_isPrintable.sp0 : List Sp := [.t 0 .str, .t 3 (.int .i64)]
def impl_isPrintable.sp0_0 : List Sp := [.t 2 .bool]
def impl_isPrintable.sp0_1 : List Sp := [.t 0 .str]
def impl_isPrintable.A0 : LArm := .two impl_isPrintable.sp0 impl_isPrintable.sp0_0 impl_isPrintable.sp0_1 (Bool) (ByteArray) (fun k x => impl_isPrintable.l0 k x.1 x.2.1) .ret (.exit 0) (fun y => (y, ())) (fun x => x.1) (fun y => (y, ())) (fun x => x.1)
def impl_isPrintable.L : Nat → Option LArm := fun b => match b with
  | 0 => some impl_isPrintable.A0
  | _ => none
theorem impl_isPrintable.run (k : Nat) (a0 : ByteArray) : runF envX (tabC (impl_isPrintable.C k)) (tabL 24 k impl_isPrintable.L) Tryz.f123 [.t .str a0] (viewR1 (.t .bool)) = impl_isPrintable.F k a0 := by kernel_rfl
theorem impl_isPrintable.step0 (k : Nat) (x0 : ByteArray) (x3 : Int) : runC envX (tabC (impl_isPrintable.C k)) (tabL 24 k impl_isPrintable.L) 0 (loopAt Tryz.f123 0) (stOf 24 impl_isPrintable.sp0 (x0, x3, ())) (impl_isPrintable.A0.cont 24 k) = impl_isPrintable.l0 (k + 1) x0 x3 := by kernel_rfl
theorem impl_isPrintable.G (hE : EnvOk Tryz.prog envX) (pv : Nat → Value) (k : Nat) : ∀ cal A, impl_isPrintable.C k cal = some A → ArmOk Tryz.prog envX pv cal A := by
  intro cal A h
  unfold impl_isPrintable.C at h
  split at h
  · cases h; exact fun x y hy => strings_Trim.good hE pv x.1 x.2.1 hy
  · cases h
theorem impl_isPrintable.good (hE : EnvOk Tryz.prog envX) (pv : Nat → Value) (k : Nat) (a0 : ByteArray) {y : _} (h : impl_isPrintable.F k a0 = some y) : Meets Tryz.prog envX pv (.f 123) (tvals [.str] (a0, ())) (.t .bool y) :=
  fun_loops hE (t := impl_isPrintable.C) k (fun k _ => impl_isPrintable.G hE pv k) (f := 123) (fn := Tryz.f123) (by kernel_rfl) rfl (by kernel_rfl) (by kernel_rfl) (lt := impl_isPrintable.L) (by kernel_rfl) (fun b A h => by
    unfold impl_isPrintable.L at h; split at h
    · cases h; exact ⟨by kernel_rfl, by kernel_rfl, by kernel_rfl, fun _ => rfl, fun _ => rfl, fun _ => rfl⟩
    · cases h) (fun b A h => by
    unfold impl_isPrintable.L at h; split at h
    · cases h; exact fun k x => impl_isPrintable.step0 k x.1 x.2.1
    · cases h) ((impl_isPrintable.run k a0).trans h) fun r hr => wk_view1 hr
def impl_isText.F (k : Nat) (a0 : ByteArray) : Option (Bool) := bif (decide ((a0.size : Int) ≤ 40)) then ((impl_isPrintable.F k a0).bind fun r1 => some r1) else (some false)
def impl_isText.C (k : Nat) : Cal → Option CArm := fun c => match c with
  | .f 123 => some (.p [.str] _ (fun x => impl_isPrintable.F k x.1) (fun r => (.t .bool r)))
  | _ => none
theorem impl_isText.run (k : Nat) (a0 : ByteArray) : runF envX (tabC (impl_isText.C k)) (tabL 10 0 (fun _ => none)) Tryz.f92 [.t .str a0] (viewR1 (.t .bool)) = impl_isText.F k a0 := by kernel_rfl
theorem impl_isText.G (hE : EnvOk Tryz.prog envX) (pv : Nat → Value) (k : Nat) : ∀ cal A, impl_isText.C k cal = some A → ArmOk Tryz.prog envX pv cal A := by
  intro cal A h
  unfold impl_isText.C at h
  split at h
  · cases h; exact fun x y hy => impl_isPrintable.good hE pv k x.1 hy
  · cases h
theorem impl_isText.good (hE : EnvOk Tryz.prog envX) (pv : Nat → Value) (k : Nat) (a0 : ByteArray) {y : _} (h : impl_isText.F k a0 = some y) : Meets Tryz.prog envX pv (.f 92) (tvals [.str] (a0, ())) (.t .bool y) :=
  fun_plain hE (impl_isText.G hE pv k) (f := 92) (fn := Tryz.f92) (by kernel_rfl) rfl (by kernel_rfl) (by kernel_rfl) ((impl_isText.run k a0).trans h) fun r hr => wk_view1 hr
def impl_IsValidEntry.F (k : Nat) (a0 : Entry) : Option (Bool) := (impl_isKey.F k a0.key).bind fun r1 => bif (!r1) then (some false) else ((impl_isKind.F a0.kind).bind fun r2 => bif (!r2) then (some false) else ((impl_areNames.F k a0.authors).bind fun r3 => bif (!r3) then (some false) else ((impl_areNames.F k a0.editors).bind fun r4 => bif (!r4) then (some false) else ((impl_IsValidDate.F a0.date).bind fun r5 => bif (!r5) then (some false) else ((impl_inside.F a0.volume 0 9999).bind fun r6 => bif (!r6) then (some false) else ((impl_isText.F k a0.title).bind fun r7 => bif r7 then ((impl_isText.F k a0.container).bind fun r8 => bif r8 then ((impl_isText.F k a0.publisher).bind fun r9 => bif r9 then ((impl_isText.F k a0.pages).bind fun r10 => bif r10 then (bif (beqS a0.cross (⟨#[]⟩ : ByteArray)) then (some true) else ((impl_isKey.F k a0.cross).bind fun r11 => bif r11 then (some (!beqS a0.cross a0.key)) else (some false))) else (some false)) else (some false)) else (some false)) else (some false)))))))
def impl_IsValidEntry.C (k : Nat) : Cal → Option CArm := fun c => match c with
  | .f 88 => some (.p [.str] _ (fun x => impl_isKey.F k x.1) (fun r => (.t .bool r)))
  | .f 89 => some (.p [(.int .i64)] _ (fun x => impl_isKind.F x.1) (fun r => (.t .bool r)))
  | .f 90 => some (.p [(.sl .name)] _ (fun x => impl_areNames.F k x.1) (fun r => (.t .bool r)))
  | .f 91 => some (.p [.date] _ (fun x => impl_IsValidDate.F x.1) (fun r => (.t .bool r)))
  | .f 31 => some (.p [(.int .i64), (.int .i64), (.int .i64)] _ (fun x => impl_inside.F x.1 x.2.1 x.2.2.1) (fun r => (.t .bool r)))
  | .f 92 => some (.p [.str] _ (fun x => impl_isText.F k x.1) (fun r => (.t .bool r)))
  | _ => none
theorem impl_IsValidEntry.run (k : Nat) (a0 : Entry) : runF envX (tabC (impl_IsValidEntry.C k)) (tabL 72 0 (fun _ => none)) Tryz.f67 [.t .entry a0] (viewR1 (.t .bool)) = impl_IsValidEntry.F k a0 := by kernel_rfl
theorem impl_IsValidEntry.G (hE : EnvOk Tryz.prog envX) (pv : Nat → Value) (k : Nat) : ∀ cal A, impl_IsValidEntry.C k cal = some A → ArmOk Tryz.prog envX pv cal A := by
  intro cal A h
  unfold impl_IsValidEntry.C at h
  split at h
  · cases h; exact fun x y hy => impl_isKey.good hE pv k x.1 hy
  · cases h; exact fun x y hy => impl_isKind.good hE pv x.1 hy
  · cases h; exact fun x y hy => impl_areNames.good hE pv k x.1 hy
  · cases h; exact fun x y hy => impl_IsValidDate.good hE pv x.1 hy
  · cases h; exact fun x y hy => impl_inside.good hE pv x.1 x.2.1 x.2.2.1 hy
  · cases h; exact fun x y hy => impl_isText.good hE pv k x.1 hy
  · cases h
theorem impl_IsValidEntry.good (hE : EnvOk Tryz.prog envX) (pv : Nat → Value) (k : Nat) (a0 : Entry) {y : _} (h : impl_IsValidEntry.F k a0 = some y) : Meets Tryz.prog envX pv (.f 67) (tvals [.entry] (a0, ())) (.t .bool y) :=
  fun_plain hE (impl_IsValidEntry.G hE pv k) (f := 67) (fn := Tryz.f67) (by kernel_rfl) rfl (by kernel_rfl) (by kernel_rfl) ((impl_IsValidEntry.run k a0).trans h) fun r hr => wk_view1 hr
def impl_IsValidLibrary.l0 : Nat → Library → (List Entry) → Int → Int → Option (Sum Bool Library)
  | 0, _, _, _, _ => none
  | k + 1, x1, x6, x7, x8 => bif (decide (x8 < x7)) then (bif decide (0 ≤ x8) then (bif decide (x8 < (x6.length : Int)) then ((impl_IsValidEntry.F k (x6.getD (x8 : Int).toNat (dflt .entry))).bind fun r1 => bif (!r1) then (some (.inl false)) else (bif (decide (x8 > 0)) then (bif decide (0 ≤ (IntKind.wrap .i64 (x8 - 1))) then (bif decide ((IntKind.wrap .i64 (x8 - 1)) < (x1.entries.length : Int)) then (bif (!ltS ((x1.entries.getD ((IntKind.wrap .i64 (x8 - 1)) : Int).toNat (dflt .entry)).key) ((x6.getD (x8 : Int).toNat (dflt .entry)).key)) then (some (.inl false)) else (impl_IsValidLibrary.l0 k x1 x6 x7 (IntKind.wrap .i64 (x8 + 1)))) else none) else none) else (impl_IsValidLibrary.l0 k x1 x6 x7 (IntKind.wrap .i64 (x8 + 1))))) else none) else none) else (some (.inr x1))
def impl_IsValidLibrary.F (k : Nat) (a0 : Library) : Option (Bool) := (impl_IsValidLibrary.l0 k a0 a0.entries (a0.entries.length : Int) 0).bind fun y2 => match y2 with | .inl z3 => some z3 | .inr z3 => some (decide ((z3.entries.length : Int) ≤ 8))
def impl_IsValidLibrary.C (k : Nat) : Cal → Option CArm := fun c => match c with
  | .f 67 => some (.p [.entry] _ (fun x => impl_IsValidEntry.F k x.1) (fun r => (.t .bool r)))
  | _ => none
def impl_IsValidLibrary.sp0 : List Sp := [.boxT 1 0 .lib, .t 6 (.sl .entry), .t 7 (.int .i64), .t 8 (.int .i64)]
def impl_IsValidLibrary.sp0_0 : List Sp := [.t 2 .bool]
def impl_IsValidLibrary.sp0_1 : List Sp := [.boxT 1 0 .lib]
def impl_IsValidLibrary.A0 : LArm := .two impl_IsValidLibrary.sp0 impl_IsValidLibrary.sp0_0 impl_IsValidLibrary.sp0_1 (Bool) (Library) (fun k x => impl_IsValidLibrary.l0 k x.1 x.2.1 x.2.2.1 x.2.2.2.1) .ret (.exit 0) (fun y => (y, ())) (fun x => x.1) (fun y => (y, ())) (fun x => x.1)
def impl_IsValidLibrary.L : Nat → Option LArm := fun b => match b with
  | 0 => some impl_IsValidLibrary.A0
  | _ => none
theorem impl_IsValidLibrary.run (k : Nat) (a0 : Library) : runF envX (tabC (impl_IsValidLibrary.C k)) (tabL 37 k impl_IsValidLibrary.L) Tryz.f47 [.t .lib a0] (viewR1 (.t .bool)) = impl_IsValidLibrary.F k a0 := by kernel_rfl
theorem impl_IsValidLibrary.step0 (k : Nat) (x1 : Library) (x6 : List Entry) (x7 : Int) (x8 : Int) : runC envX (tabC (impl_IsValidLibrary.C k)) (tabL 37 k impl_IsValidLibrary.L) 0 (loopAt Tryz.f47 0) (stOf 37 impl_IsValidLibrary.sp0 (x1, x6, x7, x8, ())) (impl_IsValidLibrary.A0.cont 37 k) = impl_IsValidLibrary.l0 (k + 1) x1 x6 x7 x8 := by kernel_rfl
theorem impl_IsValidLibrary.G (hE : EnvOk Tryz.prog envX) (pv : Nat → Value) (k : Nat) : ∀ cal A, impl_IsValidLibrary.C k cal = some A → ArmOk Tryz.prog envX pv cal A := by
  intro cal A h
  unfold impl_IsValidLibrary.C at h
  split at h
  · cases h; exact fun x y hy => impl_IsValidEntry.good hE pv k x.1 hy
  · cases h
theorem impl_IsValidLibrary.good (hE : EnvOk Tryz.prog envX) (pv : Nat → Value) (k : Nat) (a0 : Library) {y : _} (h : impl_IsValidLibrary.F k a0 = some y) : Meets Tryz.prog envX pv (.f 47) (tvals [.lib] (a0, ())) (.t .bool y) :=
  fun_loops hE (t := impl_IsValidLibrary.C) k (fun k _ => impl_IsValidLibrary.G hE pv k) (f := 47) (fn := Tryz.f47) (by kernel_rfl) rfl (by kernel_rfl) (by kernel_rfl) (lt := impl_IsValidLibrary.L) (by kernel_rfl) (fun b A h => by
    unfold impl_IsValidLibrary.L at h; split at h
    · cases h; exact ⟨by kernel_rfl, by kernel_rfl, by kernel_rfl, fun _ => rfl, fun _ => rfl, fun _ => rfl⟩
    · cases h) (fun b A h => by
    unfold impl_IsValidLibrary.L at h; split at h
    · cases h; exact fun k x => impl_IsValidLibrary.step0 k x.1 x.2.1 x.2.2.1 x.2.2.2.1
    · cases h) ((impl_IsValidLibrary.run k a0).trans h) fun r hr => wk_view1 hr
def impl_areKeys.l0 : Nat → (List ByteArray) → Library → (List ByteArray) → Int → Int → Option (Sum Bool Library)
  | 0, _, _, _, _, _ => none
  | k + 1, x1, x2, x7, x8, x9 => bif (decide (x9 < x8)) then (bif decide (0 ≤ x9) then (bif decide (x9 < (x7.length : Int)) then ((impl_entryIndex.F k x2 (x7.getD (x9 : Int).toNat (⟨#[]⟩ : ByteArray))).bind fun r1 => bif (decide (r1 < 0)) then (some (.inl false)) else (bif decide (0 ≤ x9) then (bif decide (x9 ≤ (x1.length : Int)) then ((slices_Contains_string.F k (x1.take (x9 : Int).toNat) (x7.getD (x9 : Int).toNat (⟨#[]⟩ : ByteArray))).bind fun r2 => bif r2 then (some (.inl false)) else (impl_areKeys.l0 k x1 x2 x7 x8 (IntKind.wrap .i64 (x9 + 1)))) else none) else none)) else none) else none) else (some (.inr x2))
def impl_areKeys.F (k : Nat) (a0 : Library) (a1 : List ByteArray) : Option (Bool) := (impl_areKeys.l0 k a1 a0 a1 (a1.length : Int) 0).bind fun y3 => match y3 with | .inl z4 => some z4 | .inr z4 => (impl_IsValidLibrary.F k z4).bind fun r5 => some r5
def impl_areKeys.C (k : Nat) : Cal → Option CArm := fun c => match c with
  | .f 45 => some (.p [.lib, .str] _ (fun x => impl_entryIndex.F k x.1 x.2.1) (fun r => (.t (.int .i64) r)))
  | .f 46 => some (.p [(.sl .str), .str] _ (fun x => slices_Contains_string.F k x.1 x.2.1) (fun r => (.t .bool r)))
  | .f 47 => some (.p [.lib] _ (fun x => impl_IsValidLibrary.F k x.1) (fun r => (.t .bool r)))
  | _ => none
def impl_areKeys.sp0 : List Sp := [.t 1 (.sl .str), .boxT 2 0 .lib, .t 7 (.sl .str), .t 8 (.int .i64), .t 9 (.int .i64)]
def impl_areKeys.sp0_0 : List Sp := [.t 4 .bool]
def impl_areKeys.sp0_1 : List Sp := [.boxT 2 0 .lib]
def impl_areKeys.A0 : LArm := .two impl_areKeys.sp0 impl_areKeys.sp0_0 impl_areKeys.sp0_1 (Bool) (Library) (fun k x => impl_areKeys.l0 k x.1 x.2.1 x.2.2.1 x.2.2.2.1 x.2.2.2.2.1) .ret (.exit 0) (fun y => (y, ())) (fun x => x.1) (fun y => (y, ())) (fun x => x.1)
def impl_areKeys.L : Nat → Option LArm := fun b => match b with
  | 0 => some impl_areKeys.A0
  | _ => none
theorem impl_areKeys.run (k : Nat) (a0 : Library) (a1 : List ByteArray) : runF envX (tabC (impl_areKeys.C k)) (tabL 28 k impl_areKeys.L) Tryz.f30 [.t .lib a0, .t (.sl .str) a1] (viewR1 (.t .bool)) = impl_areKeys.F k a0 a1 := by kernel_rfl
theorem impl_areKeys.step0 (k : Nat) (x1 : List ByteArray) (x2 : Library) (x7 : List ByteArray) (x8 : Int) (x9 : Int) : runC envX (tabC (impl_areKeys.C k)) (tabL 28 k impl_areKeys.L) 0 (loopAt Tryz.f30 0) (stOf 28 impl_areKeys.sp0 (x1, x2, x7, x8, x9, ())) (impl_areKeys.A0.cont 28 k) = impl_areKeys.l0 (k + 1) x1 x2 x7 x8 x9 := by kernel_rfl
theorem impl_areKeys.G (hE : EnvOk Tryz.prog envX) (pv : Nat → Value) (k : Nat) : ∀ cal A, impl_areKeys.C k cal = some A → ArmOk Tryz.prog envX pv cal A := by
  intro cal A h
  unfold impl_areKeys.C at h
  split at h
  · cases h; exact fun x y hy => impl_entryIndex.good hE pv k x.1 x.2.1 hy
  · cases h; exact fun x y hy => slices_Contains_string.good hE pv k x.1 x.2.1 hy
  · cases h; exact fun x y hy => impl_IsValidLibrary.good hE pv k x.1 hy
  · cases h
theorem impl_areKeys.good (hE : EnvOk Tryz.prog envX) (pv : Nat → Value) (k : Nat) (a0 : Library) (a1 : List ByteArray) {y : _} (h : impl_areKeys.F k a0 a1 = some y) : Meets Tryz.prog envX pv (.f 30) (tvals [.lib, (.sl .str)] (a0, a1, ())) (.t .bool y) :=
  fun_loops hE (t := impl_areKeys.C) k (fun k _ => impl_areKeys.G hE pv k) (f := 30) (fn := Tryz.f30) (by kernel_rfl) rfl (by kernel_rfl) (by kernel_rfl) (lt := impl_areKeys.L) (by kernel_rfl) (fun b A h => by
    unfold impl_areKeys.L at h; split at h
    · cases h; exact ⟨by kernel_rfl, by kernel_rfl, by kernel_rfl, fun _ => rfl, fun _ => rfl, fun _ => rfl⟩
    · cases h) (fun b A h => by
    unfold impl_areKeys.L at h; split at h
    · cases h; exact fun k x => impl_areKeys.step0 k x.1 x.2.1 x.2.2.1 x.2.2.2.1 x.2.2.2.2.1
    · cases h) ((impl_areKeys.run k a0 a1).trans h) fun r hr => wk_view1 hr
def impl_isMode.F (k : Nat) (a0 : Library) (a1 : List ByteArray) (a2 : Int) : Option (Bool) := (impl_areKeys.F k a0 a1).bind fun r1 => bif r1 then ((impl_inside.F a2 1 3).bind fun r2 => some r2) else (some false)
def impl_isMode.C (k : Nat) : Cal → Option CArm := fun c => match c with
  | .f 30 => some (.p [.lib, (.sl .str)] _ (fun x => impl_areKeys.F k x.1 x.2.1) (fun r => (.t .bool r)))
  | .f 31 => some (.p [(.int .i64), (.int .i64), (.int .i64)] _ (fun x => impl_inside.F x.1 x.2.1 x.2.2.1) (fun r => (.t .bool r)))
  | _ => none
theorem impl_isMode.run (k : Nat) (a0 : Library) (a1 : List ByteArray) (a2 : Int) : runF envX (tabC (impl_isMode.C k)) (tabL 14 0 (fun _ => none)) Tryz.f19 [.t .lib a0, .t (.sl .str) a1, .t (.int .i64) a2] (viewR1 (.t .bool)) = impl_isMode.F k a0 a1 a2 := by kernel_rfl
theorem impl_isMode.G (hE : EnvOk Tryz.prog envX) (pv : Nat → Value) (k : Nat) : ∀ cal A, impl_isMode.C k cal = some A → ArmOk Tryz.prog envX pv cal A := by
  intro cal A h
  unfold impl_isMode.C at h
  split at h
  · cases h; exact fun x y hy => impl_areKeys.good hE pv k x.1 x.2.1 hy
  · cases h; exact fun x y hy => impl_inside.good hE pv x.1 x.2.1 x.2.2.1 hy
  · cases h
theorem impl_isMode.good (hE : EnvOk Tryz.prog envX) (pv : Nat → Value) (k : Nat) (a0 : Library) (a1 : List ByteArray) (a2 : Int) {y : _} (h : impl_isMode.F k a0 a1 a2 = some y) : Meets Tryz.prog envX pv (.f 19) (tvals [.lib, (.sl .str), (.int .i64)] (a0, a1, a2, ())) (.t .bool y) :=
  fun_plain hE (impl_isMode.G hE pv k) (f := 19) (fn := Tryz.f19) (by kernel_rfl) rfl (by kernel_rfl) (by kernel_rfl) ((impl_isMode.run k a0 a1 a2).trans h) fun r hr => wk_view1 hr
-- NO 78 slices.insertionSortCmpFunc[string]: a parameter's type
-- NO 68 slices.pdqsortCmpFunc[string]: a parameter's type
def bits_Len32.F (a0 : Int) : Option (Int) := bif (decide (a0 ≥ 65536)) then (bif decide (0 ≤ 16) then (bif (decide ((Int.fdiv a0 (2 ^ min (16 : Int).toNat (IntKind.bits .u32))) ≥ 256)) then (bif decide (0 ≤ 8) then (bif decide (0 ≤ (IntKind.wrap .u8 (Int.fdiv (Int.fdiv a0 (2 ^ min (16 : Int).toNat (IntKind.bits .u32))) (2 ^ min (8 : Int).toNat (IntKind.bits .u32))))) then (bif decide ((IntKind.wrap .u8 (Int.fdiv (Int.fdiv a0 (2 ^ min (16 : Int).toNat (IntKind.bits .u32))) (2 ^ min (8 : Int).toNat (IntKind.bits .u32)))) < (strV0.size : Int)) then (some (IntKind.wrap .i64 ((IntKind.wrap .i64 (16 + 8)) + (IntKind.wrap .i64 (bt strV0 ((IntKind.wrap .u8 (Int.fdiv (Int.fdiv a0 (2 ^ min (16 : Int).toNat (IntKind.bits .u32))) (2 ^ min (8 : Int).toNat (IntKind.bits .u32)))) : Int).toNat))))) else none) else none) else none) else (bif decide (0 ≤ (IntKind.wrap .u8 (Int.fdiv a0 (2 ^ min (16 : Int).toNat (IntKind.bits .u32))))) then (bif decide ((IntKind.wrap .u8 (Int.fdiv a0 (2 ^ min (16 : Int).toNat (IntKind.bits .u32)))) < (strV0.size : Int)) then (some (IntKind.wrap .i64 (16 + (IntKind.wrap .i64 (bt strV0 ((IntKind.wrap .u8 (Int.fdiv a0 (2 ^ min (16 : Int).toNat (IntKind.bits .u32)))) : Int).toNat))))) else none) else none)) else none) else (bif (decide (a0 ≥ 256)) then (bif decide (0 ≤ 8) then (bif decide (0 ≤ (IntKind.wrap .u8 (Int.fdiv a0 (2 ^ min (8 : Int).toNat (IntKind.bits .u32))))) then (bif decide ((IntKind.wrap .u8 (Int.fdiv a0 (2 ^ min (8 : Int).toNat (IntKind.bits .u32)))) < (strV0.size : Int)) then (some (IntKind.wrap .i64 ((IntKind.wrap .i64 (0 + 8)) + (IntKind.wrap .i64 (bt strV0 ((IntKind.wrap .u8 (Int.fdiv a0 (2 ^ min (8 : Int).toNat (IntKind.bits .u32)))) : Int).toNat))))) else none) else none) else none) else (bif decide (0 ≤ (IntKind.wrap .u8 a0)) then (bif decide ((IntKind.wrap .u8 a0) < (strV0.size : Int)) then (some (IntKind.wrap .i64 (0 + (IntKind.wrap .i64 (bt strV0 ((IntKind.wrap .u8 a0) : Int).toNat))))) else none) else none))
def bits_Len32.C : Cal → Option CArm := fun c => match c with
  | _ => none
theorem bits_Len32.run (a0 : Int) : runF envX (tabC bits_Len32.C) (tabL 19 0 (fun _ => none)) Tryz.f100 [.t (.int .u32) a0] (viewR1 (.t (.int .i64))) = bits_Len32.F a0 := by kernel_rfl
theorem bits_Len32.G (hE : EnvOk Tryz.prog envX) (pv : Nat → Value) : ∀ cal A, bits_Len32.C cal = some A → ArmOk Tryz.prog envX pv cal A := by
  intro cal A h
  unfold bits_Len32.C at h
  cases h
theorem bits_Len32.good (hE : EnvOk Tryz.prog envX) (pv : Nat → Value) (a0 : Int) {y : _} (h : bits_Len32.F a0 = some y) : Meets Tryz.prog envX pv (.f 100) (tvals [(.int .u32)] (a0, ())) (.t (.int .i64) y) :=
  fun_plain hE (bits_Len32.G hE pv) (f := 100) (fn := Tryz.f100) (by kernel_rfl) rfl (by kernel_rfl) (by kernel_rfl) ((bits_Len32.run a0).trans h) fun r hr => wk_view1 hr
def bits_Len64.F (a0 : Int) : Option (Int) := bif (decide (a0 ≥ 4294967296)) then (bif decide (0 ≤ 32) then (bif (decide ((Int.fdiv a0 (2 ^ min (32 : Int).toNat (IntKind.bits .u64))) ≥ 65536)) then (bif decide (0 ≤ 16) then (bif (decide ((Int.fdiv (Int.fdiv a0 (2 ^ min (32 : Int).toNat (IntKind.bits .u64))) (2 ^ min (16 : Int).toNat (IntKind.bits .u64))) ≥ 256)) then (bif decide (0 ≤ 8) then (bif decide (0 ≤ (IntKind.wrap .u8 (Int.fdiv (Int.fdiv (Int.fdiv a0 (2 ^ min (32 : Int).toNat (IntKind.bits .u64))) (2 ^ min (16 : Int).toNat (IntKind.bits .u64))) (2 ^ min (8 : Int).toNat (IntKind.bits .u64))))) then (bif decide ((IntKind.wrap .u8 (Int.fdiv (Int.fdiv (Int.fdiv a0 (2 ^ min (32 : Int).toNat (IntKind.bits .u64))) (2 ^ min (16 : Int).toNat (IntKind.bits .u64))) (2 ^ min (8 : Int).toNat (IntKind.bits .u64)))) < (strV0.size : Int)) then (some (IntKind.wrap .i64 ((IntKind.wrap .i64 ((IntKind.wrap .i64 (32 + 16)) + 8)) + (IntKind.wrap .i64 (bt strV0 ((IntKind.wrap .u8 (Int.fdiv (Int.fdiv (Int.fdiv a0 (2 ^ min (32 : Int).toNat (IntKind.bits .u64))) (2 ^ min (16 : Int).toNat (IntKind.bits .u64))) (2 ^ min (8 : Int).toNat (IntKind.bits .u64)))) : Int).toNat))))) else none) else none) else none) else (bif decide (0 ≤ (IntKind.wrap .u8 (Int.fdiv (Int.fdiv a0 (2 ^ min (32 : Int).toNat (IntKind.bits .u64))) (2 ^ min (16 : Int).toNat (IntKind.bits .u64))))) then (bif decide ((IntKind.wrap .u8 (Int.fdiv (Int.fdiv a0 (2 ^ min (32 : Int).toNat (IntKind.bits .u64))) (2 ^ min (16 : Int).toNat (IntKind.bits .u64)))) < (strV0.size : Int)) then (some (IntKind.wrap .i64 ((IntKind.wrap .i64 (32 + 16)) + (IntKind.wrap .i64 (bt strV0 ((IntKind.wrap .u8 (Int.fdiv (Int.fdiv a0 (2 ^ min (32 : Int).toNat (IntKind.bits .u64))) (2 ^ min (16 : Int).toNat (IntKind.bits .u64)))) : Int).toNat))))) else none) else none)) else none) else (bif (decide ((Int.fdiv a0 (2 ^ min (32 : Int).toNat (IntKind.bits .u64))) ≥ 256)) then (bif decide (0 ≤ 8) then (bif decide (0 ≤ (IntKind.wrap .u8 (Int.fdiv (Int.fdiv a0 (2 ^ min (32 : Int).toNat (IntKind.bits .u64))) (2 ^ min (8 : Int).toNat (IntKind.bits .u64))))) then (bif decide ((IntKind.wrap .u8 (Int.fdiv (Int.fdiv a0 (2 ^ min (32 : Int).toNat (IntKind.bits .u64))) (2 ^ min (8 : Int).toNat (IntKind.bits .u64)))) < (strV0.size : Int)) then (some (IntKind.wrap .i64 ((IntKind.wrap .i64 (32 + 8)) + (IntKind.wrap .i64 (bt strV0 ((IntKind.wrap .u8 (Int.fdiv (Int.fdiv a0 (2 ^ min (32 : Int).toNat (IntKind.bits .u64))) (2 ^ min (8 : Int).toNat (IntKind.bits .u64)))) : Int).toNat))))) else none) else none) else none) else (bif decide (0 ≤ (IntKind.wrap .u8 (Int.fdiv a0 (2 ^ min (32 : Int).toNat (IntKind.bits .u64))))) then (bif decide ((IntKind.wrap .u8 (Int.fdiv a0 (2 ^ min (32 : Int).toNat (IntKind.bits .u64)))) < (strV0.size : Int)) then (some (IntKind.wrap .i64 (32 + (IntKind.wrap .i64 (bt strV0 ((IntKind.wrap .u8 (Int.fdiv a0 (2 ^ min (32 : Int).toNat (IntKind.bits .u64)))) : Int).toNat))))) else none) else none))) else none) else (bif (decide (a0 ≥ 65536)) then (bif decide (0 ≤ 16) then (bif (decide ((Int.fdiv a0 (2 ^ min (16 : Int).toNat (IntKind.bits .u64))) ≥ 256)) then (bif decide (0 ≤ 8) then (bif decide (0 ≤ (IntKind.wrap .u8 (Int.fdiv (Int.fdiv a0 (2 ^ min (16 : Int).toNat (IntKind.bits .u64))) (2 ^ min (8 : Int).toNat (IntKind.bits .u64))))) then (bif decide ((IntKind.wrap .u8 (Int.fdiv (Int.fdiv a0 (2 ^ min (16 : Int).toNat (IntKind.bits .u64))) (2 ^ min (8 : Int).toNat (IntKind.bits .u64)))) < (strV0.size : Int)) then (some (IntKind.wrap .i64 ((IntKind.wrap .i64 ((IntKind.wrap .i64 (0 + 16)) + 8)) + (IntKind.wrap .i64 (bt strV0 ((IntKind.wrap .u8 (Int.fdiv (Int.fdiv a0 (2 ^ min (16 : Int).toNat (IntKind.bits .u64))) (2 ^ min (8 : Int).toNat (IntKind.bits .u64)))) : Int).toNat))))) else none) else none) else none) else (bif decide (0 ≤ (IntKind.wrap .u8 (Int.fdiv a0 (2 ^ min (16 : Int).toNat (IntKind.bits .u64))))) then (bif decide ((IntKind.wrap .u8 (Int.fdiv a0 (2 ^ min (16 : Int).toNat (IntKind.bits .u64)))) < (strV0.size : Int)) then (some (IntKind.wrap .i64 ((IntKind.wrap .i64 (0 + 16)) + (IntKind.wrap .i64 (bt strV0 ((IntKind.wrap .u8 (Int.fdiv a0 (2 ^ min (16 : Int).toNat (IntKind.bits .u64)))) : Int).toNat))))) else none) else none)) else none) else (bif (decide (a0 ≥ 256)) then (bif decide (0 ≤ 8) then (bif decide (0 ≤ (IntKind.wrap .u8 (Int.fdiv a0 (2 ^ min (8 : Int).toNat (IntKind.bits .u64))))) then (bif decide ((IntKind.wrap .u8 (Int.fdiv a0 (2 ^ min (8 : Int).toNat (IntKind.bits .u64)))) < (strV0.size : Int)) then (some (IntKind.wrap .i64 ((IntKind.wrap .i64 (0 + 8)) + (IntKind.wrap .i64 (bt strV0 ((IntKind.wrap .u8 (Int.fdiv a0 (2 ^ min (8 : Int).toNat (IntKind.bits .u64)))) : Int).toNat))))) else none) else none) else none) else (bif decide (0 ≤ (IntKind.wrap .u8 a0)) then (bif decide ((IntKind.wrap .u8 a0) < (strV0.size : Int)) then (some (IntKind.wrap .i64 (0 + (IntKind.wrap .i64 (bt strV0 ((IntKind.wrap .u8 a0) : Int).toNat))))) else none) else none)))
def bits_Len64.C : Cal → Option CArm := fun c => match c with
  | _ => none
theorem bits_Len64.run (a0 : Int) : runF envX (tabC bits_Len64.C) (tabL 25 0 (fun _ => none)) Tryz.f101 [.t (.int .u64) a0] (viewR1 (.t (.int .i64))) = bits_Len64.F a0 := by kernel_rfl
theorem bits_Len64.G (hE : EnvOk Tryz.prog envX) (pv : Nat → Value) : ∀ cal A, bits_Len64.C cal = some A → ArmOk Tryz.prog envX pv cal A := by
  intro cal A h
  unfold bits_Len64.C at h
  cases h
theorem bits_Len64.good (hE : EnvOk Tryz.prog envX) (pv : Nat → Value) (a0 : Int) {y : _} (h : bits_Len64.F a0 = some y) : Meets Tryz.prog envX pv (.f 101) (tvals [(.int .u64)] (a0, ())) (.t (.int .i64) y) :=
  fun_plain hE (bits_Len64.G hE pv) (f := 101) (fn := Tryz.f101) (by kernel_rfl) rfl (by kernel_rfl) (by kernel_rfl) ((bits_Len64.run a0).trans h) fun r hr => wk_view1 hr
def bits_Len.F (a0 : Int) : Option (Int) := (bits_Len64.F a0).bind fun r1 => some r1
def bits_Len.C : Cal → Option CArm := fun c => match c with
  | .f 101 => some (.p [(.int .u64)] _ (fun x => bits_Len64.F x.1) (fun r => (.t (.int .i64) r)))
  | _ => none
theorem bits_Len.run (a0 : Int) : runF envX (tabC bits_Len.C) (tabL 8 0 (fun _ => none)) Tryz.f69 [.t (.int .u64) a0] (viewR1 (.t (.int .i64))) = bits_Len.F a0 := by kernel_rfl
theorem bits_Len.G (hE : EnvOk Tryz.prog envX) (pv : Nat → Value) : ∀ cal A, bits_Len.C cal = some A → ArmOk Tryz.prog envX pv cal A := by
  intro cal A h
  unfold bits_Len.C at h
  split at h
  · cases h; exact fun x y hy => bits_Len64.good hE pv x.1 hy
  · cases h
theorem bits_Len.good (hE : EnvOk Tryz.prog envX) (pv : Nat → Value) (a0 : Int) {y : _} (h : bits_Len.F a0 = some y) : Meets Tryz.prog envX pv (.f 69) (tvals [(.int .u64)] (a0, ())) (.t (.int .i64) y) :=
  fun_plain hE (bits_Len.G hE pv) (f := 69) (fn := Tryz.f69) (by kernel_rfl) rfl (by kernel_rfl) (by kernel_rfl) ((bits_Len.run a0).trans h) fun r hr => wk_view1 hr
-- NO 48 slices.SortFunc[[]string,string]: a parameter's type
def cmp_isNaN_int.F (a0 : Int) : Option (Bool) := some (a0 != a0)
def cmp_isNaN_int.C : Cal → Option CArm := fun c => match c with
  | _ => none
theorem cmp_isNaN_int.run (a0 : Int) : runF envX (tabC cmp_isNaN_int.C) (tabL 6 0 (fun _ => none)) Tryz.f52 [.t (.int .i64) a0] (viewR1 (.t .bool)) = cmp_isNaN_int.F a0 := by kernel_rfl
theorem cmp_isNaN_int.G (hE : EnvOk Tryz.prog envX) (pv : Nat → Value) : ∀ cal A, cmp_isNaN_int.C cal = some A → ArmOk Tryz.prog envX pv cal A := by
  intro cal A h
  unfold cmp_isNaN_int.C at h
  cases h
theorem cmp_isNaN_int.good (hE : EnvOk Tryz.prog envX) (pv : Nat → Value) (a0 : Int) {y : _} (h : cmp_isNaN_int.F a0 = some y) : Meets Tryz.prog envX pv (.f 52) (tvals [(.int .i64)] (a0, ())) (.t .bool y) :=
  fun_plain hE (cmp_isNaN_int.G hE pv) (f := 52) (fn := Tryz.f52) (by kernel_rfl) rfl (by kernel_rfl) (by kernel_rfl) ((cmp_isNaN_int.run a0).trans h) fun r hr => wk_view1 hr
def cmp_Compare_int.F (a0 : Int) (a1 : Int) : Option (Int) := (cmp_isNaN_int.F a0).bind fun r1 => (cmp_isNaN_int.F a1).bind fun r2 => bif r1 then (bif r2 then (some 0) else (some (-1))) else (bif r2 then (some 1) else (bif (decide (a0 < a1)) then (some (-1)) else (bif (decide (a0 > a1)) then (some 1) else (some 0))))
def cmp_Compare_int.C : Cal → Option CArm := fun c => match c with
  | .f 52 => some (.p [(.int .i64)] _ (fun x => cmp_isNaN_int.F x.1) (fun r => (.t .bool r)))
  | _ => none
theorem cmp_Compare_int.run (a0 : Int) (a1 : Int) : runF envX (tabC cmp_Compare_int.C) (tabL 20 0 (fun _ => none)) Tryz.f35 [.t (.int .i64) a0, .t (.int .i64) a1] (viewR1 (.t (.int .i64))) = cmp_Compare_int.F a0 a1 := by kernel_rfl
theorem cmp_Compare_int.G (hE : EnvOk Tryz.prog envX) (pv : Nat → Value) : ∀ cal A, cmp_Compare_int.C cal = some A → ArmOk Tryz.prog envX pv cal A := by
  intro cal A h
  unfold cmp_Compare_int.C at h
  split at h
  · cases h; exact fun x y hy => cmp_isNaN_int.good hE pv x.1 hy
  · cases h
theorem cmp_Compare_int.good (hE : EnvOk Tryz.prog envX) (pv : Nat → Value) (a0 : Int) (a1 : Int) {y : _} (h : cmp_Compare_int.F a0 a1 = some y) : Meets Tryz.prog envX pv (.f 35) (tvals [(.int .i64), (.int .i64)] (a0, a1, ())) (.t (.int .i64) y) :=
  fun_plain hE (cmp_Compare_int.G hE pv) (f := 35) (fn := Tryz.f35) (by kernel_rfl) rfl (by kernel_rfl) (by kernel_rfl) ((cmp_Compare_int.run a0 a1).trans h) fun r hr => wk_view1 hr
def cmp_Or_int.l0 : Nat → Int → (List Int) → Int → Int → Option (Sum Int Int)
  | 0, _, _, _, _ => none
  | k + 1, x3, x6, x7, x8 => bif (decide (x8 < x7)) then (bif decide (0 ≤ x8) then (bif decide (x8 < (x6.length : Int)) then (bif ((x6.getD (x8 : Int).toNat 0) != x3) then (some (.inl (x6.getD (x8 : Int).toNat 0))) else (cmp_Or_int.l0 k x3 x6 x7 (IntKind.wrap .i64 (x8 + 1)))) else none) else none) else (some (.inr x3))
def cmp_Or_int.F (k : Nat) (a0 : List Int) : Option (Int) := (cmp_Or_int.l0 k 0 a0 (a0.length : Int) 0).bind fun y1 => match y1 with | .inl z2 => some z2 | .inr z2 => some z2
def cmp_Or_int.C (k : Nat) : Cal → Option CArm := fun c => match c with
  | _ => none
def cmp_Or_int.sp0 : List Sp := [.t 3 (.int .i64), .t 6 (.sl (.int .i64)), .t 7 (.int .i64), .t 8 (.int .i64)]
def cmp_Or_int.sp0_0 : List Sp := [.t 2 (.int .i64)]
def cmp_Or_int.sp0_1 : List Sp := [.t 3 (.int .i64)]
def cmp_Or_int.A0 : LArm := .two cmp_Or_int.sp0 cmp_Or_int.sp0_0 cmp_Or_int.sp0_1 (Int) (Int) (fun k x => cmp_Or_int.l0 k x.1 x.2.1 x.2.2.1 x.2.2.2.1) .ret (.exit 0) (fun y => (y, ())) (fun x => x.1) (fun y => (y, ())) (fun x => x.1)
def cmp_Or_int.L : Nat → Option LArm := fun b => match b with
  | 0 => some cmp_Or_int.A0
  | _ => none
theorem cmp_Or_int.run (k : Nat) (a0 : List Int) : runF envX (tabC (cmp_Or_int.C k)) (tabL 18 k cmp_Or_int.L) Tryz.f70 [.t (.sl (.int .i64)) a0] (viewR1 (.t (.int .i64))) = cmp_Or_int.F k a0 := by kernel_rfl
theorem cmp_Or_int.step0 (k : Nat) (x3 : Int) (x6 : List Int) (x7 : Int) (x8 : Int) : runC envX (tabC (cmp_Or_int.C k)) (tabL 18 k cmp_Or_int.L) 0 (loopAt Tryz.f70 0) (stOf 18 cmp_Or_int.sp0 (x3, x6, x7, x8, ())) (cmp_Or_int.A0.cont 18 k) = cmp_Or_int.l0 (k + 1) x3 x6 x7 x8 := by kernel_rfl
theorem cmp_Or_int.G (hE : EnvOk Tryz.prog envX) (pv : Nat → Value) (k : Nat) : ∀ cal A, cmp_Or_int.C k cal = some A → ArmOk Tryz.prog envX pv cal A := by
  intro cal A h
  unfold cmp_Or_int.C at h
  cases h
theorem cmp_Or_int.good (hE : EnvOk Tryz.prog envX) (pv : Nat → Value) (k : Nat) (a0 : List Int) {y : _} (h : cmp_Or_int.F k a0 = some y) : Meets Tryz.prog envX pv (.f 70) (tvals [(.sl (.int .i64))] (a0, ())) (.t (.int .i64) y) :=
  fun_loops hE (t := cmp_Or_int.C) k (fun k _ => cmp_Or_int.G hE pv k) (f := 70) (fn := Tryz.f70) (by kernel_rfl) rfl (by kernel_rfl) (by kernel_rfl) (lt := cmp_Or_int.L) (by kernel_rfl) (fun b A h => by
    unfold cmp_Or_int.L at h; split at h
    · cases h; exact ⟨by kernel_rfl, by kernel_rfl, by kernel_rfl, fun _ => rfl, fun _ => rfl, fun _ => rfl⟩
    · cases h) (fun b A h => by
    unfold cmp_Or_int.L at h; split at h
    · cases h; exact fun k x => cmp_Or_int.step0 k x.1 x.2.1 x.2.2.1 x.2.2.2.1
    · cases h) ((cmp_Or_int.run k a0).trans h) fun r hr => wk_view1 hr
-- NO 71 slices.CompareFunc[[]loop.example/g00896/impl.Name,[]loop.example/g00896/impl.Name,loop.example/g00896/impl.Name,loop.example/g00896/impl.Name]: a parameter's type
def impl_mainNames.F (a0 : Entry) : Option (List Name) := bif (decide ((a0.authors.length : Int) > 0)) then (some a0.authors) else (some a0.editors)
def impl_mainNames.C : Cal → Option CArm := fun c => match c with
  | _ => none
theorem impl_mainNames.run (a0 : Entry) : runF envX (tabC impl_mainNames.C) (tabL 11 0 (fun _ => none)) Tryz.f72 [.t .entry a0] (viewR1 (.t (.sl .name))) = impl_mainNames.F a0 := by kernel_rfl
theorem impl_mainNames.G (hE : EnvOk Tryz.prog envX) (pv : Nat → Value) : ∀ cal A, impl_mainNames.C cal = some A → ArmOk Tryz.prog envX pv cal A := by
  intro cal A h
  unfold impl_mainNames.C at h
  cases h
theorem impl_mainNames.good (hE : EnvOk Tryz.prog envX) (pv : Nat → Value) (a0 : Entry) {y : _} (h : impl_mainNames.F a0 = some y) : Meets Tryz.prog envX pv (.f 72) (tvals [.entry] (a0, ())) (.t (.sl .name) y) :=
  fun_plain hE (impl_mainNames.G hE pv) (f := 72) (fn := Tryz.f72) (by kernel_rfl) rfl (by kernel_rfl) (by kernel_rfl) ((impl_mainNames.run a0).trans h) fun r hr => wk_view1 hr
def strings_Compare.F (a0 : ByteArray) (a1 : ByteArray) : Option (Int) := xCompare a0 a1
theorem strings_Compare.good (hE : EnvOk Tryz.prog envX) (pv : Nat → Value) (a0 : ByteArray) (a1 : ByteArray) {y : _} (h : strings_Compare.F a0 a1 = some y) : Meets Tryz.prog envX pv (.f 77) (tvals [.str, .str] (a0, a1, ())) (.t (.int .i64) y) :=
  ext_compare (fn := Tryz.f77) (by kernel_rfl) rfl (by kernel_rfl) Tryz.strings_Compare h
def impl_lower.l0 : Nat → (List Int) → Int → Int → Option ((List Int))
  | 0, _, _, _ => none
  | k + 1, x3, x9, x10 => bif (decide (x10 < x9)) then (bif decide (0 ≤ x10) then (bif decide (x10 < (x3.length : Int)) then ((impl_isUpper.F (x3.getD ((x10 : Int).toNat) 0)).bind fun r1 => bif r1 then (bif decide (0 ≤ x10) then (bif decide (x10 < (x3.length : Int)) then (impl_lower.l0 k (x3.set ((x10 : Int).toNat) (IntKind.wrap .u8 ((IntKind.wrap .u8 ((x3.getD ((x10 : Int).toNat) 0) + 97)) - 65))) x9 (IntKind.wrap .i64 (x10 + 1))) else none) else none) else (impl_lower.l0 k x3 x9 (IntKind.wrap .i64 (x10 + 1)))) else none) else none) else (some x3)
def impl_lower.F (k : Nat) (a0 : ByteArray) : Option (ByteArray) := bif Nat.ble a0.size 9223372036854775807 then ((impl_lower.l0 k (bytesL a0) ((bytesL a0).length : Int) 0).bind fun y2 => some (strL y2)) else none
def impl_lower.C (k : Nat) : Cal → Option CArm := fun c => match c with
  | .f 129 => some (.p [(.int .u8)] _ (fun x => impl_isUpper.F x.1) (fun r => (.t .bool r)))
  | _ => none
def impl_lower.sp0 : List Sp := [.own 3 1028 5 (.int .u8) false false, .con 8 (.own 1028), .t 9 (.int .i64), .t 10 (.int .i64)]
def impl_lower.sp0_0 : List Sp := [.own 3 1028 5 (.int .u8) false false]
def impl_lower.A0 : LArm := .one impl_lower.sp0 impl_lower.sp0_0 ((List Int)) (fun k x => impl_lower.l0 k x.1 x.2.2.1 x.2.2.2.1) (.exit 0) (fun y => (y, ())) (fun x => x.1)
def impl_lower.L : Nat → Option LArm := fun b => match b with
  | 0 => some impl_lower.A0
  | _ => none
theorem impl_lower.run (k : Nat) (a0 : ByteArray) : runF envX (tabC (impl_lower.C k)) (tabL 26 k impl_lower.L) Tryz.f102 [.t .str a0] (viewR1 (.t .str)) = impl_lower.F k a0 := by kernel_rfl
theorem impl_lower.step0 (k : Nat) (x3 : List Int) (x9 : Int) (x10 : Int) : runC envX (tabC (impl_lower.C k)) (tabL 26 k impl_lower.L) 0 (loopAt Tryz.f102 0) (stOf 26 impl_lower.sp0 (x3, (), x9, x10, ())) (impl_lower.A0.cont 26 k) = impl_lower.l0 (k + 1) x3 x9 x10 := by kernel_rfl
theorem impl_lower.G (hE : EnvOk Tryz.prog envX) (pv : Nat → Value) (k : Nat) : ∀ cal A, impl_lower.C k cal = some A → ArmOk Tryz.prog envX pv cal A := by
  intro cal A h
  unfold impl_lower.C at h
  split at h
  · cases h; exact fun x y hy => impl_isUpper.good hE pv x.1 hy
  · cases h
theorem impl_lower.good (hE : EnvOk Tryz.prog envX) (pv : Nat → Value) (k : Nat) (a0 : ByteArray) {y : _} (h : impl_lower.F k a0 = some y) : Meets Tryz.prog envX pv (.f 102) (tvals [.str] (a0, ())) (.t .str y) :=
  fun_loops hE (t := impl_lower.C) k (fun k _ => impl_lower.G hE pv k) (f := 102) (fn := Tryz.f102) (by kernel_rfl) rfl (by kernel_rfl) (by kernel_rfl) (lt := impl_lower.L) (by kernel_rfl) (fun b A h => by
    unfold impl_lower.L at h; split at h
    · cases h; exact ⟨by kernel_rfl, by kernel_rfl, fun _ => rfl, fun _ => rfl⟩
    · cases h) (fun b A h => by
    unfold impl_lower.L at h; split at h
    · cases h; exact fun k x => impl_lower.step0 k x.1 x.2.2.1 x.2.2.2.1
    · cases h) ((impl_lower.run k a0).trans h) fun r hr => wk_view1 hr
def strings_Join.F (a0 : List ByteArray) (a1 : ByteArray) : Option (ByteArray) := xJoin a0 a1
theorem strings_Join.good (hE : EnvOk Tryz.prog envX) (pv : Nat → Value) (a0 : List ByteArray) (a1 : ByteArray) {y : _} (h : strings_Join.F a0 a1 = some y) : Meets Tryz.prog envX pv (.f 131) (tvals [(.sl .str), .str] (a0, a1, ())) (.t .str y) :=
  ext_join (fn := Tryz.f131) (by kernel_rfl) rfl (by kernel_rfl) Tryz.strings_Join_none Tryz.strings_Join h
-- NO 147 slices.DeleteFunc[[]string,string]: a parameter's type
def impl_spaced_1.F (a0 : ByteArray) : Option (Bool) := some (beqS a0 (⟨#[]⟩ : ByteArray))
def impl_spaced_1.C : Cal → Option CArm := fun c => match c with
  | _ => none
theorem impl_spaced_1.run (a0 : ByteArray) : runF envX (tabC impl_spaced_1.C) (tabL 5 0 (fun _ => none)) Tryz.f148 [.t .str a0] (viewR1 (.t .bool)) = impl_spaced_1.F a0 := by kernel_rfl
theorem impl_spaced_1.G (hE : EnvOk Tryz.prog envX) (pv : Nat → Value) : ∀ cal A, impl_spaced_1.C cal = some A → ArmOk Tryz.prog envX pv cal A := by
  intro cal A h
  unfold impl_spaced_1.C at h
  cases h
theorem impl_spaced_1.good (hE : EnvOk Tryz.prog envX) (pv : Nat → Value) (a0 : ByteArray) {y : _} (h : impl_spaced_1.F a0 = some y) : Meets Tryz.prog envX pv (.f 148) (tvals [.str] (a0, ())) (.t .bool y) :=
  fun_plain hE (impl_spaced_1.G hE pv) (f := 148) (fn := Tryz.f148) (by kernel_rfl) rfl (by kernel_rfl) (by kernel_rfl) ((impl_spaced_1.run a0).trans h) fun r hr => wk_view1 hr
def slices_IndexFunc_string_f148.l0 : Nat → (List ByteArray) → Int → Int → Option (Sum Int Unit)
  | 0, _, _, _ => none
  | k + 1, x0, x7, x8 => bif (decide (x8 < x7)) then (bif decide (0 ≤ x8) then (bif decide (x8 < (x0.length : Int)) then ((impl_spaced_1.F (x0.getD (x8 : Int).toNat (⟨#[]⟩ : ByteArray))).bind fun r1 => bif r1 then (some (.inl x8)) else (slices_IndexFunc_string_f148.l0 k x0 x7 (IntKind.wrap .i64 (x8 + 1)))) else none) else none) else (some (.inr ()))
def slices_IndexFunc_string_f148.F (k : Nat) (a0 : List ByteArray) : Option (Int) := (slices_IndexFunc_string_f148.l0 k a0 (a0.length : Int) 0).bind fun y2 => match y2 with | .inl z3 => some z3 | .inr z3 => some (-1)
def slices_IndexFunc_string_f148.C (k : Nat) : Cal → Option CArm := fun c => match c with
  | .f 148 => some (.p [.str] _ (fun x => impl_spaced_1.F x.1) (fun r => (.t .bool r)))
  | _ => none
def slices_IndexFunc_string_f148.sp0 : List Sp := [.t 0 (.sl .str), .con 1 (.clo 148), .t 7 (.int .i64), .t 8 (.int .i64)]
def slices_IndexFunc_string_f148.sp0_0 : List Sp := [.t 4 (.int .i64)]
def slices_IndexFunc_string_f148.sp0_1 : List Sp := []
def slices_IndexFunc_string_f148.A0 : LArm := .two slices_IndexFunc_string_f148.sp0 slices_IndexFunc_string_f148.sp0_0 slices_IndexFunc_string_f148.sp0_1 (Int) (Unit) (fun k x => slices_IndexFunc_string_f148.l0 k x.1 x.2.2.1 x.2.2.2.1) .ret (.exit 0) (fun y => (y, ())) (fun x => x.1) (fun y => ()) (fun x => ())
def slices_IndexFunc_string_f148.L : Nat → Option LArm := fun b => match b with
  | 0 => some slices_IndexFunc_string_f148.A0
  | _ => none
theorem slices_IndexFunc_string_f148.run (k : Nat) (a0 : List ByteArray) : runF envX (tabC (slices_IndexFunc_string_f148.C k)) (tabL 19 k slices_IndexFunc_string_f148.L) Tryz.f154 [.t (.sl .str) a0, .clo 148 []] (viewR1 (.t (.int .i64))) = slices_IndexFunc_string_f148.F k a0 := by kernel_rfl
theorem slices_IndexFunc_string_f148.step0 (k : Nat) (x0 : List ByteArray) (x7 : Int) (x8 : Int) : runC envX (tabC (slices_IndexFunc_string_f148.C k)) (tabL 19 k slices_IndexFunc_string_f148.L) 0 (loopAt Tryz.f154 0) (stOf 19 slices_IndexFunc_string_f148.sp0 (x0, (), x7, x8, ())) (slices_IndexFunc_string_f148.A0.cont 19 k) = slices_IndexFunc_string_f148.l0 (k + 1) x0 x7 x8 := by kernel_rfl
theorem slices_IndexFunc_string_f148.G (hE : EnvOk Tryz.prog envX) (pv : Nat → Value) (k : Nat) : ∀ cal A, slices_IndexFunc_string_f148.C k cal = some A → ArmOk Tryz.prog envX pv cal A := by
  intro cal A h
  unfold slices_IndexFunc_string_f148.C at h
  split at h
  · cases h; exact fun x y hy => impl_spaced_1.good hE pv x.1 hy
  · cases h
theorem slices_IndexFunc_string_f148.good (hE : EnvOk Tryz.prog envX) (pv : Nat → Value) (k : Nat) (a0 : List ByteArray) {y : _} (h : slices_IndexFunc_string_f148.F k a0 = some y) : Meets Tryz.prog envX pv (.f 154) (pvals [.t (.sl .str), .clo 148 []] (a0, (()), ())) (.t (.int .i64) y) :=
  fun_loops hE (t := slices_IndexFunc_string_f148.C) k (fun k _ => slices_IndexFunc_string_f148.G hE pv k) (f := 154) (fn := Tryz.f154) (by kernel_rfl) rfl (by kernel_rfl) (by kernel_rfl) (lt := slices_IndexFunc_string_f148.L) (by kernel_rfl) (fun b A h => by
    unfold slices_IndexFunc_string_f148.L at h; split at h
    · cases h; exact ⟨by kernel_rfl, by kernel_rfl, by kernel_rfl, fun _ => rfl, fun _ => rfl, fun _ => rfl⟩
    · cases h) (fun b A h => by
    unfold slices_IndexFunc_string_f148.L at h; split at h
    · cases h; exact fun k x => slices_IndexFunc_string_f148.step0 k x.1 x.2.2.1 x.2.2.2.1
    · cases h) ((slices_IndexFunc_string_f148.run k a0).trans h) fun r hr => wk_view1 hr
def slices_DeleteFunc_string_f148.l0 : Nat → (List ByteArray) → Int → Int → Option ((List ByteArray) × Int)
  | 0, _, _, _ => none
  | k + 1, x0, x5, x6 => bif (decide (x6 < (x0.length : Int))) then (bif decide (0 ≤ x6) then (bif decide (x6 < (x0.length : Int)) then ((impl_spaced_1.F (x0.getD ((x6 : Int).toNat) (⟨#[]⟩ : ByteArray))).bind fun r2 => bif (!r2) then (bif decide (0 ≤ x5) then (bif decide (x5 < (x0.length : Int)) then (slices_DeleteFunc_string_f148.l0 k (x0.set ((x5 : Int).toNat) (x0.getD ((x6 : Int).toNat) (⟨#[]⟩ : ByteArray))) (IntKind.wrap .i64 (x5 + 1)) (IntKind.wrap .i64 (x6 + 1))) else none) else none) else (slices_DeleteFunc_string_f148.l0 k x0 x5 (IntKind.wrap .i64 (x6 + 1)))) else none) else none) else (some (x0, x5))
def slices_DeleteFunc_string_f148.F (k : Nat) (a0 : List ByteArray) : Option (List ByteArray) := (slices_IndexFunc_string_f148.F k a0).bind fun r1 => bif (r1 == (-1)) then (some a0) else ((slices_DeleteFunc_string_f148.l0 k a0 r1 (IntKind.wrap .i64 (r1 + 1))).bind fun y3 => bif decide (0 ≤ y3.2) then (bif decide (y3.2 ≤ (y3.1.length : Int)) then (bif decide (0 ≤ y3.2) then (bif decide (y3.2 ≤ ((y3.1.take ((y3.2 : Int).toNat) ++ List.replicate (y3.1.length - ((y3.2 : Int).toNat)) (⟨#[]⟩ : ByteArray)).length : Int)) then (some ((y3.1.take ((y3.2 : Int).toNat) ++ List.replicate (y3.1.length - ((y3.2 : Int).toNat)) (⟨#[]⟩ : ByteArray)).take (y3.2 : Int).toNat)) else none) else none) else none) else none)
def slices_DeleteFunc_string_f148.C (k : Nat) : Cal → Option CArm := fun c => match c with
  | .f 154 => some (.q [.t (.sl .str), .clo 148 []] _ (fun x => slices_IndexFunc_string_f148.F k x.1) (fun r => (.t (.int .i64) r)))
  | .f 148 => some (.p [.str] _ (fun x => impl_spaced_1.F x.1) (fun r => (.t .bool r)))
  | _ => none
def slices_DeleteFunc_string_f148.sp0 : List Sp := [.own 0 1099511627777 9 .str false true, .con 1 (.clo 148), .t 5 (.int .i64), .t 6 (.int .i64)]
def slices_DeleteFunc_string_f148.sp0_0 : List Sp := [.own 0 1099511627777 9 .str false true, .t 5 (.int .i64)]
def slices_DeleteFunc_string_f148.A0 : LArm := .one slices_DeleteFunc_string_f148.sp0 slices_DeleteFunc_string_f148.sp0_0 ((List ByteArray) × Int) (fun k x => slices_DeleteFunc_string_f148.l0 k x.1 x.2.2.1 x.2.2.2.1) (.exit 0) (fun y => (y.1, y.2, ())) (fun x => (x.1, x.2.1))
def slices_DeleteFunc_string_f148.L : Nat → Option LArm := fun b => match b with
  | 0 => some slices_DeleteFunc_string_f148.A0
  | _ => none
theorem slices_DeleteFunc_string_f148.run (k : Nat) (a0 : List ByteArray) : runM envX (tabC (slices_DeleteFunc_string_f148.C k)) (tabL 42 k slices_DeleteFunc_string_f148.L) Tryz.f147 mmove (.fr 9 .str a0) [.clo 148 []] (viewMov 9 .str) = slices_DeleteFunc_string_f148.F k a0 := by kernel_rfl
theorem slices_DeleteFunc_string_f148.step0 (k : Nat) (x0 : List ByteArray) (x5 : Int) (x6 : Int) : runC envX (tabC (slices_DeleteFunc_string_f148.C k)) (tabL 42 k slices_DeleteFunc_string_f148.L) 0 (loopAt Tryz.f147 0) (stOf 42 slices_DeleteFunc_string_f148.sp0 (x0, (), x5, x6, ())) (slices_DeleteFunc_string_f148.A0.cont 42 k) = slices_DeleteFunc_string_f148.l0 (k + 1) x0 x5 x6 := by kernel_rfl
theorem slices_DeleteFunc_string_f148.G (hE : EnvOk Tryz.prog envX) (pv : Nat → Value) (k : Nat) : ∀ cal A, slices_DeleteFunc_string_f148.C k cal = some A → ArmOk Tryz.prog envX pv cal A := by
  intro cal A h
  unfold slices_DeleteFunc_string_f148.C at h
  split at h
  · cases h; exact fun x y hy => slices_IndexFunc_string_f148.good hE pv k x.1 hy
  · cases h; exact fun x y hy => impl_spaced_1.good hE pv x.1 hy
  · cases h
theorem slices_DeleteFunc_string_f148.good (hE : EnvOk Tryz.prog envX) (pv : Nat → Value) (k : Nat) (a0 : List ByteArray) {y : _} (h : slices_DeleteFunc_string_f148.F k a0 = some y) : MeetsM Tryz.prog envX pv 147 (.fr 9 .str a0) (pvals [.clo 148 []] ((()), ())) (.mov 9 .str y) :=
  funM_loops hE (t := slices_DeleteFunc_string_f148.C) k (fun k _ => slices_DeleteFunc_string_f148.G hE pv k) (f := 147) (fn := Tryz.f147) (by kernel_rfl) rfl (by kernel_rfl) (.inr rfl) (by kernel_rfl) (lt := slices_DeleteFunc_string_f148.L) (by kernel_rfl) (fun b A h => by
    unfold slices_DeleteFunc_string_f148.L at h; split at h
    · cases h; exact ⟨by kernel_rfl, by kernel_rfl, fun _ => rfl, fun _ => rfl⟩
    · cases h) (fun b A h => by
    unfold slices_DeleteFunc_string_f148.L at h; split at h
    · cases h; exact fun k x => slices_DeleteFunc_string_f148.step0 k x.1 x.2.2.1 x.2.2.2.1
    · cases h) ((slices_DeleteFunc_string_f148.run k a0).trans h) fun r hr => wk_viewMov hr
def impl_spaced.F (k : Nat) (a0 : List ByteArray) : Option (ByteArray) := (slices_DeleteFunc_string_f148.F k a0).bind fun r1 => (strings_Join.F r1 (⟨#[32]⟩ : ByteArray)).bind fun r2 => some r2
def impl_spaced.C (k : Nat) : Cal → Option CArm := fun c => match c with
  | .f 147 => some (.mq (.fr 9 .str) [.clo 148 []] _ (fun x0 x => slices_DeleteFunc_string_f148.F k x0) (fun r => .mov 9 .str r))
  | .f 131 => some (.p [(.sl .str), .str] _ (fun x => strings_Join.F x.1 x.2.1) (fun r => (.t .str r)))
  | _ => none
theorem impl_spaced.run (k : Nat) (a0 : List ByteArray) : runM envX (tabC (impl_spaced.C k)) (tabL 6 0 (fun _ => none)) Tryz.f130 mmove (.fr 9 .str a0) [] (viewEat .str) = impl_spaced.F k a0 := by kernel_rfl
theorem impl_spaced.G (hE : EnvOk Tryz.prog envX) (pv : Nat → Value) (k : Nat) : ∀ cal A, impl_spaced.C k cal = some A → ArmOk Tryz.prog envX pv cal A := by
  intro cal A h
  unfold impl_spaced.C at h
  split at h
  · cases h; exact ⟨_, rfl, fun x0 x y hy => slices_DeleteFunc_string_f148.good hE pv k x0 hy⟩
  · cases h; exact fun x y hy => strings_Join.good hE pv x.1 x.2.1 hy
  · cases h
theorem impl_spaced.good (hE : EnvOk Tryz.prog envX) (pv : Nat → Value) (k : Nat) (a0 : List ByteArray) {y : _} (h : impl_spaced.F k a0 = some y) : MeetsM Tryz.prog envX pv 130 (.fr 9 .str a0) (tvals [] (())) (.pc false .str y) :=
  funM_plain hE (impl_spaced.G hE pv k) (f := 130) (fn := Tryz.f130) (by kernel_rfl) rfl (by kernel_rfl) (.inr rfl) (by kernel_rfl) ((impl_spaced.run k a0).trans h) fun r hr => wk_viewEat hr
def impl_fullForm.F (k : Nat) (a0 : Name) : Option (ByteArray) := (strings_Join.F a0.given (⟨#[32]⟩ : ByteArray)).bind fun r1 => (impl_spaced.F k ([r1, a0.particle, a0.family, a0.suffix] : List ByteArray)).bind fun r2 => some r2
def impl_fullForm.C (k : Nat) : Cal → Option CArm := fun c => match c with
  | .f 131 => some (.p [(.sl .str), .str] _ (fun x => strings_Join.F x.1 x.2.1) (fun r => (.t .str r)))
  | .f 130 => some (.m (.fr 9 .str) [] _ (fun x0 x => impl_spaced.F k x0) (fun r => .pc false .str r))
  | _ => none
theorem impl_fullForm.run (k : Nat) (a0 : Name) : runF envX (tabC (impl_fullForm.C k)) (tabL 14 0 (fun _ => none)) Tryz.f103 [.t .name a0] (viewR1 (.t .str)) = impl_fullForm.F k a0 := by kernel_rfl
theorem impl_fullForm.G (hE : EnvOk Tryz.prog envX) (pv : Nat → Value) (k : Nat) : ∀ cal A, impl_fullForm.C k cal = some A → ArmOk Tryz.prog envX pv cal A := by
  intro cal A h
  unfold impl_fullForm.C at h
  split at h
  · cases h; exact fun x y hy => strings_Join.good hE pv x.1 x.2.1 hy
  · cases h; exact ⟨_, rfl, fun x0 x y hy => impl_spaced.good hE pv k x0 hy⟩
  · cases h
theorem impl_fullForm.good (hE : EnvOk Tryz.prog envX) (pv : Nat → Value) (k : Nat) (a0 : Name) {y : _} (h : impl_fullForm.F k a0 = some y) : Meets Tryz.prog envX pv (.f 103) (tvals [.name] (a0, ())) (.t .str y) :=
  fun_plain hE (impl_fullForm.G hE pv k) (f := 103) (fn := Tryz.f103) (by kernel_rfl) rfl (by kernel_rfl) (by kernel_rfl) ((impl_fullForm.run k a0).trans h) fun r hr => wk_view1 hr
def impl_inverseForm.F (k : Nat) (a0 : Name) : Option (ByteArray) := (impl_spaced.F k ([a0.particle, a0.family] : List ByteArray)).bind fun r1 => bif (decide ((a0.given.length : Int) > 0)) then ((strings_Join.F a0.given (⟨#[32]⟩ : ByteArray)).bind fun r2 => bif Nat.ble ((⟨#[44, 32]⟩ : ByteArray).size + r2.size) 9223372036854775807 then (bif Nat.ble (r1.size + ((⟨#[44, 32]⟩ : ByteArray) ++ r2).size) 9223372036854775807 then (bif (!beqS a0.suffix (⟨#[]⟩ : ByteArray)) then (bif Nat.ble ((⟨#[44, 32]⟩ : ByteArray).size + a0.suffix.size) 9223372036854775807 then (bif Nat.ble ((r1 ++ ((⟨#[44, 32]⟩ : ByteArray) ++ r2)).size + ((⟨#[44, 32]⟩ : ByteArray) ++ a0.suffix).size) 9223372036854775807 then (some ((r1 ++ ((⟨#[44, 32]⟩ : ByteArray) ++ r2)) ++ ((⟨#[44, 32]⟩ : ByteArray) ++ a0.suffix))) else none) else none) else (some (r1 ++ ((⟨#[44, 32]⟩ : ByteArray) ++ r2)))) else none) else none) else (bif (!beqS a0.suffix (⟨#[]⟩ : ByteArray)) then ((strings_Join.F a0.given (⟨#[32]⟩ : ByteArray)).bind fun r3 => bif Nat.ble ((⟨#[44, 32]⟩ : ByteArray).size + r3.size) 9223372036854775807 then (bif Nat.ble (r1.size + ((⟨#[44, 32]⟩ : ByteArray) ++ r3).size) 9223372036854775807 then (bif (!beqS a0.suffix (⟨#[]⟩ : ByteArray)) then (bif Nat.ble ((⟨#[44, 32]⟩ : ByteArray).size + a0.suffix.size) 9223372036854775807 then (bif Nat.ble ((r1 ++ ((⟨#[44, 32]⟩ : ByteArray) ++ r3)).size + ((⟨#[44, 32]⟩ : ByteArray) ++ a0.suffix).size) 9223372036854775807 then (some ((r1 ++ ((⟨#[44, 32]⟩ : ByteArray) ++ r3)) ++ ((⟨#[44, 32]⟩ : ByteArray) ++ a0.suffix))) else none) else none) else (some (r1 ++ ((⟨#[44, 32]⟩ : ByteArray) ++ r3)))) else none) else none) else (bif (!beqS a0.suffix (⟨#[]⟩ : ByteArray)) then (bif Nat.ble ((⟨#[44, 32]⟩ : ByteArray).size + a0.suffix.size) 9223372036854775807 then (bif Nat.ble (r1.size + ((⟨#[44, 32]⟩ : ByteArray) ++ a0.suffix).size) 9223372036854775807 then (some (r1 ++ ((⟨#[44, 32]⟩ : ByteArray) ++ a0.suffix))) else none) else none) else (some r1)))
def impl_inverseForm.C (k : Nat) : Cal → Option CArm := fun c => match c with
  | .f 130 => some (.m (.fr 9 .str) [] _ (fun x0 x => impl_spaced.F k x0) (fun r => .pc false .str r))
  | .f 131 => some (.p [(.sl .str), .str] _ (fun x => strings_Join.F x.1 x.2.1) (fun r => (.t .str r)))
  | _ => none
theorem impl_inverseForm.run (k : Nat) (a0 : Name) : runF envX (tabC (impl_inverseForm.C k)) (tabL 34 0 (fun _ => none)) Tryz.f104 [.t .name a0] (viewR1 (.t .str)) = impl_inverseForm.F k a0 := by kernel_rfl
theorem impl_inverseForm.G (hE : EnvOk Tryz.prog envX) (pv : Nat → Value) (k : Nat) : ∀ cal A, impl_inverseForm.C k cal = some A → ArmOk Tryz.prog envX pv cal A := by
  intro cal A h
  unfold impl_inverseForm.C at h
  split at h
  · cases h; exact ⟨_, rfl, fun x0 x y hy => impl_spaced.good hE pv k x0 hy⟩
  · cases h; exact fun x y hy => strings_Join.good hE pv x.1 x.2.1 hy
  · cases h
theorem impl_inverseForm.good (hE : EnvOk Tryz.prog envX) (pv : Nat → Value) (k : Nat) (a0 : Name) {y : _} (h : impl_inverseForm.F k a0 = some y) : Meets Tryz.prog envX pv (.f 104) (tvals [.name] (a0, ())) (.t .str y) :=
  fun_plain hE (impl_inverseForm.G hE pv k) (f := 104) (fn := Tryz.f104) (by kernel_rfl) rfl (by kernel_rfl) (by kernel_rfl) ((impl_inverseForm.run k a0).trans h) fun r hr => wk_view1 hr
def impl_compareNames.F (k : Nat) (a0 : Name) (a1 : Name) : Option (Int) := (impl_lower.F k a0.family).bind fun r1 => (impl_lower.F k a1.family).bind fun r2 => (strings_Compare.F r1 r2).bind fun r3 => (impl_lower.F k a0.particle).bind fun r4 => (impl_lower.F k a1.particle).bind fun r5 => (strings_Compare.F r4 r5).bind fun r6 => (impl_fullForm.F k a0).bind fun r7 => (impl_lower.F k r7).bind fun r8 => (impl_fullForm.F k a1).bind fun r9 => (impl_lower.F k r9).bind fun r10 => (strings_Compare.F r8 r10).bind fun r11 => (impl_inverseForm.F k a0).bind fun r12 => (impl_inverseForm.F k a1).bind fun r13 => (strings_Compare.F r12 r13).bind fun r14 => (cmp_Or_int.F k ([r3, r6, r11, r14] : List Int)).bind fun r15 => some r15
def impl_compareNames.C (k : Nat) : Cal → Option CArm := fun c => match c with
  | .f 102 => some (.p [.str] _ (fun x => impl_lower.F k x.1) (fun r => (.t .str r)))
  | .f 77 => some (.p [.str, .str] _ (fun x => strings_Compare.F x.1 x.2.1) (fun r => (.t (.int .i64) r)))
  | .f 103 => some (.p [.name] _ (fun x => impl_fullForm.F k x.1) (fun r => (.t .str r)))
  | .f 104 => some (.p [.name] _ (fun x => impl_inverseForm.F k x.1) (fun r => (.t .str r)))
  | .f 70 => some (.p [(.sl (.int .i64))] _ (fun x => cmp_Or_int.F k x.1) (fun r => (.t (.int .i64) r)))
  | _ => none
theorem impl_compareNames.run (k : Nat) (a0 : Name) (a1 : Name) : runF envX (tabC (impl_compareNames.C k)) (tabL 33 0 (fun _ => none)) Tryz.f73 [.t .name a0, .t .name a1] (viewR1 (.t (.int .i64))) = impl_compareNames.F k a0 a1 := by kernel_rfl
theorem impl_compareNames.G (hE : EnvOk Tryz.prog envX) (pv : Nat → Value) (k : Nat) : ∀ cal A, impl_compareNames.C k cal = some A → ArmOk Tryz.prog envX pv cal A := by
  intro cal A h
  unfold impl_compareNames.C at h
  split at h
  · cases h; exact fun x y hy => impl_lower.good hE pv k x.1 hy
  · cases h; exact fun x y hy => strings_Compare.good hE pv x.1 x.2.1 hy
  · cases h; exact fun x y hy => impl_fullForm.good hE pv k x.1 hy
  · cases h; exact fun x y hy => impl_inverseForm.good hE pv k x.1 hy
  · cases h; exact fun x y hy => cmp_Or_int.good hE pv k x.1 hy
  · cases h
theorem impl_compareNames.good (hE : EnvOk Tryz.prog envX) (pv : Nat → Value) (k : Nat) (a0 : Name) (a1 : Name) {y : _} (h : impl_compareNames.F k a0 a1 = some y) : Meets Tryz.prog envX pv (.f 73) (tvals [.name, .name] (a0, a1, ())) (.t (.int .i64) y) :=
  fun_plain hE (impl_compareNames.G hE pv k) (f := 73) (fn := Tryz.f73) (by kernel_rfl) rfl (by kernel_rfl) (by kernel_rfl) ((impl_compareNames.run k a0 a1).trans h) fun r hr => wk_view1 hr
def impl_circaNumber.F (a0 : Date) : Option (Int) := bif a0.c then (some 1) else (some 0)
def impl_circaNumber.C : Cal → Option CArm := fun c => match c with
  | _ => none
theorem impl_circaNumber.run (a0 : Date) : runF envX (tabC impl_circaNumber.C) (tabL 5 0 (fun _ => none)) Tryz.f105 [.t .date a0] (viewR1 (.t (.int .i64))) = impl_circaNumber.F a0 := by kernel_rfl
theorem impl_circaNumber.G (hE : EnvOk Tryz.prog envX) (pv : Nat → Value) : ∀ cal A, impl_circaNumber.C cal = some A → ArmOk Tryz.prog envX pv cal A := by
  intro cal A h
  unfold impl_circaNumber.C at h
  cases h
theorem impl_circaNumber.good (hE : EnvOk Tryz.prog envX) (pv : Nat → Value) (a0 : Date) {y : _} (h : impl_circaNumber.F a0 = some y) : Meets Tryz.prog envX pv (.f 105) (tvals [.date] (a0, ())) (.t (.int .i64) y) :=
  fun_plain hE (impl_circaNumber.G hE pv) (f := 105) (fn := Tryz.f105) (by kernel_rfl) rfl (by kernel_rfl) (by kernel_rfl) ((impl_circaNumber.run a0).trans h) fun r hr => wk_view1 hr
def impl_compareDates.F (k : Nat) (a0 : Date) (a1 : Date) : Option (Int) := (cmp_Compare_int.F a0.y a1.y).bind fun r1 => (cmp_Compare_int.F a0.m a1.m).bind fun r2 => (cmp_Compare_int.F a0.d a1.d).bind fun r3 => (impl_circaNumber.F a0).bind fun r4 => (impl_circaNumber.F a1).bind fun r5 => (cmp_Compare_int.F r4 r5).bind fun r6 => (cmp_Or_int.F k ([r1, r2, r3, r6] : List Int)).bind fun r7 => some r7
def impl_compareDates.C (k : Nat) : Cal → Option CArm := fun c => match c with
  | .f 35 => some (.p [(.int .i64), (.int .i64)] _ (fun x => cmp_Compare_int.F x.1 x.2.1) (fun r => (.t (.int .i64) r)))
  | .f 105 => some (.p [.date] _ (fun x => impl_circaNumber.F x.1) (fun r => (.t (.int .i64) r)))
  | .f 70 => some (.p [(.sl (.int .i64))] _ (fun x => cmp_Or_int.F k x.1) (fun r => (.t (.int .i64) r)))
  | _ => none
theorem impl_compareDates.run (k : Nat) (a0 : Date) (a1 : Date) : runF envX (tabC (impl_compareDates.C k)) (tabL 27 0 (fun _ => none)) Tryz.f74 [.t .date a0, .t .date a1] (viewR1 (.t (.int .i64))) = impl_compareDates.F k a0 a1 := by kernel_rfl
theorem impl_compareDates.G (hE : EnvOk Tryz.prog envX) (pv : Nat → Value) (k : Nat) : ∀ cal A, impl_compareDates.C k cal = some A → ArmOk Tryz.prog envX pv cal A := by
  intro cal A h
  unfold impl_compareDates.C at h
  split at h
  · cases h; exact fun x y hy => cmp_Compare_int.good hE pv x.1 x.2.1 hy
  · cases h; exact fun x y hy => impl_circaNumber.good hE pv x.1 hy
  · cases h; exact fun x y hy => cmp_Or_int.good hE pv k x.1 hy
  · cases h
theorem impl_compareDates.good (hE : EnvOk Tryz.prog envX) (pv : Nat → Value) (k : Nat) (a0 : Date) (a1 : Date) {y : _} (h : impl_compareDates.F k a0 a1 = some y) : Meets Tryz.prog envX pv (.f 74) (tvals [.date, .date] (a0, a1, ())) (.t (.int .i64) y) :=
  fun_plain hE (impl_compareDates.G hE pv k) (f := 74) (fn := Tryz.f74) (by kernel_rfl) rfl (by kernel_rfl) (by kernel_rfl) ((impl_compareDates.run k a0 a1).trans h) fun r hr => wk_view1 hr
def impl_foldText.l0 : Nat → (List Int) → Bool → (List Int) → Int → Int → Option ((List Int))
  | 0, _, _, _, _, _ => none
  | k + 1, x3, x4, x10, x11, x12 => bif (decide (x12 < x11)) then (bif decide (0 ≤ x12) then (bif decide (x12 < (x10.length : Int)) then ((impl_isLower.F (x10.getD ((x12 : Int).toNat) 0)).bind fun r2 => bif (!r2) then ((impl_isDigit.F (x10.getD ((x12 : Int).toNat) 0)).bind fun r3 => bif (!r3) then (bif x4 then (impl_foldText.l0 k x3 true x10 x11 (IntKind.wrap .i64 (x12 + 1))) else (impl_foldText.l0 k x3 ((x10.getD ((x12 : Int).toNat) 0) == 32) x10 x11 (IntKind.wrap .i64 (x12 + 1)))) else (bif x4 then (bif (decide ((x3.length : Int) > 0)) then (bif room (x3.length + ([32] : List Int).length) (.int .u8) then (bif room ((x3 ++ ([32] : List Int)).length + ([(x10.getD ((x12 : Int).toNat) 0)] : List Int).length) (.int .u8) then (impl_foldText.l0 k ((x3 ++ ([32] : List Int)) ++ ([(x10.getD ((x12 : Int).toNat) 0)] : List Int)) false x10 x11 (IntKind.wrap .i64 (x12 + 1))) else none) else none) else (bif room (x3.length + ([(x10.getD ((x12 : Int).toNat) 0)] : List Int).length) (.int .u8) then (impl_foldText.l0 k (x3 ++ ([(x10.getD ((x12 : Int).toNat) 0)] : List Int)) false x10 x11 (IntKind.wrap .i64 (x12 + 1))) else none)) else (bif room (x3.length + ([(x10.getD ((x12 : Int).toNat) 0)] : List Int).length) (.int .u8) then (impl_foldText.l0 k (x3 ++ ([(x10.getD ((x12 : Int).toNat) 0)] : List Int)) false x10 x11 (IntKind.wrap .i64 (x12 + 1))) else none))) else (bif x4 then (bif (decide ((x3.length : Int) > 0)) then (bif room (x3.length + ([32] : List Int).length) (.int .u8) then (bif room ((x3 ++ ([32] : List Int)).length + ([(x10.getD ((x12 : Int).toNat) 0)] : List Int).length) (.int .u8) then (impl_foldText.l0 k ((x3 ++ ([32] : List Int)) ++ ([(x10.getD ((x12 : Int).toNat) 0)] : List Int)) false x10 x11 (IntKind.wrap .i64 (x12 + 1))) else none) else none) else (bif room (x3.length + ([(x10.getD ((x12 : Int).toNat) 0)] : List Int).length) (.int .u8) then (impl_foldText.l0 k (x3 ++ ([(x10.getD ((x12 : Int).toNat) 0)] : List Int)) false x10 x11 (IntKind.wrap .i64 (x12 + 1))) else none)) else (bif room (x3.length + ([(x10.getD ((x12 : Int).toNat) 0)] : List Int).length) (.int .u8) then (impl_foldText.l0 k (x3 ++ ([(x10.getD ((x12 : Int).toNat) 0)] : List Int)) false x10 x11 (IntKind.wrap .i64 (x12 + 1))) else none))) else none) else none) else (some x3)
def impl_foldText.F (k : Nat) (a0 : ByteArray) : Option (ByteArray) := (impl_lower.F k a0).bind fun r1 => bif Nat.ble r1.size 9223372036854775807 then ((impl_foldText.l0 k ([] : List Int) false (bytesL r1) ((bytesL r1).length : Int) 0).bind fun y4 => some (strL y4)) else none
def impl_foldText.C (k : Nat) : Cal → Option CArm := fun c => match c with
  | .f 102 => some (.p [.str] _ (fun x => impl_lower.F k x.1) (fun r => (.t .str r)))
  | .f 117 => some (.p [(.int .u8)] _ (fun x => impl_isLower.F x.1) (fun r => (.t .bool r)))
  | .f 118 => some (.p [(.int .u8)] _ (fun x => impl_isDigit.F x.1) (fun r => (.t .bool r)))
  | _ => none
def impl_foldText.sp0 : List Sp := [.own 3 1024 5 (.int .u8) false true, .t 4 .bool, .own 10 2056 5 (.int .u8) false false, .t 11 (.int .i64), .t 12 (.int .i64)]
def impl_foldText.sp0_0 : List Sp := [.own 3 1024 5 (.int .u8) false true]
def impl_foldText.A0 : LArm := .one impl_foldText.sp0 impl_foldText.sp0_0 ((List Int)) (fun k x => impl_foldText.l0 k x.1 x.2.1 x.2.2.1 x.2.2.2.1 x.2.2.2.2.1) (.exit 0) (fun y => (y, ())) (fun x => x.1)
def impl_foldText.L : Nat → Option LArm := fun b => match b with
  | 0 => some impl_foldText.A0
  | _ => none
theorem impl_foldText.run (k : Nat) (a0 : ByteArray) : runF envX (tabC (impl_foldText.C k)) (tabL 45 k impl_foldText.L) Tryz.f106 [.t .str a0] (viewR1 (.t .str)) = impl_foldText.F k a0 := by kernel_rfl
theorem impl_foldText.step0 (k : Nat) (x3 : List Int) (x4 : Bool) (x10 : List Int) (x11 : Int) (x12 : Int) : runC envX (tabC (impl_foldText.C k)) (tabL 45 k impl_foldText.L) 0 (loopAt Tryz.f106 0) (stOf 45 impl_foldText.sp0 (x3, x4, x10, x11, x12, ())) (impl_foldText.A0.cont 45 k) = impl_foldText.l0 (k + 1) x3 x4 x10 x11 x12 := by kernel_rfl
theorem impl_foldText.G (hE : EnvOk Tryz.prog envX) (pv : Nat → Value) (k : Nat) : ∀ cal A, impl_foldText.C k cal = some A → ArmOk Tryz.prog envX pv cal A := by
  intro cal A h
  unfold impl_foldText.C at h
  split at h
  · cases h; exact fun x y hy => impl_lower.good hE pv k x.1 hy
  · cases h; exact fun x y hy => impl_isLower.good hE pv x.1 hy
  · cases h; exact fun x y hy => impl_isDigit.good hE pv x.1 hy
  · cases h
theorem impl_foldText.good (hE : EnvOk Tryz.prog envX) (pv : Nat → Value) (k : Nat) (a0 : ByteArray) {y : _} (h : impl_foldText.F k a0 = some y) : Meets Tryz.prog envX pv (.f 106) (tvals [.str] (a0, ())) (.t .str y) :=
  fun_loops hE (t := impl_foldText.C) k (fun k _ => impl_foldText.G hE pv k) (f := 106) (fn := Tryz.f106) (by kernel_rfl) rfl (by kernel_rfl) (by kernel_rfl) (lt := impl_foldText.L) (by kernel_rfl) (fun b A h => by
    unfold impl_foldText.L at h; split at h
    · cases h; exact ⟨by kernel_rfl, by kernel_rfl, fun _ => rfl, fun _ => rfl⟩
    · cases h) (fun b A h => by
    unfold impl_foldText.L at h; split at h
    · cases h; exact fun k x => impl_foldText.step0 k x.1 x.2.1 x.2.2.1 x.2.2.2.1 x.2.2.2.2.1
    · cases h) ((impl_foldText.run k a0).trans h) fun r hr => wk_view1 hr
def impl_collate.F (k : Nat) (a0 : ByteArray) (a1 : ByteArray) : Option (Int) := (impl_foldText.F k a0).bind fun r1 => (impl_foldText.F k a1).bind fun r2 => (strings_Compare.F r1 r2).bind fun r3 => (strings_Compare.F a0 a1).bind fun r4 => (cmp_Or_int.F k ([r3, r4] : List Int)).bind fun r5 => some r5
def impl_collate.C (k : Nat) : Cal → Option CArm := fun c => match c with
  | .f 106 => some (.p [.str] _ (fun x => impl_foldText.F k x.1) (fun r => (.t .str r)))
  | .f 77 => some (.p [.str, .str] _ (fun x => strings_Compare.F x.1 x.2.1) (fun r => (.t (.int .i64) r)))
  | .f 70 => some (.p [(.sl (.int .i64))] _ (fun x => cmp_Or_int.F k x.1) (fun r => (.t (.int .i64) r)))
  | _ => none
theorem impl_collate.run (k : Nat) (a0 : ByteArray) (a1 : ByteArray) : runF envX (tabC (impl_collate.C k)) (tabL 15 0 (fun _ => none)) Tryz.f75 [.t .str a0, .t .str a1] (viewR1 (.t (.int .i64))) = impl_collate.F k a0 a1 := by kernel_rfl
theorem impl_collate.G (hE : EnvOk Tryz.prog envX) (pv : Nat → Value) (k : Nat) : ∀ cal A, impl_collate.C k cal = some A → ArmOk Tryz.prog envX pv cal A := by
  intro cal A h
  unfold impl_collate.C at h
  split at h
  · cases h; exact fun x y hy => impl_foldText.good hE pv k x.1 hy
  · cases h; exact fun x y hy => strings_Compare.good hE pv x.1 x.2.1 hy
  · cases h; exact fun x y hy => cmp_Or_int.good hE pv k x.1 hy
  · cases h
theorem impl_collate.good (hE : EnvOk Tryz.prog envX) (pv : Nat → Value) (k : Nat) (a0 : ByteArray) (a1 : ByteArray) {y : _} (h : impl_collate.F k a0 a1 = some y) : Meets Tryz.prog envX pv (.f 75) (tvals [.str, .str] (a0, a1, ())) (.t (.int .i64) y) :=
  fun_plain hE (impl_collate.G hE pv k) (f := 75) (fn := Tryz.f75) (by kernel_rfl) rfl (by kernel_rfl) (by kernel_rfl) ((impl_collate.run k a0 a1).trans h) fun r hr => wk_view1 hr
def stringslite_HasPrefix.F (a0 : ByteArray) (a1 : ByteArray) : Option (Bool) := bif (decide ((a0.size : Int) ≥ (a1.size : Int))) then (bif decide (0 ≤ (a1.size : Int)) then (bif decide ((a1.size : Int) ≤ (a0.size : Int)) then (some (beqS (a0.extract 0 ((a1.size : Int) : Int).toNat) a1)) else none) else none) else (some false)
def stringslite_HasPrefix.C : Cal → Option CArm := fun c => match c with
  | _ => none
theorem stringslite_HasPrefix.run (a0 : ByteArray) (a1 : ByteArray) : runF envX (tabC stringslite_HasPrefix.C) (tabL 18 0 (fun _ => none)) Tryz.f132 [.t .str a0, .t .str a1] (viewR1 (.t .bool)) = stringslite_HasPrefix.F a0 a1 := by kernel_rfl
theorem stringslite_HasPrefix.G (hE : EnvOk Tryz.prog envX) (pv : Nat → Value) : ∀ cal A, stringslite_HasPrefix.C cal = some A → ArmOk Tryz.prog envX pv cal A := by
  intro cal A h
  unfold stringslite_HasPrefix.C at h
  cases h
theorem stringslite_HasPrefix.good (hE : EnvOk Tryz.prog envX) (pv : Nat → Value) (a0 : ByteArray) (a1 : ByteArray) {y : _} (h : stringslite_HasPrefix.F a0 a1 = some y) : Meets Tryz.prog envX pv (.f 132) (tvals [.str, .str] (a0, a1, ())) (.t .bool y) :=
  fun_plain hE (stringslite_HasPrefix.G hE pv) (f := 132) (fn := Tryz.f132) (by kernel_rfl) rfl (by kernel_rfl) (by kernel_rfl) ((stringslite_HasPrefix.run a0 a1).trans h) fun r hr => wk_view1 hr
def strings_HasPrefix.F (a0 : ByteArray) (a1 : ByteArray) : Option (Bool) := (stringslite_HasPrefix.F a0 a1).bind fun r1 => some r1
def strings_HasPrefix.C : Cal → Option CArm := fun c => match c with
  | .f 132 => some (.p [.str, .str] _ (fun x => stringslite_HasPrefix.F x.1 x.2.1) (fun r => (.t .bool r)))
  | _ => none
theorem strings_HasPrefix.run (a0 : ByteArray) (a1 : ByteArray) : runF envX (tabC strings_HasPrefix.C) (tabL 8 0 (fun _ => none)) Tryz.f107 [.t .str a0, .t .str a1] (viewR1 (.t .bool)) = strings_HasPrefix.F a0 a1 := by kernel_rfl
theorem strings_HasPrefix.G (hE : EnvOk Tryz.prog envX) (pv : Nat → Value) : ∀ cal A, strings_HasPrefix.C cal = some A → ArmOk Tryz.prog envX pv cal A := by
  intro cal A h
  unfold strings_HasPrefix.C at h
  split at h
  · cases h; exact fun x y hy => stringslite_HasPrefix.good hE pv x.1 x.2.1 hy
  · cases h
theorem strings_HasPrefix.good (hE : EnvOk Tryz.prog envX) (pv : Nat → Value) (a0 : ByteArray) (a1 : ByteArray) {y : _} (h : strings_HasPrefix.F a0 a1 = some y) : Meets Tryz.prog envX pv (.f 107) (tvals [.str, .str] (a0, a1, ())) (.t .bool y) :=
  fun_plain hE (strings_HasPrefix.G hE pv) (f := 107) (fn := Tryz.f107) (by kernel_rfl) rfl (by kernel_rfl) (by kernel_rfl) ((strings_HasPrefix.run a0 a1).trans h) fun r hr => wk_view1 hr
def impl_dropArticle.l0 : Nat → ByteArray → (List ByteArray) → Int → Int → Option (Sum ByteArray ByteArray)
  | 0, _, _, _, _ => none
  | k + 1, x0, x5, x6, x7 => bif (decide (x7 < x6)) then (bif decide (0 ≤ x7) then (bif decide (x7 < (x5.length : Int)) then (bif decide (0 ≤ (if 4 < (x0.size : Int) then 4 else (x0.size : Int))) then (bif decide ((if 4 < (x0.size : Int) then 4 else (x0.size : Int)) ≤ (x0.size : Int)) then ((impl_lower.F k (x0.extract 0 ((if 4 < (x0.size : Int) then 4 else (x0.size : Int)) : Int).toNat)).bind fun r1 => (strings_HasPrefix.F r1 (x5.getD ((x7 : Int).toNat) (⟨#[]⟩ : ByteArray))).bind fun r2 => bif r2 then (bif decide (0 ≤ ((x5.getD ((x7 : Int).toNat) (⟨#[]⟩ : ByteArray)).size : Int)) then (bif decide (((x5.getD ((x7 : Int).toNat) (⟨#[]⟩ : ByteArray)).size : Int) ≤ (x0.size : Int)) then (some (.inl (x0.extract (((x5.getD ((x7 : Int).toNat) (⟨#[]⟩ : ByteArray)).size : Int) : Int).toNat x0.size))) else none) else none) else (impl_dropArticle.l0 k x0 x5 x6 (IntKind.wrap .i64 (x7 + 1)))) else none) else none) else none) else none) else (some (.inr x0))
def impl_dropArticle.F (k : Nat) (a0 : ByteArray) : Option (ByteArray) := (impl_dropArticle.l0 k a0 ([(⟨#[97, 32]⟩ : ByteArray), (⟨#[97, 110, 32]⟩ : ByteArray), (⟨#[116, 104, 101, 32]⟩ : ByteArray)] : List ByteArray) (([(⟨#[97, 32]⟩ : ByteArray), (⟨#[97, 110, 32]⟩ : ByteArray), (⟨#[116, 104, 101, 32]⟩ : ByteArray)] : List ByteArray).length : Int) 0).bind fun y3 => match y3 with | .inl z4 => some z4 | .inr z4 => some z4
def impl_dropArticle.C (k : Nat) : Cal → Option CArm := fun c => match c with
  | .f 102 => some (.p [.str] _ (fun x => impl_lower.F k x.1) (fun r => (.t .str r)))
  | .f 107 => some (.p [.str, .str] _ (fun x => strings_HasPrefix.F x.1 x.2.1) (fun r => (.t .bool r)))
  | _ => none
def impl_dropArticle.sp0 : List Sp := [.t 0 .str, .own 5 1024 9 .str false true, .t 6 (.int .i64), .t 7 (.int .i64)]
def impl_dropArticle.sp0_0 : List Sp := [.t 2 .str]
def impl_dropArticle.sp0_1 : List Sp := [.t 0 .str]
def impl_dropArticle.A0 : LArm := .two impl_dropArticle.sp0 impl_dropArticle.sp0_0 impl_dropArticle.sp0_1 (ByteArray) (ByteArray) (fun k x => impl_dropArticle.l0 k x.1 x.2.1 x.2.2.1 x.2.2.2.1) .ret (.exit 0) (fun y => (y, ())) (fun x => x.1) (fun y => (y, ())) (fun x => x.1)
def impl_dropArticle.L : Nat → Option LArm := fun b => match b with
  | 0 => some impl_dropArticle.A0
  | _ => none
theorem impl_dropArticle.run (k : Nat) (a0 : ByteArray) : runF envX (tabC (impl_dropArticle.C k)) (tabL 25 k impl_dropArticle.L) Tryz.f76 [.t .str a0] (viewR1 (.t .str)) = impl_dropArticle.F k a0 := by kernel_rfl
theorem impl_dropArticle.step0 (k : Nat) (x0 : ByteArray) (x5 : List ByteArray) (x6 : Int) (x7 : Int) : runC envX (tabC (impl_dropArticle.C k)) (tabL 25 k impl_dropArticle.L) 0 (loopAt Tryz.f76 0) (stOf 25 impl_dropArticle.sp0 (x0, x5, x6, x7, ())) (impl_dropArticle.A0.cont 25 k) = impl_dropArticle.l0 (k + 1) x0 x5 x6 x7 := by kernel_rfl
theorem impl_dropArticle.G (hE : EnvOk Tryz.prog envX) (pv : Nat → Value) (k : Nat) : ∀ cal A, impl_dropArticle.C k cal = some A → ArmOk Tryz.prog envX pv cal A := by
  intro cal A h
  unfold impl_dropArticle.C at h
  split at h
  · cases h; exact fun x y hy => impl_lower.good hE pv k x.1 hy
  · cases h; exact fun x y hy => strings_HasPrefix.good hE pv x.1 x.2.1 hy
  · cases h
theorem impl_dropArticle.good (hE : EnvOk Tryz.prog envX) (pv : Nat → Value) (k : Nat) (a0 : ByteArray) {y : _} (h : impl_dropArticle.F k a0 = some y) : Meets Tryz.prog envX pv (.f 76) (tvals [.str] (a0, ())) (.t .str y) :=
  fun_loops hE (t := impl_dropArticle.C) k (fun k _ => impl_dropArticle.G hE pv k) (f := 76) (fn := Tryz.f76) (by kernel_rfl) rfl (by kernel_rfl) (by kernel_rfl) (lt := impl_dropArticle.L) (by kernel_rfl) (fun b A h => by
    unfold impl_dropArticle.L at h; split at h
    · cases h; exact ⟨by kernel_rfl, by kernel_rfl, by kernel_rfl, fun _ => rfl, fun _ => rfl, fun _ => rfl⟩
    · cases h) (fun b A h => by
    unfold impl_dropArticle.L at h; split at h
    · cases h; exact fun k x => impl_dropArticle.step0 k x.1 x.2.1 x.2.2.1 x.2.2.2.1
    · cases h) ((impl_dropArticle.run k a0).trans h) fun r hr => wk_view1 hr
def slices_CompareFunc_Name_f73.l0 : Nat → (List Name) → (List Name) → (List Name) → Int → Int → Option (Sum Int ((List Name) × (List Name)))
  | 0, _, _, _, _, _ => none
  | k + 1, x0, x1, x11, x12, x13 => bif (decide (x13 < x12)) then (bif decide (0 ≤ x13) then (bif decide (x13 < (x11.length : Int)) then (bif (decide (x13 ≥ (x1.length : Int))) then (some (.inl 1)) else (bif decide (0 ≤ x13) then (bif decide (x13 < (x1.length : Int)) then ((impl_compareNames.F k (x11.getD (x13 : Int).toNat (dflt .name)) (x1.getD (x13 : Int).toNat (dflt .name))).bind fun r1 => bif (r1 != 0) then (some (.inl r1)) else (slices_CompareFunc_Name_f73.l0 k x0 x1 x11 x12 (IntKind.wrap .i64 (x13 + 1)))) else none) else none)) else none) else none) else (some (.inr (x0, x1)))
def slices_CompareFunc_Name_f73.F (k : Nat) (a0 : List Name) (a1 : List Name) : Option (Int) := (slices_CompareFunc_Name_f73.l0 k a0 a1 a0 (a0.length : Int) 0).bind fun y2 => match y2 with | .inl z3 => some z3 | .inr z3 => bif (decide ((z3.1.length : Int) < (z3.2.length : Int))) then (some (-1)) else (some 0)
def slices_CompareFunc_Name_f73.C (k : Nat) : Cal → Option CArm := fun c => match c with
  | .f 73 => some (.p [.name, .name] _ (fun x => impl_compareNames.F k x.1 x.2.1) (fun r => (.t (.int .i64) r)))
  | _ => none
def slices_CompareFunc_Name_f73.sp0 : List Sp := [.t 0 (.sl .name), .t 1 (.sl .name), .con 2 (.clo 73), .t 11 (.sl .name), .t 12 (.int .i64), .t 13 (.int .i64)]
def slices_CompareFunc_Name_f73.sp0_0 : List Sp := [.t 6 (.int .i64)]
def slices_CompareFunc_Name_f73.sp0_1 : List Sp := [.t 0 (.sl .name), .t 1 (.sl .name)]
def slices_CompareFunc_Name_f73.A0 : LArm := .two slices_CompareFunc_Name_f73.sp0 slices_CompareFunc_Name_f73.sp0_0 slices_CompareFunc_Name_f73.sp0_1 (Int) ((List Name) × (List Name)) (fun k x => slices_CompareFunc_Name_f73.l0 k x.1 x.2.1 x.2.2.2.1 x.2.2.2.2.1 x.2.2.2.2.2.1) .ret (.exit 0) (fun y => (y, ())) (fun x => x.1) (fun y => (y.1, y.2, ())) (fun x => (x.1, x.2.1))
def slices_CompareFunc_Name_f73.L : Nat → Option LArm := fun b => match b with
  | 0 => some slices_CompareFunc_Name_f73.A0
  | _ => none
theorem slices_CompareFunc_Name_f73.run (k : Nat) (a0 : List Name) (a1 : List Name) : runF envX (tabC (slices_CompareFunc_Name_f73.C k)) (tabL 39 k slices_CompareFunc_Name_f73.L) Tryz.f71 [.t (.sl .name) a0, .t (.sl .name) a1, .clo 73 []] (viewR1 (.t (.int .i64))) = slices_CompareFunc_Name_f73.F k a0 a1 := by kernel_rfl
theorem slices_CompareFunc_Name_f73.step0 (k : Nat) (x0 : List Name) (x1 : List Name) (x11 : List Name) (x12 : Int) (x13 : Int) : runC envX (tabC (slices_CompareFunc_Name_f73.C k)) (tabL 39 k slices_CompareFunc_Name_f73.L) 0 (loopAt Tryz.f71 0) (stOf 39 slices_CompareFunc_Name_f73.sp0 (x0, x1, (), x11, x12, x13, ())) (slices_CompareFunc_Name_f73.A0.cont 39 k) = slices_CompareFunc_Name_f73.l0 (k + 1) x0 x1 x11 x12 x13 := by kernel_rfl
theorem slices_CompareFunc_Name_f73.G (hE : EnvOk Tryz.prog envX) (pv : Nat → Value) (k : Nat) : ∀ cal A, slices_CompareFunc_Name_f73.C k cal = some A → ArmOk Tryz.prog envX pv cal A := by
  intro cal A h
  unfold slices_CompareFunc_Name_f73.C at h
  split at h
  · cases h; exact fun x y hy => impl_compareNames.good hE pv k x.1 x.2.1 hy
  · cases h
theorem slices_CompareFunc_Name_f73.good (hE : EnvOk Tryz.prog envX) (pv : Nat → Value) (k : Nat) (a0 : List Name) (a1 : List Name) {y : _} (h : slices_CompareFunc_Name_f73.F k a0 a1 = some y) : Meets Tryz.prog envX pv (.f 71) (pvals [.t (.sl .name), .t (.sl .name), .clo 73 []] (a0, a1, (()), ())) (.t (.int .i64) y) :=
  fun_loops hE (t := slices_CompareFunc_Name_f73.C) k (fun k _ => slices_CompareFunc_Name_f73.G hE pv k) (f := 71) (fn := Tryz.f71) (by kernel_rfl) rfl (by kernel_rfl) (by kernel_rfl) (lt := slices_CompareFunc_Name_f73.L) (by kernel_rfl) (fun b A h => by
    unfold slices_CompareFunc_Name_f73.L at h; split at h
    · cases h; exact ⟨by kernel_rfl, by kernel_rfl, by kernel_rfl, fun _ => rfl, fun _ => rfl, fun _ => rfl⟩
    · cases h) (fun b A h => by
    unfold slices_CompareFunc_Name_f73.L at h; split at h
    · cases h; exact fun k x => slices_CompareFunc_Name_f73.step0 k x.1 x.2.1 x.2.2.2.1 x.2.2.2.2.1 x.2.2.2.2.2.1
    · cases h) ((slices_CompareFunc_Name_f73.run k a0 a1).trans h) fun r hr => wk_view1 hr
def impl_compareEntries.F (k : Nat) (a0 : Entry) (a1 : Entry) : Option (Int) := (impl_mainNames.F a0).bind fun r1 => (impl_mainNames.F a1).bind fun r2 => (slices_CompareFunc_Name_f73.F k r1 r2).bind fun r3 => (impl_compareDates.F k a0.date a1.date).bind fun r4 => (impl_dropArticle.F k a0.title).bind fun r5 => (impl_dropArticle.F k a1.title).bind fun r6 => (impl_collate.F k r5 r6).bind fun r7 => (cmp_Compare_int.F a0.volume a1.volume).bind fun r8 => (strings_Compare.F a0.key a1.key).bind fun r9 => (cmp_Or_int.F k ([r3, r4, r7, r8, r9] : List Int)).bind fun r10 => some r10
def impl_compareEntries.C (k : Nat) : Cal → Option CArm := fun c => match c with
  | .f 72 => some (.p [.entry] _ (fun x => impl_mainNames.F x.1) (fun r => (.t (.sl .name) r)))
  | .f 71 => some (.q [.t (.sl .name), .t (.sl .name), .clo 73 []] _ (fun x => slices_CompareFunc_Name_f73.F k x.1 x.2.1) (fun r => (.t (.int .i64) r)))
  | .f 74 => some (.p [.date, .date] _ (fun x => impl_compareDates.F k x.1 x.2.1) (fun r => (.t (.int .i64) r)))
  | .f 76 => some (.p [.str] _ (fun x => impl_dropArticle.F k x.1) (fun r => (.t .str r)))
  | .f 75 => some (.p [.str, .str] _ (fun x => impl_collate.F k x.1 x.2.1) (fun r => (.t (.int .i64) r)))
  | .f 35 => some (.p [(.int .i64), (.int .i64)] _ (fun x => cmp_Compare_int.F x.1 x.2.1) (fun r => (.t (.int .i64) r)))
  | .f 77 => some (.p [.str, .str] _ (fun x => strings_Compare.F x.1 x.2.1) (fun r => (.t (.int .i64) r)))
  | .f 70 => some (.p [(.sl (.int .i64))] _ (fun x => cmp_Or_int.F k x.1) (fun r => (.t (.int .i64) r)))
  | _ => none
theorem impl_compareEntries.run (k : Nat) (a0 : Entry) (a1 : Entry) : runF envX (tabC (impl_compareEntries.C k)) (tabL 34 0 (fun _ => none)) Tryz.f50 [.t .entry a0, .t .entry a1] (viewR1 (.t (.int .i64))) = impl_compareEntries.F k a0 a1 := by kernel_rfl
theorem impl_compareEntries.G (hE : EnvOk Tryz.prog envX) (pv : Nat → Value) (k : Nat) : ∀ cal A, impl_compareEntries.C k cal = some A → ArmOk Tryz.prog envX pv cal A := by
  intro cal A h
  unfold impl_compareEntries.C at h
  split at h
  · cases h; exact fun x y hy => impl_mainNames.good hE pv x.1 hy
  · cases h; exact fun x y hy => slices_CompareFunc_Name_f73.good hE pv k x.1 x.2.1 hy
  · cases h; exact fun x y hy => impl_compareDates.good hE pv k x.1 x.2.1 hy
  · cases h; exact fun x y hy => impl_dropArticle.good hE pv k x.1 hy
  · cases h; exact fun x y hy => impl_collate.good hE pv k x.1 x.2.1 hy
  · cases h; exact fun x y hy => cmp_Compare_int.good hE pv x.1 x.2.1 hy
  · cases h; exact fun x y hy => strings_Compare.good hE pv x.1 x.2.1 hy
  · cases h; exact fun x y hy => cmp_Or_int.good hE pv k x.1 hy
  · cases h
theorem impl_compareEntries.good (hE : EnvOk Tryz.prog envX) (pv : Nat → Value) (k : Nat) (a0 : Entry) (a1 : Entry) {y : _} (h : impl_compareEntries.F k a0 a1 = some y) : Meets Tryz.prog envX pv (.f 50) (tvals [.entry, .entry] (a0, a1, ())) (.t (.int .i64) y) :=
  fun_plain hE (impl_compareEntries.G hE pv k) (f := 50) (fn := Tryz.f50) (by kernel_rfl) rfl (by kernel_rfl) (by kernel_rfl) ((impl_compareEntries.run k a0 a1).trans h) fun r hr => wk_view1 hr
-- NO 49 loop.example/g00896/impl.sortKeys$1: fieldAddr of tup
def impl_sortKeys_1.F (k : Nat) (a0 : ByteArray) (a1 : ByteArray) (a2 : Library) : Option (Int) := (impl_entryIndex.F k a2 a0).bind fun r1 => bif decide (0 ≤ r1) then (bif decide (r1 < (a2.entries.length : Int)) then ((impl_entryIndex.F k a2 a1).bind fun r2 => bif decide (0 ≤ r2) then (bif decide (r2 < (a2.entries.length : Int)) then ((impl_compareEntries.F k (a2.entries.getD (r1 : Int).toNat (dflt .entry)) (a2.entries.getD (r2 : Int).toNat (dflt .entry))).bind fun r3 => some r3) else none) else none) else none) else none
def impl_sortKeys_1.C (k : Nat) : Cal → Option CArm := fun c => match c with
  | .f 45 => some (.p [.lib, .str] _ (fun x => impl_entryIndex.F k x.1 x.2.1) (fun r => (.t (.int .i64) r)))
  | .f 50 => some (.p [.entry, .entry] _ (fun x => impl_compareEntries.F k x.1 x.2.1) (fun r => (.t (.int .i64) r)))
  | _ => none
theorem impl_sortKeys_1.run (k : Nat) (a0 : ByteArray) (a1 : ByteArray) (a2 : Library) : runF envX (tabC (impl_sortKeys_1.C k)) (tabL 21 0 (fun _ => none)) Tryz.f49 [.t .str a0, .t .str a1, .tp (.t .lib a2)] (viewR1 (.t (.int .i64))) = impl_sortKeys_1.F k a0 a1 a2 := by kernel_rfl
theorem impl_sortKeys_1.G (hE : EnvOk Tryz.prog envX) (pv : Nat → Value) (k : Nat) : ∀ cal A, impl_sortKeys_1.C k cal = some A → ArmOk Tryz.prog envX pv cal A := by
  intro cal A h
  unfold impl_sortKeys_1.C at h
  split at h
  · cases h; exact fun x y hy => impl_entryIndex.good hE pv k x.1 x.2.1 hy
  · cases h; exact fun x y hy => impl_compareEntries.good hE pv k x.1 x.2.1 hy
  · cases h
theorem impl_sortKeys_1.good (hE : EnvOk Tryz.prog envX) (pv : Nat → Value) (k : Nat) (a0 : ByteArray) (a1 : ByteArray) (a2 : Library) {y : _} (h : impl_sortKeys_1.F k a0 a1 a2 = some y) : Meets Tryz.prog envX pv (.f 49) (pvals [.t .str, .t .str, .tp .lib] (a0, a1, a2, ())) (.t (.int .i64) y) :=
  fun_plain hE (impl_sortKeys_1.G hE pv k) (f := 49) (fn := Tryz.f49) (by kernel_rfl) rfl (by kernel_rfl) (by kernel_rfl) ((impl_sortKeys_1.run k a0 a1 a2).trans h) fun r hr => wk_view1 hr
def slices_insertionSortCmpFunc_string_f49.l2 : Nat → (List ByteArray) → Int → Int → Library → Int → Int → Option ((List ByteArray) × Int × Int × Library × Int)
  | 0, _, _, _, _, _, _ => none
  | k + 1, x0, x1, x2, x3, x8, x9 => bif (decide (x9 > x1)) then (bif decide (0 ≤ x9) then (bif decide (x9 < (x0.length : Int)) then (bif decide (0 ≤ (IntKind.wrap .i64 (x9 - 1))) then (bif decide ((IntKind.wrap .i64 (x9 - 1)) < (x0.length : Int)) then ((impl_sortKeys_1.F k (x0.getD ((x9 : Int).toNat) (⟨#[]⟩ : ByteArray)) (x0.getD (((IntKind.wrap .i64 (x9 - 1)) : Int).toNat) (⟨#[]⟩ : ByteArray)) x3).bind fun r1 => bif (decide (r1 < 0)) then (bif decide (0 ≤ (IntKind.wrap .i64 (x9 - 1))) then (bif decide ((IntKind.wrap .i64 (x9 - 1)) < (x0.length : Int)) then (bif decide (0 ≤ x9) then (bif decide (x9 < (x0.length : Int)) then (bif decide (0 ≤ x9) then (bif decide (x9 < (x0.length : Int)) then (bif decide (0 ≤ (IntKind.wrap .i64 (x9 - 1))) then (bif decide ((IntKind.wrap .i64 (x9 - 1)) < ((x0.set ((x9 : Int).toNat) (x0.getD (((IntKind.wrap .i64 (x9 - 1)) : Int).toNat) (⟨#[]⟩ : ByteArray))).length : Int)) then (slices_insertionSortCmpFunc_string_f49.l2 k ((x0.set ((x9 : Int).toNat) (x0.getD (((IntKind.wrap .i64 (x9 - 1)) : Int).toNat) (⟨#[]⟩ : ByteArray))).set (((IntKind.wrap .i64 (x9 - 1)) : Int).toNat) (x0.getD ((x9 : Int).toNat) (⟨#[]⟩ : ByteArray))) x1 x2 x3 x8 (IntKind.wrap .i64 (x9 - 1))) else none) else none) else none) else none) else none) else none) else none) else none) else (some (x0, x1, x2, x3, x8))) else none) else none) else none) else none) else (some (x0, x1, x2, x3, x8))
def slices_insertionSortCmpFunc_string_f49.l0 : Nat → (List ByteArray) → Int → Int → Library → Int → Option ((List ByteArray))
  | 0, _, _, _, _, _ => none
  | k + 1, x0, x1, x2, x3, x8 => bif (decide (x8 < x2)) then ((slices_insertionSortCmpFunc_string_f49.l2 k x0 x1 x2 x3 x8 x8).bind fun y2 => slices_insertionSortCmpFunc_string_f49.l0 k y2.1 y2.2.1 y2.2.2.1 y2.2.2.2.1 (IntKind.wrap .i64 (y2.2.2.2.2 + 1))) else (some x0)
def slices_insertionSortCmpFunc_string_f49.F (k : Nat) (a0 : List ByteArray) (a1 : Int) (a2 : Int) (a3c0 : Library) : Option (List ByteArray) := (slices_insertionSortCmpFunc_string_f49.l0 k a0 a1 a2 a3c0 (IntKind.wrap .i64 (a1 + 1))).bind fun y3 => bif Nat.beq (y3).length a0.length then (some y3) else none
def slices_insertionSortCmpFunc_string_f49.C (k : Nat) : Cal → Option CArm := fun c => match c with
  | .f 49 => some (.q [.t .str, .t .str, .tp .lib] _ (fun x => impl_sortKeys_1.F k x.1 x.2.1 x.2.2.1) (fun r => (.t (.int .i64) r)))
  | _ => none
def slices_insertionSortCmpFunc_string_f49.sp2 : List Sp := [.own 0 1099511627776 9 .str false true, .t 1 (.int .i64), .t 2 (.int .i64), .cl 3 49 [.tp .lib], .t 8 (.int .i64), .t 9 (.int .i64)]
def slices_insertionSortCmpFunc_string_f49.sp2_0 : List Sp := [.own 0 1099511627776 9 .str false true, .t 1 (.int .i64), .t 2 (.int .i64), .cl 3 49 [.tp .lib], .t 8 (.int .i64)]
def slices_insertionSortCmpFunc_string_f49.A2 : LArm := .one slices_insertionSortCmpFunc_string_f49.sp2 slices_insertionSortCmpFunc_string_f49.sp2_0 ((List ByteArray) × Int × Int × Library × Int) (fun k x => slices_insertionSortCmpFunc_string_f49.l2 k x.1 x.2.1 x.2.2.1 x.2.2.2.1.1 x.2.2.2.2.1 x.2.2.2.2.2.1) (.exit 2) (fun y => (y.1, y.2.1, y.2.2.1, (y.2.2.2.1, ()), y.2.2.2.2, ())) (fun x => (x.1, x.2.1, x.2.2.1, x.2.2.2.1.1, x.2.2.2.2.1))
def slices_insertionSortCmpFunc_string_f49.sp0 : List Sp := [.own 0 1099511627776 9 .str false true, .t 1 (.int .i64), .t 2 (.int .i64), .cl 3 49 [.tp .lib], .t 8 (.int .i64)]
def slices_insertionSortCmpFunc_string_f49.sp0_0 : List Sp := [.own 0 1099511627776 9 .str false true]
def slices_insertionSortCmpFunc_string_f49.A0 : LArm := .one slices_insertionSortCmpFunc_string_f49.sp0 slices_insertionSortCmpFunc_string_f49.sp0_0 ((List ByteArray)) (fun k x => slices_insertionSortCmpFunc_string_f49.l0 k x.1 x.2.1 x.2.2.1 x.2.2.2.1.1 x.2.2.2.2.1) (.exit 0) (fun y => (y, ())) (fun x => x.1)
def slices_insertionSortCmpFunc_string_f49.L : Nat → Option LArm := fun b => match b with
  | 2 => some slices_insertionSortCmpFunc_string_f49.A2
  | 0 => some slices_insertionSortCmpFunc_string_f49.A0
  | _ => none
theorem slices_insertionSortCmpFunc_string_f49.run (k : Nat) (a0 : List ByteArray) (a1 : Int) (a2 : Int) (a3c0 : Library) : runM envX (tabC (slices_insertionSortCmpFunc_string_f49.C k)) (tabL 53 k slices_insertionSortCmpFunc_string_f49.L) Tryz.f78 mbase (.fr 9 .str a0) [.t (.int .i64) a1, .t (.int .i64) a2, .clo 49 [.tp (.t .lib a3c0)]] (viewK0 (.fr 9 .str)) = slices_insertionSortCmpFunc_string_f49.F k a0 a1 a2 a3c0 := by kernel_rfl
theorem slices_insertionSortCmpFunc_string_f49.step2 (k : Nat) (x0 : List ByteArray) (x1 : Int) (x2 : Int) (x3 : Library) (x8 : Int) (x9 : Int) : runC envX (tabC (slices_insertionSortCmpFunc_string_f49.C k)) (tabL 53 k slices_insertionSortCmpFunc_string_f49.L) 2 (loopAt Tryz.f78 2) (stOf 53 slices_insertionSortCmpFunc_string_f49.sp2 (x0, x1, x2, (x3, ()), x8, x9, ())) (slices_insertionSortCmpFunc_string_f49.A2.cont 53 k) = slices_insertionSortCmpFunc_string_f49.l2 (k + 1) x0 x1 x2 x3 x8 x9 := by kernel_rfl
theorem slices_insertionSortCmpFunc_string_f49.step0 (k : Nat) (x0 : List ByteArray) (x1 : Int) (x2 : Int) (x3 : Library) (x8 : Int) : runC envX (tabC (slices_insertionSortCmpFunc_string_f49.C k)) (tabL 53 k slices_insertionSortCmpFunc_string_f49.L) 0 (loopAt Tryz.f78 0) (stOf 53 slices_insertionSortCmpFunc_string_f49.sp0 (x0, x1, x2, (x3, ()), x8, ())) (slices_insertionSortCmpFunc_string_f49.A0.cont 53 k) = slices_insertionSortCmpFunc_string_f49.l0 (k + 1) x0 x1 x2 x3 x8 := by kernel_rfl
theorem slices_insertionSortCmpFunc_string_f49.G (hE : EnvOk Tryz.prog envX) (pv : Nat → Value) (k : Nat) : ∀ cal A, slices_insertionSortCmpFunc_string_f49.C k cal = some A → ArmOk Tryz.prog envX pv cal A := by
  intro cal A h
  unfold slices_insertionSortCmpFunc_string_f49.C at h
  split at h
  · cases h; exact fun x y hy => impl_sortKeys_1.good hE pv k x.1 x.2.1 x.2.2.1 hy
  · cases h
theorem slices_insertionSortCmpFunc_string_f49.good (hE : EnvOk Tryz.prog envX) (pv : Nat → Value) (k : Nat) (a0 : List ByteArray) (a1 : Int) (a2 : Int) (a3c0 : Library) {y : _} (h : slices_insertionSortCmpFunc_string_f49.F k a0 a1 a2 a3c0 = some y) : MeetsM Tryz.prog envX pv 78 (.fr 9 .str a0) (pvals [.t (.int .i64), .t (.int .i64), .clo 49 [.tp .lib]] (a1, a2, (a3c0, ()), ())) (.kep (.fr 9 .str y) (.tup [])) :=
  funM_loops hE (t := slices_insertionSortCmpFunc_string_f49.C) k (fun k _ => slices_insertionSortCmpFunc_string_f49.G hE pv k) (f := 78) (fn := Tryz.f78) (by kernel_rfl) rfl (by kernel_rfl) (.inl rfl) (by kernel_rfl) (lt := slices_insertionSortCmpFunc_string_f49.L) (by kernel_rfl) (fun b A h => by
    unfold slices_insertionSortCmpFunc_string_f49.L at h; split at h
    · cases h; exact ⟨by kernel_rfl, by kernel_rfl, fun _ => rfl, fun _ => rfl⟩
    · cases h; exact ⟨by kernel_rfl, by kernel_rfl, fun _ => rfl, fun _ => rfl⟩
    · cases h) (fun b A h => by
    unfold slices_insertionSortCmpFunc_string_f49.L at h; split at h
    · cases h; exact fun k x => slices_insertionSortCmpFunc_string_f49.step2 k x.1 x.2.1 x.2.2.1 x.2.2.2.1.1 x.2.2.2.2.1 x.2.2.2.2.2.1
    · cases h; exact fun k x => slices_insertionSortCmpFunc_string_f49.step0 k x.1 x.2.1 x.2.2.1 x.2.2.2.1.1 x.2.2.2.2.1
    · cases h) ((slices_insertionSortCmpFunc_string_f49.run k a0 a1 a2 a3c0).trans h) fun r hr => wk_viewK0 hr
def slices_pdqsortCmpFunc_string_f49.l0 : Nat → (List ByteArray) → Int → Int → Int → Library → Bool → Bool → Option ((List ByteArray))
  | 0, _, _, _, _, _, _, _ => none
  | k + 1, x0, x1, x2, x3, x4, x10, x11 => bif (decide ((IntKind.wrap .i64 (x2 - x1)) ≤ 12)) then ((slices_insertionSortCmpFunc_string_f49.F k x0 x1 x2 x4).bind fun r1 => some r1) else (bif (x3 == 0) then (none) else (bif (!x10) then (none) else none))
def slices_pdqsortCmpFunc_string_f49.F (k : Nat) (a0 : List ByteArray) (a1 : Int) (a2 : Int) (a3 : Int) (a4c0 : Library) : Option (List ByteArray) := (slices_pdqsortCmpFunc_string_f49.l0 k a0 a1 a2 a3 a4c0 true true).bind fun y2 => bif Nat.beq (y2).length a0.length then (some y2) else none
def slices_pdqsortCmpFunc_string_f49.C (k : Nat) : Cal → Option CArm := fun c => match c with
  | .f 78 => some (.mq (.fr 9 .str) [.t (.int .i64), .t (.int .i64), .clo 49 [.tp .lib]] _ (fun x0 x => slices_insertionSortCmpFunc_string_f49.F k x0 x.1 x.2.1 x.2.2.1.1) (fun r => .kep (.fr 9 .str r) (.tup [])))
  | _ => none
def slices_pdqsortCmpFunc_string_f49.sp0 : List Sp := [.own 0 1099511627776 9 .str false true, .t 1 (.int .i64), .t 2 (.int .i64), .t 3 (.int .i64), .cl 4 49 [.tp .lib], .t 10 .bool, .t 11 .bool]
def slices_pdqsortCmpFunc_string_f49.sp0_0 : List Sp := [.own 0 1099511627776 9 .str false true]
def slices_pdqsortCmpFunc_string_f49.A0 : LArm := .one slices_pdqsortCmpFunc_string_f49.sp0 slices_pdqsortCmpFunc_string_f49.sp0_0 ((List ByteArray)) (fun k x => slices_pdqsortCmpFunc_string_f49.l0 k x.1 x.2.1 x.2.2.1 x.2.2.2.1 x.2.2.2.2.1.1 x.2.2.2.2.2.1 x.2.2.2.2.2.2.1) .ret (fun y => (y, ())) (fun x => x.1)
def slices_pdqsortCmpFunc_string_f49.L : Nat → Option LArm := fun b => match b with
  | 0 => some slices_pdqsortCmpFunc_string_f49.A0
  | _ => none
theorem slices_pdqsortCmpFunc_string_f49.run (k : Nat) (a0 : List ByteArray) (a1 : Int) (a2 : Int) (a3 : Int) (a4c0 : Library) : runM envX (tabC (slices_pdqsortCmpFunc_string_f49.C k)) (tabL 148 k slices_pdqsortCmpFunc_string_f49.L) Tryz.f68 mbase (.fr 9 .str a0) [.t (.int .i64) a1, .t (.int .i64) a2, .t (.int .i64) a3, .clo 49 [.tp (.t .lib a4c0)]] (viewK0 (.fr 9 .str)) = slices_pdqsortCmpFunc_string_f49.F k a0 a1 a2 a3 a4c0 := by kernel_rfl
theorem slices_pdqsortCmpFunc_string_f49.step0 (k : Nat) (x0 : List ByteArray) (x1 : Int) (x2 : Int) (x3 : Int) (x4 : Library) (x10 : Bool) (x11 : Bool) : runC envX (tabC (slices_pdqsortCmpFunc_string_f49.C k)) (tabL 148 k slices_pdqsortCmpFunc_string_f49.L) 0 (loopAt Tryz.f68 0) (stOf 148 slices_pdqsortCmpFunc_string_f49.sp0 (x0, x1, x2, x3, (x4, ()), x10, x11, ())) (slices_pdqsortCmpFunc_string_f49.A0.cont 148 k) = slices_pdqsortCmpFunc_string_f49.l0 (k + 1) x0 x1 x2 x3 x4 x10 x11 := by kernel_rfl
theorem slices_pdqsortCmpFunc_string_f49.G (hE : EnvOk Tryz.prog envX) (pv : Nat → Value) (k : Nat) : ∀ cal A, slices_pdqsortCmpFunc_string_f49.C k cal = some A → ArmOk Tryz.prog envX pv cal A := by
  intro cal A h
  unfold slices_pdqsortCmpFunc_string_f49.C at h
  split at h
  · cases h; exact ⟨_, rfl, fun x0 x y hy => slices_insertionSortCmpFunc_string_f49.good hE pv k x0 x.1 x.2.1 x.2.2.1.1 hy⟩
  · cases h
theorem slices_pdqsortCmpFunc_string_f49.good (hE : EnvOk Tryz.prog envX) (pv : Nat → Value) (k : Nat) (a0 : List ByteArray) (a1 : Int) (a2 : Int) (a3 : Int) (a4c0 : Library) {y : _} (h : slices_pdqsortCmpFunc_string_f49.F k a0 a1 a2 a3 a4c0 = some y) : MeetsM Tryz.prog envX pv 68 (.fr 9 .str a0) (pvals [.t (.int .i64), .t (.int .i64), .t (.int .i64), .clo 49 [.tp .lib]] (a1, a2, a3, (a4c0, ()), ())) (.kep (.fr 9 .str y) (.tup [])) :=
  funM_loops hE (t := slices_pdqsortCmpFunc_string_f49.C) k (fun k _ => slices_pdqsortCmpFunc_string_f49.G hE pv k) (f := 68) (fn := Tryz.f68) (by kernel_rfl) rfl (by kernel_rfl) (.inl rfl) (by kernel_rfl) (lt := slices_pdqsortCmpFunc_string_f49.L) (by kernel_rfl) (fun b A h => by
    unfold slices_pdqsortCmpFunc_string_f49.L at h; split at h
    · cases h; exact ⟨by kernel_rfl, by kernel_rfl, fun _ => rfl, fun _ => rfl⟩
    · cases h) (fun b A h => by
    unfold slices_pdqsortCmpFunc_string_f49.L at h; split at h
    · cases h; exact fun k x => slices_pdqsortCmpFunc_string_f49.step0 k x.1 x.2.1 x.2.2.1 x.2.2.2.1 x.2.2.2.2.1.1 x.2.2.2.2.2.1 x.2.2.2.2.2.2.1
    · cases h) ((slices_pdqsortCmpFunc_string_f49.run k a0 a1 a2 a3 a4c0).trans h) fun r hr => wk_viewK0 hr
def slices_SortFunc_string_f49.F (k : Nat) (a0 : List ByteArray) (a1c0 : Library) : Option (List ByteArray) := (bits_Len.F (IntKind.wrap .u64 (a0.length : Int))).bind fun r1 => (slices_pdqsortCmpFunc_string_f49.F k a0 0 (a0.length : Int) r1 a1c0).bind fun r2 => bif Nat.beq (r2).length a0.length then (some r2) else none
def slices_SortFunc_string_f49.C (k : Nat) : Cal → Option CArm := fun c => match c with
  | .f 69 => some (.p [(.int .u64)] _ (fun x => bits_Len.F x.1) (fun r => (.t (.int .i64) r)))
  | .f 68 => some (.mq (.fr 9 .str) [.t (.int .i64), .t (.int .i64), .t (.int .i64), .clo 49 [.tp .lib]] _ (fun x0 x => slices_pdqsortCmpFunc_string_f49.F k x0 x.1 x.2.1 x.2.2.1 x.2.2.2.1.1) (fun r => .kep (.fr 9 .str r) (.tup [])))
  | _ => none
theorem slices_SortFunc_string_f49.run (k : Nat) (a0 : List ByteArray) (a1c0 : Library) : runM envX (tabC (slices_SortFunc_string_f49.C k)) (tabL 14 0 (fun _ => none)) Tryz.f48 mbase (.fr 9 .str a0) [.clo 49 [.tp (.t .lib a1c0)]] (viewK0 (.fr 9 .str)) = slices_SortFunc_string_f49.F k a0 a1c0 := by kernel_rfl
theorem slices_SortFunc_string_f49.G (hE : EnvOk Tryz.prog envX) (pv : Nat → Value) (k : Nat) : ∀ cal A, slices_SortFunc_string_f49.C k cal = some A → ArmOk Tryz.prog envX pv cal A := by
  intro cal A h
  unfold slices_SortFunc_string_f49.C at h
  split at h
  · cases h; exact fun x y hy => bits_Len.good hE pv x.1 hy
  · cases h; exact ⟨_, rfl, fun x0 x y hy => slices_pdqsortCmpFunc_string_f49.good hE pv k x0 x.1 x.2.1 x.2.2.1 x.2.2.2.1.1 hy⟩
  · cases h
theorem slices_SortFunc_string_f49.good (hE : EnvOk Tryz.prog envX) (pv : Nat → Value) (k : Nat) (a0 : List ByteArray) (a1c0 : Library) {y : _} (h : slices_SortFunc_string_f49.F k a0 a1c0 = some y) : MeetsM Tryz.prog envX pv 48 (.fr 9 .str a0) (pvals [.clo 49 [.tp .lib]] ((a1c0, ()), ())) (.kep (.fr 9 .str y) (.tup [])) :=
  funM_plain hE (slices_SortFunc_string_f49.G hE pv k) (f := 48) (fn := Tryz.f48) (by kernel_rfl) rfl (by kernel_rfl) (.inl rfl) (by kernel_rfl) ((slices_SortFunc_string_f49.run k a0 a1c0).trans h) fun r hr => wk_viewK0 hr
def impl_sortKeys.F (k : Nat) (a0 : Library) (a1 : List ByteArray) : Option (List ByteArray) := bif room (([] : List ByteArray).length + a1.length) .str then ((slices_SortFunc_string_f49.F k (([] : List ByteArray) ++ a1) a0).bind fun r1 => some r1) else none
def impl_sortKeys.C (k : Nat) : Cal → Option CArm := fun c => match c with
  | .f 48 => some (.mq (.fr 9 .str) [.clo 49 [.tp .lib]] _ (fun x0 x => slices_SortFunc_string_f49.F k x0 x.1.1) (fun r => .kep (.fr 9 .str r) (.tup [])))
  | _ => none
theorem impl_sortKeys.run (k : Nat) (a0 : Library) (a1 : List ByteArray) : runF envX (tabC (impl_sortKeys.C k)) (tabL 13 0 (fun _ => none)) Tryz.f32 [.t .lib a0, .t (.sl .str) a1] (viewR1 (.fr 9 .str)) = impl_sortKeys.F k a0 a1 := by kernel_rfl
theorem impl_sortKeys.G (hE : EnvOk Tryz.prog envX) (pv : Nat → Value) (k : Nat) : ∀ cal A, impl_sortKeys.C k cal = some A → ArmOk Tryz.prog envX pv cal A := by
  intro cal A h
  unfold impl_sortKeys.C at h
  split at h
  · cases h; exact ⟨_, rfl, fun x0 x y hy => slices_SortFunc_string_f49.good hE pv k x0 x.1.1 hy⟩
  · cases h
theorem impl_sortKeys.good (hE : EnvOk Tryz.prog envX) (pv : Nat → Value) (k : Nat) (a0 : Library) (a1 : List ByteArray) {y : _} (h : impl_sortKeys.F k a0 a1 = some y) : Meets Tryz.prog envX pv (.f 32) (tvals [.lib, (.sl .str)] (a0, a1, ())) (.fr 9 .str y) :=
  fun_plain hE (impl_sortKeys.G hE pv k) (f := 32) (fn := Tryz.f32) (by kernel_rfl) rfl (by kernel_rfl) (by kernel_rfl) ((impl_sortKeys.run k a0 a1).trans h) fun r hr => wk_view1 hr
-- NO 51 slices.stableCmpFunc[string]: a parameter's type
-- NO 33 slices.SortStableFunc[[]string,string]: a parameter's type
def impl_entryOf.F (k : Nat) (a0 : Library) (a1 : ByteArray) : Option (Entry) := (impl_entryIndex.F k a0 a1).bind fun r1 => bif decide (0 ≤ r1) then (bif decide (r1 < (a0.entries.length : Int)) then (some (a0.entries.getD (r1 : Int).toNat (dflt .entry))) else none) else none
def impl_entryOf.C (k : Nat) : Cal → Option CArm := fun c => match c with
  | .f 45 => some (.p [.lib, .str] _ (fun x => impl_entryIndex.F k x.1 x.2.1) (fun r => (.t (.int .i64) r)))
  | _ => none
theorem impl_entryOf.run (k : Nat) (a0 : Library) (a1 : ByteArray) : runF envX (tabC (impl_entryOf.C k)) (tabL 12 0 (fun _ => none)) Tryz.f36 [.t .lib a0, .t .str a1] (viewR1 (.t .entry)) = impl_entryOf.F k a0 a1 := by kernel_rfl
theorem impl_entryOf.G (hE : EnvOk Tryz.prog envX) (pv : Nat → Value) (k : Nat) : ∀ cal A, impl_entryOf.C k cal = some A → ArmOk Tryz.prog envX pv cal A := by
  intro cal A h
  unfold impl_entryOf.C at h
  split at h
  · cases h; exact fun x y hy => impl_entryIndex.good hE pv k x.1 x.2.1 hy
  · cases h
theorem impl_entryOf.good (hE : EnvOk Tryz.prog envX) (pv : Nat → Value) (k : Nat) (a0 : Library) (a1 : ByteArray) {y : _} (h : impl_entryOf.F k a0 a1 = some y) : Meets Tryz.prog envX pv (.f 36) (tvals [.lib, .str] (a0, a1, ())) (.t .entry y) :=
  fun_plain hE (impl_entryOf.G hE pv k) (f := 36) (fn := Tryz.f36) (by kernel_rfl) rfl (by kernel_rfl) (by kernel_rfl) ((impl_entryOf.run k a0 a1).trans h) fun r hr => wk_view1 hr
-- NO 34 loop.example/g00896/impl.bibliographyKeys$1: load from tup
def impl_bibliographyKeys_1.F (k : Nat) (a0 : ByteArray) (a1 : ByteArray) (a2 : Library) : Option (Int) := (impl_entryOf.F k a2 a1).bind fun r1 => (impl_entryOf.F k a2 a0).bind fun r2 => (cmp_Compare_int.F r1.date.y r2.date.y).bind fun r3 => some r3
def impl_bibliographyKeys_1.C (k : Nat) : Cal → Option CArm := fun c => match c with
  | .f 36 => some (.p [.lib, .str] _ (fun x => impl_entryOf.F k x.1 x.2.1) (fun r => (.t .entry r)))
  | .f 35 => some (.p [(.int .i64), (.int .i64)] _ (fun x => cmp_Compare_int.F x.1 x.2.1) (fun r => (.t (.int .i64) r)))
  | _ => none
theorem impl_bibliographyKeys_1.run (k : Nat) (a0 : ByteArray) (a1 : ByteArray) (a2 : Library) : runF envX (tabC (impl_bibliographyKeys_1.C k)) (tabL 17 0 (fun _ => none)) Tryz.f34 [.t .str a0, .t .str a1, .tp (.t .lib a2)] (viewR1 (.t (.int .i64))) = impl_bibliographyKeys_1.F k a0 a1 a2 := by kernel_rfl
theorem impl_bibliographyKeys_1.G (hE : EnvOk Tryz.prog envX) (pv : Nat → Value) (k : Nat) : ∀ cal A, impl_bibliographyKeys_1.C k cal = some A → ArmOk Tryz.prog envX pv cal A := by
  intro cal A h
  unfold impl_bibliographyKeys_1.C at h
  split at h
  · cases h; exact fun x y hy => impl_entryOf.good hE pv k x.1 x.2.1 hy
  · cases h; exact fun x y hy => cmp_Compare_int.good hE pv x.1 x.2.1 hy
  · cases h
theorem impl_bibliographyKeys_1.good (hE : EnvOk Tryz.prog envX) (pv : Nat → Value) (k : Nat) (a0 : ByteArray) (a1 : ByteArray) (a2 : Library) {y : _} (h : impl_bibliographyKeys_1.F k a0 a1 a2 = some y) : Meets Tryz.prog envX pv (.f 34) (pvals [.t .str, .t .str, .tp .lib] (a0, a1, a2, ())) (.t (.int .i64) y) :=
  fun_plain hE (impl_bibliographyKeys_1.G hE pv k) (f := 34) (fn := Tryz.f34) (by kernel_rfl) rfl (by kernel_rfl) (by kernel_rfl) ((impl_bibliographyKeys_1.run k a0 a1 a2).trans h) fun r hr => wk_view1 hr
def slices_insertionSortCmpFunc_string_f34.l2 : Nat → (List ByteArray) → Int → Int → Library → Int → Int → Option ((List ByteArray) × Int × Int × Library × Int)
  | 0, _, _, _, _, _, _ => none
  | k + 1, x0, x1, x2, x3, x8, x9 => bif (decide (x9 > x1)) then (bif decide (0 ≤ x9) then (bif decide (x9 < (x0.length : Int)) then (bif decide (0 ≤ (IntKind.wrap .i64 (x9 - 1))) then (bif decide ((IntKind.wrap .i64 (x9 - 1)) < (x0.length : Int)) then ((impl_bibliographyKeys_1.F k (x0.getD ((x9 : Int).toNat) (⟨#[]⟩ : ByteArray)) (x0.getD (((IntKind.wrap .i64 (x9 - 1)) : Int).toNat) (⟨#[]⟩ : ByteArray)) x3).bind fun r1 => bif (decide (r1 < 0)) then (bif decide (0 ≤ (IntKind.wrap .i64 (x9 - 1))) then (bif decide ((IntKind.wrap .i64 (x9 - 1)) < (x0.length : Int)) then (bif decide (0 ≤ x9) then (bif decide (x9 < (x0.length : Int)) then (bif decide (0 ≤ x9) then (bif decide (x9 < (x0.length : Int)) then (bif decide (0 ≤ (IntKind.wrap .i64 (x9 - 1))) then (bif decide ((IntKind.wrap .i64 (x9 - 1)) < ((x0.set ((x9 : Int).toNat) (x0.getD (((IntKind.wrap .i64 (x9 - 1)) : Int).toNat) (⟨#[]⟩ : ByteArray))).length : Int)) then (slices_insertionSortCmpFunc_string_f34.l2 k ((x0.set ((x9 : Int).toNat) (x0.getD (((IntKind.wrap .i64 (x9 - 1)) : Int).toNat) (⟨#[]⟩ : ByteArray))).set (((IntKind.wrap .i64 (x9 - 1)) : Int).toNat) (x0.getD ((x9 : Int).toNat) (⟨#[]⟩ : ByteArray))) x1 x2 x3 x8 (IntKind.wrap .i64 (x9 - 1))) else none) else none) else none) else none) else none) else none) else none) else none) else (some (x0, x1, x2, x3, x8))) else none) else none) else none) else none) else (some (x0, x1, x2, x3, x8))
def slices_insertionSortCmpFunc_string_f34.l0 : Nat → (List ByteArray) → Int → Int → Library → Int → Option ((List ByteArray))
  | 0, _, _, _, _, _ => none
  | k + 1, x0, x1, x2, x3, x8 => bif (decide (x8 < x2)) then ((slices_insertionSortCmpFunc_string_f34.l2 k x0 x1 x2 x3 x8 x8).bind fun y2 => slices_insertionSortCmpFunc_string_f34.l0 k y2.1 y2.2.1 y2.2.2.1 y2.2.2.2.1 (IntKind.wrap .i64 (y2.2.2.2.2 + 1))) else (some x0)
def slices_insertionSortCmpFunc_string_f34.F (k : Nat) (a0 : List ByteArray) (a1 : Int) (a2 : Int) (a3c0 : Library) : Option (List ByteArray) := (slices_insertionSortCmpFunc_string_f34.l0 k a0 a1 a2 a3c0 (IntKind.wrap .i64 (a1 + 1))).bind fun y3 => bif Nat.beq (y3).length a0.length then (some y3) else none
def slices_insertionSortCmpFunc_string_f34.C (k : Nat) : Cal → Option CArm := fun c => match c with
  | .f 34 => some (.q [.t .str, .t .str, .tp .lib] _ (fun x => impl_bibliographyKeys_1.F k x.1 x.2.1 x.2.2.1) (fun r => (.t (.int .i64) r)))
  | _ => none
def slices_insertionSortCmpFunc_string_f34.sp2 : List Sp := [.own 0 1099511627776 9 .str false true, .t 1 (.int .i64), .t 2 (.int .i64), .cl 3 34 [.tp .lib], .t 8 (.int .i64), .t 9 (.int .i64)]
def slices_insertionSortCmpFunc_string_f34.sp2_0 : List Sp := [.own 0 1099511627776 9 .str false true, .t 1 (.int .i64), .t 2 (.int .i64), .cl 3 34 [.tp .lib], .t 8 (.int .i64)]
def slices_insertionSortCmpFunc_string_f34.A2 : LArm := .one slices_insertionSortCmpFunc_string_f34.sp2 slices_insertionSortCmpFunc_string_f34.sp2_0 ((List ByteArray) × Int × Int × Library × Int) (fun k x => slices_insertionSortCmpFunc_string_f34.l2 k x.1 x.2.1 x.2.2.1 x.2.2.2.1.1 x.2.2.2.2.1 x.2.2.2.2.2.1) (.exit 2) (fun y => (y.1, y.2.1, y.2.2.1, (y.2.2.2.1, ()), y.2.2.2.2, ())) (fun x => (x.1, x.2.1, x.2.2.1, x.2.2.2.1.1, x.2.2.2.2.1))
def slices_insertionSortCmpFunc_string_f34.sp0 : List Sp := [.own 0 1099511627776 9 .str false true, .t 1 (.int .i64), .t 2 (.int .i64), .cl 3 34 [.tp .lib], .t 8 (.int .i64)]
def slices_insertionSortCmpFunc_string_f34.sp0_0 : List Sp := [.own 0 1099511627776 9 .str false true]
def slices_insertionSortCmpFunc_string_f34.A0 : LArm := .one slices_insertionSortCmpFunc_string_f34.sp0 slices_insertionSortCmpFunc_string_f34.sp0_0 ((List ByteArray)) (fun k x => slices_insertionSortCmpFunc_string_f34.l0 k x.1 x.2.1 x.2.2.1 x.2.2.2.1.1 x.2.2.2.2.1) (.exit 0) (fun y => (y, ())) (fun x => x.1)
def slices_insertionSortCmpFunc_string_f34.L : Nat → Option LArm := fun b => match b with
  | 2 => some slices_insertionSortCmpFunc_string_f34.A2
  | 0 => some slices_insertionSortCmpFunc_string_f34.A0
  | _ => none
theorem slices_insertionSortCmpFunc_string_f34.run (k : Nat) (a0 : List ByteArray) (a1 : Int) (a2 : Int) (a3c0 : Library) : runM envX (tabC (slices_insertionSortCmpFunc_string_f34.C k)) (tabL 53 k slices_insertionSortCmpFunc_string_f34.L) Tryz.f78 mbase (.fr 9 .str a0) [.t (.int .i64) a1, .t (.int .i64) a2, .clo 34 [.tp (.t .lib a3c0)]] (viewK0 (.fr 9 .str)) = slices_insertionSortCmpFunc_string_f34.F k a0 a1 a2 a3c0 := by kernel_rfl
theorem slices_insertionSortCmpFunc_string_f34.step2 (k : Nat) (x0 : List ByteArray) (x1 : Int) (x2 : Int) (x3 : Library) (x8 : Int) (x9 : Int) : runC envX (tabC (slices_insertionSortCmpFunc_string_f34.C k)) (tabL 53 k slices_insertionSortCmpFunc_string_f34.L) 2 (loopAt Tryz.f78 2) (stOf 53 slices_insertionSortCmpFunc_string_f34.sp2 (x0, x1, x2, (x3, ()), x8, x9, ())) (slices_insertionSortCmpFunc_string_f34.A2.cont 53 k) = slices_insertionSortCmpFunc_string_f34.l2 (k + 1) x0 x1 x2 x3 x8 x9 := by kernel_rfl
theorem slices_insertionSortCmpFunc_string_f34.step0 (k : Nat) (x0 : List ByteArray) (x1 : Int) (x2 : Int) (x3 : Library) (x8 : Int) : runC envX (tabC (slices_insertionSortCmpFunc_string_f34.C k)) (tabL 53 k slices_insertionSortCmpFunc_string_f34.L) 0 (loopAt Tryz.f78 0) (stOf 53 slices_insertionSortCmpFunc_string_f34.sp0 (x0, x1, x2, (x3, ()), x8, ())) (slices_insertionSortCmpFunc_string_f34.A0.cont 53 k) = slices_insertionSortCmpFunc_string_f34.l0 (k + 1) x0 x1 x2 x3 x8 := by kernel_rfl
theorem slices_insertionSortCmpFunc_string_f34.G (hE : EnvOk Tryz.prog envX) (pv : Nat → Value) (k : Nat) : ∀ cal A, slices_insertionSortCmpFunc_string_f34.C k cal = some A → ArmOk Tryz.prog envX pv cal A := by
  intro cal A h
  unfold slices_insertionSortCmpFunc_string_f34.C at h
  split at h
  · cases h; exact fun x y hy => impl_bibliographyKeys_1.good hE pv k x.1 x.2.1 x.2.2.1 hy
  · cases h
theorem slices_insertionSortCmpFunc_string_f34.good (hE : EnvOk Tryz.prog envX) (pv : Nat → Value) (k : Nat) (a0 : List ByteArray) (a1 : Int) (a2 : Int) (a3c0 : Library) {y : _} (h : slices_insertionSortCmpFunc_string_f34.F k a0 a1 a2 a3c0 = some y) : MeetsM Tryz.prog envX pv 78 (.fr 9 .str a0) (pvals [.t (.int .i64), .t (.int .i64), .clo 34 [.tp .lib]] (a1, a2, (a3c0, ()), ())) (.kep (.fr 9 .str y) (.tup [])) :=
  funM_loops hE (t := slices_insertionSortCmpFunc_string_f34.C) k (fun k _ => slices_insertionSortCmpFunc_string_f34.G hE pv k) (f := 78) (fn := Tryz.f78) (by kernel_rfl) rfl (by kernel_rfl) (.inl rfl) (by kernel_rfl) (lt := slices_insertionSortCmpFunc_string_f34.L) (by kernel_rfl) (fun b A h => by
    unfold slices_insertionSortCmpFunc_string_f34.L at h; split at h
    · cases h; exact ⟨by kernel_rfl, by kernel_rfl, fun _ => rfl, fun _ => rfl⟩
    · cases h; exact ⟨by kernel_rfl, by kernel_rfl, fun _ => rfl, fun _ => rfl⟩
    · cases h) (fun b A h => by
    unfold slices_insertionSortCmpFunc_string_f34.L at h; split at h
    · cases h; exact fun k x => slices_insertionSortCmpFunc_string_f34.step2 k x.1 x.2.1 x.2.2.1 x.2.2.2.1.1 x.2.2.2.2.1 x.2.2.2.2.2.1
    · cases h; exact fun k x => slices_insertionSortCmpFunc_string_f34.step0 k x.1 x.2.1 x.2.2.1 x.2.2.2.1.1 x.2.2.2.2.1
    · cases h) ((slices_insertionSortCmpFunc_string_f34.run k a0 a1 a2 a3c0).trans h) fun r hr => wk_viewK0 hr
def slices_stableCmpFunc_string_f34.l0 : Nat → (List ByteArray) → Int → Library → Int → Int → Int → Option ((List ByteArray) × Int × Library × Int × Int)
  | 0, _, _, _, _, _, _ => none
  | k + 1, x0, x1, x2, x6, x7, x8 => bif (decide (x8 ≤ x1)) then ((slices_insertionSortCmpFunc_string_f34.F k x0 x7 x8 x2).bind fun r1 => slices_stableCmpFunc_string_f34.l0 k r1 x1 x2 x6 x8 (IntKind.wrap .i64 (x8 + x6))) else (some (x0, x1, x2, x6, x7))
def slices_stableCmpFunc_string_f34.l4 : Nat → (List ByteArray) → Int → Library → Int → Int → Int → Option ((List ByteArray) × Int × Library × Int × Int)
  | 0, _, _, _, _, _, _ => none
  | k + 1, x0, x1, x2, x6, x7, x8 => bif (decide (x8 ≤ x1)) then (none) else (some (x0, x1, x2, x6, x7))
def slices_stableCmpFunc_string_f34.l2 : Nat → (List ByteArray) → Int → Library → Int → Option ((List ByteArray))
  | 0, _, _, _, _ => none
  | k + 1, x0, x1, x2, x6 => bif (decide (x6 < x1)) then ((slices_stableCmpFunc_string_f34.l4 k x0 x1 x2 x6 0 (IntKind.wrap .i64 (2 * x6))).bind fun y4 => bif (decide ((IntKind.wrap .i64 (y4.2.2.2.2 + y4.2.2.2.1)) < y4.2.1)) then (none) else (slices_stableCmpFunc_string_f34.l2 k y4.1 y4.2.1 y4.2.2.1 (IntKind.wrap .i64 (y4.2.2.2.1 * 2)))) else (some x0)
def slices_stableCmpFunc_string_f34.F (k : Nat) (a0 : List ByteArray) (a1 : Int) (a2c0 : Library) : Option (List ByteArray) := (slices_stableCmpFunc_string_f34.l0 k a0 a1 a2c0 20 0 20).bind fun y2 => (slices_insertionSortCmpFunc_string_f34.F k y2.1 y2.2.2.2.2 y2.2.1 y2.2.2.1).bind fun r3 => (slices_stableCmpFunc_string_f34.l2 k r3 y2.2.1 y2.2.2.1 y2.2.2.2.1).bind fun y5 => bif Nat.beq (y5).length a0.length then (some y5) else none
def slices_stableCmpFunc_string_f34.C (k : Nat) : Cal → Option CArm := fun c => match c with
  | .f 78 => some (.mq (.fr 9 .str) [.t (.int .i64), .t (.int .i64), .clo 34 [.tp .lib]] _ (fun x0 x => slices_insertionSortCmpFunc_string_f34.F k x0 x.1 x.2.1 x.2.2.1.1) (fun r => .kep (.fr 9 .str r) (.tup [])))
  | _ => none
def slices_stableCmpFunc_string_f34.sp0 : List Sp := [.own 0 1099511627776 9 .str false true, .t 1 (.int .i64), .cl 2 34 [.tp .lib], .t 6 (.int .i64), .t 7 (.int .i64), .t 8 (.int .i64)]
def slices_stableCmpFunc_string_f34.sp0_0 : List Sp := [.own 0 1099511627776 9 .str false true, .t 1 (.int .i64), .cl 2 34 [.tp .lib], .t 6 (.int .i64), .t 7 (.int .i64)]
def slices_stableCmpFunc_string_f34.A0 : LArm := .one slices_stableCmpFunc_string_f34.sp0 slices_stableCmpFunc_string_f34.sp0_0 ((List ByteArray) × Int × Library × Int × Int) (fun k x => slices_stableCmpFunc_string_f34.l0 k x.1 x.2.1 x.2.2.1.1 x.2.2.2.1 x.2.2.2.2.1 x.2.2.2.2.2.1) (.exit 0) (fun y => (y.1, y.2.1, (y.2.2.1, ()), y.2.2.2.1, y.2.2.2.2, ())) (fun x => (x.1, x.2.1, x.2.2.1.1, x.2.2.2.1, x.2.2.2.2.1))
def slices_stableCmpFunc_string_f34.sp4 : List Sp := [.own 0 1099511627776 9 .str false true, .t 1 (.int .i64), .cl 2 34 [.tp .lib], .t 6 (.int .i64), .t 7 (.int .i64), .t 8 (.int .i64)]
def slices_stableCmpFunc_string_f34.sp4_0 : List Sp := [.own 0 1099511627776 9 .str false true, .t 1 (.int .i64), .cl 2 34 [.tp .lib], .t 6 (.int .i64), .t 7 (.int .i64)]
def slices_stableCmpFunc_string_f34.A4 : LArm := .one slices_stableCmpFunc_string_f34.sp4 slices_stableCmpFunc_string_f34.sp4_0 ((List ByteArray) × Int × Library × Int × Int) (fun k x => slices_stableCmpFunc_string_f34.l4 k x.1 x.2.1 x.2.2.1.1 x.2.2.2.1 x.2.2.2.2.1 x.2.2.2.2.2.1) (.exit 4) (fun y => (y.1, y.2.1, (y.2.2.1, ()), y.2.2.2.1, y.2.2.2.2, ())) (fun x => (x.1, x.2.1, x.2.2.1.1, x.2.2.2.1, x.2.2.2.2.1))
def slices_stableCmpFunc_string_f34.sp2 : List Sp := [.own 0 1099511627776 9 .str false true, .t 1 (.int .i64), .cl 2 34 [.tp .lib], .t 6 (.int .i64)]
def slices_stableCmpFunc_string_f34.sp2_0 : List Sp := [.own 0 1099511627776 9 .str false true]
def slices_stableCmpFunc_string_f34.A2 : LArm := .one slices_stableCmpFunc_string_f34.sp2 slices_stableCmpFunc_string_f34.sp2_0 ((List ByteArray)) (fun k x => slices_stableCmpFunc_string_f34.l2 k x.1 x.2.1 x.2.2.1.1 x.2.2.2.1) (.exit 2) (fun y => (y, ())) (fun x => x.1)
def slices_stableCmpFunc_string_f34.L : Nat → Option LArm := fun b => match b with
  | 0 => some slices_stableCmpFunc_string_f34.A0
  | 4 => some slices_stableCmpFunc_string_f34.A4
  | 2 => some slices_stableCmpFunc_string_f34.A2
  | _ => none
theorem slices_stableCmpFunc_string_f34.run (k : Nat) (a0 : List ByteArray) (a1 : Int) (a2c0 : Library) : runM envX (tabC (slices_stableCmpFunc_string_f34.C k)) (tabL 63 k slices_stableCmpFunc_string_f34.L) Tryz.f51 mbase (.fr 9 .str a0) [.t (.int .i64) a1, .clo 34 [.tp (.t .lib a2c0)]] (viewK0 (.fr 9 .str)) = slices_stableCmpFunc_string_f34.F k a0 a1 a2c0 := by kernel_rfl
theorem slices_stableCmpFunc_string_f34.step0 (k : Nat) (x0 : List ByteArray) (x1 : Int) (x2 : Library) (x6 : Int) (x7 : Int) (x8 : Int) : runC envX (tabC (slices_stableCmpFunc_string_f34.C k)) (tabL 63 k slices_stableCmpFunc_string_f34.L) 0 (loopAt Tryz.f51 0) (stOf 63 slices_stableCmpFunc_string_f34.sp0 (x0, x1, (x2, ()), x6, x7, x8, ())) (slices_stableCmpFunc_string_f34.A0.cont 63 k) = slices_stableCmpFunc_string_f34.l0 (k + 1) x0 x1 x2 x6 x7 x8 := by kernel_rfl
theorem slices_stableCmpFunc_string_f34.step4 (k : Nat) (x0 : List ByteArray) (x1 : Int) (x2 : Library) (x6 : Int) (x7 : Int) (x8 : Int) : runC envX (tabC (slices_stableCmpFunc_string_f34.C k)) (tabL 63 k slices_stableCmpFunc_string_f34.L) 4 (loopAt Tryz.f51 4) (stOf 63 slices_stableCmpFunc_string_f34.sp4 (x0, x1, (x2, ()), x6, x7, x8, ())) (slices_stableCmpFunc_string_f34.A4.cont 63 k) = slices_stableCmpFunc_string_f34.l4 (k + 1) x0 x1 x2 x6 x7 x8 := by kernel_rfl
theorem slices_stableCmpFunc_string_f34.step2 (k : Nat) (x0 : List ByteArray) (x1 : Int) (x2 : Library) (x6 : Int) : runC envX (tabC (slices_stableCmpFunc_string_f34.C k)) (tabL 63 k slices_stableCmpFunc_string_f34.L) 2 (loopAt Tryz.f51 2) (stOf 63 slices_stableCmpFunc_string_f34.sp2 (x0, x1, (x2, ()), x6, ())) (slices_stableCmpFunc_string_f34.A2.cont 63 k) = slices_stableCmpFunc_string_f34.l2 (k + 1) x0 x1 x2 x6 := by kernel_rfl
theorem slices_stableCmpFunc_string_f34.G (hE : EnvOk Tryz.prog envX) (pv : Nat → Value) (k : Nat) : ∀ cal A, slices_stableCmpFunc_string_f34.C k cal = some A → ArmOk Tryz.prog envX pv cal A := by
  intro cal A h
  unfold slices_stableCmpFunc_string_f34.C at h
  split at h
  · cases h; exact ⟨_, rfl, fun x0 x y hy => slices_insertionSortCmpFunc_string_f34.good hE pv k x0 x.1 x.2.1 x.2.2.1.1 hy⟩
  · cases h
theorem slices_stableCmpFunc_string_f34.good (hE : EnvOk Tryz.prog envX) (pv : Nat → Value) (k : Nat) (a0 : List ByteArray) (a1 : Int) (a2c0 : Library) {y : _} (h : slices_stableCmpFunc_string_f34.F k a0 a1 a2c0 = some y) : MeetsM Tryz.prog envX pv 51 (.fr 9 .str a0) (pvals [.t (.int .i64), .clo 34 [.tp .lib]] (a1, (a2c0, ()), ())) (.kep (.fr 9 .str y) (.tup [])) :=
  funM_loops hE (t := slices_stableCmpFunc_string_f34.C) k (fun k _ => slices_stableCmpFunc_string_f34.G hE pv k) (f := 51) (fn := Tryz.f51) (by kernel_rfl) rfl (by kernel_rfl) (.inl rfl) (by kernel_rfl) (lt := slices_stableCmpFunc_string_f34.L) (by kernel_rfl) (fun b A h => by
    unfold slices_stableCmpFunc_string_f34.L at h; split at h
    · cases h; exact ⟨by kernel_rfl, by kernel_rfl, fun _ => rfl, fun _ => rfl⟩
    · cases h; exact ⟨by kernel_rfl, by kernel_rfl, fun _ => rfl, fun _ => rfl⟩
    · cases h; exact ⟨by kernel_rfl, by kernel_rfl, fun _ => rfl, fun _ => rfl⟩
    · cases h) (fun b A h => by
    unfold slices_stableCmpFunc_string_f34.L at h; split at h
    · cases h; exact fun k x => slices_stableCmpFunc_string_f34.step0 k x.1 x.2.1 x.2.2.1.1 x.2.2.2.1 x.2.2.2.2.1 x.2.2.2.2.2.1
    · cases h; exact fun k x => slices_stableCmpFunc_string_f34.step4 k x.1 x.2.1 x.2.2.1.1 x.2.2.2.1 x.2.2.2.2.1 x.2.2.2.2.2.1
    · cases h; exact fun k x => slices_stableCmpFunc_string_f34.step2 k x.1 x.2.1 x.2.2.1.1 x.2.2.2.1
    · cases h) ((slices_stableCmpFunc_string_f34.run k a0 a1 a2c0).trans h) fun r hr => wk_viewK0 hr
def slices_SortStableFunc_string_f34.F (k : Nat) (a0 : List ByteArray) (a1c0 : Library) : Option (List ByteArray) := (slices_stableCmpFunc_string_f34.F k a0 (a0.length : Int) a1c0).bind fun r1 => bif Nat.beq (r1).length a0.length then (some r1) else none
def slices_SortStableFunc_string_f34.C (k : Nat) : Cal → Option CArm := fun c => match c with
  | .f 51 => some (.mq (.fr 9 .str) [.t (.int .i64), .clo 34 [.tp .lib]] _ (fun x0 x => slices_stableCmpFunc_string_f34.F k x0 x.1 x.2.1.1) (fun r => .kep (.fr 9 .str r) (.tup [])))
  | _ => none
theorem slices_SortStableFunc_string_f34.run (k : Nat) (a0 : List ByteArray) (a1c0 : Library) : runM envX (tabC (slices_SortStableFunc_string_f34.C k)) (tabL 9 0 (fun _ => none)) Tryz.f33 mbase (.fr 9 .str a0) [.clo 34 [.tp (.t .lib a1c0)]] (viewK0 (.fr 9 .str)) = slices_SortStableFunc_string_f34.F k a0 a1c0 := by kernel_rfl
theorem slices_SortStableFunc_string_f34.G (hE : EnvOk Tryz.prog envX) (pv : Nat → Value) (k : Nat) : ∀ cal A, slices_SortStableFunc_string_f34.C k cal = some A → ArmOk Tryz.prog envX pv cal A := by
  intro cal A h
  unfold slices_SortStableFunc_string_f34.C at h
  split at h
  · cases h; exact ⟨_, rfl, fun x0 x y hy => slices_stableCmpFunc_string_f34.good hE pv k x0 x.1 x.2.1.1 hy⟩
  · cases h
theorem slices_SortStableFunc_string_f34.good (hE : EnvOk Tryz.prog envX) (pv : Nat → Value) (k : Nat) (a0 : List ByteArray) (a1c0 : Library) {y : _} (h : slices_SortStableFunc_string_f34.F k a0 a1c0 = some y) : MeetsM Tryz.prog envX pv 33 (.fr 9 .str a0) (pvals [.clo 34 [.tp .lib]] ((a1c0, ()), ())) (.kep (.fr 9 .str y) (.tup [])) :=
  funM_plain hE (slices_SortStableFunc_string_f34.G hE pv k) (f := 33) (fn := Tryz.f33) (by kernel_rfl) rfl (by kernel_rfl) (.inl rfl) (by kernel_rfl) ((slices_SortStableFunc_string_f34.run k a0 a1c0).trans h) fun r hr => wk_viewK0 hr
def impl_bibliographyKeys.F (k : Nat) (a0 : Library) (a1 : List ByteArray) (a2 : Int) : Option (List ByteArray) := bif (a2 == 2) then (bif room (([] : List ByteArray).length + a1.length) .str then (some (([] : List ByteArray) ++ a1)) else none) else ((impl_sortKeys.F k a0 a1).bind fun r1 => bif (a2 == 3) then ((slices_SortStableFunc_string_f34.F k r1 a0).bind fun r2 => some r2) else (some r1))
def impl_bibliographyKeys.C (k : Nat) : Cal → Option CArm := fun c => match c with
  | .f 32 => some (.p [.lib, (.sl .str)] _ (fun x => impl_sortKeys.F k x.1 x.2.1) (fun r => (.fr 9 .str r)))
  | .f 33 => some (.mq (.fr 9 .str) [.clo 34 [.tp .lib]] _ (fun x0 x => slices_SortStableFunc_string_f34.F k x0 x.1.1) (fun r => .kep (.fr 9 .str r) (.tup [])))
  | _ => none
theorem impl_bibliographyKeys.run (k : Nat) (a0 : Library) (a1 : List ByteArray) (a2 : Int) : runF envX (tabC (impl_bibliographyKeys.C k)) (tabL 22 0 (fun _ => none)) Tryz.f20 [.t .lib a0, .t (.sl .str) a1, .t (.int .i64) a2] (viewR1 (.fr 9 .str)) = impl_bibliographyKeys.F k a0 a1 a2 := by kernel_rfl
theorem impl_bibliographyKeys.G (hE : EnvOk Tryz.prog envX) (pv : Nat → Value) (k : Nat) : ∀ cal A, impl_bibliographyKeys.C k cal = some A → ArmOk Tryz.prog envX pv cal A := by
  intro cal A h
  unfold impl_bibliographyKeys.C at h
  split at h
  · cases h; exact fun x y hy => impl_sortKeys.good hE pv k x.1 x.2.1 hy
  · cases h; exact ⟨_, rfl, fun x0 x y hy => slices_SortStableFunc_string_f34.good hE pv k x0 x.1.1 hy⟩
  · cases h
theorem impl_bibliographyKeys.good (hE : EnvOk Tryz.prog envX) (pv : Nat → Value) (k : Nat) (a0 : Library) (a1 : List ByteArray) (a2 : Int) {y : _} (h : impl_bibliographyKeys.F k a0 a1 a2 = some y) : Meets Tryz.prog envX pv (.f 20) (tvals [.lib, (.sl .str), (.int .i64)] (a0, a1, a2, ())) (.fr 9 .str y) :=
  fun_plain hE (impl_bibliographyKeys.G hE pv k) (f := 20) (fn := Tryz.f20) (by kernel_rfl) rfl (by kernel_rfl) (by kernel_rfl) ((impl_bibliographyKeys.run k a0 a1 a2).trans h) fun r hr => wk_view1 hr
def impl_BibliographyKeys.F (k : Nat) (a0 : Library) (a1 : List ByteArray) (a2 : Int) : Option ((List ByteArray) × Bool) := (impl_isMode.F k a0 a1 a2).bind fun r1 => bif (!r1) then (some ([], false)) else ((impl_bibliographyKeys.F k a0 a1 a2).bind fun r2 => some (r2, true))
def impl_BibliographyKeys.C (k : Nat) : Cal → Option CArm := fun c => match c with
  | .f 19 => some (.p [.lib, (.sl .str), (.int .i64)] _ (fun x => impl_isMode.F k x.1 x.2.1 x.2.2.1) (fun r => (.t .bool r)))
  | .f 20 => some (.p [.lib, (.sl .str), (.int .i64)] _ (fun x => impl_bibliographyKeys.F k x.1 x.2.1 x.2.2.1) (fun r => (.fr 9 .str r)))
  | _ => none
theorem impl_BibliographyKeys.run (k : Nat) (a0 : Library) (a1 : List ByteArray) (a2 : Int) : runF envX (tabC (impl_BibliographyKeys.C k)) (tabL 17 0 (fun _ => none)) Tryz.f9 [.t .lib a0, .t (.sl .str) a1, .t (.int .i64) a2] (viewR2 (.fr 9 .str) (.t .bool)) = impl_BibliographyKeys.F k a0 a1 a2 := by kernel_rfl
theorem impl_BibliographyKeys.G (hE : EnvOk Tryz.prog envX) (pv : Nat → Value) (k : Nat) : ∀ cal A, impl_BibliographyKeys.C k cal = some A → ArmOk Tryz.prog envX pv cal A := by
  intro cal A h
  unfold impl_BibliographyKeys.C at h
  split at h
  · cases h; exact fun x y hy => impl_isMode.good hE pv k x.1 x.2.1 x.2.2.1 hy
  · cases h; exact fun x y hy => impl_bibliographyKeys.good hE pv k x.1 x.2.1 x.2.2.1 hy
  · cases h
theorem impl_BibliographyKeys.good (hE : EnvOk Tryz.prog envX) (pv : Nat → Value) (k : Nat) (a0 : Library) (a1 : List ByteArray) (a2 : Int) {y : _} (h : impl_BibliographyKeys.F k a0 a1 a2 = some y) : Meets Tryz.prog envX pv (.f 9) (tvals [.lib, (.sl .str), (.int .i64)] (a0, a1, a2, ())) (.tup [.fr 9 .str y.1, .t .bool y.2]) :=
  fun_plain hE (impl_BibliographyKeys.G hE pv k) (f := 9) (fn := Tryz.f9) (by kernel_rfl) rfl (by kernel_rfl) (by kernel_rfl) ((impl_BibliographyKeys.run k a0 a1 a2).trans h) fun r hr => wk_view2 hr
def laws_eqStringS.l0 : Nat → (List ByteArray) → (List ByteArray) → Int → Option (Sum Bool Unit)
  | 0, _, _, _ => none
  | k + 1, x0, x1, x5 => bif (decide (x5 < (x0.length : Int))) then (bif decide (0 ≤ x5) then (bif decide (x5 < (x0.length : Int)) then (bif decide (0 ≤ x5) then (bif decide (x5 < (x1.length : Int)) then (bif (!beqS (x0.getD (x5 : Int).toNat (⟨#[]⟩ : ByteArray)) (x1.getD (x5 : Int).toNat (⟨#[]⟩ : ByteArray))) then (some (.inl false)) else (laws_eqStringS.l0 k x0 x1 (IntKind.wrap .i64 (x5 + 1)))) else none) else none) else none) else none) else (some (.inr ()))
def laws_eqStringS.F (k : Nat) (a0 : List ByteArray) (a1 : List ByteArray) : Option (Bool) := bif ((a0.length : Int) != (a1.length : Int)) then (some false) else ((laws_eqStringS.l0 k a0 a1 0).bind fun y1 => match y1 with | .inl z2 => some z2 | .inr z2 => some true)
def laws_eqStringS.C (k : Nat) : Cal → Option CArm := fun c => match c with
  | _ => none
def laws_eqStringS.sp0 : List Sp := [.t 0 (.sl .str), .t 1 (.sl .str), .t 5 (.int .i64)]
def laws_eqStringS.sp0_0 : List Sp := [.t 4 .bool]
def laws_eqStringS.sp0_1 : List Sp := []
def laws_eqStringS.A0 : LArm := .two laws_eqStringS.sp0 laws_eqStringS.sp0_0 laws_eqStringS.sp0_1 (Bool) (Unit) (fun k x => laws_eqStringS.l0 k x.1 x.2.1 x.2.2.1) .ret (.exit 0) (fun y => (y, ())) (fun x => x.1) (fun y => ()) (fun x => ())
def laws_eqStringS.L : Nat → Option LArm := fun b => match b with
  | 0 => some laws_eqStringS.A0
  | _ => none
theorem laws_eqStringS.run (k : Nat) (a0 : List ByteArray) (a1 : List ByteArray) : runF envX (tabC (laws_eqStringS.C k)) (tabL 26 k laws_eqStringS.L) Tryz.f10 [.t (.sl .str) a0, .t (.sl .str) a1] (viewR1 (.t .bool)) = laws_eqStringS.F k a0 a1 := by kernel_rfl
theorem laws_eqStringS.step0 (k : Nat) (x0 : List ByteArray) (x1 : List ByteArray) (x5 : Int) : runC envX (tabC (laws_eqStringS.C k)) (tabL 26 k laws_eqStringS.L) 0 (loopAt Tryz.f10 0) (stOf 26 laws_eqStringS.sp0 (x0, x1, x5, ())) (laws_eqStringS.A0.cont 26 k) = laws_eqStringS.l0 (k + 1) x0 x1 x5 := by kernel_rfl
theorem laws_eqStringS.G (hE : EnvOk Tryz.prog envX) (pv : Nat → Value) (k : Nat) : ∀ cal A, laws_eqStringS.C k cal = some A → ArmOk Tryz.prog envX pv cal A := by
  intro cal A h
  unfold laws_eqStringS.C at h
  cases h
theorem laws_eqStringS.good (hE : EnvOk Tryz.prog envX) (pv : Nat → Value) (k : Nat) (a0 : List ByteArray) (a1 : List ByteArray) {y : _} (h : laws_eqStringS.F k a0 a1 = some y) : Meets Tryz.prog envX pv (.f 10) (tvals [(.sl .str), (.sl .str)] (a0, a1, ())) (.t .bool y) :=
  fun_loops hE (t := laws_eqStringS.C) k (fun k _ => laws_eqStringS.G hE pv k) (f := 10) (fn := Tryz.f10) (by kernel_rfl) rfl (by kernel_rfl) (by kernel_rfl) (lt := laws_eqStringS.L) (by kernel_rfl) (fun b A h => by
    unfold laws_eqStringS.L at h; split at h
    · cases h; exact ⟨by kernel_rfl, by kernel_rfl, by kernel_rfl, fun _ => rfl, fun _ => rfl, fun _ => rfl⟩
    · cases h) (fun b A h => by
    unfold laws_eqStringS.L at h; split at h
    · cases h; exact fun k x => laws_eqStringS.step0 k x.1 x.2.1 x.2.2.1
    · cases h) ((laws_eqStringS.run k a0 a1).trans h) fun r hr => wk_view1 hr
def laws_eqName.F (k : Nat) (a0 : Name) (a1 : Name) : Option (Bool) := (laws_eqStringS.F k a0.given a1.given).bind fun r1 => bif (!r1) then (some false) else (bif (!beqS a0.particle a1.particle) then (some false) else (bif (!beqS a0.family a1.family) then (some false) else (bif (!beqS a0.suffix a1.suffix) then (some false) else (some true))))
def laws_eqName.C (k : Nat) : Cal → Option CArm := fun c => match c with
  | .f 10 => some (.p [(.sl .str), (.sl .str)] _ (fun x => laws_eqStringS.F k x.1 x.2.1) (fun r => (.t .bool r)))
  | _ => none
theorem laws_eqName.run (k : Nat) (a0 : Name) (a1 : Name) : runF envX (tabC (laws_eqName.C k)) (tabL 26 0 (fun _ => none)) Tryz.f80 [.t .name a0, .t .name a1] (viewR1 (.t .bool)) = laws_eqName.F k a0 a1 := by kernel_rfl
theorem laws_eqName.G (hE : EnvOk Tryz.prog envX) (pv : Nat → Value) (k : Nat) : ∀ cal A, laws_eqName.C k cal = some A → ArmOk Tryz.prog envX pv cal A := by
  intro cal A h
  unfold laws_eqName.C at h
  split at h
  · cases h; exact fun x y hy => laws_eqStringS.good hE pv k x.1 x.2.1 hy
  · cases h
theorem laws_eqName.good (hE : EnvOk Tryz.prog envX) (pv : Nat → Value) (k : Nat) (a0 : Name) (a1 : Name) {y : _} (h : laws_eqName.F k a0 a1 = some y) : Meets Tryz.prog envX pv (.f 80) (tvals [.name, .name] (a0, a1, ())) (.t .bool y) :=
  fun_plain hE (laws_eqName.G hE pv k) (f := 80) (fn := Tryz.f80) (by kernel_rfl) rfl (by kernel_rfl) (by kernel_rfl) ((laws_eqName.run k a0 a1).trans h) fun r hr => wk_view1 hr
def laws_eqNameS.l0 : Nat → (List Name) → (List Name) → Int → Option (Sum Bool Unit)
  | 0, _, _, _ => none
  | k + 1, x0, x1, x5 => bif (decide (x5 < (x0.length : Int))) then (bif decide (0 ≤ x5) then (bif decide (x5 < (x0.length : Int)) then (bif decide (0 ≤ x5) then (bif decide (x5 < (x1.length : Int)) then ((laws_eqName.F k (x0.getD (x5 : Int).toNat (dflt .name)) (x1.getD (x5 : Int).toNat (dflt .name))).bind fun r1 => bif (!r1) then (some (.inl false)) else (laws_eqNameS.l0 k x0 x1 (IntKind.wrap .i64 (x5 + 1)))) else none) else none) else none) else none) else (some (.inr ()))
def laws_eqNameS.F (k : Nat) (a0 : List Name) (a1 : List Name) : Option (Bool) := bif ((a0.length : Int) != (a1.length : Int)) then (some false) else ((laws_eqNameS.l0 k a0 a1 0).bind fun y2 => match y2 with | .inl z3 => some z3 | .inr z3 => some true)
def laws_eqNameS.C (k : Nat) : Cal → Option CArm := fun c => match c with
  | .f 80 => some (.p [.name, .name] _ (fun x => laws_eqName.F k x.1 x.2.1) (fun r => (.t .bool r)))
  | _ => none
def laws_eqNameS.sp0 : List Sp := [.t 0 (.sl .name), .t 1 (.sl .name), .t 5 (.int .i64)]
def laws_eqNameS.sp0_0 : List Sp := [.t 4 .bool]
def laws_eqNameS.sp0_1 : List Sp := []
def laws_eqNameS.A0 : LArm := .two laws_eqNameS.sp0 laws_eqNameS.sp0_0 laws_eqNameS.sp0_1 (Bool) (Unit) (fun k x => laws_eqNameS.l0 k x.1 x.2.1 x.2.2.1) .ret (.exit 0) (fun y => (y, ())) (fun x => x.1) (fun y => ()) (fun x => ())
def laws_eqNameS.L : Nat → Option LArm := fun b => match b with
  | 0 => some laws_eqNameS.A0
  | _ => none
theorem laws_eqNameS.run (k : Nat) (a0 : List Name) (a1 : List Name) : runF envX (tabC (laws_eqNameS.C k)) (tabL 27 k laws_eqNameS.L) Tryz.f53 [.t (.sl .name) a0, .t (.sl .name) a1] (viewR1 (.t .bool)) = laws_eqNameS.F k a0 a1 := by kernel_rfl
theorem laws_eqNameS.step0 (k : Nat) (x0 : List Name) (x1 : List Name) (x5 : Int) : runC envX (tabC (laws_eqNameS.C k)) (tabL 27 k laws_eqNameS.L) 0 (loopAt Tryz.f53 0) (stOf 27 laws_eqNameS.sp0 (x0, x1, x5, ())) (laws_eqNameS.A0.cont 27 k) = laws_eqNameS.l0 (k + 1) x0 x1 x5 := by kernel_rfl
theorem laws_eqNameS.G (hE : EnvOk Tryz.prog envX) (pv : Nat → Value) (k : Nat) : ∀ cal A, laws_eqNameS.C k cal = some A → ArmOk Tryz.prog envX pv cal A := by
  intro cal A h
  unfold laws_eqNameS.C at h
  split at h
  · cases h; exact fun x y hy => laws_eqName.good hE pv k x.1 x.2.1 hy
  · cases h
theorem laws_eqNameS.good (hE : EnvOk Tryz.prog envX) (pv : Nat → Value) (k : Nat) (a0 : List Name) (a1 : List Name) {y : _} (h : laws_eqNameS.F k a0 a1 = some y) : Meets Tryz.prog envX pv (.f 53) (tvals [(.sl .name), (.sl .name)] (a0, a1, ())) (.t .bool y) :=
  fun_loops hE (t := laws_eqNameS.C) k (fun k _ => laws_eqNameS.G hE pv k) (f := 53) (fn := Tryz.f53) (by kernel_rfl) rfl (by kernel_rfl) (by kernel_rfl) (lt := laws_eqNameS.L) (by kernel_rfl) (fun b A h => by
    unfold laws_eqNameS.L at h; split at h
    · cases h; exact ⟨by kernel_rfl, by kernel_rfl, by kernel_rfl, fun _ => rfl, fun _ => rfl, fun _ => rfl⟩
    · cases h) (fun b A h => by
    unfold laws_eqNameS.L at h; split at h
    · cases h; exact fun k x => laws_eqNameS.step0 k x.1 x.2.1 x.2.2.1
    · cases h) ((laws_eqNameS.run k a0 a1).trans h) fun r hr => wk_view1 hr
def laws_eqDate.F (a0 : Date) (a1 : Date) : Option (Bool) := bif (a0.y != a1.y) then (some false) else (bif (a0.m != a1.m) then (some false) else (bif (a0.d != a1.d) then (some false) else (bif (!(a0.c == a1.c)) then (some false) else (some true))))
def laws_eqDate.C : Cal → Option CArm := fun c => match c with
  | _ => none
theorem laws_eqDate.run (a0 : Date) (a1 : Date) : runF envX (tabC laws_eqDate.C) (tabL 25 0 (fun _ => none)) Tryz.f54 [.t .date a0, .t .date a1] (viewR1 (.t .bool)) = laws_eqDate.F a0 a1 := by kernel_rfl
theorem laws_eqDate.G (hE : EnvOk Tryz.prog envX) (pv : Nat → Value) : ∀ cal A, laws_eqDate.C cal = some A → ArmOk Tryz.prog envX pv cal A := by
  intro cal A h
  unfold laws_eqDate.C at h
  cases h
theorem laws_eqDate.good (hE : EnvOk Tryz.prog envX) (pv : Nat → Value) (a0 : Date) (a1 : Date) {y : _} (h : laws_eqDate.F a0 a1 = some y) : Meets Tryz.prog envX pv (.f 54) (tvals [.date, .date] (a0, a1, ())) (.t .bool y) :=
  fun_plain hE (laws_eqDate.G hE pv) (f := 54) (fn := Tryz.f54) (by kernel_rfl) rfl (by kernel_rfl) (by kernel_rfl) ((laws_eqDate.run a0 a1).trans h) fun r hr => wk_view1 hr
def laws_eqEntry.F (k : Nat) (a0 : Entry) (a1 : Entry) : Option (Bool) := bif (!beqS a0.key a1.key) then (some false) else (bif (a0.kind != a1.kind) then (some false) else ((laws_eqNameS.F k a0.authors a1.authors).bind fun r1 => bif (!r1) then (some false) else ((laws_eqNameS.F k a0.editors a1.editors).bind fun r2 => bif (!r2) then (some false) else (bif (!beqS a0.title a1.title) then (some false) else (bif (!beqS a0.container a1.container) then (some false) else (bif (!beqS a0.publisher a1.publisher) then (some false) else ((laws_eqDate.F a0.date a1.date).bind fun r3 => bif (!r3) then (some false) else (bif (a0.volume != a1.volume) then (some false) else (bif (!beqS a0.pages a1.pages) then (some false) else (bif (!beqS a0.cross a1.cross) then (some false) else (some true)))))))))))
def laws_eqEntry.C (k : Nat) : Cal → Option CArm := fun c => match c with
  | .f 53 => some (.p [(.sl .name), (.sl .name)] _ (fun x => laws_eqNameS.F k x.1 x.2.1) (fun r => (.t .bool r)))
  | .f 54 => some (.p [.date, .date] _ (fun x => laws_eqDate.F x.1 x.2.1) (fun r => (.t .bool r)))
  | _ => none
theorem laws_eqEntry.run (k : Nat) (a0 : Entry) (a1 : Entry) : runF envX (tabC (laws_eqEntry.C k)) (tabL 63 0 (fun _ => none)) Tryz.f37 [.t .entry a0, .t .entry a1] (viewR1 (.t .bool)) = laws_eqEntry.F k a0 a1 := by kernel_rfl
theorem laws_eqEntry.G (hE : EnvOk Tryz.prog envX) (pv : Nat → Value) (k : Nat) : ∀ cal A, laws_eqEntry.C k cal = some A → ArmOk Tryz.prog envX pv cal A := by
  intro cal A h
  unfold laws_eqEntry.C at h
  split at h
  · cases h; exact fun x y hy => laws_eqNameS.good hE pv k x.1 x.2.1 hy
  · cases h; exact fun x y hy => laws_eqDate.good hE pv x.1 x.2.1 hy
  · cases h
theorem laws_eqEntry.good (hE : EnvOk Tryz.prog envX) (pv : Nat → Value) (k : Nat) (a0 : Entry) (a1 : Entry) {y : _} (h : laws_eqEntry.F k a0 a1 = some y) : Meets Tryz.prog envX pv (.f 37) (tvals [.entry, .entry] (a0, a1, ())) (.t .bool y) :=
  fun_plain hE (laws_eqEntry.G hE pv k) (f := 37) (fn := Tryz.f37) (by kernel_rfl) rfl (by kernel_rfl) (by kernel_rfl) ((laws_eqEntry.run k a0 a1).trans h) fun r hr => wk_view1 hr
def laws_eqEntryS.l0 : Nat → (List Entry) → (List Entry) → Int → Option (Sum Bool Unit)
  | 0, _, _, _ => none
  | k + 1, x0, x1, x5 => bif (decide (x5 < (x0.length : Int))) then (bif decide (0 ≤ x5) then (bif decide (x5 < (x0.length : Int)) then (bif decide (0 ≤ x5) then (bif decide (x5 < (x1.length : Int)) then ((laws_eqEntry.F k (x0.getD (x5 : Int).toNat (dflt .entry)) (x1.getD (x5 : Int).toNat (dflt .entry))).bind fun r1 => bif (!r1) then (some (.inl false)) else (laws_eqEntryS.l0 k x0 x1 (IntKind.wrap .i64 (x5 + 1)))) else none) else none) else none) else none) else (some (.inr ()))
def laws_eqEntryS.F (k : Nat) (a0 : List Entry) (a1 : List Entry) : Option (Bool) := bif ((a0.length : Int) != (a1.length : Int)) then (some false) else ((laws_eqEntryS.l0 k a0 a1 0).bind fun y2 => match y2 with | .inl z3 => some z3 | .inr z3 => some true)
def laws_eqEntryS.C (k : Nat) : Cal → Option CArm := fun c => match c with
  | .f 37 => some (.p [.entry, .entry] _ (fun x => laws_eqEntry.F k x.1 x.2.1) (fun r => (.t .bool r)))
  | _ => none
def laws_eqEntryS.sp0 : List Sp := [.t 0 (.sl .entry), .t 1 (.sl .entry), .t 5 (.int .i64)]
def laws_eqEntryS.sp0_0 : List Sp := [.t 4 .bool]
def laws_eqEntryS.sp0_1 : List Sp := []
def laws_eqEntryS.A0 : LArm := .two laws_eqEntryS.sp0 laws_eqEntryS.sp0_0 laws_eqEntryS.sp0_1 (Bool) (Unit) (fun k x => laws_eqEntryS.l0 k x.1 x.2.1 x.2.2.1) .ret (.exit 0) (fun y => (y, ())) (fun x => x.1) (fun y => ()) (fun x => ())
def laws_eqEntryS.L : Nat → Option LArm := fun b => match b with
  | 0 => some laws_eqEntryS.A0
  | _ => none
theorem laws_eqEntryS.run (k : Nat) (a0 : List Entry) (a1 : List Entry) : runF envX (tabC (laws_eqEntryS.C k)) (tabL 27 k laws_eqEntryS.L) Tryz.f21 [.t (.sl .entry) a0, .t (.sl .entry) a1] (viewR1 (.t .bool)) = laws_eqEntryS.F k a0 a1 := by kernel_rfl
theorem laws_eqEntryS.step0 (k : Nat) (x0 : List Entry) (x1 : List Entry) (x5 : Int) : runC envX (tabC (laws_eqEntryS.C k)) (tabL 27 k laws_eqEntryS.L) 0 (loopAt Tryz.f21 0) (stOf 27 laws_eqEntryS.sp0 (x0, x1, x5, ())) (laws_eqEntryS.A0.cont 27 k) = laws_eqEntryS.l0 (k + 1) x0 x1 x5 := by kernel_rfl
theorem laws_eqEntryS.G (hE : EnvOk Tryz.prog envX) (pv : Nat → Value) (k : Nat) : ∀ cal A, laws_eqEntryS.C k cal = some A → ArmOk Tryz.prog envX pv cal A := by
  intro cal A h
  unfold laws_eqEntryS.C at h
  split at h
  · cases h; exact fun x y hy => laws_eqEntry.good hE pv k x.1 x.2.1 hy
  · cases h
theorem laws_eqEntryS.good (hE : EnvOk Tryz.prog envX) (pv : Nat → Value) (k : Nat) (a0 : List Entry) (a1 : List Entry) {y : _} (h : laws_eqEntryS.F k a0 a1 = some y) : Meets Tryz.prog envX pv (.f 21) (tvals [(.sl .entry), (.sl .entry)] (a0, a1, ())) (.t .bool y) :=
  fun_loops hE (t := laws_eqEntryS.C) k (fun k _ => laws_eqEntryS.G hE pv k) (f := 21) (fn := Tryz.f21) (by kernel_rfl) rfl (by kernel_rfl) (by kernel_rfl) (lt := laws_eqEntryS.L) (by kernel_rfl) (fun b A h => by
    unfold laws_eqEntryS.L at h; split at h
    · cases h; exact ⟨by kernel_rfl, by kernel_rfl, by kernel_rfl, fun _ => rfl, fun _ => rfl, fun _ => rfl⟩
    · cases h) (fun b A h => by
    unfold laws_eqEntryS.L at h; split at h
    · cases h; exact fun k x => laws_eqEntryS.step0 k x.1 x.2.1 x.2.2.1
    · cases h) ((laws_eqEntryS.run k a0 a1).trans h) fun r hr => wk_view1 hr
def laws_eqLibrary.F (k : Nat) (a0 : Library) (a1 : Library) : Option (Bool) := (laws_eqEntryS.F k a0.entries a1.entries).bind fun r1 => bif (!r1) then (some false) else (some true)
def laws_eqLibrary.C (k : Nat) : Cal → Option CArm := fun c => match c with
  | .f 21 => some (.p [(.sl .entry), (.sl .entry)] _ (fun x => laws_eqEntryS.F k x.1 x.2.1) (fun r => (.t .bool r)))
  | _ => none
theorem laws_eqLibrary.run (k : Nat) (a0 : Library) (a1 : Library) : runF envX (tabC (laws_eqLibrary.C k)) (tabL 11 0 (fun _ => none)) Tryz.f11 [.t .lib a0, .t .lib a1] (viewR1 (.t .bool)) = laws_eqLibrary.F k a0 a1 := by kernel_rfl
theorem laws_eqLibrary.G (hE : EnvOk Tryz.prog envX) (pv : Nat → Value) (k : Nat) : ∀ cal A, laws_eqLibrary.C k cal = some A → ArmOk Tryz.prog envX pv cal A := by
  intro cal A h
  unfold laws_eqLibrary.C at h
  split at h
  · cases h; exact fun x y hy => laws_eqEntryS.good hE pv k x.1 x.2.1 hy
  · cases h
theorem laws_eqLibrary.good (hE : EnvOk Tryz.prog envX) (pv : Nat → Value) (k : Nat) (a0 : Library) (a1 : Library) {y : _} (h : laws_eqLibrary.F k a0 a1 = some y) : Meets Tryz.prog envX pv (.f 11) (tvals [.lib, .lib] (a0, a1, ())) (.t .bool y) :=
  fun_plain hE (laws_eqLibrary.G hE pv k) (f := 11) (fn := Tryz.f11) (by kernel_rfl) rfl (by kernel_rfl) (by kernel_rfl) ((laws_eqLibrary.run k a0 a1).trans h) fun r hr => wk_view1 hr
def laws_markText.l0 : Nat → Int → ByteArray → Option (ByteArray)
  | 0, _, _ => none
  | k + 1, x0, x3 => bif (decide (x0 > 0)) then (bif (10 == 0) then (none) else (bif Nat.ble ((strL ([(IntKind.wrap .u8 (IntKind.wrap .i64 (48 + (Int.tmod x0 10))))] : List Int)).size + x3.size) 9223372036854775807 then (bif (10 == 0) then (none) else (laws_markText.l0 k (IntKind.wrap .i64 (Int.tdiv x0 10)) ((strL ([(IntKind.wrap .u8 (IntKind.wrap .i64 (48 + (Int.tmod x0 10))))] : List Int)) ++ x3))) else none)) else (some x3)
def laws_markText.F (k : Nat) (a0 : Int) : Option (ByteArray) := bif (decide (a0 ≤ 0)) then (some (⟨#[109, 48]⟩ : ByteArray)) else ((laws_markText.l0 k a0 (⟨#[]⟩ : ByteArray)).bind fun y1 => bif Nat.ble ((⟨#[109]⟩ : ByteArray).size + y1.size) 9223372036854775807 then (some ((⟨#[109]⟩ : ByteArray) ++ y1)) else none)
def laws_markText.C (k : Nat) : Cal → Option CArm := fun c => match c with
  | _ => none
def laws_markText.sp0 : List Sp := [.t 0 (.int .i64), .t 3 .str]
def laws_markText.sp0_0 : List Sp := [.t 3 .str]
def laws_markText.A0 : LArm := .one laws_markText.sp0 laws_markText.sp0_0 (ByteArray) (fun k x => laws_markText.l0 k x.1 x.2.1) (.exit 0) (fun y => (y, ())) (fun x => x.1)
def laws_markText.L : Nat → Option LArm := fun b => match b with
  | 0 => some laws_markText.A0
  | _ => none
theorem laws_markText.run (k : Nat) (a0 : Int) : runF envX (tabC (laws_markText.C k)) (tabL 20 k laws_markText.L) Tryz.f23 [.t (.int .i64) a0] (viewR1 (.t .str)) = laws_markText.F k a0 := by kernel_rfl
theorem laws_markText.step0 (k : Nat) (x0 : Int) (x3 : ByteArray) : runC envX (tabC (laws_markText.C k)) (tabL 20 k laws_markText.L) 0 (loopAt Tryz.f23 0) (stOf 20 laws_markText.sp0 (x0, x3, ())) (laws_markText.A0.cont 20 k) = laws_markText.l0 (k + 1) x0 x3 := by kernel_rfl
theorem laws_markText.G (hE : EnvOk Tryz.prog envX) (pv : Nat → Value) (k : Nat) : ∀ cal A, laws_markText.C k cal = some A → ArmOk Tryz.prog envX pv cal A := by
  intro cal A h
  unfold laws_markText.C at h
  cases h
theorem laws_markText.good (hE : EnvOk Tryz.prog envX) (pv : Nat → Value) (k : Nat) (a0 : Int) {y : _} (h : laws_markText.F k a0 = some y) : Meets Tryz.prog envX pv (.f 23) (tvals [(.int .i64)] (a0, ())) (.t .str y) :=
  fun_loops hE (t := laws_markText.C) k (fun k _ => laws_markText.G hE pv k) (f := 23) (fn := Tryz.f23) (by kernel_rfl) rfl (by kernel_rfl) (by kernel_rfl) (lt := laws_markText.L) (by kernel_rfl) (fun b A h => by
    unfold laws_markText.L at h; split at h
    · cases h; exact ⟨by kernel_rfl, by kernel_rfl, fun _ => rfl, fun _ => rfl⟩
    · cases h) (fun b A h => by
    unfold laws_markText.L at h; split at h
    · cases h; exact fun k x => laws_markText.step0 k x.1 x.2.1
    · cases h) ((laws_markText.run k a0).trans h) fun r hr => wk_view1 hr
def laws_markStringS.l0 : Nat → (List ByteArray) → Int → Int → Option ((List ByteArray) × Int)
  | 0, _, _, _ => none
  | k + 1, x0, x1, x5 => bif (decide (x5 < (x0.length : Int))) then ((laws_markText.F k x1).bind fun r1 => bif decide (0 ≤ x5) then (bif decide (x5 < (x0.length : Int)) then (laws_markStringS.l0 k (x0.set ((x5 : Int).toNat) r1) (IntKind.wrap .i64 (x1 + 1)) (IntKind.wrap .i64 (x5 + 1))) else none) else none) else (some (x0, x1))
def laws_markStringS.F (k : Nat) (a0 : List ByteArray) (a1 : Int) : Option ((List ByteArray) × Int) := (laws_markStringS.l0 k a0 a1 0).bind fun y2 => bif Nat.beq (y2.1).length a0.length then (some (y2.1, y2.2)) else none
def laws_markStringS.C (k : Nat) : Cal → Option CArm := fun c => match c with
  | .f 23 => some (.p [(.int .i64)] _ (fun x => laws_markText.F k x.1) (fun r => (.t .str r)))
  | _ => none
def laws_markStringS.sp0 : List Sp := [.own 0 1099511627776 9 .str false true, .t 1 (.int .i64), .t 5 (.int .i64)]
def laws_markStringS.sp0_0 : List Sp := [.own 0 1099511627776 9 .str false true, .t 1 (.int .i64)]
def laws_markStringS.A0 : LArm := .one laws_markStringS.sp0 laws_markStringS.sp0_0 ((List ByteArray) × Int) (fun k x => laws_markStringS.l0 k x.1 x.2.1 x.2.2.1) (.exit 0) (fun y => (y.1, y.2, ())) (fun x => (x.1, x.2.1))
def laws_markStringS.L : Nat → Option LArm := fun b => match b with
  | 0 => some laws_markStringS.A0
  | _ => none
theorem laws_markStringS.run (k : Nat) (a0 : List ByteArray) (a1 : Int) : runM envX (tabC (laws_markStringS.C k)) (tabL 20 k laws_markStringS.L) Tryz.f13 mbase (.fr 9 .str a0) [.t (.int .i64) a1] (viewK (.fr 9 .str) (viewR1 (.t (.int .i64)))) = laws_markStringS.F k a0 a1 := by kernel_rfl
theorem laws_markStringS.step0 (k : Nat) (x0 : List ByteArray) (x1 : Int) (x5 : Int) : runC envX (tabC (laws_markStringS.C k)) (tabL 20 k laws_markStringS.L) 0 (loopAt Tryz.f13 0) (stOf 20 laws_markStringS.sp0 (x0, x1, x5, ())) (laws_markStringS.A0.cont 20 k) = laws_markStringS.l0 (k + 1) x0 x1 x5 := by kernel_rfl
theorem laws_markStringS.G (hE : EnvOk Tryz.prog envX) (pv : Nat → Value) (k : Nat) : ∀ cal A, laws_markStringS.C k cal = some A → ArmOk Tryz.prog envX pv cal A := by
  intro cal A h
  unfold laws_markStringS.C at h
  split at h
  · cases h; exact fun x y hy => laws_markText.good hE pv k x.1 hy
  · cases h
theorem laws_markStringS.good (hE : EnvOk Tryz.prog envX) (pv : Nat → Value) (k : Nat) (a0 : List ByteArray) (a1 : Int) {y : _} (h : laws_markStringS.F k a0 a1 = some y) : MeetsM Tryz.prog envX pv 13 (.fr 9 .str a0) (tvals [(.int .i64)] (a1, ())) (.kep (.fr 9 .str y.1) (.t (.int .i64) y.2)) :=
  funM_loops hE (t := laws_markStringS.C) k (fun k _ => laws_markStringS.G hE pv k) (f := 13) (fn := Tryz.f13) (by kernel_rfl) rfl (by kernel_rfl) (.inl rfl) (by kernel_rfl) (lt := laws_markStringS.L) (by kernel_rfl) (fun b A h => by
    unfold laws_markStringS.L at h; split at h
    · cases h; exact ⟨by kernel_rfl, by kernel_rfl, fun _ => rfl, fun _ => rfl⟩
    · cases h) (fun b A h => by
    unfold laws_markStringS.L at h; split at h
    · cases h; exact fun k x => laws_markStringS.step0 k x.1 x.2.1 x.2.2.1
    · cases h) ((laws_markStringS.run k a0 a1).trans h) fun r hr => wk_viewK (fun r y h => wk_view1 h) hr
-- NO 38 loop.example/g00896/laws.markNameS: handed over: t for ('fr', 9, ('str',))
-- NO 22 loop.example/g00896/laws.markEntryS: a call of loop.example/g00896/laws.markNameS
-- NO 12 loop.example/g00896/laws.markLibrary: a call of loop.example/g00896/laws.markEntryS
def laws_heldStringS.l0 : Nat → (List ByteArray) → Int → Int → Option (Sum Int Int)
  | 0, _, _, _ => none
  | k + 1, x0, x1, x5 => bif (decide (x5 < (x0.length : Int))) then (bif decide (0 ≤ x5) then (bif decide (x5 < (x0.length : Int)) then ((laws_markText.F k x1).bind fun r1 => bif (!beqS (x0.getD (x5 : Int).toNat (⟨#[]⟩ : ByteArray)) r1) then (some (.inl (-1))) else (laws_heldStringS.l0 k x0 (IntKind.wrap .i64 (x1 + 1)) (IntKind.wrap .i64 (x5 + 1)))) else none) else none) else (some (.inr x1))
def laws_heldStringS.F (k : Nat) (a0 : List ByteArray) (a1 : Int) : Option (Int) := (laws_heldStringS.l0 k a0 a1 0).bind fun y2 => match y2 with | .inl z3 => some z3 | .inr z3 => some z3
def laws_heldStringS.C (k : Nat) : Cal → Option CArm := fun c => match c with
  | .f 23 => some (.p [(.int .i64)] _ (fun x => laws_markText.F k x.1) (fun r => (.t .str r)))
  | _ => none
def laws_heldStringS.sp0 : List Sp := [.t 0 (.sl .str), .t 1 (.int .i64), .t 5 (.int .i64)]
def laws_heldStringS.sp0_0 : List Sp := [.t 4 (.int .i64)]
def laws_heldStringS.sp0_1 : List Sp := [.t 1 (.int .i64)]
def laws_heldStringS.A0 : LArm := .two laws_heldStringS.sp0 laws_heldStringS.sp0_0 laws_heldStringS.sp0_1 (Int) (Int) (fun k x => laws_heldStringS.l0 k x.1 x.2.1 x.2.2.1) .ret (.exit 0) (fun y => (y, ())) (fun x => x.1) (fun y => (y, ())) (fun x => x.1)
def laws_heldStringS.L : Nat → Option LArm := fun b => match b with
  | 0 => some laws_heldStringS.A0
  | _ => none
theorem laws_heldStringS.run (k : Nat) (a0 : List ByteArray) (a1 : Int) : runF envX (tabC (laws_heldStringS.C k)) (tabL 22 k laws_heldStringS.L) Tryz.f14 [.t (.sl .str) a0, .t (.int .i64) a1] (viewR1 (.t (.int .i64))) = laws_heldStringS.F k a0 a1 := by kernel_rfl
theorem laws_heldStringS.step0 (k : Nat) (x0 : List ByteArray) (x1 : Int) (x5 : Int) : runC envX (tabC (laws_heldStringS.C k)) (tabL 22 k laws_heldStringS.L) 0 (loopAt Tryz.f14 0) (stOf 22 laws_heldStringS.sp0 (x0, x1, x5, ())) (laws_heldStringS.A0.cont 22 k) = laws_heldStringS.l0 (k + 1) x0 x1 x5 := by kernel_rfl
theorem laws_heldStringS.G (hE : EnvOk Tryz.prog envX) (pv : Nat → Value) (k : Nat) : ∀ cal A, laws_heldStringS.C k cal = some A → ArmOk Tryz.prog envX pv cal A := by
  intro cal A h
  unfold laws_heldStringS.C at h
  split at h
  · cases h; exact fun x y hy => laws_markText.good hE pv k x.1 hy
  · cases h
theorem laws_heldStringS.good (hE : EnvOk Tryz.prog envX) (pv : Nat → Value) (k : Nat) (a0 : List ByteArray) (a1 : Int) {y : _} (h : laws_heldStringS.F k a0 a1 = some y) : Meets Tryz.prog envX pv (.f 14) (tvals [(.sl .str), (.int .i64)] (a0, a1, ())) (.t (.int .i64) y) :=
  fun_loops hE (t := laws_heldStringS.C) k (fun k _ => laws_heldStringS.G hE pv k) (f := 14) (fn := Tryz.f14) (by kernel_rfl) rfl (by kernel_rfl) (by kernel_rfl) (lt := laws_heldStringS.L) (by kernel_rfl) (fun b A h => by
    unfold laws_heldStringS.L at h; split at h
    · cases h; exact ⟨by kernel_rfl, by kernel_rfl, by kernel_rfl, fun _ => rfl, fun _ => rfl, fun _ => rfl⟩
    · cases h) (fun b A h => by
    unfold laws_heldStringS.L at h; split at h
    · cases h; exact fun k x => laws_heldStringS.step0 k x.1 x.2.1 x.2.2.1
    · cases h) ((laws_heldStringS.run k a0 a1).trans h) fun r hr => wk_view1 hr
def laws_toEntryS_p.l0 : Nat → (List Entry) → (List Entry) → Int → Option ((List Entry))
  | 0, _, _, _ => none
  | k + 1, x0, x3, x4 => bif (decide (x4 < (x0.length : Int))) then (bif decide (0 ≤ x4) then (bif decide (x4 < (x0.length : Int)) then ((laws_toEntry_p.F k (x0.getD (x4 : Int).toNat (dflt .entry))).bind fun r1 => bif decide (0 ≤ x4) then (bif decide (x4 < (x3.length : Int)) then (laws_toEntryS_p.l0 k x0 (x3.set ((x4 : Int).toNat) r1) (IntKind.wrap .i64 (x4 + 1))) else none) else none) else none) else none) else (some x3)
def laws_toEntryS_p.F (k : Nat) (a0 : List Entry) : Option (List Entry) := bif ((a0.length : Int) == (a0.length : Int)) then (bif decide (0 ≤ (a0.length : Int)) then (bif Nat.ble (((a0.length : Int) : Int).toNat * nb .entry) 140737488355328 then ((laws_toEntryS_p.l0 k a0 (List.replicate ((a0.length : Int) : Int).toNat (dflt .entry)) 0).bind fun y2 => some y2) else none) else none) else none
def laws_toEntryS_p.C (k : Nat) : Cal → Option CArm := fun c => match c with
  | .f 29 => some (.p [.entry] _ (fun x => laws_toEntry_p.F k x.1) (fun r => (.pc true .entry r)))
  | _ => none
def laws_toEntryS_p.sp0 : List Sp := [.t 0 (.sl .entry), .own 3 1032 59 .entry false true, .t 4 (.int .i64)]
def laws_toEntryS_p.sp0_0 : List Sp := [.own 3 1032 59 .entry false true]
def laws_toEntryS_p.A0 : LArm := .one laws_toEntryS_p.sp0 laws_toEntryS_p.sp0_0 ((List Entry)) (fun k x => laws_toEntryS_p.l0 k x.1 x.2.1 x.2.2.1) (.exit 0) (fun y => (y, ())) (fun x => x.1)
def laws_toEntryS_p.L : Nat → Option LArm := fun b => match b with
  | 0 => some laws_toEntryS_p.A0
  | _ => none
theorem laws_toEntryS_p.run (k : Nat) (a0 : List Entry) : runF envP (tabC (laws_toEntryS_p.C k)) (tabL 23 k laws_toEntryS_p.L) Tryz.f18 [.t (.sl .entry) a0] (viewR1 (.fr 59 .entry)) = laws_toEntryS_p.F k a0 := by kernel_rfl
theorem laws_toEntryS_p.step0 (k : Nat) (x0 : List Entry) (x3 : List Entry) (x4 : Int) : runC envP (tabC (laws_toEntryS_p.C k)) (tabL 23 k laws_toEntryS_p.L) 0 (loopAt Tryz.f18 0) (stOf 23 laws_toEntryS_p.sp0 (x0, x3, x4, ())) (laws_toEntryS_p.A0.cont 23 k) = laws_toEntryS_p.l0 (k + 1) x0 x3 x4 := by kernel_rfl
theorem laws_toEntryS_p.G (hE : EnvOk Tryz.prog envP) (pv : Nat → Value) (n : Nat) (k : Nat) : ∀ cal A, laws_toEntryS_p.C k cal = some A → ArmOk Tryz.prog envP (mpv pv n) cal A := by
  intro cal A h
  unfold laws_toEntryS_p.C at h
  split at h
  · cases h; exact fun x y hy => laws_toEntry_p.good hE pv n k x.1 hy
  · cases h
theorem laws_toEntryS_p.good (hE : EnvOk Tryz.prog envP) (pv : Nat → Value) (n : Nat) (k : Nat) (a0 : List Entry) {y : _} (h : laws_toEntryS_p.F k a0 = some y) : Meets Tryz.prog envP (mpv pv n) (.f 18) (tvals [(.sl .entry)] (a0, ())) (.fr 59 .entry y) :=
  fun_loops hE (t := laws_toEntryS_p.C) k (fun k _ => laws_toEntryS_p.G hE pv n k) (f := 18) (fn := Tryz.f18) (by kernel_rfl) rfl (by kernel_rfl) (by kernel_rfl) (lt := laws_toEntryS_p.L) (by kernel_rfl) (fun b A h => by
    unfold laws_toEntryS_p.L at h; split at h
    · cases h; exact ⟨by kernel_rfl, by kernel_rfl, fun _ => rfl, fun _ => rfl⟩
    · cases h) (fun b A h => by
    unfold laws_toEntryS_p.L at h; split at h
    · cases h; exact fun k x => laws_toEntryS_p.step0 k x.1 x.2.1 x.2.2.1
    · cases h) ((laws_toEntryS_p.run k a0).trans h) fun r hr => wk_view1 hr
def laws_toLibrary_p.F (k : Nat) (a0 : Library) : Option (Library) := (laws_toEntryS_p.F k a0.entries).bind fun r1 => some (⟨r1⟩ : Library)
def laws_toLibrary_p.C (k : Nat) : Cal → Option CArm := fun c => match c with
  | .f 18 => some (.p [(.sl .entry)] _ (fun x => laws_toEntryS_p.F k x.1) (fun r => (.fr 59 .entry r)))
  | _ => none
theorem laws_toLibrary_p.run (k : Nat) (a0 : Library) : runPc envP (tabC (laws_toLibrary_p.C k)) (tabL 9 0 (fun _ => none)) Tryz.f7 [.t .lib a0] (viewR1 (.pc .lib)) = laws_toLibrary_p.F k a0 := by kernel_rfl
theorem laws_toLibrary_p.G (hE : EnvOk Tryz.prog envP) (pv : Nat → Value) (n : Nat) (k : Nat) : ∀ cal A, laws_toLibrary_p.C k cal = some A → ArmOk Tryz.prog envP (mpv pv n) cal A := by
  intro cal A h
  unfold laws_toLibrary_p.C at h
  split at h
  · cases h; exact fun x y hy => laws_toEntryS_p.good hE pv n k x.1 hy
  · cases h
theorem laws_toLibrary_p.good (hE : EnvOk Tryz.prog envP) (pv : Nat → Value) (n : Nat) (k : Nat) (a0 : Library) {y : _} (h : laws_toLibrary_p.F k a0 = some y) : Meets Tryz.prog envP (mpv pv n) (.f 7) (tvals [.lib] (a0, ())) (.pc true .lib y) :=
  funPc_plain hE (mpv_O pv n) (mpv_Q pv n) (laws_toLibrary_p.G hE pv n k) (f := 7) (fn := Tryz.f7) (by kernel_rfl) rfl (by kernel_rfl) (by kernel_rfl) ((laws_toLibrary_p.run k a0).trans h) fun r hr => wk_view1 hr
def laws_markStringS_d.l0 : Nat → (List ByteArray) → Int → Int → Option ((List ByteArray) × Int)
  | 0, _, _, _ => none
  | k + 1, x0, x1, x5 => bif (decide (x5 < (x0.length : Int))) then ((laws_markText.F k x1).bind fun r1 => bif decide (0 ≤ x5) then (bif decide (x5 < (x0.length : Int)) then (laws_markStringS_d.l0 k x0 (IntKind.wrap .i64 (x1 + 1)) (IntKind.wrap .i64 (x5 + 1))) else none) else none) else (some (x0, x1))
def laws_markStringS_d.F (k : Nat) (a0 : List ByteArray) (a1 : Int) : Option (Int) := (laws_markStringS_d.l0 k a0 a1 0).bind fun y2 => some y2.2
def laws_markStringS_d.C (k : Nat) : Cal → Option CArm := fun c => match c with
  | .f 23 => some (.p [(.int .i64)] _ (fun x => laws_markText.F k x.1) (fun r => (.t .str r)))
  | _ => none
def laws_markStringS_d.sp0 : List Sp := [.ds 0 1099511627776 (.sl .str) (.sl .str), .t 1 (.int .i64), .t 5 (.int .i64)]
def laws_markStringS_d.sp0_0 : List Sp := [.ds 0 1099511627776 (.sl .str) (.sl .str), .t 1 (.int .i64)]
def laws_markStringS_d.A0 : LArm := .one laws_markStringS_d.sp0 laws_markStringS_d.sp0_0 ((List ByteArray) × Int) (fun k x => laws_markStringS_d.l0 k x.1 x.2.1 x.2.2.1) (.exit 0) (fun y => (y.1, y.2, ())) (fun x => (x.1, x.2.1))
def laws_markStringS_d.L : Nat → Option LArm := fun b => match b with
  | 0 => some laws_markStringS_d.A0
  | _ => none
theorem laws_markStringS_d.run (k : Nat) (a0 : List ByteArray) (a1 : Int) : runD envX (tabC (laws_markStringS_d.C k)) (tabL 20 k laws_markStringS_d.L) Tryz.f13 (.sl .str) a0 a1 (viewR1 (.t (.int .i64))) = laws_markStringS_d.F k a0 a1 := by kernel_rfl
theorem laws_markStringS_d.step0 (k : Nat) (x0 : List ByteArray) (x1 : Int) (x5 : Int) : runC envX (tabC (laws_markStringS_d.C k)) (tabL 20 k laws_markStringS_d.L) 0 (loopAt Tryz.f13 0) (stOf 20 laws_markStringS_d.sp0 (x0, x1, x5, ())) (laws_markStringS_d.A0.cont 20 k) = laws_markStringS_d.l0 (k + 1) x0 x1 x5 := by kernel_rfl
theorem laws_markStringS_d.G (hE : EnvOk Tryz.prog envX) (pv : Nat → Value) (k : Nat) : ∀ cal A, laws_markStringS_d.C k cal = some A → ArmOk Tryz.prog envX pv cal A := by
  intro cal A h
  unfold laws_markStringS_d.C at h
  split at h
  · cases h; exact fun x y hy => laws_markText.good hE pv k x.1 hy
  · cases h
theorem laws_markStringS_d.good (hE : EnvOk Tryz.prog envX) (pv : Nat → Value) (k : Nat) (a0 : List ByteArray) (a1 : Int) {y : _} (h : laws_markStringS_d.F k a0 a1 = some y) : MeetsD Tryz.prog envX pv 13 (.sl .str) a0 a1 y :=
  funD_loops hE (t := laws_markStringS_d.C) k (fun k _ => laws_markStringS_d.G hE pv k) (f := 13) (fn := Tryz.f13) (by kernel_rfl) rfl (by kernel_rfl) (by kernel_rfl) (lt := laws_markStringS_d.L) (by kernel_rfl) (fun b A h => by
    unfold laws_markStringS_d.L at h; split at h
    · cases h; exact ⟨by kernel_rfl, by kernel_rfl, fun _ => rfl, fun _ => rfl⟩
    · cases h) (fun b A h => by
    unfold laws_markStringS_d.L at h; split at h
    · cases h; exact fun k x => laws_markStringS_d.step0 k x.1 x.2.1 x.2.2.1
    · cases h) rfl ((laws_markStringS_d.run k a0 a1).trans h) fun r hr => view_int hr
def laws_markNameS_d.l0 : Nat → (List Name) → Int → Int → Option ((List Name) × Int)
  | 0, _, _, _ => none
  | k + 1, x0, x1, x5 => bif (decide (x5 < (x0.length : Int))) then (bif decide (0 ≤ x5) then (bif decide (x5 < (x0.length : Int)) then ((laws_markStringS_d.F k ((x0.getD (x5 : Int).toNat (dflt .name)).given) x1).bind fun r1 => (laws_markText.F k r1).bind fun r2 => bif decide (0 ≤ x5) then (bif decide (x5 < (x0.length : Int)) then ((laws_markText.F k (IntKind.wrap .i64 (r1 + 1))).bind fun r3 => bif decide (0 ≤ x5) then (bif decide (x5 < (x0.length : Int)) then ((laws_markText.F k (IntKind.wrap .i64 ((IntKind.wrap .i64 (r1 + 1)) + 1))).bind fun r4 => bif decide (0 ≤ x5) then (bif decide (x5 < (x0.length : Int)) then (laws_markNameS_d.l0 k x0 (IntKind.wrap .i64 ((IntKind.wrap .i64 ((IntKind.wrap .i64 (r1 + 1)) + 1)) + 1)) (IntKind.wrap .i64 (x5 + 1))) else none) else none) else none) else none) else none) else none) else none) else none) else (some (x0, x1))
def laws_markNameS_d.F (k : Nat) (a0 : List Name) (a1 : Int) : Option (Int) := (laws_markNameS_d.l0 k a0 a1 0).bind fun y5 => some y5.2
def laws_markNameS_d.C (k : Nat) : Cal → Option CArm := fun c => match c with
  | .f 13 => some (.d (.sl .str) (fun x q => laws_markStringS_d.F k x q))
  | .f 23 => some (.p [(.int .i64)] _ (fun x => laws_markText.F k x.1) (fun r => (.t .str r)))
  | _ => none
def laws_markNameS_d.sp0 : List Sp := [.ds 0 1099511627776 (.sl .name) (.sl .name), .t 1 (.int .i64), .t 5 (.int .i64)]
def laws_markNameS_d.sp0_0 : List Sp := [.ds 0 1099511627776 (.sl .name) (.sl .name), .t 1 (.int .i64)]
def laws_markNameS_d.A0 : LArm := .one laws_markNameS_d.sp0 laws_markNameS_d.sp0_0 ((List Name) × Int) (fun k x => laws_markNameS_d.l0 k x.1 x.2.1 x.2.2.1) (.exit 0) (fun y => (y.1, y.2, ())) (fun x => (x.1, x.2.1))
def laws_markNameS_d.L : Nat → Option LArm := fun b => match b with
  | 0 => some laws_markNameS_d.A0
  | _ => none
theorem laws_markNameS_d.run (k : Nat) (a0 : List Name) (a1 : Int) : runD envX (tabC (laws_markNameS_d.C k)) (tabL 44 k laws_markNameS_d.L) Tryz.f38 (.sl .name) a0 a1 (viewR1 (.t (.int .i64))) = laws_markNameS_d.F k a0 a1 := by kernel_rfl
theorem laws_markNameS_d.step0 (k : Nat) (x0 : List Name) (x1 : Int) (x5 : Int) : runC envX (tabC (laws_markNameS_d.C k)) (tabL 44 k laws_markNameS_d.L) 0 (loopAt Tryz.f38 0) (stOf 44 laws_markNameS_d.sp0 (x0, x1, x5, ())) (laws_markNameS_d.A0.cont 44 k) = laws_markNameS_d.l0 (k + 1) x0 x1 x5 := by kernel_rfl
theorem laws_markNameS_d.G (hE : EnvOk Tryz.prog envX) (pv : Nat → Value) (k : Nat) : ∀ cal A, laws_markNameS_d.C k cal = some A → ArmOk Tryz.prog envX pv cal A := by
  intro cal A h
  unfold laws_markNameS_d.C at h
  split at h
  · cases h; exact ⟨_, rfl, fun x q y hy => laws_markStringS_d.good hE pv k x q hy⟩
  · cases h; exact fun x y hy => laws_markText.good hE pv k x.1 hy
  · cases h
theorem laws_markNameS_d.good (hE : EnvOk Tryz.prog envX) (pv : Nat → Value) (k : Nat) (a0 : List Name) (a1 : Int) {y : _} (h : laws_markNameS_d.F k a0 a1 = some y) : MeetsD Tryz.prog envX pv 38 (.sl .name) a0 a1 y :=
  funD_loops hE (t := laws_markNameS_d.C) k (fun k _ => laws_markNameS_d.G hE pv k) (f := 38) (fn := Tryz.f38) (by kernel_rfl) rfl (by kernel_rfl) (by kernel_rfl) (lt := laws_markNameS_d.L) (by kernel_rfl) (fun b A h => by
    unfold laws_markNameS_d.L at h; split at h
    · cases h; exact ⟨by kernel_rfl, by kernel_rfl, fun _ => rfl, fun _ => rfl⟩
    · cases h) (fun b A h => by
    unfold laws_markNameS_d.L at h; split at h
    · cases h; exact fun k x => laws_markNameS_d.step0 k x.1 x.2.1 x.2.2.1
    · cases h) rfl ((laws_markNameS_d.run k a0 a1).trans h) fun r hr => view_int hr
def laws_markEntryS_d.l0 : Nat → (List Entry) → Int → Int → Option ((List Entry) × Int)
  | 0, _, _, _ => none
  | k + 1, x0, x1, x5 => bif (decide (x5 < (x0.length : Int))) then ((laws_markText.F k x1).bind fun r1 => bif decide (0 ≤ x5) then (bif decide (x5 < (x0.length : Int)) then (bif decide (0 ≤ x5) then (bif decide (x5 < (x0.length : Int)) then (bif decide (0 ≤ x5) then (bif decide (x5 < (x0.length : Int)) then ((laws_markNameS_d.F k ((x0.getD (x5 : Int).toNat (dflt .entry)).authors) (IntKind.wrap .i64 ((IntKind.wrap .i64 (x1 + 1)) + 1))).bind fun r2 => bif decide (0 ≤ x5) then (bif decide (x5 < (x0.length : Int)) then ((laws_markNameS_d.F k ((x0.getD (x5 : Int).toNat (dflt .entry)).editors) r2).bind fun r3 => (laws_markText.F k r3).bind fun r4 => bif decide (0 ≤ x5) then (bif decide (x5 < (x0.length : Int)) then ((laws_markText.F k (IntKind.wrap .i64 (r3 + 1))).bind fun r5 => bif decide (0 ≤ x5) then (bif decide (x5 < (x0.length : Int)) then ((laws_markText.F k (IntKind.wrap .i64 ((IntKind.wrap .i64 (r3 + 1)) + 1))).bind fun r6 => bif decide (0 ≤ x5) then (bif decide (x5 < (x0.length : Int)) then (bif decide (0 ≤ x5) then (bif decide (x5 < (x0.length : Int)) then (bif decide (0 ≤ x5) then (bif decide (x5 < (x0.length : Int)) then (bif decide (0 ≤ x5) then (bif decide (x5 < (x0.length : Int)) then (bif (3 == 0) then (none) else (bif decide (0 ≤ x5) then (bif decide (x5 < (x0.length : Int)) then (bif decide (0 ≤ x5) then (bif decide (x5 < (x0.length : Int)) then ((laws_markText.F k (IntKind.wrap .i64 ((IntKind.wrap .i64 ((IntKind.wrap .i64 ((IntKind.wrap .i64 ((IntKind.wrap .i64 ((IntKind.wrap .i64 ((IntKind.wrap .i64 ((IntKind.wrap .i64 (r3 + 1)) + 1)) + 1)) + 1)) + 1)) + 1)) + 1)) + 1))).bind fun r7 => bif decide (0 ≤ x5) then (bif decide (x5 < (x0.length : Int)) then ((laws_markText.F k (IntKind.wrap .i64 ((IntKind.wrap .i64 ((IntKind.wrap .i64 ((IntKind.wrap .i64 ((IntKind.wrap .i64 ((IntKind.wrap .i64 ((IntKind.wrap .i64 ((IntKind.wrap .i64 ((IntKind.wrap .i64 (r3 + 1)) + 1)) + 1)) + 1)) + 1)) + 1)) + 1)) + 1)) + 1))).bind fun r8 => bif decide (0 ≤ x5) then (bif decide (x5 < (x0.length : Int)) then (laws_markEntryS_d.l0 k x0 (IntKind.wrap .i64 ((IntKind.wrap .i64 ((IntKind.wrap .i64 ((IntKind.wrap .i64 ((IntKind.wrap .i64 ((IntKind.wrap .i64 ((IntKind.wrap .i64 ((IntKind.wrap .i64 ((IntKind.wrap .i64 ((IntKind.wrap .i64 (r3 + 1)) + 1)) + 1)) + 1)) + 1)) + 1)) + 1)) + 1)) + 1)) + 1)) (IntKind.wrap .i64 (x5 + 1))) else none) else none) else none) else none) else none) else none) else none) else none)) else none) else none) else none) else none) else none) else none) else none) else none) else none) else none) else none) else none) else none) else none) else none) else none) else none) else none) else none) else none) else (some (x0, x1))
def laws_markEntryS_d.F (k : Nat) (a0 : List Entry) (a1 : Int) : Option (Int) := (laws_markEntryS_d.l0 k a0 a1 0).bind fun y9 => some y9.2
def laws_markEntryS_d.C (k : Nat) : Cal → Option CArm := fun c => match c with
  | .f 23 => some (.p [(.int .i64)] _ (fun x => laws_markText.F k x.1) (fun r => (.t .str r)))
  | .f 38 => some (.d (.sl .name) (fun x q => laws_markNameS_d.F k x q))
  | _ => none
def laws_markEntryS_d.sp0 : List Sp := [.ds 0 1099511627776 (.sl .entry) (.sl .entry), .t 1 (.int .i64), .t 5 (.int .i64)]
def laws_markEntryS_d.sp0_0 : List Sp := [.ds 0 1099511627776 (.sl .entry) (.sl .entry), .t 1 (.int .i64)]
def laws_markEntryS_d.A0 : LArm := .one laws_markEntryS_d.sp0 laws_markEntryS_d.sp0_0 ((List Entry) × Int) (fun k x => laws_markEntryS_d.l0 k x.1 x.2.1 x.2.2.1) (.exit 0) (fun y => (y.1, y.2, ())) (fun x => (x.1, x.2.1))
def laws_markEntryS_d.L : Nat → Option LArm := fun b => match b with
  | 0 => some laws_markEntryS_d.A0
  | _ => none
theorem laws_markEntryS_d.run (k : Nat) (a0 : List Entry) (a1 : Int) : runD envX (tabC (laws_markEntryS_d.C k)) (tabL 123 k laws_markEntryS_d.L) Tryz.f22 (.sl .entry) a0 a1 (viewR1 (.t (.int .i64))) = laws_markEntryS_d.F k a0 a1 := by kernel_rfl
theorem laws_markEntryS_d.step0 (k : Nat) (x0 : List Entry) (x1 : Int) (x5 : Int) : runC envX (tabC (laws_markEntryS_d.C k)) (tabL 123 k laws_markEntryS_d.L) 0 (loopAt Tryz.f22 0) (stOf 123 laws_markEntryS_d.sp0 (x0, x1, x5, ())) (laws_markEntryS_d.A0.cont 123 k) = laws_markEntryS_d.l0 (k + 1) x0 x1 x5 := by kernel_rfl
theorem laws_markEntryS_d.G (hE : EnvOk Tryz.prog envX) (pv : Nat → Value) (k : Nat) : ∀ cal A, laws_markEntryS_d.C k cal = some A → ArmOk Tryz.prog envX pv cal A := by
  intro cal A h
  unfold laws_markEntryS_d.C at h
  split at h
  · cases h; exact fun x y hy => laws_markText.good hE pv k x.1 hy
  · cases h; exact ⟨_, rfl, fun x q y hy => laws_markNameS_d.good hE pv k x q hy⟩
  · cases h
theorem laws_markEntryS_d.good (hE : EnvOk Tryz.prog envX) (pv : Nat → Value) (k : Nat) (a0 : List Entry) (a1 : Int) {y : _} (h : laws_markEntryS_d.F k a0 a1 = some y) : MeetsD Tryz.prog envX pv 22 (.sl .entry) a0 a1 y :=
  funD_loops hE (t := laws_markEntryS_d.C) k (fun k _ => laws_markEntryS_d.G hE pv k) (f := 22) (fn := Tryz.f22) (by kernel_rfl) rfl (by kernel_rfl) (by kernel_rfl) (lt := laws_markEntryS_d.L) (by kernel_rfl) (fun b A h => by
    unfold laws_markEntryS_d.L at h; split at h
    · cases h; exact ⟨by kernel_rfl, by kernel_rfl, fun _ => rfl, fun _ => rfl⟩
    · cases h) (fun b A h => by
    unfold laws_markEntryS_d.L at h; split at h
    · cases h; exact fun k x => laws_markEntryS_d.step0 k x.1 x.2.1 x.2.2.1
    · cases h) rfl ((laws_markEntryS_d.run k a0 a1).trans h) fun r hr => view_int hr
def laws_markLibrary_d.F (k : Nat) (a0 : Library) (a1 : Int) : Option (Int) := (laws_markEntryS_d.F k a0.entries a1).bind fun r1 => some r1
def laws_markLibrary_d.C (k : Nat) : Cal → Option CArm := fun c => match c with
  | .f 22 => some (.d (.sl .entry) (fun x q => laws_markEntryS_d.F k x q))
  | _ => none
theorem laws_markLibrary_d.run (k : Nat) (a0 : Library) (a1 : Int) : runD envX (tabC (laws_markLibrary_d.C k)) (tabL 10 0 (fun _ => none)) Tryz.f12 .lib a0 a1 (viewR1 (.t (.int .i64))) = laws_markLibrary_d.F k a0 a1 := by kernel_rfl
theorem laws_markLibrary_d.G (hE : EnvOk Tryz.prog envX) (pv : Nat → Value) (k : Nat) : ∀ cal A, laws_markLibrary_d.C k cal = some A → ArmOk Tryz.prog envX pv cal A := by
  intro cal A h
  unfold laws_markLibrary_d.C at h
  split at h
  · cases h; exact ⟨_, rfl, fun x q y hy => laws_markEntryS_d.good hE pv k x q hy⟩
  · cases h
theorem laws_markLibrary_d.good (hE : EnvOk Tryz.prog envX) (pv : Nat → Value) (k : Nat) (a0 : Library) (a1 : Int) {y : _} (h : laws_markLibrary_d.F k a0 a1 = some y) : MeetsD Tryz.prog envX pv 12 .lib a0 a1 y :=
  funD_plain hE (laws_markLibrary_d.G hE pv k) (f := 12) (fn := Tryz.f12) (by kernel_rfl) rfl (by kernel_rfl) (by kernel_rfl) rfl ((laws_markLibrary_d.run k a0 a1).trans h) fun r hr => view_int hr
def laws_FnExactBibliographyKeys.F (k : Nat) (a0 : Library) (a1 : List ByteArray) (a2 : Int) : Option (Bool) := (laws_szLibrary.F k a0 1048576).bind fun r1 => bif (decide (r1 < 0)) then (some true) else ((laws_szStringS.F k a1 r1).bind fun r2 => bif (decide (r2 < 0)) then (some true) else ((laws_toLibrary_p.F k a0).bind fun r3 => (laws_toStringS.F k a1).bind fun r4 => (spec_BibliographyKeys.F k r3 r4 a2).bind fun r5 => (laws_toLibrary_p.F k a0).bind fun r6 => (laws_toStringS.F k a1).bind fun r7 => (impl_BibliographyKeys.F k r6 r7 a2).bind fun r8 => (laws_eqStringS.F k r8.1 r5.1).bind fun r9 => bif (!r9) then (some false) else (bif (!(r8.2 == r5.2)) then (some false) else ((laws_toLibrary_p.F k a0).bind fun r10 => (laws_eqLibrary.F k r6 r10).bind fun r11 => bif (!r11) then (some false) else ((laws_toStringS.F k a1).bind fun r12 => (laws_eqStringS.F k r7 r12).bind fun r13 => bif (!r13) then (some false) else ((laws_markLibrary_d.F k r6 1).bind fun r14 => (laws_markStringS.F k r7 r14).bind fun r15 => bif (decide (r15.2 < 0)) then (some false) else ((laws_eqStringS.F k r8.1 r5.1).bind fun r16 => bif (!r16) then (some false) else (bif (!(r8.2 == r5.2)) then (some false) else ((laws_markStringS.F k r8.1 1).bind fun r17 => (laws_heldStringS.F k r17.1 1).bind fun r18 => bif (decide (r18 < 0)) then (some false) else (bif (r18 != r17.2) then (some false) else ((laws_toLibrary_p.F k a0).bind fun r19 => (laws_toStringS.F k a1).bind fun r20 => (impl_BibliographyKeys.F k r19 r20 a2).bind fun r21 => (laws_eqStringS.F k r21.1 r5.1).bind fun r22 => bif (!r22) then (some false) else (bif (!(r21.2 == r5.2)) then (some false) else ((laws_heldStringS.F k r17.1 1).bind fun r23 => bif (decide (r23 < 0)) then (some false) else (bif (r23 != r17.2) then (some false) else (some true)))))))))))))))
def laws_FnExactBibliographyKeys.C (k : Nat) : Cal → Option CArm := fun c => match c with
  | .f 4 => some (.p [.lib, (.int .i64)] _ (fun x => laws_szLibrary.F k x.1 x.2.1) (fun r => (.t (.int .i64) r)))
  | .f 5 => some (.p [(.sl .str), (.int .i64)] _ (fun x => laws_szStringS.F k x.1 x.2.1) (fun r => (.t (.int .i64) r)))
  | .f 7 => some (.pp [.lib] .lib (fun x => laws_toLibrary_p.F k x.1))
  | .f 8 => some (.p [(.sl .str)] _ (fun x => laws_toStringS.F k x.1) (fun r => (.fr 9 .str r)))
  | .f 6 => some (.p [.lib, (.sl .str), (.int .i64)] _ (fun x => spec_BibliographyKeys.F k x.1 x.2.1 x.2.2.1) (fun r => (.tup [.fr 9 .str r.1, .t .bool r.2])))
  | .f 9 => some (.p [.lib, (.sl .str), (.int .i64)] _ (fun x => impl_BibliographyKeys.F k x.1 x.2.1 x.2.2.1) (fun r => (.tup [.fr 9 .str r.1, .t .bool r.2])))
  | .f 10 => some (.p [(.sl .str), (.sl .str)] _ (fun x => laws_eqStringS.F k x.1 x.2.1) (fun r => (.t .bool r)))
  | .f 11 => some (.p [.lib, .lib] _ (fun x => laws_eqLibrary.F k x.1 x.2.1) (fun r => (.t .bool r)))
  | .f 12 => some (.d .lib (fun x q => laws_markLibrary_d.F k x q))
  | .f 13 => some (.m (.fr 9 .str) [(.int .i64)] _ (fun x0 x => laws_markStringS.F k x0 x.1) (fun r => .kep (.fr 9 .str r.1) (.t (.int .i64) r.2)))
  | .f 14 => some (.p [(.sl .str), (.int .i64)] _ (fun x => laws_heldStringS.F k x.1 x.2.1) (fun r => (.t (.int .i64) r)))
  | _ => none
theorem laws_FnExactBibliographyKeys.run (k : Nat) (a0 : Library) (a1 : List ByteArray) (a2 : Int) : runF envX (tabC (laws_FnExactBibliographyKeys.C k)) (tabL 124 0 (fun _ => none)) Tryz.f3 [.t .lib a0, .t (.sl .str) a1, .t (.int .i64) a2] (viewR1 (.t .bool)) = laws_FnExactBibliographyKeys.F k a0 a1 a2 := by kernel_rfl
theorem laws_FnExactBibliographyKeys.G (hE : EnvOk Tryz.prog envX) (pv : Nat → Value) (k : Nat) : ∀ cal A, laws_FnExactBibliographyKeys.C k cal = some A → ArmOk Tryz.prog envX pv cal A := by
  intro cal A h
  unfold laws_FnExactBibliographyKeys.C at h
  split at h
  · cases h; exact fun x y hy => laws_szLibrary.good hE pv k x.1 x.2.1 hy
  · cases h; exact fun x y hy => laws_szStringS.good hE pv k x.1 x.2.1 hy
  · cases h; exact ⟨_, rfl, fun x y hy => meetsP_of (E := envX) (E' := envP) rfl rfl rfl fun n => laws_toLibrary_p.good envOkP pv n k x.1 hy⟩
  · cases h; exact fun x y hy => laws_toStringS.good hE pv k x.1 hy
  · cases h; exact fun x y hy => spec_BibliographyKeys.good hE pv k x.1 x.2.1 x.2.2.1 hy
  · cases h; exact fun x y hy => impl_BibliographyKeys.good hE pv k x.1 x.2.1 x.2.2.1 hy
  · cases h; exact fun x y hy => laws_eqStringS.good hE pv k x.1 x.2.1 hy
  · cases h; exact fun x y hy => laws_eqLibrary.good hE pv k x.1 x.2.1 hy
  · cases h; exact ⟨_, rfl, fun x q y hy => laws_markLibrary_d.good hE pv k x q hy⟩
  · cases h; exact ⟨_, rfl, fun x0 x y hy => laws_markStringS.good hE pv k x0 x.1 hy⟩
  · cases h; exact fun x y hy => laws_heldStringS.good hE pv k x.1 x.2.1 hy
  · cases h
theorem laws_FnExactBibliographyKeys.good (hE : EnvOk Tryz.prog envX) (pv : Nat → Value) (k : Nat) (a0 : Library) (a1 : List ByteArray) (a2 : Int) {y : _} (h : laws_FnExactBibliographyKeys.F k a0 a1 a2 = some y) : Meets Tryz.prog envX pv (.f 3) (tvals [.lib, (.sl .str), (.int .i64)] (a0, a1, a2, ())) (.t .bool y) :=
  fun_plain hE (laws_FnExactBibliographyKeys.G hE pv k) (f := 3) (fn := Tryz.f3) (by kernel_rfl) rfl (by kernel_rfl) (by kernel_rfl) ((laws_FnExactBibliographyKeys.run k a0 a1 a2).trans h) fun r hr => wk_view1 hr
end Go.Proofs.YtolcacancfmmiaaGreatDoor
end
section
/- Plain laws: bytes, pieces, edges of a text; no function of the program. -/
namespace Go.Proofs.YtolcacancfmmiaaGreatDoor
open Go.Gx
set_option linter.unusedVariables false
set_option linter.unusedSimpArgs false
theorem getD_at {α : Type} {xs : List α} {i : Nat} (h : i < xs.length) (d : α) : xs.getD i d = xs[i] := by simp [List.getD, List.getElem?_eq_getElem h]
theorem wf_len {e : Ty} {xs : List (den e)} (h : WF (.sl e) xs) : xs.length ≤ 9223372036854775807 := by
  cases h with | sl _ _ h _ => exact maxLen_eq ▸ h
theorem size_pos {s : ByteArray} : (!beqS s ⟨#[]⟩) = decide (0 < s.size) := by
  rw [beqS_eq]
  have : L ⟨#[]⟩ = [] := rfl
  rw [this, ← L_size]
  cases L s <;> rfl
theorem size_app (s t : ByteArray) : (s ++ t).size = s.size + t.size := by
  rw [← L_size, L_append, List.length_append, L_size, L_size]
theorem bytesL_len (s : ByteArray) : (bytesL s).length = s.size := by
  simp only [bytesL, List.length_map, Array.length_toList]; rfl
theorem bytesL_map (s : ByteArray) : bytesL s = (L s).map fun b => (b.toNat : Int) := rfl
theorem bt_bytes (s : ByteArray) (i : Nat) (h : i < (bytesL s).length) : bt s i = (bytesL s)[i] := by
  rw [L_bt]
  have h' : i < (L s).length := by simpa [bytesL_map] using h
  simp [bytesL_map, List.getD, h']
theorem bytes_range (s : ByteArray) (i : Nat) (h : i < (bytesL s).length) : 0 ≤ (bytesL s)[i] ∧ (bytesL s)[i] ≤ 255 := by
  rw [← bt_bytes s i h]; exact bt_range s i
theorem all_bytes {s : ByteArray} {i : Nat} (h : i < (bytesL s).length) (p : Int → Bool) : ((bytesL s).drop i).all p = (p (bytesL s)[i] && ((bytesL s).drop (i + 1)).all p) := by
  rw [List.drop_eq_getElem_cons h]; rfl
theorem sub_tail (s : ByteArray) (st a : Nat) : (s.extract st s.size).extract a (s.extract st s.size).size = s.extract (st + a) s.size := by
  apply L_inj
  have e : (L s).take s.size = L s := List.take_of_length_le (Nat.le_refl _)
  rw [L_extract, L_extract s (st + a), ← L_size (s.extract st s.size), L_extract, List.take_length, List.drop_drop, e]
theorem sub_head (s : ByteArray) (st i : Nat) (h : st ≤ i) (hi : i ≤ s.size) : (s.extract st s.size).extract 0 (i - st) = s.extract st i := by
  apply L_inj
  rw [L_extract, L_extract, L_extract, List.drop_zero, List.take_of_length_le (show (L s).length ≤ s.size from Nat.le_refl _), List.drop_take]
def sp : ByteArray := ⟨#[32]⟩
theorem ib_hit {l : List UInt8} {c : UInt8} {i : Nat} (h : l[i]? = some c) (hn : ∀ j, j < i → l[j]? ≠ some c) : Lib.indexByte l c = i := by
  have hg := Lib.indexByte_ge l c
  by_cases e : Lib.indexByte l c = -1
  · exact absurd h (Lib.indexByte_none e i)
  · obtain ⟨o, ho⟩ : ∃ o : Nat, Lib.indexByte l c = o := ⟨(Lib.indexByte l c).toNat, by omega⟩
    obtain ⟨h1, h2⟩ := Lib.indexByte_some ho
    rcases Nat.lt_trichotomy o i with h3 | h3 | h3
    · exact absurd h1 (hn o h3)
    · rw [ho, h3]
    · exact absurd h (h2 i h3)
theorem ib_miss {l : List UInt8} {c : UInt8} (hn : ∀ j : Nat, l[j]? ≠ some c) : Lib.indexByte l c = -1 := by
  have hg := Lib.indexByte_ge l c
  by_cases e : Lib.indexByte l c = -1
  · exact e
  · obtain ⟨o, ho⟩ : ∃ o : Nat, Lib.indexByte l c = o := ⟨(Lib.indexByte l c).toNat, by omega⟩
    exact absurd (Lib.indexByte_some ho).1 (hn o)
theorem indexB_sp (s : ByteArray) : Lib.indexB s sp = Lib.indexByte (L s) 32 := Lib.one s sp rfl
theorem sub_at (s : ByteArray) (st j : Nat) : (L (s.extract st s.size))[j]? = (L s)[st + j]? := by
  rw [L_extract, List.take_of_length_le (show (L s).length ≤ s.size from Nat.le_refl _), List.getElem?_drop]
def wordsFrom (s : ByteArray) (st : Nat) : List ByteArray := Lib.splitB sp 0 (Lib.countB (s.extract st s.size) sp) (s.extract st s.size)
theorem words_end (s : ByteArray) (st : Nat) (h : ∀ j, st ≤ j → (L s)[j]? ≠ some 32) : wordsFrom s st = [s.extract st s.size] := by
  unfold wordsFrom
  rw [Lib.countB_miss _ _ ((indexB_sp _).trans (ib_miss fun j => by rw [sub_at]; exact h _ (by omega)))]
  rfl
theorem words_hit (s : ByteArray) (st i : Nat) (h1 : st ≤ i) (hi : i < s.size) (hb : (L s)[i]? = some 32) (h : ∀ j, st ≤ j → j < i → (L s)[j]? ≠ some 32) : wordsFrom s st = s.extract st i :: wordsFrom s (i + 1) := by
  have e : Lib.indexB (s.extract st s.size) sp = ((i - st : Nat) : Int) := (indexB_sp _).trans (ib_hit (by rw [sub_at, show st + (i - st) = i by omega]; exact hb) fun j hj => by rw [sub_at]; exact h _ (by omega) (by omega))
  have e1 : sp.size = 1 := rfl
  unfold wordsFrom
  rw [Lib.countB_hit _ _ _ (by rw [e1]; exact Nat.le_refl _) e, Nat.add_comm 1, Lib.splitB_hit _ _ _ _ _ e, Nat.add_zero, sub_head s st i h1 (by omega), e1, sub_tail, show st + (i - st + 1) = i + 1 by omega]
theorem sub_self (s : ByteArray) : s.extract 0 s.size = s := by
  apply L_inj
  rw [L_extract, List.take_of_length_le (show (L s).length ≤ s.size from Nat.le_refl _), List.drop_zero]
def words (s : ByteArray) : List ByteArray := Lib.splitB sp 0 (Lib.countB s sp) s
theorem words_from (s : ByteArray) : wordsFrom s 0 = words s := by unfold wordsFrom words; rw [sub_self]
theorem words_small : ∀ (k : Nat) (s : ByteArray), ∀ x ∈ Lib.splitB sp 0 k s, x.size ≤ s.size
  | 0, s, x, hx => by
    rw [Lib.splitB_zero] at hx
    simp only [List.mem_singleton] at hx
    rw [hx]; exact Nat.le_refl _
  | k + 1, s, x, hx => by
    unfold Lib.splitB at hx
    split at hx
    · simp only [List.mem_singleton] at hx
      rw [hx]; exact Nat.le_refl _
    · rcases List.mem_cons.1 hx with rfl | hx
      · rw [ByteArray.size_extract]; omega
      · have := words_small k _ x hx
        rw [ByteArray.size_extract] at this
        omega
theorem words_len (s : ByteArray) : 1 ≤ (words s).length ∧ (words s).length ≤ s.size + 1 := by
  unfold words
  have h1 : 1 ≤ sp.size := Nat.le_refl 1
  rw [Lib.splitB_all sp h1 0 _ s rfl]
  have := Lib.countB_le sp h1 s.size s (Nat.le_refl _)
  omega
theorem dropWhile_self {α : Type} (p : α → Bool) : ∀ l : List α, l.dropWhile p = l ↔ (∀ a, l.head? = some a → p a = false)
  | [] => by simp
  | a :: l => by
    have hl : (l.dropWhile p).length ≤ l.length := (List.dropWhile_sublist p).length_le
    cases h : p a with
    | true =>
      rw [List.dropWhile_cons_of_pos h]
      constructor
      · intro e
        have := congrArg List.length e
        simp at this
        omega
      · intro e
        have := e a rfl
        rw [h] at this; cases this
    | false =>
      rw [List.dropWhile_cons_of_neg (by rw [h]; exact Bool.noConfusion)]
      simp [h]
theorem trimB_self (l : List UInt8) (c : UInt8) : Lib.trimB l c = l ↔ l.head? ≠ some c ∧ l.getLast? ≠ some c := by
  unfold Lib.trimB Lib.trimLeftB Lib.trimRightB
  have h1 : ∀ m : List UInt8, m.dropWhile (· == c) = m ↔ m.head? ≠ some c := fun m => by
    rw [dropWhile_self]
    constructor
    · intro h e; have := h c e; simp at this
    · intro h a e
      have : a ≠ c := fun e' => h (e' ▸ e)
      simpa using this
  constructor
  · intro h
    have h2 : ((l.reverse.dropWhile (· == c)).reverse).length ≤ l.length := by
      have := (List.dropWhile_sublist (p := (· == c)) (l := l.reverse)).length_le
      simpa using this
    have h3 := (List.dropWhile_sublist (p := (· == c)) (l := (l.reverse.dropWhile (· == c)).reverse))
    have h4 : (l.reverse.dropWhile (· == c)).reverse = l := by
      have h5 : (l.reverse.dropWhile (· == c)).reverse.length = l.length := by
        have := h3.length_le
        rw [h] at this
        omega
      have h6 : l.reverse.dropWhile (· == c) = l.reverse := (List.dropWhile_sublist (p := (· == c)) (l := l.reverse)).eq_of_length (by simpa using h5)
      rw [h6, List.reverse_reverse]
    rw [h4] at h
    refine ⟨(h1 l).1 h, ?_⟩
    have h6 : l.reverse.dropWhile (· == c) = l.reverse := by rw [← List.reverse_inj, h4, List.reverse_reverse]
    have := (h1 _).1 h6
    simpa using this
  · rintro ⟨ha, hb⟩
    have h6 : l.reverse.dropWhile (· == c) = l.reverse := (h1 _).2 (by simpa using hb)
    rw [h6, List.reverse_reverse]
    exact (h1 l).2 ha
def vis (lo b : Int) : Bool := decide (lo ≤ b) && decide (b ≤ 126)
theorem bt_sp {s : ByteArray} {i : Nat} (hi : i < s.size) : bt s i = 32 ↔ (L s)[i]? = some 32 := by
  have hi' : i < (L s).length := hi
  have hbt : bt s i = ((L s)[i].toNat : Int) := by rw [L_bt, getD_at hi']
  rw [List.getElem?_eq_getElem hi', hbt]
  have : (32 : UInt8).toNat = 32 := rfl
  constructor
  · intro h
    congr 1
    apply UInt8.toNat_inj.1
    omega
  · intro h
    rw [Option.some.inj h]; rfl
def edge (s : ByteArray) : Bool := (decide (s.size = 0)) || (bt s 0 != 32 && bt s (s.size - 1) != 32)
theorem edge_eq (s : ByteArray) : beqS ⟨(Lib.trimB (L s) 32).toArray⟩ s = edge s := by
  rw [Bool.eq_iff_iff, beqS_iff]
  have h1 : (⟨(Lib.trimB (L s) 32).toArray⟩ : ByteArray) = s ↔ Lib.trimB (L s) 32 = L s := by
    constructor
    · intro h
      have := congrArg L h
      rwa [L_mk] at this
    · intro h
      apply L_inj
      rw [L_mk, h]
  rw [h1, trimB_self]
  unfold edge
  by_cases hz : s.size = 0
  · have : L s = [] := List.eq_nil_of_length_eq_zero hz
    rw [this]
    simp [hz]
  · have h2 : (L s).head? = (L s)[0]? := List.head?_eq_getElem?
    have h3 : (L s).getLast? = (L s)[s.size - 1]? := by rw [List.getLast?_eq_getElem?]; rfl
    rw [h2, h3, Bool.or_eq_true, decide_eq_true_eq, Bool.and_eq_true, bne_iff_ne, bne_iff_ne, Ne, Ne, Ne, Ne, bt_sp (by omega), bt_sp (by omega)]
    simp [hz]
def pos (s : ByteArray) : Bool := decide (0 < s.size)
theorem ext_size {s : ByteArray} {a b : Nat} (h : a ≤ b) (hb : b ≤ s.size) : (s.extract a b).size = b - a := by
  rw [ByteArray.size_extract]; omega
theorem room_s {n : Nat} (h : n ≤ 8192) : room n .str = true := by
  unfold room
  rw [Nat.ble_eq]
  have : nb .str = 16 := rfl
  rw [this]
  omega
theorem tail_cons (x : List UInt8) (r : List (List UInt8)) : Lib.joinTail [32] (x :: r) = 32 :: (x ++ Lib.joinTail [32] r) := by simp [Lib.joinTail]
theorem L32 : L ⟨#[32]⟩ = [32] := rfl
def ms {α : Type} (f : α → α) (W : List α) (i : Nat) : List α := (W.take i).map f ++ W.drop i
section
variable {α : Type} (f : α → α) (W : List α)
end
end Go.Proofs.YtolcacancfmmiaaGreatDoor
end
section
/- Plain laws: texts of an entry. -/
namespace Go.Proofs.YtolcacancfmmiaaGreatDoor
open Go.Gx
set_option linter.unusedVariables false
set_option linter.unusedSimpArgs false
theorem edge_trim (s : ByteArray) (hs : s.size ≤ 1048576) : strings_Trim.F s ⟨#[32]⟩ = some ⟨(Lib.trimB (L s) 32).toArray⟩ := by
  unfold strings_Trim.F xTrim1
  rw [Nat.ble_eq_true_of_le (by omega)]
  rfl
theorem specText_l0 (s : ByteArray) (hs : s.size ≤ 1048576) : ∀ n i : Nat, i + n = s.size → Ev (fun k => spec_l4Text.l0 k s i) (if ((bytesL s).drop i).all (vis 32) = true then .inr s else .inl false)
  | 0, i, h => by
    refine Ev.step (fun k => by rw [spec_l4Text.l0]) ?_
    simp (disch := omega) only [cneg]
    rw [List.drop_eq_nil_of_le (by rw [bytesL_len]; omega)]
    exact Ev.pure _
  | n + 1, i, h => by
    have hl := bytesL_len s
    have hi : i < (bytesL s).length := by omega
    refine Ev.step (fun k => by rw [spec_l4Text.l0]) ?_
    simp (disch := omega) only [cpos, Int.toNat_natCast, bt_bytes s i hi]
    rw [all_bytes hi]
    unfold vis
    by_cases c1 : (bytesL s)[i] < 32
    · simp (disch := omega) only [cpos, dneg, Bool.false_and]; exact Ev.pure _
    · by_cases c2 : (bytesL s)[i] > 126
      · simp (disch := omega) only [cpos, cneg, dneg, Bool.and_false, Bool.false_and]; exact Ev.pure _
      · simp (disch := omega) only [cpos, cneg, dpos, Bool.and_self, Bool.true_and, wrap_in]
        exact specText_l0 s hs n (i + 1) (by omega)
theorem isPrint_l0 (s : ByteArray) (hs : s.size ≤ 1048576) : ∀ n i : Nat, i + n = s.size → Ev (fun k => impl_isPrintable.l0 k s i) (if ((bytesL s).drop i).all (vis 32) = true then .inr s else .inl false)
  | 0, i, h => by
    refine Ev.step (fun k => by rw [impl_isPrintable.l0]) ?_
    simp (disch := omega) only [cneg]
    rw [List.drop_eq_nil_of_le (by rw [bytesL_len]; omega)]
    exact Ev.pure _
  | n + 1, i, h => by
    have hl := bytesL_len s
    have hi : i < (bytesL s).length := by omega
    refine Ev.step (fun k => by rw [impl_isPrintable.l0]) ?_
    simp (disch := omega) only [cpos, Int.toNat_natCast, bt_bytes s i hi]
    rw [all_bytes hi]
    unfold vis
    by_cases c1 : (bytesL s)[i] < 32
    · simp (disch := omega) only [cpos, dneg, Bool.false_and]; exact Ev.pure _
    · by_cases c2 : (bytesL s)[i] > 126
      · simp (disch := omega) only [cpos, cneg, dneg, Bool.and_false, Bool.false_and]; exact Ev.pure _
      · simp (disch := omega) only [cpos, cneg, dpos, Bool.and_self, Bool.true_and, wrap_in]
        exact isPrint_l0 s hs n (i + 1) (by omega)
def textB (s : ByteArray) : Bool := decide (s.size ≤ 40) && ((bytesL s).all (vis 32) && edge s)
theorem specText_ev (s : ByteArray) : Ev (fun k => spec_l4Text.F k s) (textB s) := by
  unfold spec_l4Text.F textB
  by_cases c : (s.size : Int) > 40
  · simp (disch := omega) only [cpos, dneg, Bool.false_and]
    exact Ev.pure _
  · simp (disch := omega) only [cneg, dpos, Bool.true_and]
    have := specText_l0 s (by omega) s.size 0 (by omega)
    rw [List.drop_zero] at this
    cases h : (bytesL s).all (vis 32) with
    | false => rw [h] at this; exact Ev.bind this (Ev.pure _)
    | true =>
      rw [h] at this
      refine Ev.bind (a := .inr s) this ?_
      dsimp only
      have he : beqS s ⟨#[]⟩ = decide (s.size = 0) := by
        rw [← Bool.not_not (b := beqS s ⟨#[]⟩), size_pos]
        by_cases hz : s.size = 0
        · simp [hz]
        · rw [decide_eq_true (by omega : 0 < s.size), decide_eq_false hz]; rfl
      rw [he]
      unfold edge
      by_cases hz : s.size = 0
      · rw [decide_eq_true hz]; exact Ev.pure _
      · rw [decide_eq_false hz]
        simp (disch := omega) only [cond_false, cond_true, cpos, wrap_in]
        rw [show ((s.size : Int) - 1).toNat = s.size - 1 by omega, show (0 : Int).toNat = 0 from rfl, Bool.false_or, Bool.true_and]
        cases (bt s 0 != 32) with
        | true => exact Ev.pure _
        | false => exact Ev.pure _
theorem isText_ev (s : ByteArray) : Ev (fun k => impl_isText.F k s) (textB s) := by
  unfold impl_isText.F textB
  by_cases c : (s.size : Int) ≤ 40
  · simp (disch := omega) only [cpos, dpos, Bool.true_and]
    refine Ev.bind ?_ (Ev.pure _)
    unfold impl_isPrintable.F
    have := isPrint_l0 s (by omega) s.size 0 (by omega)
    rw [List.drop_zero] at this
    cases h : (bytesL s).all (vis 32) with
    | false => rw [h] at this; exact Ev.bind this (Ev.pure _)
    | true =>
      rw [h] at this
      refine Ev.bind (a := .inr s) this ?_
      dsimp only
      refine Ev.bind0 (edge_trim s (by omega)) ?_
      simp only [edge_eq, Bool.true_and]
      exact Ev.pure _
  · simp (disch := omega) only [cneg, dneg, Bool.false_and]
    exact Ev.pure _
end Go.Proofs.YtolcacancfmmiaaGreatDoor
end
section
/- Plain laws: a text split at its spaces. -/
namespace Go.Proofs.YtolcacancfmmiaaGreatDoor
open Go.Gx
set_option linter.unusedVariables false
set_option linter.unusedSimpArgs false
theorem split_ev (s : ByteArray) (hs : s.size ≤ 1048576) : strings_Split.F s ⟨#[32]⟩ = some (words s) := by
  unfold strings_Split.F xSplit
  rw [Nat.ble_eq_true_of_le (by omega)]
  rfl
end Go.Proofs.YtolcacancfmmiaaGreatDoor
end
section
/- Plain laws: a text split at its spaces, the other way. -/
namespace Go.Proofs.YtolcacancfmmiaaGreatDoor
open Go.Gx
set_option linter.unusedVariables false
set_option linter.unusedSimpArgs false
theorem split_l0 (s : ByteArray) (hs : s.size ≤ 1048576) : ∀ n i : Nat, i + n = s.size → ∀ st : Nat, st ≤ i → (∀ j, st ≤ j → j < i → (L s)[j]? ≠ some 32) → ∀ acc : List ByteArray, acc.length ≤ i →
    ∃ acc' st', Ev (fun k => spec_l1Split.l0 k s 32 acc st i) (s, acc', ((st' : Nat) : Int)) ∧ st' ≤ s.size ∧ acc'.length ≤ s.size ∧ acc' ++ [s.extract st' s.size] = acc ++ wordsFrom s st
  | 0, i, h, st, h1, hn, acc, ha => by
    refine ⟨acc, st, Ev.step (fun k => by rw [spec_l1Split.l0]) ?_, by omega, by omega, ?_⟩
    · simp (disch := omega) only [cneg]
      exact Ev.pure _
    · rw [words_end s st fun j hj => ?_]
      by_cases hj2 : j < i
      · exact hn j hj hj2
      · rw [List.getElem?_eq_none (by rw [L_size]; omega)]; exact fun h => by cases h
  | n + 1, i, h, st, h1, hn, acc, ha => by
    have hi : i < (L s).length := by rw [L_size]; omega
    have hbt : bt s i = ((L s)[i].toNat : Int) := by rw [L_bt, getD_at hi]
    by_cases c : bt s i = 32
    · have hb : (L s)[i]? = some 32 := by
        rw [List.getElem?_eq_getElem hi]
        congr 1
        apply UInt8.toNat_inj.1
        have : (32 : UInt8).toNat = 32 := rfl
        omega
      obtain ⟨acc', st', r1, r2, r3, r4⟩ := split_l0 s hs n (i + 1) (by omega) (i + 1) (Nat.le_refl _) (fun j h1 h2 => by omega) (acc ++ [s.extract st i]) (by simp; omega)
      refine ⟨acc', st', Ev.step (fun k => by rw [spec_l1Split.l0]) ?_, r2, r3, ?_⟩
      · have hr : room (acc.length + ([s.extract st i] : List ByteArray).length) .str = true := by
          unfold room
          rw [Nat.ble_eq]
          have : nb .str = 16 := rfl
          rw [this]
          simp; omega
        simp (disch := omega) only [cpos, Int.toNat_natCast, ceq, hr, cond_true, wrap_in]
        exact r1
      · rw [r4, words_hit s st i h1 (by omega) hb hn]; simp
    · obtain ⟨acc', st', r1, r2, r3, r4⟩ := split_l0 s hs n (i + 1) (by omega) st (by omega) (fun j h1 h2 => by
        rcases Nat.lt_or_ge j i with h3 | h3
        · exact hn j h1 h3
        · obtain rfl : j = i := by omega
          rw [List.getElem?_eq_getElem hi]
          intro e
          apply c
          rw [hbt, Option.some.inj e]; rfl) acc (by omega)
      refine ⟨acc', st', Ev.step (fun k => by rw [spec_l1Split.l0]) ?_, r2, r3, r4⟩
      simp (disch := omega) only [cpos, Int.toNat_natCast, cne, wrap_in]
      exact r1
theorem specSplit_ev (s : ByteArray) (hs : s.size ≤ 1048576) : Ev (fun k => spec_l1Split.F k s 32) (words s) := by
  unfold spec_l1Split.F
  obtain ⟨acc', st', r1, r2, r3, r4⟩ := split_l0 s hs s.size 0 (by omega) 0 (Nat.le_refl _) (fun j h1 h2 => by omega) [] (Nat.le_refl _)
  refine Ev.bind r1 ?_
  have hr : room (acc'.length + ([s.extract st' s.size] : List ByteArray).length) .str = true := by
    unfold room
    rw [Nat.ble_eq]
    have : nb .str = 16 := rfl
    rw [this]
    simp; omega
  simp (disch := omega) only [cpos, Int.toNat_natCast, hr, cond_true, r4, words_from, List.nil_append]
  exact Ev.pure _
end Go.Proofs.YtolcacancfmmiaaGreatDoor
end
section
/- Plain laws: lists of texts: size, copy, equality. -/
namespace Go.Proofs.YtolcacancfmmiaaGreatDoor
open Go.Gx
set_option linter.unusedVariables false
set_option linter.unusedSimpArgs false
def totS (xs : List ByteArray) : Nat := (xs.map ByteArray.size).sum
theorem szS_l0 (xs : List ByteArray) (hw : WF (.sl .str) xs) (hlen : xs.length ≤ 1048576) : ∀ n i : Nat, i + n = xs.length → ∀ l : Int, 0 ≤ l → l ≤ 1048576 →
    Ev (fun k => laws_szStringS.l0 k xs l i) (if l - totS (xs.drop i) < 0 then .inl (-1) else .inr (l - totS (xs.drop i)))
  | 0, i, h, l, h0, h1 => by
    refine Ev.step (fun k => by rw [laws_szStringS.l0]) ?_
    simp (disch := omega) only [cneg]
    rw [List.drop_eq_nil_of_le (by omega)]
    simp only [totS, List.map_nil, List.sum_nil]
    rw [if_neg (by omega)]
    exact (Ev.pure _).eq (by congr 1; omega)
  | n + 1, i, h, l, h0, h1 => by
    have hi : i < xs.length := by omega
    have hwi : xs[i].size ≤ 9223372036854775807 := by cases hw with | sl _ _ _ h => exact wf_str (h i hi)
    have hd : totS (xs.drop i) = xs[i].size + totS (xs.drop (i + 1)) := by
      rw [List.drop_eq_getElem_cons hi]; unfold totS; rw [List.map_cons, List.sum_cons]
    refine Ev.step (fun k => by rw [laws_szStringS.l0]) ?_
    simp (disch := omega) only [cpos, Int.toNat_natCast, getD_at hi]
    by_cases c : l - (xs[i].size : Int) < 0
    · simp (disch := omega) only [wrap_in, cpos]
      rw [if_pos (by omega)]
      exact Ev.pure _
    · simp (disch := omega) only [wrap_in, cneg]
      have := szS_l0 xs hw hlen n (i + 1) (by omega) (l - xs[i].size) (by omega) (by omega)
      refine this.eq ?_
      rw [hd]
      by_cases c2 : l - (xs[i].size : Int) - (totS (xs.drop (i + 1)) : Int) < 0
      · rw [if_pos c2, if_pos (by omega)]
      · rw [if_neg c2, if_neg (by omega)]; congr 1; omega
theorem szS_ev (xs : List ByteArray) (l : Int) (h0 : 0 ≤ l) (h1 : l ≤ 1048576) (hw : WF (.sl .str) xs) : ∃ r, Ev (fun k => laws_szStringS.F k xs l) r ∧ (0 ≤ r → (xs.length : Int) + totS xs + r = l) := by
  have hl : xs.length ≤ 9223372036854775807 := wf_len hw
  unfold laws_szStringS.F
  by_cases c : l - (xs.length : Int) < 0
  · simp (disch := omega) only [wrap_in, cpos]
    exact ⟨-1, Ev.pure _, fun h => by omega⟩
  · simp (disch := omega) only [wrap_in, cneg]
    have := szS_l0 xs hw (by omega) xs.length 0 (by omega) (l - xs.length) (by omega) (by omega)
    simp only [List.drop_zero] at this
    by_cases c2 : l - (xs.length : Int) - (totS xs : Int) < 0
    · rw [if_pos c2] at this
      exact ⟨-1, Ev.bind this (Ev.pure _), fun h => by omega⟩
    · rw [if_neg c2] at this
      exact ⟨l - (xs.length : Int) - (totS xs : Int), Ev.bind this (Ev.pure _), fun h => by omega⟩
theorem toS_l0 (xs : List ByteArray) (hlen : xs.length ≤ 1048576) : ∀ n i : Nat, i + n = xs.length → ∀ ys : List ByteArray, ys.length = xs.length → ys.take i = xs.take i → Ev (fun k => laws_toStringS.l0 k xs ys i) xs
  | 0, i, h, ys, hy, ht => by
    refine Ev.step (fun k => by rw [laws_toStringS.l0]) ?_
    simp (disch := omega) only [cneg]
    have : ys = xs := by
      rw [List.take_of_length_le (by omega), List.take_of_length_le (by omega)] at ht
      exact ht
    rw [this]; exact Ev.pure _
  | n + 1, i, h, ys, hy, ht => by
    have hi : i < xs.length := by omega
    refine Ev.step (fun k => by rw [laws_toStringS.l0]) ?_
    simp (disch := omega) only [cpos, Int.toNat_natCast, getD_at hi, wrap_in]
    exact toS_l0 xs hlen n (i + 1) (by omega) (ys.set i xs[i]) (by simpa using hy) (by
      rw [List.take_add_one, List.take_add_one, List.take_set_of_le (Nat.le_refl i), ht]
      simp [show i < ys.length by omega, hi])
theorem toS_ev (xs : List ByteArray) (hlen : xs.length ≤ 1048576) : Ev (fun k => laws_toStringS.F k xs) xs := by
  unfold laws_toStringS.F
  have hn : nb .str = 16 := rfl
  simp (disch := first | omega | (simp only [hn, Int.toNat_natCast]; omega)) only [ceq, cpos, cble]
  exact Ev.bind (a := xs) (toS_l0 xs hlen xs.length 0 (by omega) _ (by simp) (by simp)) (Ev.pure _)
theorem eqS_l0 (xs : List ByteArray) (hlen : xs.length ≤ 1048576) : ∀ n i : Nat, i + n = xs.length → Ev (fun k => laws_eqStringS.l0 k xs xs i) (.inr ())
  | 0, i, h => by
    refine Ev.step (fun k => by rw [laws_eqStringS.l0]) ?_
    simp (disch := omega) only [cneg]
    exact Ev.pure _
  | n + 1, i, h => by
    refine Ev.step (fun k => by rw [laws_eqStringS.l0]) ?_
    simp (disch := omega) only [cpos, Int.toNat_natCast, beqS_self, Bool.not_true, cond_false, wrap_in]
    exact eqS_l0 xs hlen n (i + 1) (by omega)
theorem eqS_ev (xs : List ByteArray) (hlen : xs.length ≤ 1048576) : Ev (fun k => laws_eqStringS.F k xs xs) true := by
  unfold laws_eqStringS.F
  simp (disch := omega) only [cbeq]
  exact Ev.bind (eqS_l0 xs hlen xs.length 0 (by omega)) (Ev.pure _)
end Go.Proofs.YtolcacancfmmiaaGreatDoor
end
section
/- Plain laws: names, entries, libraries: size, copy, equality. -/
namespace Go.Proofs.YtolcacancfmmiaaGreatDoor
open Go.Gx
set_option linter.unusedVariables false
set_option linter.unusedSimpArgs false
def totN (n : Name) : Nat := n.given.length + totS n.given + n.particle.size + n.family.size + n.suffix.size
def totNs (xs : List Name) : Nat := xs.length + (xs.map totN).sum
def totE (e : Entry) : Nat := e.key.size + totNs e.authors + totNs e.editors + e.title.size + e.container.size + e.publisher.size + e.pages.size + e.cross.size
def totEs (xs : List Entry) : Nat := xs.length + (xs.map totE).sum
theorem sum_mem {α : Type} (f : α → Nat) {xs : List α} {x : α} (h : x ∈ xs) : f x ≤ (xs.map f).sum := by
  induction xs with
  | nil => cases h
  | cons b l ih =>
    simp only [List.map_cons, List.sum_cons]
    rcases List.mem_cons.1 h with rfl | h
    · omega
    · have := ih h; omega
def smallN (n : Name) : Prop := totN n ≤ 1048576
def smallE (e : Entry) : Prop := totE e ≤ 1048576
def smallL (l : Library) : Prop := totEs l.entries ≤ 1048576
theorem smallL_at {l : Library} (h : smallL l) {e : Entry} (he : e ∈ l.entries) : smallE e := by
  have := sum_mem totE he
  unfold smallL totEs at h
  unfold smallE
  omega
theorem smallNs_at {xs : List Name} (h : totNs xs ≤ 1048576) {n : Name} (hn : n ∈ xs) : smallN n := by
  have := sum_mem totN hn
  unfold totNs at h
  unfold smallN
  omega
theorem smallE_a {e : Entry} (h : smallE e) : totNs e.authors ≤ 1048576 := by unfold smallE totE at h; omega
theorem smallE_e {e : Entry} (h : smallE e) : totNs e.editors ≤ 1048576 := by unfold smallE totE at h; omega
theorem smallNs_len {xs : List Name} (h : totNs xs ≤ 1048576) : xs.length ≤ 1048576 := by unfold totNs at h; omega
theorem smallL_len {l : Library} (h : smallL l) : l.entries.length ≤ 1048576 := by unfold smallL totEs at h; omega
theorem szN_ev (a : Name) (l : Int) (h0 : 0 ≤ l) (h1 : l ≤ 1048576) (hw : WF .name a) : EvP (fun k => laws_szName.F k a l) fun r => 0 ≤ r → (totN a : Int) + r = l := by
  obtain ⟨w1, w2, w3, w4⟩ : WF (.sl .str) a.given ∧ a.particle.size ≤ 9223372036854775807 ∧ a.family.size ≤ 9223372036854775807 ∧ a.suffix.size ≤ 9223372036854775807 := by
    cases hw with | name _ h1 h2 h3 h4 => exact ⟨h1, wf_str h2, wf_str h3, wf_str h4⟩
  unfold laws_szName.F totN
  obtain ⟨r, r1, r2⟩ := szS_ev a.given l h0 h1 w1
  refine EvP.of r1 ?_
  by_cases c : r < 0
  · simp (disch := omega) only [cpos]
    exact EvP.pure _ (fun h => by omega)
  simp (disch := omega) only [cneg]
  have r3 := r2 (by omega)
  by_cases c1 : r - (a.particle.size : Int) < 0
  · simp (disch := omega) only [wrap_in, cpos]
    exact EvP.pure _ (fun h => by omega)
  simp (disch := omega) only [wrap_in, cneg]
  by_cases c2 : r - (a.particle.size : Int) - (a.family.size : Int) < 0
  · simp (disch := omega) only [wrap_in, cpos]
    exact EvP.pure _ (fun h => by omega)
  simp (disch := omega) only [wrap_in, cneg]
  by_cases c3 : r - (a.particle.size : Int) - (a.family.size : Int) - (a.suffix.size : Int) < 0
  · simp (disch := omega) only [wrap_in, cpos]
    exact EvP.pure _ (fun h => by omega)
  simp (disch := omega) only [wrap_in, cneg]
  exact EvP.pure _ (fun h => by omega)
theorem szNs_l0 (xs : List Name) (hw : WF (.sl .name) xs) (hlen : xs.length ≤ 1048576) : ∀ n i : Nat, i + n = xs.length → ∀ l : Int, 0 ≤ l → l ≤ 1048576 →
    EvP (fun k => laws_szNameS.l0 k xs l i) fun r => r = .inl (-1) ∨ ∃ q : Int, r = .inr q ∧ 0 ≤ q ∧ (((xs.drop i).map totN).sum : Int) + q = l
  | 0, i, h, l, h0, h1 => by
    refine EvP.step (fun k => by rw [laws_szNameS.l0]) ?_
    simp (disch := omega) only [cneg]
    rw [List.drop_eq_nil_of_le (by omega)]
    exact EvP.pure _ (.inr ⟨l, rfl, h0, by simp⟩)
  | n + 1, i, h, l, h0, h1 => by
    have hi : i < xs.length := by omega
    have hwi : WF .name xs[i] := by cases hw with | sl _ _ _ h => exact h i hi
    refine EvP.step (fun k => by rw [laws_szNameS.l0]) ?_
    simp (disch := omega) only [cpos, Int.toNat_natCast, getD_at hi]
    refine EvP.bind (szN_ev _ l h0 h1 hwi) fun r hr => ?_
    by_cases c : r < 0
    · simp (disch := omega) only [cpos]
      exact EvP.pure _ (.inl rfl)
    · have hr := hr (by omega)
      simp (disch := omega) only [cneg, wrap_in]
      refine EvP.mono (szNs_l0 xs hw hlen n (i + 1) (by omega) r (by omega) (by omega)) fun q hq => ?_
      rcases hq with rfl | ⟨q, rfl, h2, h3⟩
      · exact .inl rfl
      · refine .inr ⟨q, rfl, h2, ?_⟩
        rw [List.drop_eq_getElem_cons hi, List.map_cons, List.sum_cons]
        omega
theorem szNs_ev (xs : List Name) (l : Int) (h0 : 0 ≤ l) (h1 : l ≤ 1048576) (hw : WF (.sl .name) xs) : EvP (fun k => laws_szNameS.F k xs l) fun r => 0 ≤ r → (totNs xs : Int) + r = l := by
  have hl : xs.length ≤ 9223372036854775807 := wf_len hw
  unfold laws_szNameS.F totNs
  by_cases c : l - (xs.length : Int) < 0
  · simp (disch := omega) only [wrap_in, cpos]
    exact EvP.pure _ fun h => by omega
  · simp (disch := omega) only [wrap_in, cneg]
    refine EvP.bind (szNs_l0 xs hw (by omega) xs.length 0 (by omega) (l - xs.length) (by omega) (by omega)) fun r hr => ?_
    rcases hr with rfl | ⟨q, rfl, h2, h3⟩
    · exact EvP.pure _ fun h => by omega
    · rw [List.drop_zero] at h3
      exact EvP.pure _ fun h => by omega
theorem szE_ev (a : Entry) (l : Int) (h0 : 0 ≤ l) (h1 : l ≤ 1048576) (hw : WF .entry a) : EvP (fun k => laws_szEntry.F k a l) fun r => 0 ≤ r → (totE a : Int) + r = l := by
  obtain ⟨w1, w2, w3, w4, w5, w6, w7, w8⟩ : a.key.size ≤ 9223372036854775807 ∧ WF (.sl .name) a.authors ∧ WF (.sl .name) a.editors ∧ a.title.size ≤ 9223372036854775807 ∧ a.container.size ≤ 9223372036854775807 ∧ a.publisher.size ≤ 9223372036854775807 ∧ a.pages.size ≤ 9223372036854775807 ∧ a.cross.size ≤ 9223372036854775807 := by
    cases hw with | entry _ h1 h2 h3 h4 h5 h6 h7 h8 h9 h10 h11 => exact ⟨wf_str h1, h3, h4, wf_str h5, wf_str h6, wf_str h7, wf_str h10, wf_str h11⟩
  unfold laws_szEntry.F totE
  by_cases c0 : l - (a.key.size : Int) < 0
  · simp (disch := omega) only [wrap_in, cpos]
    exact EvP.pure _ (fun h => by omega)
  simp (disch := omega) only [wrap_in, cneg]
  refine EvP.bind (szNs_ev a.authors _ (by omega) (by omega) w2) fun r hr => ?_
  by_cases c : r < 0
  · simp (disch := omega) only [cpos]
    exact EvP.pure _ (fun h => by omega)
  simp (disch := omega) only [cneg]
  have hr := hr (by omega)
  refine EvP.bind (szNs_ev a.editors r (by omega) (by omega) w3) fun q hq => ?_
  by_cases c' : q < 0
  · simp (disch := omega) only [cpos]
    exact EvP.pure _ (fun h => by omega)
  simp (disch := omega) only [cneg]
  have hq := hq (by omega)
  by_cases c1 : q - (a.title.size : Int) < 0
  · simp (disch := omega) only [wrap_in, cpos]
    exact EvP.pure _ (fun h => by omega)
  simp (disch := omega) only [wrap_in, cneg]
  by_cases c2 : q - (a.title.size : Int) - (a.container.size : Int) < 0
  · simp (disch := omega) only [wrap_in, cpos]
    exact EvP.pure _ (fun h => by omega)
  simp (disch := omega) only [wrap_in, cneg]
  by_cases c3 : q - (a.title.size : Int) - (a.container.size : Int) - (a.publisher.size : Int) < 0
  · simp (disch := omega) only [wrap_in, cpos]
    exact EvP.pure _ (fun h => by omega)
  simp (disch := omega) only [wrap_in, cneg]
  by_cases c4 : q - (a.title.size : Int) - (a.container.size : Int) - (a.publisher.size : Int) - (a.pages.size : Int) < 0
  · simp (disch := omega) only [wrap_in, cpos]
    exact EvP.pure _ (fun h => by omega)
  simp (disch := omega) only [wrap_in, cneg]
  by_cases c5 : q - (a.title.size : Int) - (a.container.size : Int) - (a.publisher.size : Int) - (a.pages.size : Int) - (a.cross.size : Int) < 0
  · simp (disch := omega) only [wrap_in, cpos]
    exact EvP.pure _ (fun h => by omega)
  simp (disch := omega) only [wrap_in, cneg]
  exact EvP.pure _ (fun h => by omega)
theorem szEs_l0 (xs : List Entry) (hw : WF (.sl .entry) xs) (hlen : xs.length ≤ 1048576) : ∀ n i : Nat, i + n = xs.length → ∀ l : Int, 0 ≤ l → l ≤ 1048576 →
    EvP (fun k => laws_szEntryS.l0 k xs l i) fun r => r = .inl (-1) ∨ ∃ q : Int, r = .inr q ∧ 0 ≤ q ∧ (((xs.drop i).map totE).sum : Int) + q = l
  | 0, i, h, l, h0, h1 => by
    refine EvP.step (fun k => by rw [laws_szEntryS.l0]) ?_
    simp (disch := omega) only [cneg]
    rw [List.drop_eq_nil_of_le (by omega)]
    exact EvP.pure _ (.inr ⟨l, rfl, h0, by simp⟩)
  | n + 1, i, h, l, h0, h1 => by
    have hi : i < xs.length := by omega
    have hwi : WF .entry xs[i] := by cases hw with | sl _ _ _ h => exact h i hi
    refine EvP.step (fun k => by rw [laws_szEntryS.l0]) ?_
    simp (disch := omega) only [cpos, Int.toNat_natCast, getD_at hi]
    refine EvP.bind (szE_ev _ l h0 h1 hwi) fun r hr => ?_
    by_cases c : r < 0
    · simp (disch := omega) only [cpos]
      exact EvP.pure _ (.inl rfl)
    · have hr := hr (by omega)
      simp (disch := omega) only [cneg, wrap_in]
      refine EvP.mono (szEs_l0 xs hw hlen n (i + 1) (by omega) r (by omega) (by omega)) fun q hq => ?_
      rcases hq with rfl | ⟨q, rfl, h2, h3⟩
      · exact .inl rfl
      · refine .inr ⟨q, rfl, h2, ?_⟩
        rw [List.drop_eq_getElem_cons hi, List.map_cons, List.sum_cons]
        omega
theorem szEs_ev (xs : List Entry) (l : Int) (h0 : 0 ≤ l) (h1 : l ≤ 1048576) (hw : WF (.sl .entry) xs) : EvP (fun k => laws_szEntryS.F k xs l) fun r => 0 ≤ r → (totEs xs : Int) + r = l := by
  have hl : xs.length ≤ 9223372036854775807 := wf_len hw
  unfold laws_szEntryS.F totEs
  by_cases c : l - (xs.length : Int) < 0
  · simp (disch := omega) only [wrap_in, cpos]
    exact EvP.pure _ fun h => by omega
  · simp (disch := omega) only [wrap_in, cneg]
    refine EvP.bind (szEs_l0 xs hw (by omega) xs.length 0 (by omega) (l - xs.length) (by omega) (by omega)) fun r hr => ?_
    rcases hr with rfl | ⟨q, rfl, h2, h3⟩
    · exact EvP.pure _ fun h => by omega
    · rw [List.drop_zero] at h3
      exact EvP.pure _ fun h => by omega
theorem szL_ev (a : Library) (l : Int) (h0 : 0 ≤ l) (h1 : l ≤ 1048576) (hw : WF .lib a) : EvP (fun k => laws_szLibrary.F k a l) fun r => 0 ≤ r → (totEs a.entries : Int) + r = l := by
  have w1 : WF (.sl .entry) a.entries := by cases hw with | lib _ h => exact h
  unfold laws_szLibrary.F
  refine EvP.bind (szEs_ev a.entries l h0 h1 w1) fun r hr => ?_
  by_cases c : r < 0
  · simp (disch := omega) only [cpos]
    exact EvP.pure _ (fun h => by omega)
  simp (disch := omega) only [cneg]
  exact EvP.pure _ hr
theorem toSp_l0 (xs : List ByteArray) (hlen : xs.length ≤ 1048576) : ∀ n i : Nat, i + n = xs.length → ∀ ys : List ByteArray, ys.length = xs.length → ys.take i = xs.take i → Ev (fun k => laws_toStringS_p.l0 k xs ys i) xs
  | 0, i, h, ys, hy, ht => by
    refine Ev.step (fun k => by rw [laws_toStringS_p.l0]) ?_
    simp (disch := omega) only [cneg]
    have : ys = xs := by
      rw [List.take_of_length_le (by omega), List.take_of_length_le (by omega)] at ht
      exact ht
    rw [this]; exact Ev.pure _
  | n + 1, i, h, ys, hy, ht => by
    have hi : i < xs.length := by omega
    refine Ev.step (fun k => by rw [laws_toStringS_p.l0]) ?_
    simp (disch := omega) only [cpos, Int.toNat_natCast, getD_at hi, wrap_in]
    exact toSp_l0 xs hlen n (i + 1) (by omega) (ys.set i xs[i]) (by simpa using hy) (by
      rw [List.take_add_one, List.take_add_one, List.take_set_of_le (Nat.le_refl i), ht]
      simp [show i < ys.length by omega, hi])
theorem toSp_ev (xs : List ByteArray) (hlen : xs.length ≤ 1048576) : Ev (fun k => laws_toStringS_p.F k xs) xs := by
  unfold laws_toStringS_p.F
  have hn : nb .str = 16 := rfl
  simp (disch := first | omega | (simp only [hn, Int.toNat_natCast]; omega)) only [ceq, cpos, cble]
  exact Ev.bind (a := xs) (toSp_l0 xs hlen xs.length 0 (by omega) _ (by simp) (by simp)) (Ev.pure _)
theorem toN_ev (a : Name) (hs : smallN a) : Ev (fun k => laws_toName_p.F k a) a := by
  unfold laws_toName_p.F
  exact Ev.bind (toSp_ev a.given (by unfold smallN totN at hs; omega)) (Ev.pure _)
theorem toNs_l0 (xs : List Name) (hs : ∀ x ∈ xs, smallN x) (hlen : xs.length ≤ 1048576) : ∀ n i : Nat, i + n = xs.length → ∀ ys : List Name, ys.length = xs.length → ys.take i = xs.take i → Ev (fun k => laws_toNameS_p.l0 k xs ys i) xs
  | 0, i, h, ys, hy, ht => by
    refine Ev.step (fun k => by rw [laws_toNameS_p.l0]) ?_
    simp (disch := omega) only [cneg]
    have : ys = xs := by
      rw [List.take_of_length_le (by omega), List.take_of_length_le (by omega)] at ht
      exact ht
    rw [this]; exact Ev.pure _
  | n + 1, i, h, ys, hy, ht => by
    have hi : i < xs.length := by omega
    refine Ev.step (fun k => by rw [laws_toNameS_p.l0]) ?_
    simp (disch := omega) only [cpos, Int.toNat_natCast, getD_at hi]
    refine Ev.bind (toN_ev _ (hs _ (List.getElem_mem hi))) ?_
    simp (disch := omega) only [cpos, wrap_in]
    exact toNs_l0 xs hs hlen n (i + 1) (by omega) (ys.set i xs[i]) (by simpa using hy) (by
      rw [List.take_add_one, List.take_add_one, List.take_set_of_le (Nat.le_refl i), ht]
      simp [show i < ys.length by omega, hi])
theorem toNs_ev (xs : List Name) (hs : ∀ x ∈ xs, smallN x) (hlen : xs.length ≤ 1048576) : Ev (fun k => laws_toNameS_p.F k xs) xs := by
  unfold laws_toNameS_p.F
  have hn : nb .name = 72 := rfl
  simp (disch := first | omega | (simp only [hn, Int.toNat_natCast]; omega)) only [ceq, cpos, cble]
  exact Ev.bind (a := xs) (toNs_l0 xs hs hlen xs.length 0 (by omega) _ (by simp) (by simp)) (Ev.pure _)
theorem toE_ev (a : Entry) (hs : smallE a) : Ev (fun k => laws_toEntry_p.F k a) a := by
  unfold laws_toEntry_p.F
  have ha := smallE_a hs
  have he := smallE_e hs
  exact Ev.bind (toNs_ev a.authors (fun x hx => smallNs_at ha hx) (smallNs_len ha)) (Ev.bind (toNs_ev a.editors (fun x hx => smallNs_at he hx) (smallNs_len he)) (Ev.pure _))
theorem toEs_l0 (xs : List Entry) (hs : ∀ x ∈ xs, smallE x) (hlen : xs.length ≤ 1048576) : ∀ n i : Nat, i + n = xs.length → ∀ ys : List Entry, ys.length = xs.length → ys.take i = xs.take i → Ev (fun k => laws_toEntryS_p.l0 k xs ys i) xs
  | 0, i, h, ys, hy, ht => by
    refine Ev.step (fun k => by rw [laws_toEntryS_p.l0]) ?_
    simp (disch := omega) only [cneg]
    have : ys = xs := by
      rw [List.take_of_length_le (by omega), List.take_of_length_le (by omega)] at ht
      exact ht
    rw [this]; exact Ev.pure _
  | n + 1, i, h, ys, hy, ht => by
    have hi : i < xs.length := by omega
    refine Ev.step (fun k => by rw [laws_toEntryS_p.l0]) ?_
    simp (disch := omega) only [cpos, Int.toNat_natCast, getD_at hi]
    refine Ev.bind (toE_ev _ (hs _ (List.getElem_mem hi))) ?_
    simp (disch := omega) only [cpos, wrap_in]
    exact toEs_l0 xs hs hlen n (i + 1) (by omega) (ys.set i xs[i]) (by simpa using hy) (by
      rw [List.take_add_one, List.take_add_one, List.take_set_of_le (Nat.le_refl i), ht]
      simp [show i < ys.length by omega, hi])
theorem toEs_ev (xs : List Entry) (hs : ∀ x ∈ xs, smallE x) (hlen : xs.length ≤ 1048576) : Ev (fun k => laws_toEntryS_p.F k xs) xs := by
  unfold laws_toEntryS_p.F
  have hn : nb .entry = 192 := rfl
  simp (disch := first | omega | (simp only [hn, Int.toNat_natCast]; omega)) only [ceq, cpos, cble]
  exact Ev.bind (a := xs) (toEs_l0 xs hs hlen xs.length 0 (by omega) _ (by simp) (by simp)) (Ev.pure _)
theorem toL_ev (a : Library) (hs : smallL a) : Ev (fun k => laws_toLibrary_p.F k a) a := by
  unfold laws_toLibrary_p.F
  exact Ev.bind (toEs_ev a.entries (fun x hx => smallL_at hs hx) (smallL_len hs)) (Ev.pure _)
theorem eqN_ev (a : Name) (hs : smallN a) : Ev (fun k => laws_eqName.F k a a) true := by
  unfold laws_eqName.F
  refine Ev.bind (eqS_ev a.given (by unfold smallN totN at hs; omega)) ?_
  simp only [beqS_self, Bool.not_true, cond_false]
  exact Ev.pure _
theorem eqD_ev (a : Date) : laws_eqDate.F a a = some true := by
  unfold laws_eqDate.F
  simp only [bne_self_eq_false, beq_self_eq_true, Bool.not_true, cond_false]
theorem eqNs_l0 (xs : List Name) (hs : ∀ x ∈ xs, smallN x) (hlen : xs.length ≤ 1048576) : ∀ n i : Nat, i + n = xs.length → Ev (fun k => laws_eqNameS.l0 k xs xs i) (.inr ())
  | 0, i, h => by
    refine Ev.step (fun k => by rw [laws_eqNameS.l0]) ?_
    simp (disch := omega) only [cneg]
    exact Ev.pure _
  | n + 1, i, h => by
    have hi : i < xs.length := by omega
    refine Ev.step (fun k => by rw [laws_eqNameS.l0]) ?_
    simp (disch := omega) only [cpos, Int.toNat_natCast, getD_at hi]
    refine Ev.bind (eqN_ev _ (hs _ (List.getElem_mem hi))) ?_
    simp (disch := omega) only [Bool.not_true, cond_false, wrap_in]
    exact eqNs_l0 xs hs hlen n (i + 1) (by omega)
theorem eqNs_ev (xs : List Name) (hs : ∀ x ∈ xs, smallN x) (hlen : xs.length ≤ 1048576) : Ev (fun k => laws_eqNameS.F k xs xs) true := by
  unfold laws_eqNameS.F
  simp (disch := omega) only [cbeq]
  exact Ev.bind (eqNs_l0 xs hs hlen xs.length 0 (by omega)) (Ev.pure _)
theorem eqE_ev (a : Entry) (hs : smallE a) : Ev (fun k => laws_eqEntry.F k a a) true := by
  unfold laws_eqEntry.F
  have ha := smallE_a hs
  have he := smallE_e hs
  simp only [beqS_self, bne_self_eq_false, Bool.not_true, cond_false]
  refine Ev.bind (eqNs_ev a.authors (fun x hx => smallNs_at ha hx) (smallNs_len ha)) ?_
  simp only [Bool.not_true, cond_false]
  refine Ev.bind (eqNs_ev a.editors (fun x hx => smallNs_at he hx) (smallNs_len he)) ?_
  simp only [Bool.not_true, cond_false]
  refine Ev.bind0 (eqD_ev _) ?_
  simp only [Bool.not_true, cond_false]
  exact Ev.pure _
theorem eqEs_l0 (xs : List Entry) (hs : ∀ x ∈ xs, smallE x) (hlen : xs.length ≤ 1048576) : ∀ n i : Nat, i + n = xs.length → Ev (fun k => laws_eqEntryS.l0 k xs xs i) (.inr ())
  | 0, i, h => by
    refine Ev.step (fun k => by rw [laws_eqEntryS.l0]) ?_
    simp (disch := omega) only [cneg]
    exact Ev.pure _
  | n + 1, i, h => by
    have hi : i < xs.length := by omega
    refine Ev.step (fun k => by rw [laws_eqEntryS.l0]) ?_
    simp (disch := omega) only [cpos, Int.toNat_natCast, getD_at hi]
    refine Ev.bind (eqE_ev _ (hs _ (List.getElem_mem hi))) ?_
    simp (disch := omega) only [Bool.not_true, cond_false, wrap_in]
    exact eqEs_l0 xs hs hlen n (i + 1) (by omega)
theorem eqEs_ev (xs : List Entry) (hs : ∀ x ∈ xs, smallE x) (hlen : xs.length ≤ 1048576) : Ev (fun k => laws_eqEntryS.F k xs xs) true := by
  unfold laws_eqEntryS.F
  simp (disch := omega) only [cbeq]
  exact Ev.bind (eqEs_l0 xs hs hlen xs.length 0 (by omega)) (Ev.pure _)
theorem eqL_ev (a : Library) (hs : smallL a) : Ev (fun k => laws_eqLibrary.F k a a) true := by
  unfold laws_eqLibrary.F
  refine Ev.bind (eqEs_ev a.entries (fun x hx => smallL_at hs hx) (smallL_len hs)) ?_
  simp only [Bool.not_true, cond_false]
  exact Ev.pure _
end Go.Proofs.YtolcacancfmmiaaGreatDoor
end
section
/- Plain laws: slices.IndexFunc, slices.DeleteFunc, as they are printed for a function value. -/
namespace Go.Gx
set_option linter.unusedVariables false
set_option linter.unusedSimpArgs false
section
variable {α : Type} {d : α} {p : α → Bool} {q : Nat → α → Option Bool} {xs : List α}
theorem getDat {α : Type} {xs : List α} {i : Nat} (h : i < xs.length) (d : α) : xs.getD i d = xs[i] := by simp [List.getD, List.getElem?_eq_getElem h]
theorem idx_l0 {l0 : Nat → List α → Int → Int → Option (Sum Int Unit)} (H : ∀ k x0 x7 x8, l0 (k + 1) x0 x7 x8 = bif (decide (x8 < x7)) then (bif decide (0 ≤ x8) then (bif decide (x8 < (x0.length : Int)) then ((q k (x0.getD (x8 : Int).toNat d)).bind fun r1 => bif r1 then (some (.inl x8)) else (l0 k x0 x7 (IntKind.wrap .i64 (x8 + 1)))) else none) else none) else (some (.inr ())))
    (hq : ∀ x, x ∈ xs → Ev (fun k => q k x) (p x)) (hl : xs.length ≤ 4611686018427387904) : ∀ n i : Nat, i + n = xs.length → (∀ x ∈ xs.take i, p x = false) →
    ∃ r, Ev (fun k => l0 k xs xs.length i) r ∧ ((r = .inr () ∧ ∀ x ∈ xs, p x = false) ∨ ∃ j : Nat, r = .inl j ∧ j < xs.length ∧ p (xs.getD j d) = true ∧ ∀ x ∈ xs.take j, p x = false)
  | 0, i, h, ht => by
    refine ⟨.inr (), Ev.step (fun k => by rw [H]) ?_, .inl ⟨rfl, by rw [List.take_of_length_le (by omega)] at ht; exact ht⟩⟩
    simp (disch := omega) only [cneg]
    exact Ev.pure _
  | n + 1, i, h, ht => by
    have hi : i < xs.length := by omega
    cases hp : p xs[i] with
    | true =>
      refine ⟨.inl i, Ev.step (fun k => by rw [H]) ?_, .inr ⟨i, rfl, hi, by rw [getDat hi, hp], ht⟩⟩
      simp (disch := omega) only [cpos, Int.toNat_natCast, getDat hi]
      refine Ev.bind (hq _ (List.getElem_mem hi)) ?_
      rw [hp]
      exact Ev.pure _
    | false =>
      obtain ⟨r, h1, h2⟩ := idx_l0 H hq hl n (i + 1) (by omega) (by
        intro x hx
        rw [List.take_add_one, List.getElem?_eq_getElem hi] at hx
        rcases List.mem_append.1 hx with hx | hx
        · exact ht x hx
        · simp only [Option.toList_some, List.mem_singleton] at hx
          rw [hx, hp])
      refine ⟨r, Ev.step (fun k => by rw [H]) ?_, h2⟩
      simp (disch := omega) only [cpos, Int.toNat_natCast, getDat hi]
      refine Ev.bind (hq _ (List.getElem_mem hi)) ?_
      rw [hp]
      simp (disch := omega) only [cond_false, wrap_in]
      exact h1
theorem idx_ev {l0 : Nat → List α → Int → Int → Option (Sum Int Unit)} (H : ∀ k x0 x7 x8, l0 (k + 1) x0 x7 x8 = bif (decide (x8 < x7)) then (bif decide (0 ≤ x8) then (bif decide (x8 < (x0.length : Int)) then ((q k (x0.getD (x8 : Int).toNat d)).bind fun r1 => bif r1 then (some (.inl x8)) else (l0 k x0 x7 (IntKind.wrap .i64 (x8 + 1)))) else none) else none) else (some (.inr ())))
    (hq : ∀ x, x ∈ xs → Ev (fun k => q k x) (p x)) (hl : xs.length ≤ 4611686018427387904) {F : Nat → List α → Option Int} (HF : ∀ k a0, F k a0 = (l0 k a0 (a0.length : Int) 0).bind fun y2 => match y2 with | .inl z3 => some z3 | .inr z3 => some (-1)) :
    ∃ r, Ev (fun k => F k xs) r ∧ ((r = -1 ∧ ∀ x ∈ xs, p x = false) ∨ ∃ j : Nat, r = j ∧ j < xs.length ∧ p (xs.getD j d) = true ∧ ∀ x ∈ xs.take j, p x = false) := by
  obtain ⟨r, h1, h2⟩ := idx_l0 H hq hl xs.length 0 (by omega) (fun x hx => by simp at hx)
  rcases h2 with ⟨rfl, h2⟩ | ⟨j, rfl, h2⟩
  · exact ⟨-1, Ev.congr (Ev.bind h1 (Ev.pure _)) (fun k => HF k xs), .inl ⟨rfl, h2⟩⟩
  · exact ⟨j, Ev.congr (Ev.bind h1 (Ev.pure _)) (fun k => HF k xs), .inr ⟨j, rfl, h2⟩⟩
theorem del_l0 {l0 : Nat → List α → Int → Int → Option (List α × Int)} (H : ∀ k x0 x5 x6, l0 (k + 1) x0 x5 x6 = bif (decide (x6 < (x0.length : Int))) then (bif decide (0 ≤ x6) then (bif decide (x6 < (x0.length : Int)) then ((q k (x0.getD ((x6 : Int).toNat) d)).bind fun r2 => bif (!r2) then (bif decide (0 ≤ x5) then (bif decide (x5 < (x0.length : Int)) then (l0 k (x0.set ((x5 : Int).toNat) (x0.getD ((x6 : Int).toNat) d)) (IntKind.wrap .i64 (x5 + 1)) (IntKind.wrap .i64 (x6 + 1))) else none) else none) else (l0 k x0 x5 (IntKind.wrap .i64 (x6 + 1)))) else none) else none) else (some (x0, x5)))
    (hq : ∀ x, x ∈ xs → Ev (fun k => q k x) (p x)) (hl : xs.length ≤ 4611686018427387904) : ∀ n j : Nat, j + n = xs.length → ∀ (ys : List α) (i : Nat), ys.length = xs.length → i ≤ j → ys.drop j = xs.drop j →
    ∃ zs, ∃ i' : Nat, Ev (fun k => l0 k ys i j) (zs, (i' : Int)) ∧ i' ≤ xs.length ∧ zs.length = xs.length ∧ zs.take i' = ys.take i ++ (xs.drop j).filter fun x => !p x
  | 0, j, h, ys, i, hy, hij, hd => by
    refine ⟨ys, i, Ev.step (fun k => by rw [H]) ?_, by omega, hy, ?_⟩
    · simp (disch := omega) only [cneg]
      exact Ev.pure _
    · rw [List.drop_eq_nil_of_le (by omega), List.filter_nil, List.append_nil]
  | n + 1, j, h, ys, i, hy, hij, hd => by
    have hj : j < xs.length := by omega
    have hj' : j < ys.length := by omega
    have hx : ys[j] = xs[j] := by
      have h0 := congrArg (·[0]?) hd
      simpa [hj, hj'] using h0
    have hd1 : ys.drop (j + 1) = xs.drop (j + 1) := by
      have := congrArg (List.drop 1) hd
      simpa [List.drop_drop] using this
    cases hp : p xs[j] with
    | true =>
      obtain ⟨zs, i', h1, h2, h3, h4⟩ := del_l0 H hq hl n (j + 1) (by omega) ys i hy (by omega) hd1
      refine ⟨zs, i', Ev.step (fun k => by rw [H]) ?_, h2, h3, ?_⟩
      · simp (disch := omega) only [cpos, Int.toNat_natCast, getDat hj', hx]
        refine Ev.bind (hq _ (List.getElem_mem hj)) ?_
        rw [hp]
        simp (disch := omega) only [Bool.not_true, cond_false, wrap_in]
        exact h1
      · rw [h4, List.drop_eq_getElem_cons hj, List.filter_cons_of_neg (by rw [hp]; decide)]
    | false =>
      obtain ⟨zs, i', h1, h2, h3, h4⟩ := del_l0 H hq hl n (j + 1) (by omega) (ys.set i xs[j]) (i + 1) (by simpa using hy) (by omega) (by rw [List.drop_set_of_lt (by omega)]; exact hd1)
      refine ⟨zs, i', Ev.step (fun k => by rw [H]) ?_, h2, h3, ?_⟩
      · simp (disch := omega) only [cpos, Int.toNat_natCast, getDat hj', hx]
        refine Ev.bind (hq _ (List.getElem_mem hj)) ?_
        rw [hp]
        simp (disch := omega) only [Bool.not_false, cond_true, cpos, Int.toNat_natCast, wrap_in]
        exact h1
      · rw [h4, List.drop_eq_getElem_cons hj, List.filter_cons_of_pos (by rw [hp]; decide), List.take_add_one, List.take_set_of_le (Nat.le_refl i)]
        have : (ys.set i xs[j])[i]? = some xs[j] := by rw [List.getElem?_set_self (by omega)]
        rw [this]
        simp
theorem delete_ev {l0 : Nat → List α → Int → Int → Option (List α × Int)} (H : ∀ k x0 x5 x6, l0 (k + 1) x0 x5 x6 = bif (decide (x6 < (x0.length : Int))) then (bif decide (0 ≤ x6) then (bif decide (x6 < (x0.length : Int)) then ((q k (x0.getD ((x6 : Int).toNat) d)).bind fun r2 => bif (!r2) then (bif decide (0 ≤ x5) then (bif decide (x5 < (x0.length : Int)) then (l0 k (x0.set ((x5 : Int).toNat) (x0.getD ((x6 : Int).toNat) d)) (IntKind.wrap .i64 (x5 + 1)) (IntKind.wrap .i64 (x6 + 1))) else none) else none) else (l0 k x0 x5 (IntKind.wrap .i64 (x6 + 1)))) else none) else none) else (some (x0, x5)))
    (hq : ∀ x, x ∈ xs → Ev (fun k => q k x) (p x)) (hl : xs.length ≤ 4611686018427387904) {I F : Nat → List α → Option _} {e : α}
    (hI : ∃ r : Int, Ev (fun k => I k xs) r ∧ ((r = -1 ∧ ∀ x ∈ xs, p x = false) ∨ ∃ j : Nat, r = j ∧ j < xs.length ∧ p (xs.getD j d) = true ∧ ∀ x ∈ xs.take j, p x = false))
    (HF : ∀ k a0, F k a0 = (I k a0).bind fun r1 => bif (r1 == (-1)) then (some a0) else ((l0 k a0 r1 (IntKind.wrap .i64 (r1 + 1))).bind fun y3 => bif decide (0 ≤ y3.2) then (bif decide (y3.2 ≤ (y3.1.length : Int)) then (bif decide (0 ≤ y3.2) then (bif decide (y3.2 ≤ ((y3.1.take ((y3.2 : Int).toNat) ++ List.replicate (y3.1.length - ((y3.2 : Int).toNat)) e).length : Int)) then (some ((y3.1.take ((y3.2 : Int).toNat) ++ List.replicate (y3.1.length - ((y3.2 : Int).toNat)) e).take (y3.2 : Int).toNat)) else none) else none) else none) else none)) :
    Ev (fun k => F k xs) (xs.filter fun x => !p x) := by
  obtain ⟨r, h1, h2⟩ := hI
  refine Ev.congr (?_ : Ev _ _) (fun k => HF k xs)
  refine Ev.bind h1 ?_
  rcases h2 with ⟨rfl, h2⟩ | ⟨j, rfl, hj, hp, h2⟩
  · have : (xs.filter fun x => !p x) = xs := List.filter_eq_self.2 fun x hx => by rw [h2 x hx]; rfl
    rw [this]
    exact Ev.pure _
  · obtain ⟨zs, i', h3, h4, h5, h6⟩ := del_l0 H hq hl (xs.length - (j + 1)) (j + 1) (by omega) xs j rfl (by omega) rfl
    rw [getDat hj] at hp
    have hz : zs.take i' = xs.filter fun x => !p x := by
      rw [h6]
      conv => rhs; rw [← List.take_append_drop j xs, List.filter_append, List.drop_eq_getElem_cons hj, List.filter_cons_of_neg (by rw [hp]; decide)]
      congr 1
      exact (List.filter_eq_self.2 fun x hx => by rw [h2 x hx]; rfl).symm
    simp (disch := omega) only [cne, wrap_in]
    refine Ev.bind h3 ?_
    have e1 : ((zs.take i' ++ List.replicate (zs.length - i') e)).length = zs.length := by simp; omega
    simp (disch := (try simp only [Int.toNat_natCast, e1]); omega) only [cpos, Int.toNat_natCast, e1]
    rw [List.take_append_of_le_length (by simp; omega), List.take_take, Nat.min_self, hz]
    exact Ev.pure _
end
end Go.Gx
end
section
/- Plain laws: keys, names, dates, entries, libraries: are they valid? -/
namespace Go.Proofs.YtolcacancfmmiaaGreatDoor
open Go.Gx
set_option linter.unusedVariables false
set_option linter.unusedSimpArgs false
theorem in_ev (a b c : Int) : spec_l1In.F a b c = some (decide (a ≥ b) && decide (a ≤ c)) := by
  unfold spec_l1In.F
  cases decide (a ≥ b) <;> rfl
theorem inside_ev (a b c : Int) : impl_inside.F a b c = some (decide (a ≥ b) && decide (a ≤ c)) := by
  unfold impl_inside.F
  cases decide (a ≥ b) <;> rfl
theorem and_step {f : Nat → Option Bool} {b c : Bool} (h : b = true → Ev f c) : Ev (fun k => bif (!b) then some false else f k) (b && c) := by
  cases b with
  | false => exact Ev.pure _
  | true => exact h rfl
theorem and_step' {f : Nat → Option Bool} {b c : Bool} (h : b = true → Ev f c) : Ev (fun k => bif b then f k else some false) (b && c) := by
  cases b with
  | false => exact Ev.pure _
  | true => exact h rfl
def lowc (b : Int) : Bool := decide (97 ≤ b) && decide (b ≤ 122)
def upc (b : Int) : Bool := decide (65 ≤ b) && decide (b ≤ 90)
def ltr (b : Int) : Bool := upc b || lowc b
def dig (b : Int) : Bool := decide (48 ≤ b) && decide (b ≤ 57)
theorem sLower (b : Int) : spec_l2Lower.F b = some (lowc b) := by
  unfold spec_l2Lower.F lowc
  simp only [ge_iff_le]
  cases decide (97 ≤ b) <;> rfl
theorem sUpper (b : Int) : spec_l2Upper.F b = some (upc b) := by
  unfold spec_l2Upper.F upc
  simp only [ge_iff_le]
  cases decide (65 ≤ b) <;> rfl
theorem sLetter (b : Int) : spec_l2Letter.F b = some (ltr b) := by
  unfold spec_l2Letter.F ltr
  rw [sUpper, sLower]
  cases upc b <;> rfl
theorem iLower (b : Int) : impl_isLower.F b = some (lowc b) := by
  unfold impl_isLower.F lowc
  simp only [ge_iff_le]
  cases decide (97 ≤ b) <;> rfl
theorem iUpper (b : Int) : impl_isUpper.F b = some (upc b) := by
  unfold impl_isUpper.F upc
  simp only [ge_iff_le]
  cases decide (65 ≤ b) <;> rfl
theorem iLetter (b : Int) : impl_isLetter.F b = some (ltr b) := by
  unfold impl_isLetter.F ltr
  rw [iUpper, iLower]
  cases upc b <;> rfl
theorem iDigit (b : Int) : impl_isDigit.F b = some (dig b) := by
  unfold impl_isDigit.F dig
  simp only [ge_iff_le]
  cases decide (48 ≤ b) <;> rfl
def ins (n : Nat) (lo hi : Int) : Bool := decide ((n : Int) ≥ lo) && decide ((n : Int) ≤ hi)
theorem ins_le {n : Nat} {lo hi : Int} (h : ins n lo hi = true) : lo ≤ n ∧ (n : Int) ≤ hi := by
  unfold ins at h
  simp only [Bool.and_eq_true, decide_eq_true_eq] at h
  exact h
def kb (s : ByteArray) (i : Nat) : Bool := lowc (bt s i) || dig (bt s i)
def keyB (s : ByteArray) : Bool := ins s.size 1 10 && (lowc (bt s 0) && (List.range' 0 s.size).all (kb s))
theorem specKey_l0 (s : ByteArray) (hs : s.size ≤ 10) : Ev (fun k => spec_l4Key.l0 k s ((0 : Nat) : Int)) (if (List.range' 0 s.size).all (kb s) = true then .inr () else .inl false) := by
  refine loop_all (f := fun k i => spec_l4Key.l0 k s i) (n := s.size) (fun i hi hp => ?_) (fun i r hi hp ih => ?_) ?_ s.size 0 (by omega)
  · refine Ev.step (fun k => by rw [spec_l4Key.l0]) ?_
    unfold kb at hp
    rw [Bool.or_eq_false_iff] at hp
    simp (disch := omega) only [cpos, Int.toNat_natCast]
    refine Ev.bind0 (sLower _) ?_
    rw [hp.1]
    have h2 := hp.2
    unfold dig at h2
    by_cases c : bt s i < 48
    · simp (disch := omega) only [cpos, Bool.not_false, cond_true]
      exact Ev.pure _
    · have c2 : bt s i > 57 := by
        rw [decide_eq_true (show 48 ≤ bt s i by omega), Bool.true_and, decide_eq_false_iff_not] at h2
        omega
      simp (disch := omega) only [cpos, cneg, Bool.not_false, cond_true]
      exact Ev.pure _
  · refine Ev.step (fun k => by rw [spec_l4Key.l0]) ?_
    simp (disch := omega) only [cpos, Int.toNat_natCast]
    refine Ev.bind0 (sLower _) ?_
    cases hl : lowc (bt s i) with
    | true =>
      simp (disch := omega) only [Bool.not_true, cond_false, wrap_in]
      exact ih
    | false =>
      unfold kb at hp
      rw [hl, Bool.false_or] at hp
      unfold dig at hp
      simp only [Bool.and_eq_true, decide_eq_true_eq] at hp
      simp (disch := omega) only [Bool.not_false, cond_true, cpos, cneg, wrap_in]
      exact ih
  · refine Ev.step (fun k => by rw [spec_l4Key.l0]) ?_
    simp (disch := omega) only [cneg]
    exact Ev.pure _
theorem isKey_l0 (s : ByteArray) (hs : s.size ≤ 10) : Ev (fun k => impl_isKey.l0 k s ((0 : Nat) : Int)) (if (List.range' 0 s.size).all (kb s) = true then .inr () else .inl false) := by
  refine loop_all (f := fun k i => impl_isKey.l0 k s i) (n := s.size) (fun i hi hp => ?_) (fun i r hi hp ih => ?_) ?_ s.size 0 (by omega)
  · refine Ev.step (fun k => by rw [impl_isKey.l0]) ?_
    unfold kb at hp
    rw [Bool.or_eq_false_iff] at hp
    simp (disch := omega) only [cpos, Int.toNat_natCast]
    refine Ev.bind0 (iLower _) ?_
    rw [hp.1]
    simp (disch := omega) only [Bool.not_false, cond_true, cpos]
    refine Ev.bind0 (iDigit _) ?_
    rw [hp.2]
    exact Ev.pure _
  · refine Ev.step (fun k => by rw [impl_isKey.l0]) ?_
    simp (disch := omega) only [cpos, Int.toNat_natCast]
    refine Ev.bind0 (iLower _) ?_
    cases hl : lowc (bt s i) with
    | true =>
      simp (disch := omega) only [Bool.not_true, cond_false, wrap_in]
      exact ih
    | false =>
      unfold kb at hp
      rw [hl, Bool.false_or] at hp
      simp (disch := omega) only [Bool.not_false, cond_true, cpos]
      refine Ev.bind0 (iDigit _) ?_
      rw [hp]
      simp (disch := omega) only [Bool.not_true, cond_false, wrap_in]
      exact ih
  · refine Ev.step (fun k => by rw [impl_isKey.l0]) ?_
    simp (disch := omega) only [cneg]
    exact Ev.pure _
theorem specKey_ev (s : ByteArray) : Ev (fun k => spec_l4Key.F k s) (keyB s) := by
  unfold spec_l4Key.F keyB
  refine Ev.bind0 (in_ev _ _ _) (and_step fun h => ?_)
  obtain ⟨h1, h2⟩ := ins_le h
  simp (disch := omega) only [cpos, show (0 : Int).toNat = 0 from rfl]
  refine Ev.bind0 (sLower _) (and_step fun _ => ?_)
  have := specKey_l0 s (by omega)
  cases ha : (List.range' 0 s.size).all (kb s) with
  | true => rw [ha] at this; exact Ev.bind this (Ev.pure _)
  | false => rw [ha] at this; exact Ev.bind this (Ev.pure _)
theorem isKey_ev (s : ByteArray) : Ev (fun k => impl_isKey.F k s) (keyB s) := by
  unfold impl_isKey.F keyB
  refine Ev.bind0 (inside_ev _ _ _) (and_step fun h => ?_)
  obtain ⟨h1, h2⟩ := ins_le h
  simp (disch := omega) only [cpos, show (0 : Int).toNat = 0 from rfl]
  refine Ev.bind0 (iLower _) (and_step fun _ => ?_)
  have := isKey_l0 s (by omega)
  cases ha : (List.range' 0 s.size).all (kb s) with
  | true => rw [ha] at this; exact Ev.bind this (Ev.pure _)
  | false => rw [ha] at this; exact Ev.bind this (Ev.pure _)
def wp (s : ByteArray) (i : Nat) : Bool := ltr (bt s i) || ((bt s i == 45 || bt s i == 39) && ltr (bt s (i - 1)))
def wordB (s : ByteArray) : Bool := ins s.size 1 12 && (ltr (bt s 0) && (ltr (bt s (s.size - 1)) && (List.range' 1 (s.size - 1)).all (wp s)))
theorem wcase {s : ByteArray} {i : Nat} (h : ltr (bt s i) = false) (h1 : bt s i ≠ 45) (h2 : bt s i ≠ 39) : wp s i = false := by
  unfold wp
  rw [h, show (bt s i == 45) = false by simpa using h1, show (bt s i == 39) = false by simpa using h2]; rfl
theorem wcase' {s : ByteArray} {i : Nat} (h : ltr (bt s i) = false) (h1 : bt s i = 45 ∨ bt s i = 39) : wp s i = ltr (bt s (i - 1)) := by
  unfold wp
  rw [h]
  rcases h1 with h1 | h1 <;> rw [h1] <;> simp
theorem specWord_l0 (s : ByteArray) (hs : s.size ≤ 12) : ∀ m i : Nat, i + m = s.size → 1 ≤ i → Ev (fun k => spec_l2Word.l0 k s i) (if (List.range' i m).all (wp s) = true then .inr () else .inl false)
  | 0, i, h, h1 => by
    refine Ev.step (fun k => by rw [spec_l2Word.l0]) ?_
    simp (disch := omega) only [cneg]
    exact Ev.pure _
  | m + 1, i, h, h1 => by
    have ih := specWord_l0 s hs m (i + 1) (by omega) (by omega)
    have et : ((i : Int) - 1).toNat = i - 1 := by omega
    refine Ev.step (fun k => by rw [spec_l2Word.l0]) ?_
    rw [List.range'_succ, List.all_cons]
    simp (disch := omega) only [cpos, Int.toNat_natCast]
    refine Ev.bind0 (sLetter _) ?_
    cases hl : ltr (bt s i) with
    | true =>
      have : wp s i = true := by unfold wp; rw [hl]; rfl
      rw [this]
      simp (disch := omega) only [Bool.not_true, cond_false, Bool.true_and, wrap_in]
      exact ih
    | false =>
      have fin : (bt s i = 45 ∨ bt s i = 39) → Ev (fun k => (spec_l2Letter.F (bt s (i - 1))).bind fun r5 => bif (!r5) then (some (.inl false)) else (spec_l2Word.l0 k s ((i : Int) + 1))) (if (wp s i && (List.range' (i + 1) m).all (wp s)) = true then .inr () else .inl false) := fun hh => by
        refine Ev.bind0 (sLetter _) ?_
        rw [wcase' hl hh]
        cases ltr (bt s (i - 1)) with
        | true => exact ih
        | false => exact Ev.pure _
      by_cases c1 : bt s i = 45
      · simp (disch := first | exact c1 | omega) only [Bool.not_false, cond_true, cpos, cbeq, wrap_in, et]
        exact fin (.inl c1)
      · by_cases c2 : bt s i = 39
        · simp (disch := first | exact c1 | exact c2 | omega) only [Bool.not_false, cond_true, cpos, cbne, cbeq, wrap_in, et]
          exact fin (.inr c2)
        · rw [wcase hl c1 c2]
          simp (disch := first | exact c1 | exact c2 | omega) only [Bool.not_false, cond_true, cpos, cbne]
          exact Ev.pure _
theorem isWord_l0 (s : ByteArray) (hs : s.size ≤ 12) : ∀ m i : Nat, i + m = s.size → 1 ≤ i → Ev (fun k => impl_isNameWord.l0 k s i) (if (List.range' i m).all (wp s) = true then .inr () else .inl false)
  | 0, i, h, h1 => by
    refine Ev.step (fun k => by rw [impl_isNameWord.l0]) ?_
    simp (disch := omega) only [cneg]
    exact Ev.pure _
  | m + 1, i, h, h1 => by
    have ih := isWord_l0 s hs m (i + 1) (by omega) (by omega)
    have et : ((i : Int) - 1).toNat = i - 1 := by omega
    refine Ev.step (fun k => by rw [impl_isNameWord.l0]) ?_
    rw [List.range'_succ, List.all_cons]
    simp (disch := omega) only [cpos, Int.toNat_natCast]
    refine Ev.bind0 (iLetter _) ?_
    cases hl : ltr (bt s i) with
    | true =>
      have : wp s i = true := by unfold wp; rw [hl]; rfl
      rw [this]
      simp (disch := omega) only [Bool.not_true, cond_false, Bool.true_and, wrap_in]
      exact ih
    | false =>
      have fin : (bt s i = 45 ∨ bt s i = 39) → Ev (fun k => (impl_isLetter.F (bt s (i - 1))).bind fun r5 => bif (!r5) then (some (.inl false)) else (impl_isNameWord.l0 k s ((i : Int) + 1))) (if (wp s i && (List.range' (i + 1) m).all (wp s)) = true then .inr () else .inl false) := fun hh => by
        refine Ev.bind0 (iLetter _) ?_
        rw [wcase' hl hh]
        cases ltr (bt s (i - 1)) with
        | true => exact ih
        | false => exact Ev.pure _
      by_cases c1 : bt s i = 45
      · simp (disch := first | exact c1 | omega) only [Bool.not_false, cond_true, cpos, cbeq, wrap_in, et]
        exact fin (.inl c1)
      · by_cases c2 : bt s i = 39
        · simp (disch := first | exact c1 | exact c2 | omega) only [Bool.not_false, cond_true, cpos, cbne, cbeq, wrap_in, et]
          exact fin (.inr c2)
        · rw [wcase hl c1 c2]
          simp (disch := first | exact c1 | exact c2 | omega) only [Bool.not_false, cond_true, cpos, cbne]
          exact Ev.pure _
theorem specWord_ev (s : ByteArray) : Ev (fun k => spec_l2Word.F k s) (wordB s) := by
  unfold spec_l2Word.F wordB
  refine Ev.bind0 (in_ev _ _ _) (and_step fun h => ?_)
  obtain ⟨h1, h2⟩ := ins_le h
  have et : ((s.size : Int) - 1).toNat = s.size - 1 := by omega
  simp (disch := omega) only [cpos, show (0 : Int).toNat = 0 from rfl, wrap_in, et]
  refine Ev.bind0 (sLetter _) (and_step fun _ => ?_)
  refine Ev.bind0 (sLetter _) (and_step fun _ => ?_)
  have := specWord_l0 s (by omega) (s.size - 1) 1 (by omega) (Nat.le_refl _)
  cases ha : (List.range' 1 (s.size - 1)).all (wp s) with
  | true => rw [ha] at this; exact Ev.bind this (Ev.pure _)
  | false => rw [ha] at this; exact Ev.bind this (Ev.pure _)
theorem isWord_ev (s : ByteArray) : Ev (fun k => impl_isNameWord.F k s) (wordB s) := by
  unfold impl_isNameWord.F wordB
  refine Ev.bind0 (inside_ev _ _ _) (and_step fun h => ?_)
  obtain ⟨h1, h2⟩ := ins_le h
  have et : ((s.size : Int) - 1).toNat = s.size - 1 := by omega
  simp (disch := omega) only [cpos, show (0 : Int).toNat = 0 from rfl, wrap_in, et]
  refine (Ev.bind0 (iLetter _) (and_step (c := ltr (bt s 0) && (List.range' 1 (s.size - 1)).all (wp s)) fun _ => ?_)).eq (Bool.and_left_comm _ _ _)
  refine Ev.bind0 (iLetter _) (and_step fun h0 => ?_)
  have := isWord_l0 s (by omega) (s.size - 1) 1 (by omega) (Nat.le_refl _)
  refine Ev.bind (a := if (List.range' 1 (s.size - 1)).all (wp s) = true then .inr () else .inl false) ?_ ?_
  · refine Ev.step (fun k => by rw [impl_isNameWord.l0]) ?_
    simp (disch := omega) only [cpos, show (0 : Int).toNat = 0 from rfl]
    refine Ev.bind0 (iLetter _) ?_
    rw [h0]
    simp (disch := omega) only [Bool.not_true, cond_false, wrap_in]
    exact this
  · cases (List.range' 1 (s.size - 1)).all (wp s) <;> exact Ev.pure _
def lowA (s : ByteArray) : Bool := (List.range' 0 s.size).all fun i => lowc (bt s i)
theorem lowA_word {s : ByteArray} (h : lowA s = true) : wordB s = ins s.size 1 12 := by
  unfold lowA at h
  rw [List.all_eq_true] at h
  have hl : ∀ i, i < s.size → ltr (bt s i) = true := fun i hi => by
    unfold ltr
    rw [h i (by rw [List.mem_range'_1]; omega), Bool.or_true]
  unfold wordB
  cases hi : ins s.size 1 12 with
  | false => rfl
  | true =>
    obtain ⟨h1, h2⟩ := ins_le hi
    rw [hl 0 (by omega), hl (s.size - 1) (by omega)]
    have : (List.range' 1 (s.size - 1)).all (wp s) = true := by
      rw [List.all_eq_true]
      intro i hi
      rw [List.mem_range'_1] at hi
      unfold wp
      rw [hl i (by omega)]; rfl
    rw [this]; rfl
def pw (s : ByteArray) : Bool := ins s.size 1 12 && lowA s
theorem pw_eq (s : ByteArray) : (wordB s && lowA s) = pw s := by
  unfold pw
  cases h : lowA s with
  | false => rw [Bool.and_false, Bool.and_false]
  | true => rw [lowA_word h]
def particleB (s : ByteArray) : Bool := decide (s.size = 0) || ((words s).all pw && decide ((words s).length ≤ 2))
theorem empty_eq (s : ByteArray) : beqS s ⟨#[]⟩ = decide (s.size = 0) := by
  rw [← Bool.not_not (b := beqS s ⟨#[]⟩), size_pos]
  by_cases hz : s.size = 0
  · simp [hz]
  · rw [decide_eq_true (by omega : 0 < s.size), decide_eq_false hz]; rfl
theorem specPart_l2 (W : List ByteArray) (i : Nat) (hi : i < W.length) (hs : W[i].size ≤ 1048576) : Ev (fun k => spec_l2Particle.l2 k W i ((0 : Nat) : Int)) (if lowA W[i] = true then .inr (W, (i : Int)) else .inl false) := by
  refine loop_all (f := fun k j => spec_l2Particle.l2 k W i j) (n := W[i].size) (p := fun j => lowc (bt W[i] j)) (fun j hj hp => ?_) (fun j r hj hp ih => ?_) ?_ W[i].size 0 (by omega)
  · refine Ev.step (fun k => by rw [spec_l2Particle.l2]) ?_
    simp (disch := omega) only [cpos, Int.toNat_natCast, getD_at hi]
    refine Ev.bind0 (sLower _) ?_
    rw [hp]
    exact Ev.pure _
  · refine Ev.step (fun k => by rw [spec_l2Particle.l2]) ?_
    simp (disch := omega) only [cpos, Int.toNat_natCast, getD_at hi]
    refine Ev.bind0 (sLower _) ?_
    rw [hp]
    simp (disch := omega) only [Bool.not_true, cond_false, wrap_in]
    exact ih
  · refine Ev.step (fun k => by rw [spec_l2Particle.l2]) ?_
    simp (disch := omega) only [cpos, cneg, Int.toNat_natCast, getD_at hi]
    exact Ev.pure _
theorem isPart_l2 (W : List ByteArray) (w : ByteArray) (n i : Int) (hs : w.size ≤ 1048576) : Ev (fun k => impl_isParticle.l2 k W w ((0 : Nat) : Int) n i) (if lowA w = true then .inr (W, n, i) else .inl false) := by
  refine loop_all (f := fun k j => impl_isParticle.l2 k W w j n i) (n := w.size) (p := fun j => lowc (bt w j)) (fun j hj hp => ?_) (fun j r hj hp ih => ?_) ?_ w.size 0 (by omega)
  · refine Ev.step (fun k => by rw [impl_isParticle.l2]) ?_
    simp (disch := omega) only [cpos, Int.toNat_natCast]
    refine Ev.bind0 (iLower _) ?_
    rw [hp]
    exact Ev.pure _
  · refine Ev.step (fun k => by rw [impl_isParticle.l2]) ?_
    simp (disch := omega) only [cpos, Int.toNat_natCast]
    refine Ev.bind0 (iLower _) ?_
    rw [hp]
    simp (disch := omega) only [Bool.not_true, cond_false, wrap_in]
    exact ih
  · refine Ev.step (fun k => by rw [impl_isParticle.l2]) ?_
    simp (disch := omega) only [cneg]
    exact Ev.pure _
theorem specPart_l0 (W : List ByteArray) (hl : W.length ≤ 1048577) (hW : ∀ x ∈ W, x.size ≤ 1048576) : Ev (fun k => spec_l2Particle.l0 k W ((0 : Nat) : Int)) (if (List.range' 0 W.length).all (fun i => pw (W.getD i ⟨#[]⟩)) = true then .inr W else .inl false) := by
  refine loop_all (f := fun k j => spec_l2Particle.l0 k W j) (n := W.length) (p := fun i => pw (W.getD i ⟨#[]⟩)) (fun j hj hp => ?_) (fun j r hj hp ih => ?_) ?_ W.length 0 (by omega)
  · rw [getD_at hj, ← pw_eq] at hp
    refine Ev.step (fun k => by rw [spec_l2Particle.l0]) ?_
    simp (disch := omega) only [cpos, Int.toNat_natCast, getD_at hj]
    refine Ev.bind (specWord_ev _) ?_
    cases hw : wordB W[j] with
    | false => exact Ev.pure _
    | true =>
      rw [hw, Bool.true_and] at hp
      have := specPart_l2 W j hj (hW _ (List.getElem_mem hj))
      rw [hp] at this
      exact Ev.bind this (Ev.pure _)
  · rw [getD_at hj, ← pw_eq, Bool.and_eq_true] at hp
    refine Ev.step (fun k => by rw [spec_l2Particle.l0]) ?_
    simp (disch := omega) only [cpos, Int.toNat_natCast, getD_at hj]
    refine Ev.bind (specWord_ev _) ?_
    rw [hp.1]
    have := specPart_l2 W j hj (hW _ (List.getElem_mem hj))
    rw [hp.2] at this
    refine Ev.bind (a := .inr (W, (j : Int))) this ?_
    simp (disch := omega) only [wrap_in]
    exact ih
  · refine Ev.step (fun k => by rw [spec_l2Particle.l0]) ?_
    simp (disch := omega) only [cneg]
    exact Ev.pure _
theorem isPart_l0 (W : List ByteArray) (hl : W.length ≤ 1048577) (hW : ∀ x ∈ W, x.size ≤ 1048576) : Ev (fun k => impl_isParticle.l0 k W W.length ((0 : Nat) : Int)) (if (List.range' 0 W.length).all (fun i => pw (W.getD i ⟨#[]⟩)) = true then .inr W else .inl false) := by
  refine loop_all (f := fun k j => impl_isParticle.l0 k W W.length j) (n := W.length) (p := fun i => pw (W.getD i ⟨#[]⟩)) (fun j hj hp => ?_) (fun j r hj hp ih => ?_) ?_ W.length 0 (by omega)
  · rw [getD_at hj] at hp
    unfold pw at hp
    refine Ev.step (fun k => by rw [impl_isParticle.l0]) ?_
    simp (disch := omega) only [cpos, Int.toNat_natCast, getD_at hj]
    refine Ev.bind0 (inside_ev _ _ _) ?_
    cases hw : ins W[j].size 1 12 with
    | false =>
      unfold ins at hw
      rw [hw]
      exact Ev.pure _
    | true =>
      rw [hw, Bool.true_and] at hp
      unfold ins at hw
      rw [hw]
      have := isPart_l2 W W[j] W.length j (hW _ (List.getElem_mem hj))
      rw [hp] at this
      exact Ev.bind this (Ev.pure _)
  · rw [getD_at hj] at hp
    unfold pw at hp
    rw [Bool.and_eq_true] at hp
    obtain ⟨hp1, hp2⟩ := hp
    unfold ins at hp1
    refine Ev.step (fun k => by rw [impl_isParticle.l0]) ?_
    simp (disch := omega) only [cpos, Int.toNat_natCast, getD_at hj]
    refine Ev.bind0 (inside_ev _ _ _) ?_
    rw [hp1]
    have := isPart_l2 W W[j] W.length j (hW _ (List.getElem_mem hj))
    rw [hp2] at this
    refine Ev.bind (a := .inr (W, (W.length : Int), (j : Int))) this ?_
    simp (disch := omega) only [wrap_in]
    exact ih
  · refine Ev.step (fun k => by rw [impl_isParticle.l0]) ?_
    simp (disch := omega) only [cneg]
    exact Ev.pure _
theorem specPart_ev (s : ByteArray) (hs : s.size ≤ 1048576) : Ev (fun k => spec_l2Particle.F k s) (particleB s) := by
  unfold spec_l2Particle.F particleB
  rw [empty_eq]
  cases decide (s.size = 0) with
  | true => exact Ev.pure _
  | false =>
    refine Ev.bind (specSplit_ev s hs) ?_
    have := specPart_l0 (words s) (by have := (words_len s).2; omega) (fun x hx => by have := words_small _ _ x hx; omega)
    rw [range_all (words s) ⟨#[]⟩ pw] at this
    rw [Bool.false_or]
    cases ha : (words s).all pw with
    | true =>
      rw [ha] at this
      refine Ev.bind this ((Ev.pure _).eq ?_)
      rw [Bool.true_and]; exact decide_eq_decide.2 (by omega)
    | false => rw [ha] at this; exact Ev.bind this (Ev.pure _)
theorem isPart_ev (s : ByteArray) (hs : s.size ≤ 1048576) : Ev (fun k => impl_isParticle.F k s) (particleB s) := by
  unfold impl_isParticle.F particleB
  rw [empty_eq]
  cases decide (s.size = 0) with
  | true => exact Ev.pure _
  | false =>
    refine Ev.bind0 (split_ev s hs) ?_
    have := isPart_l0 (words s) (by have := (words_len s).2; omega) (fun x hx => by have := words_small _ _ x hx; omega)
    rw [range_all (words s) ⟨#[]⟩ pw] at this
    rw [Bool.false_or]
    cases ha : (words s).all pw with
    | true =>
      rw [ha] at this
      refine Ev.bind this ((Ev.pure _).eq ?_)
      rw [Bool.true_and]; exact decide_eq_decide.2 (by omega)
    | false => rw [ha] at this; exact Ev.bind this (Ev.pure _)
def gw (s : ByteArray) : Bool := wordB s && upc (bt s 0)
theorem word_size {s : ByteArray} (h : wordB s = true) : 1 ≤ s.size := by
  unfold wordB at h
  rw [Bool.and_eq_true] at h
  have := (ins_le h.1).1
  omega
theorem isGreat_ev (s : ByteArray) : Ev (fun k => impl_isGreatWord.F k s) (gw s) := by
  unfold impl_isGreatWord.F gw
  refine Ev.bind (isWord_ev s) (and_step' fun h => ?_)
  have := word_size h
  simp (disch := omega) only [cpos, show (0 : Int).toNat = 0 from rfl]
  exact Ev.bind0 (iUpper _) (Ev.pure _)
def suffB (s : ByteArray) : Bool := decide (s.size = 0) || wordB s
def nameB (n : Name) : Bool := n.given.all gw && (decide (n.given.length ≤ 3) && (particleB n.particle && (gw n.family && suffB n.suffix)))
theorem specGood_l0 (n : Name) (hn : n.given.length ≤ 1048576) : Ev (fun k => spec_l2Good.l0 k n ((0 : Nat) : Int)) (if (List.range' 0 n.given.length).all (fun i => gw (n.given.getD i ⟨#[]⟩)) = true then .inr n else .inl false) := by
  refine loop_all (f := fun k j => spec_l2Good.l0 k n j) (n := n.given.length) (p := fun i => gw (n.given.getD i ⟨#[]⟩)) (fun j hj hp => ?_) (fun j r hj hp ih => ?_) ?_ n.given.length 0 (by omega)
  · rw [getD_at hj] at hp
    unfold gw at hp
    refine Ev.step (fun k => by rw [spec_l2Good.l0]) ?_
    simp (disch := omega) only [cpos, Int.toNat_natCast, getD_at hj]
    refine Ev.bind (specWord_ev _) ?_
    cases hw : wordB n.given[j] with
    | false => exact Ev.pure _
    | true =>
      rw [hw, Bool.true_and] at hp
      have := word_size hw
      simp (disch := omega) only [cpos, show (0 : Int).toNat = 0 from rfl, Bool.not_true, cond_false]
      refine Ev.bind0 (sUpper _) ?_
      rw [hp]
      exact Ev.pure _
  · rw [getD_at hj] at hp
    unfold gw at hp
    rw [Bool.and_eq_true] at hp
    have := word_size hp.1
    refine Ev.step (fun k => by rw [spec_l2Good.l0]) ?_
    simp (disch := omega) only [cpos, Int.toNat_natCast, getD_at hj]
    refine Ev.bind (specWord_ev _) ?_
    rw [hp.1]
    simp (disch := omega) only [cpos, show (0 : Int).toNat = 0 from rfl, Bool.not_true, cond_false]
    refine Ev.bind0 (sUpper _) ?_
    rw [hp.2]
    simp (disch := omega) only [Bool.not_true, cond_false, wrap_in]
    exact ih
  · refine Ev.step (fun k => by rw [spec_l2Good.l0]) ?_
    simp (disch := omega) only [cneg]
    exact Ev.pure _
theorem specName_ev (n : Name) (hs : smallN n) : Ev (fun k => spec_l2Good.F k n) (nameB n) := by
  have hg : n.given.length ≤ 1048576 := by unfold smallN totN at hs; omega
  have hp : n.particle.size ≤ 1048576 := by unfold smallN totN at hs; omega
  unfold spec_l2Good.F nameB
  have := specGood_l0 n hg
  rw [range_all n.given ⟨#[]⟩ gw] at this
  cases ha : n.given.all gw with
  | false => rw [ha] at this; exact Ev.bind this (Ev.pure _)
  | true =>
    rw [ha] at this
    refine Ev.bind (a := .inr n) this ?_
    dsimp only
    rw [Bool.true_and, show decide (n.given.length ≤ 3) = decide ((n.given.length : Int) ≤ 3) from decide_eq_decide.2 (by omega)]
    refine and_step' fun _ => ?_
    refine Ev.bind (specPart_ev _ hp) (and_step' fun _ => ?_)
    unfold gw
    rw [Bool.and_assoc]
    refine Ev.bind (specWord_ev _) (and_step' fun h => ?_)
    have := word_size h
    simp (disch := omega) only [cpos, show (0 : Int).toNat = 0 from rfl]
    refine Ev.bind0 (sUpper _) (and_step' fun _ => ?_)
    unfold suffB
    rw [empty_eq]
    cases decide (n.suffix.size = 0) with
    | true => exact Ev.pure _
    | false => exact Ev.bind (specWord_ev _) (Ev.pure _)
theorem isName_ev (n : Name) (hs : smallN n) : Ev (fun k => impl_IsValidName.F k n) (nameB n) := by
  have hg : n.given.length ≤ 1048576 := by unfold smallN totN at hs; omega
  have hp : n.particle.size ≤ 1048576 := by unfold smallN totN at hs; omega
  unfold impl_IsValidName.F nameB
  by_cases c : n.given.length ≤ 3
  · simp (disch := omega) only [cneg, dpos, Bool.true_and]
    have hq : ∀ x, x ∈ n.given → Ev (fun k => impl_IsValidName_1.F k x) (!gw x) := fun x _ => by
      unfold impl_IsValidName_1.F
      exact Ev.bind (isGreat_ev x) (Ev.pure _)
    obtain ⟨r, h1, h2⟩ := idx_ev (d := (⟨#[]⟩ : ByteArray)) (p := fun x => !gw x) (q := impl_IsValidName_1.F) (xs := n.given) (l0 := slices_IndexFunc_string_f141.l0) (fun k x0 x7 x8 => by rw [slices_IndexFunc_string_f141.l0]) hq (by omega) (F := slices_IndexFunc_string_f141.F) (fun k a0 => rfl)
    refine Ev.bind (a := !n.given.all gw) ?_ ?_
    · unfold slices_ContainsFunc_string_f141.F
      refine Ev.bind h1 ((Ev.pure _).eq ?_)
      rcases h2 with ⟨rfl, h2⟩ | ⟨j, rfl, hj, hp, _⟩
      · have : n.given.all gw = true := List.all_eq_true.2 fun x hx => by have := h2 x hx; simpa using this
        rw [this]; rfl
      · have : n.given.all gw = false := by
          rw [List.all_eq_false]
          refine ⟨n.given[j], List.getElem_mem hj, ?_⟩
          rw [getD_at hj] at hp
          simpa using hp
        rw [this, decide_eq_true (by omega)]; rfl
    · cases n.given.all gw with
      | false => exact Ev.pure _
      | true =>
        rw [Bool.true_and]
        refine Ev.bind (isPart_ev _ hp) (and_step' fun _ => ?_)
        refine Ev.bind (isGreat_ev _) (and_step' fun _ => ?_)
        unfold suffB
        rw [empty_eq]
        cases decide (n.suffix.size = 0) with
        | true => exact Ev.pure _
        | false => exact Ev.bind (isWord_ev _) (Ev.pure _)
  · simp (disch := omega) only [cpos, dneg, Bool.false_and, Bool.and_false]
    exact Ev.pure _
def namesB (l : List Name) : Bool := l.all nameB && decide (l.length ≤ 4)
theorem specList_l0 (l : List Name) (hl : l.length ≤ 1048576) (hs : ∀ n ∈ l, smallN n) : ∀ m i : Nat, i + m = l.length → ∃ r, Ev (fun k => spec_l2List.l0 k l i) r ∧ (r = .inl false ∨ r = .inr l) ∧ (l.length ≤ 4 → r = if (l.drop i).all nameB = true then .inr l else .inl false)
  | 0, i, h => by
    refine ⟨.inr l, Ev.step (fun k => by rw [spec_l2List.l0]) ?_, .inr rfl, fun _ => by rw [List.drop_eq_nil_of_le (by omega)]; rfl⟩
    simp (disch := omega) only [cneg]
    exact Ev.pure _
  | m + 1, i, h => by
    have hi : i < l.length := by omega
    by_cases c4 : (i : Int) ≤ 4
    · cases hn : nameB l[i] with
      | false =>
        refine ⟨.inl false, Ev.step (fun k => by rw [spec_l2List.l0]) ?_, .inl rfl, fun _ => by rw [List.drop_eq_getElem_cons hi, List.all_cons, hn]; rfl⟩
        simp (disch := omega) only [cpos, Int.toNat_natCast, getD_at hi]
        refine Ev.bind (specName_ev _ (hs _ (List.getElem_mem hi))) ?_
        rw [hn]
        exact Ev.pure _
      | true =>
        obtain ⟨r, h1, h2, h3⟩ := specList_l0 l hl hs m (i + 1) (by omega)
        refine ⟨r, Ev.step (fun k => by rw [spec_l2List.l0]) ?_, h2, fun h4 => by rw [h3 h4, List.drop_eq_getElem_cons hi, List.all_cons, hn, Bool.true_and]⟩
        simp (disch := omega) only [cpos, Int.toNat_natCast, getD_at hi]
        refine Ev.bind (specName_ev _ (hs _ (List.getElem_mem hi))) ?_
        rw [hn]
        simp (disch := omega) only [Bool.not_true, cond_false, wrap_in]
        exact h1
    · refine ⟨.inr l, Ev.step (fun k => by rw [spec_l2List.l0]) ?_, .inr rfl, fun h4 => by omega⟩
      simp (disch := omega) only [cpos, cneg]
      exact Ev.pure _
theorem specNames_ev (l : List Name) (hl : totNs l ≤ 1048576) : Ev (fun k => spec_l2List.F k l) (namesB l) := by
  unfold spec_l2List.F namesB
  obtain ⟨r, h1, h2, h3⟩ := specList_l0 l (smallNs_len hl) (fun n hn => smallNs_at hl hn) l.length 0 (by omega)
  rw [List.drop_zero] at h3
  have e : decide (l.length ≤ 4) = decide ((l.length : Int) ≤ 4) := decide_eq_decide.2 (by omega)
  rw [e]
  by_cases c : l.length ≤ 4
  · rw [h3 c] at h1
    cases ha : l.all nameB with
    | true => rw [ha] at h1; exact Ev.bind h1 (Ev.pure _)
    | false => rw [ha] at h1; exact Ev.bind h1 (Ev.pure _)
  · rw [decide_eq_false (show ¬ (l.length : Int) ≤ 4 by omega), Bool.and_false]
    rcases h2 with rfl | rfl
    · exact Ev.bind h1 (Ev.pure _)
    · exact Ev.bind h1 ((Ev.pure _).eq (decide_eq_false (by omega)))
theorem areNames_ev (l : List Name) (hl : totNs l ≤ 1048576) : Ev (fun k => impl_areNames.F k l) (namesB l) := by
  have hlen := smallNs_len hl
  unfold impl_areNames.F namesB
  by_cases c : l.length ≤ 4
  · simp (disch := omega) only [cpos, dpos, Bool.and_true]
    have hq : ∀ x, x ∈ l → Ev (fun k => impl_areNames_1.F k x) (!nameB x) := fun x hx => by
      unfold impl_areNames_1.F
      exact Ev.bind (isName_ev x (smallNs_at hl hx)) (Ev.pure _)
    obtain ⟨r, h1, h2⟩ := idx_ev (d := (dflt .name : Name)) (p := fun x => !nameB x) (q := impl_areNames_1.F) (xs := l) (l0 := slices_IndexFunc_Name_f120.l0) (fun k x0 x7 x8 => by rw [slices_IndexFunc_Name_f120.l0]) hq (by omega) (F := slices_IndexFunc_Name_f120.F) (fun k a0 => rfl)
    refine Ev.bind (a := !l.all nameB) ?_ ?_
    · unfold slices_ContainsFunc_Name_f120.F
      refine Ev.bind h1 ((Ev.pure _).eq ?_)
      rcases h2 with ⟨rfl, h2⟩ | ⟨j, rfl, hj, hp, _⟩
      · have : l.all nameB = true := List.all_eq_true.2 fun x hx => by have := h2 x hx; simpa using this
        rw [this]; rfl
      · have : l.all nameB = false := by
          rw [List.all_eq_false]
          refine ⟨l[j], List.getElem_mem hj, ?_⟩
          rw [getD_at hj] at hp
          simpa using hp
        rw [this, decide_eq_true (by omega)]; rfl
    · rw [Bool.not_not]; exact Ev.pure _
  · simp (disch := omega) only [cneg, dneg, Bool.and_false]
    exact Ev.pure _
theorem days_eq (y m : Int) (hy : 0 ≤ y) : ∃ r, spec_l3Days.F y m = some r ∧ impl_daysInMonth.F y m = some r := by
  have e1 : Int.tmod y 4 = y % 4 := Int.tmod_eq_emod_of_nonneg hy
  have e2 : Int.tmod y 100 = y % 100 := Int.tmod_eq_emod_of_nonneg hy
  have e3 : Int.tmod y 400 = y % 400 := Int.tmod_eq_emod_of_nonneg hy
  have z1 : ((4 : Nat) == 0) = false := rfl
  have z2 : ((100 : Nat) == 0) = false := rfl
  have z3 : ((400 : Nat) == 0) = false := rfl
  unfold spec_l3Days.F impl_daysInMonth.F
  rw [e1, e2, e3]
  by_cases c2 : m = 2
  · by_cases d1 : y % 4 = 0
    · by_cases d2 : y % 100 = 0
      · by_cases d3 : y % 400 = 0
        · exact ⟨29, by simp (disch := first | assumption | omega) only [ceq, cbeq, z1, z2, z3, cond_false], by simp (disch := first | assumption | omega) only [ceq, cbeq, z1, z2, z3, cond_false]⟩
        · exact ⟨28, by simp (disch := first | assumption | omega) only [ceq, cne, cbeq, z1, z2, z3, cond_false], by simp (disch := first | assumption | omega) only [ceq, cne, cbeq, z1, z2, z3, cond_false]⟩
      · exact ⟨29, by simp (disch := first | assumption | omega) only [ceq, cbne, z1, z2, z3, cond_false], by simp (disch := first | assumption | omega) only [ceq, cbne, z1, z2, z3, cond_false]⟩
    · have d3 : y % 400 ≠ 0 := by omega
      exact ⟨28, by simp (disch := first | assumption | omega) only [ceq, cne, z1, z2, z3, cond_false], by simp (disch := first | assumption | omega) only [ceq, cne, z1, z2, z3, cond_false]⟩
  · by_cases a : m = 4
    · exact ⟨30, by simp (disch := first | assumption | omega) only [ceq, cne], by simp (disch := first | assumption | omega) only [ceq, cne]⟩
    · by_cases b : m = 6
      · exact ⟨30, by simp (disch := first | assumption | omega) only [ceq, cne], by simp (disch := first | assumption | omega) only [ceq, cne]⟩
      · by_cases c : m = 9
        · exact ⟨30, by simp (disch := first | assumption | omega) only [ceq, cne], by simp (disch := first | assumption | omega) only [ceq, cne]⟩
        · by_cases d : m = 11
          · exact ⟨30, by simp (disch := first | assumption | omega) only [ceq, cne], by simp (disch := first | assumption | omega) only [ceq, cne]⟩
          · exact ⟨31, by simp (disch := first | assumption | omega) only [cne], by simp (disch := first | assumption | omega) only [cne]⟩
theorem date_eq2 (d : Date) : ∃ b, spec_l3Good.F d = some b ∧ impl_IsValidDate.F d = some b := by
  unfold spec_l3Good.F impl_IsValidDate.F
  cases (d.y == 0 && (d.m == 0 && (d.d == 0 && d.c == false))) with
  | true => exact ⟨true, rfl, rfl⟩
  | false =>
    rw [in_ev, inside_ev]
    simp only [Option.bind_some, cond_false]
    cases h1 : (decide (d.y ≥ 1) && decide (d.y ≤ 2999)) with
    | false => exact ⟨false, rfl, rfl⟩
    | true =>
      have hy : 0 ≤ d.y := by
        simp only [Bool.and_eq_true, decide_eq_true_eq] at h1; omega
      rw [in_ev, inside_ev]
      simp only [Option.bind_some, Bool.not_true, cond_false]
      cases h2 : (decide (d.m ≥ 0) && decide (d.m ≤ 12)) with
      | false => exact ⟨false, rfl, rfl⟩
      | true =>
        obtain ⟨r, r1, r2⟩ := days_eq d.y d.m hy
        rw [r1, r2]
        simp only [Option.bind_some, Bool.not_true, cond_false, in_ev, inside_ev]
        cases d.c with
        | true =>
          by_cases c : d.m = 0
          · exact ⟨d.d == 0, by simp (disch := first | assumption | omega) only [cond_true, ceq], by simp (disch := first | assumption | omega) only [cond_true, ceq, cbeq]⟩
          · exact ⟨false, by simp (disch := first | assumption | omega) only [cond_true, cne], by simp (disch := first | assumption | omega) only [cond_true, cbne]⟩
        | false => exact ⟨bif d.m == 0 then (d.d == 0) else (decide (d.d ≥ 0) && decide (d.d ≤ r)), by cases (d.m == 0) <;> rfl, by cases (d.m == 0) <;> rfl⟩
open Classical in
noncomputable def dateB (d : Date) : Bool := (date_eq2 d).choose
theorem specDate_ev (d : Date) : spec_l3Good.F d = some (dateB d) := (date_eq2 d).choose_spec.1
theorem isDate_ev (d : Date) : impl_IsValidDate.F d = some (dateB d) := (date_eq2 d).choose_spec.2
def insI (n lo hi : Int) : Bool := decide (n ≥ lo) && decide (n ≤ hi)
def crossB (e : Entry) : Bool := decide (e.cross.size = 0) || (keyB e.cross && !beqS e.cross e.key)
noncomputable def entryB (e : Entry) : Bool := keyB e.key && (insI e.kind 1 4 && (namesB e.authors && (namesB e.editors && (textB e.title && (textB e.container && (textB e.publisher && (textB e.pages && (dateB e.date && (insI e.volume 0 9999 && crossB e)))))))))
theorem specEntry_ev (e : Entry) (hs : smallE e) : Ev (fun k => spec_l4Entry.F k e) (entryB e) := by
  unfold spec_l4Entry.F entryB
  refine Ev.bind (specKey_ev _) (and_step fun _ => ?_)
  refine Ev.bind0 (in_ev _ _ _) (and_step fun _ => ?_)
  refine Ev.bind (specNames_ev _ (smallE_a hs)) (and_step fun _ => ?_)
  refine Ev.bind (specNames_ev _ (smallE_e hs)) (and_step fun _ => ?_)
  refine Ev.bind (specText_ev _) (and_step fun _ => ?_)
  refine Ev.bind (specText_ev _) (and_step fun _ => ?_)
  refine Ev.bind (specText_ev _) (and_step fun _ => ?_)
  refine Ev.bind (specText_ev _) (and_step fun _ => ?_)
  refine Ev.bind0 (specDate_ev _) (and_step' fun _ => ?_)
  refine Ev.bind0 (in_ev _ _ _) (and_step' fun _ => ?_)
  unfold crossB
  rw [empty_eq]
  cases decide (e.cross.size = 0) with
  | true => exact Ev.pure _
  | false =>
    refine (Ev.bind (specKey_ev _) (and_step' fun _ => ?_)).eq (Bool.false_or _).symm
    exact Ev.pure _
theorem isEntry_ev (e : Entry) (hs : smallE e) : Ev (fun k => impl_IsValidEntry.F k e) (entryB e) := by
  have key : Ev (fun k => impl_IsValidEntry.F k e) (keyB e.key && (insI e.kind 1 4 && (namesB e.authors && (namesB e.editors && (dateB e.date && (insI e.volume 0 9999 && (textB e.title && (textB e.container && (textB e.publisher && (textB e.pages && crossB e)))))))))) := by
    unfold impl_IsValidEntry.F
    refine Ev.bind (isKey_ev _) (and_step fun _ => ?_)
    refine Ev.bind0 (a := insI e.kind 1 4) ?_ (and_step fun _ => ?_)
    · unfold impl_isKind.F; rw [inside_ev]; rfl
    refine Ev.bind (areNames_ev _ (smallE_a hs)) (and_step fun _ => ?_)
    refine Ev.bind (areNames_ev _ (smallE_e hs)) (and_step fun _ => ?_)
    refine Ev.bind0 (isDate_ev _) (and_step fun _ => ?_)
    refine Ev.bind0 (inside_ev _ _ _) (and_step fun _ => ?_)
    refine Ev.bind (isText_ev _) (and_step' fun _ => ?_)
    refine Ev.bind (isText_ev _) (and_step' fun _ => ?_)
    refine Ev.bind (isText_ev _) (and_step' fun _ => ?_)
    refine Ev.bind (isText_ev _) (and_step' fun _ => ?_)
    unfold crossB
    rw [empty_eq]
    cases decide (e.cross.size = 0) with
    | true => exact Ev.pure _
    | false =>
      refine (Ev.bind (isKey_ev _) (and_step' fun _ => ?_)).eq (Bool.false_or _).symm
      exact Ev.pure _
  refine key.eq ?_
  unfold entryB
  ac_rfl
noncomputable def okL (l : Library) (i : Nat) : Bool := entryB (l.entries.getD i (dflt .entry)) && (decide (i = 0) || ltS (l.entries.getD (i - 1) (dflt .entry)).key (l.entries.getD i (dflt .entry)).key)
noncomputable def libB (l : Library) : Bool := (List.range' 0 l.entries.length).all (okL l) && decide (l.entries.length ≤ 8)
theorem specGoodL_l0 (l : Library) (hs : smallL l) : Ev (fun k => spec_l4Good.l0 k l ((0 : Nat) : Int)) (if (List.range' 0 l.entries.length).all (okL l) = true then .inr () else .inl false) := by
  have hlen := smallL_len hs
  refine loop_all (f := fun k i => spec_l4Good.l0 k l i) (n := l.entries.length) (fun i hi hp => ?_) (fun i r hi hp ih => ?_) ?_ l.entries.length 0 (by omega)
  · unfold okL at hp
    refine Ev.step (fun k => by rw [spec_l4Good.l0]) ?_
    have hsm : smallE (l.entries.getD i (dflt .entry)) := by rw [getD_at hi]; exact smallL_at hs (List.getElem_mem hi)
    simp (disch := omega) only [cpos, Int.toNat_natCast]
    refine Ev.bind (specEntry_ev _ hsm) ?_
    cases he : entryB (l.entries.getD i (dflt .entry)) with
    | false => exact Ev.pure _
    | true =>
      rw [he, Bool.true_and, Bool.or_eq_false_iff, decide_eq_false_iff_not] at hp
      have et : ((i : Int) - 1).toNat = i - 1 := by omega
      simp (disch := omega) only [Bool.not_true, cond_false, cpos, wrap_in, et, hp.2, Bool.not_false, cond_true]
      exact Ev.pure _
  · unfold okL at hp
    rw [Bool.and_eq_true] at hp
    refine Ev.step (fun k => by rw [spec_l4Good.l0]) ?_
    have hsm : smallE (l.entries.getD i (dflt .entry)) := by rw [getD_at hi]; exact smallL_at hs (List.getElem_mem hi)
    simp (disch := omega) only [cpos, Int.toNat_natCast]
    refine Ev.bind (specEntry_ev _ hsm) ?_
    rw [hp.1]
    by_cases c : i = 0
    · simp (disch := omega) only [Bool.not_true, cond_false, cneg, wrap_in]
      exact ih
    · have et : ((i : Int) - 1).toNat = i - 1 := by omega
      have h2 := hp.2
      rw [decide_eq_false c, Bool.false_or] at h2
      simp (disch := omega) only [Bool.not_true, cond_false, cpos, wrap_in, et, h2]
      exact ih
  · refine Ev.step (fun k => by rw [spec_l4Good.l0]) ?_
    simp (disch := omega) only [cneg]
    exact Ev.pure _
theorem isLib_l0 (l : Library) (hs : smallL l) : Ev (fun k => impl_IsValidLibrary.l0 k l l.entries l.entries.length ((0 : Nat) : Int)) (if (List.range' 0 l.entries.length).all (okL l) = true then .inr l else .inl false) := by
  have hlen := smallL_len hs
  refine loop_all (f := fun k i => impl_IsValidLibrary.l0 k l l.entries l.entries.length i) (n := l.entries.length) (fun i hi hp => ?_) (fun i r hi hp ih => ?_) ?_ l.entries.length 0 (by omega)
  · unfold okL at hp
    refine Ev.step (fun k => by rw [impl_IsValidLibrary.l0]) ?_
    have hsm : smallE (l.entries.getD i (dflt .entry)) := by rw [getD_at hi]; exact smallL_at hs (List.getElem_mem hi)
    simp (disch := omega) only [cpos, Int.toNat_natCast]
    refine Ev.bind (isEntry_ev _ hsm) ?_
    cases he : entryB (l.entries.getD i (dflt .entry)) with
    | false => exact Ev.pure _
    | true =>
      rw [he, Bool.true_and, Bool.or_eq_false_iff, decide_eq_false_iff_not] at hp
      have et : ((i : Int) - 1).toNat = i - 1 := by omega
      simp (disch := omega) only [Bool.not_true, cond_false, cpos, wrap_in, et, hp.2, Bool.not_false, cond_true]
      exact Ev.pure _
  · unfold okL at hp
    rw [Bool.and_eq_true] at hp
    refine Ev.step (fun k => by rw [impl_IsValidLibrary.l0]) ?_
    have hsm : smallE (l.entries.getD i (dflt .entry)) := by rw [getD_at hi]; exact smallL_at hs (List.getElem_mem hi)
    simp (disch := omega) only [cpos, Int.toNat_natCast]
    refine Ev.bind (isEntry_ev _ hsm) ?_
    rw [hp.1]
    by_cases c : i = 0
    · simp (disch := omega) only [Bool.not_true, cond_false, cneg, wrap_in]
      exact ih
    · have et : ((i : Int) - 1).toNat = i - 1 := by omega
      have h2 := hp.2
      rw [decide_eq_false c, Bool.false_or] at h2
      simp (disch := omega) only [Bool.not_true, cond_false, cpos, wrap_in, et, h2]
      exact ih
  · refine Ev.step (fun k => by rw [impl_IsValidLibrary.l0]) ?_
    simp (disch := omega) only [cneg]
    exact Ev.pure _
theorem specLib_ev (l : Library) (hs : smallL l) : Ev (fun k => spec_l4Good.F k l) (libB l) := by
  unfold spec_l4Good.F libB
  by_cases c : l.entries.length ≤ 8
  · simp (disch := omega) only [cneg, dpos, Bool.and_true]
    have := specGoodL_l0 l hs
    cases ha : (List.range' 0 l.entries.length).all (okL l) with
    | true => rw [ha] at this; exact Ev.bind this (Ev.pure _)
    | false => rw [ha] at this; exact Ev.bind this (Ev.pure _)
  · simp (disch := omega) only [cpos, dneg, Bool.and_false]
    exact Ev.pure _
theorem isLib_ev (l : Library) (hs : smallL l) : Ev (fun k => impl_IsValidLibrary.F k l) (libB l) := by
  unfold impl_IsValidLibrary.F libB
  have := isLib_l0 l hs
  cases ha : (List.range' 0 l.entries.length).all (okL l) with
  | true =>
    rw [ha] at this
    refine Ev.bind this ((Ev.pure _).eq ?_)
    rw [Bool.true_and]; exact decide_eq_decide.2 (by omega)
  | false => rw [ha] at this; exact Ev.bind this (Ev.pure _)
theorem libB_len {l : Library} (h : libB l = true) : l.entries.length ≤ 8 := by
  unfold libB at h
  rw [Bool.and_eq_true, decide_eq_true_eq] at h
  exact h.2
end Go.Proofs.YtolcacancfmmiaaGreatDoor
end
