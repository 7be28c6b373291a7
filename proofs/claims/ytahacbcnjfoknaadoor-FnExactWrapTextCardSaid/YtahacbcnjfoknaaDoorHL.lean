import Derived.Test.YtahacbcnjfoknaaDoorSh
import Derived.Test.YtahacbcnjfoknaaDoorGxExt
import Derived.Test.YtahacbcnjfoknaaDoorProg
import Derived.Test.YtahacbcnjfoknaaDoorGxTab
import Derived.Test.YtahacbcnjfoknaaDoorGxEq
import Derived.KernelRfl
namespace Go.Proofs.YtahacbcnjfoknaaDoor
open Go.Gx
set_option linter.unusedVariables false
set_option maxRecDepth 100000
def tyT (t : Nat) : Option Ty := match t with
  | 2 => some (.int .i64)
  | 3 => some (.int .i64)
  | 4 => some .bool
  | 5 => some (.int .u8)
  | 6 => some (.int .u8)
  | 9 => some .str
  | 10 => some .str
  | 11 => some .str
  | 21 => some (.int .i32)
  | 22 => some (.sl .query)
  | 24 => some .query
  | 27 => some (.sl .query)
  | 29 => some .query
  | 38 => some (.sl .str)
  | 46 => some (.sl (.int .u8))
  | 68 => some (.int .u64)
  | 83 => some (.sl (.int .i64))
  | 92 => some (.arr 8 .str)
  | 94 => some (.int .u64)
  | 109 => some (.arr 256 .bool)
  | 118 => some (.int .u32)
  | 141 => some (.arr 256 (.int .u8))
  | 151 => some (.int .u8)
  | _ => none
def elT (t : Nat) : Nat := match t with
  | 22 => 24
  | 27 => 29
  | 38 => 9
  | 46 => 5
  | 83 => 3
  | _ => 0
def mdT (f : Nat) : Bool := match f with
  | 25 => true
  | 45 => true
  | 55 => true
  | 70 => true
  | 71 => true
  | 72 => true
  | 132 => true
  | _ => false
def glT (g : Nat) : Option AV := match g with
  | _ => none
def giT (g : Nat) : Bool := match g with
  | 1 => true
  | _ => false
def envX : Env := ⟨tyT, elT, glT, mdT, giT⟩
theorem env_ty : ∀ T τ, envX.ty T = some τ → TyOk Tryd.prog envX T τ := fun T τ h => by
  dsimp only [envX, tyT] at h
  split at h <;> first
    | (cases h; done)
    | (cases h; exact tyOk_of (by kernel_rfl) (by kernel_rfl))
theorem envOk : EnvOk Tryd.prog envX := ⟨env_ty, by kernel_rfl, fun T h => by
  dsimp only [envX, tyT] at h
  split at h <;> first
    | (cases h; done)
    | exact date_eq env_ty rfl (by kernel_rfl) (by kernel_rfl) (by kernel_rfl), fun T h => by
  dsimp only [envX, tyT] at h
  split at h <;> first
    | (cases h; done)
    | exact abbr_eq env_ty rfl (by kernel_rfl) (by kernel_rfl) (by kernel_rfl)⟩
/-! ### 48 loop.example/g00896/spec.l1In -/
def spec_l1In.F (a0 : Int) (a1 : Int) (a2 : Int) : Option (Bool) := bif (decide (a0 ≥ a1)) then (some (decide (a0 ≤ a2))) else (some false)
def spec_l1In.C : Cal → Option CArm := fun c => match c with
  | _ => none
theorem spec_l1In.run (a0 : Int) (a1 : Int) (a2 : Int) : runF envX (tabC spec_l1In.C) (tabL 15 0 (fun _ => none)) Tryd.f48 [.t (.int .i64) a0, .t (.int .i64) a1, .t (.int .i64) a2] (viewR1 (.t .bool)) = spec_l1In.F a0 a1 a2 := by kernel_rfl
theorem spec_l1In.G (hE : EnvOk Tryd.prog envX) (pv : Nat → Value) : ∀ cal A, spec_l1In.C cal = some A → ArmOk Tryd.prog envX pv cal A := by
  intro cal A h
  unfold spec_l1In.C at h
  cases h
theorem spec_l1In.good (hE : EnvOk Tryd.prog envX) (pv : Nat → Value) (a0 : Int) (a1 : Int) (a2 : Int) {y : _} (h : spec_l1In.F a0 a1 a2 = some y) : Meets Tryd.prog envX pv (.f 48) (tvals [(.int .i64), (.int .i64), (.int .i64)] (a0, a1, a2, ())) (.t .bool y) :=
  fun_plain hE (spec_l1In.G hE pv) (f := 48) (fn := Tryd.f48) (by kernel_rfl) rfl (by kernel_rfl) (by kernel_rfl) ((spec_l1In.run a0 a1 a2).trans h) fun r hr => wk_view1 hr
/-! ### 47 loop.example/g00896/spec.l17Width -/
def spec_l17Width.F (a0 : ByteArray) (a1 : Int) : Option (Bool) := bif (decide ((a0.size : Int) ≤ 4000)) then ((spec_l1In.F a1 10 120).bind fun r1 => some r1) else (some false)
def spec_l17Width.C : Cal → Option CArm := fun c => match c with
  | .f 48 => some (.p [(.int .i64), (.int .i64), (.int .i64)] _ (fun x => spec_l1In.F x.1 x.2.1 x.2.2.1) (fun r => (.t .bool r)))
  | _ => none
theorem spec_l17Width.run (a0 : ByteArray) (a1 : Int) : runF envX (tabC spec_l17Width.C) (tabL 12 0 (fun _ => none)) Tryd.f47 [.t .str a0, .t (.int .i64) a1] (viewR1 (.t .bool)) = spec_l17Width.F a0 a1 := by kernel_rfl
theorem spec_l17Width.G (hE : EnvOk Tryd.prog envX) (pv : Nat → Value) : ∀ cal A, spec_l17Width.C cal = some A → ArmOk Tryd.prog envX pv cal A := by
  intro cal A h
  unfold spec_l17Width.C at h
  split at h
  · cases h; exact fun x y hy => spec_l1In.good hE pv x.1 x.2.1 x.2.2.1 hy
  · cases h
theorem spec_l17Width.good (hE : EnvOk Tryd.prog envX) (pv : Nat → Value) (a0 : ByteArray) (a1 : Int) {y : _} (h : spec_l17Width.F a0 a1 = some y) : Meets Tryd.prog envX pv (.f 47) (tvals [.str, (.int .i64)] (a0, a1, ())) (.t .bool y) :=
  fun_plain hE (spec_l17Width.G hE pv) (f := 47) (fn := Tryd.f47) (by kernel_rfl) rfl (by kernel_rfl) (by kernel_rfl) ((spec_l17Width.run a0 a1).trans h) fun r hr => wk_view1 hr
/-! ### 67 loop.example/g00896/spec.l1Split -/
def spec_l1Split.l0 : Nat → ByteArray → Int → (List ByteArray) → Int → Int → Option (ByteArray × (List ByteArray) × Int)
  | 0, _, _, _, _, _ => none
  | k + 1, x0, x1, x5, x6, x7 => bif (decide (x7 < (x0.size : Int))) then (bif decide (0 ≤ x7) then (bif decide (x7 < (x0.size : Int)) then (bif ((bt x0 (x7 : Int).toNat) == x1) then (bif decide (0 ≤ x7) then (bif decide (x7 ≤ (x0.size : Int)) then (bif decide (0 ≤ x6) then (bif decide (x6 ≤ x7) then (bif room (x5.length + ([(x0.extract (x6 : Int).toNat (x7 : Int).toNat)] : List ByteArray).length) .str then (spec_l1Split.l0 k x0 x1 (x5 ++ ([(x0.extract (x6 : Int).toNat (x7 : Int).toNat)] : List ByteArray)) (IntKind.wrap .i64 (x7 + 1)) (IntKind.wrap .i64 (x7 + 1))) else none) else none) else none) else none) else none) else (spec_l1Split.l0 k x0 x1 x5 x6 (IntKind.wrap .i64 (x7 + 1)))) else none) else none) else (some (x0, x5, x6))
def spec_l1Split.F (k : Nat) (a0 : ByteArray) (a1 : Int) : Option (List ByteArray) := (spec_l1Split.l0 k a0 a1 ([] : List ByteArray) 0 0).bind fun y1 => bif decide (0 ≤ y1.2.2) then (bif decide (y1.2.2 ≤ (y1.1.size : Int)) then (bif room (y1.2.1.length + ([(y1.1.extract (y1.2.2 : Int).toNat y1.1.size)] : List ByteArray).length) .str then (some (y1.2.1 ++ ([(y1.1.extract (y1.2.2 : Int).toNat y1.1.size)] : List ByteArray))) else none) else none) else none
def spec_l1Split.C (k : Nat) : Cal → Option CArm := fun c => match c with
  | _ => none
def spec_l1Split.sp0 : List Sp := [.t 0 .str, .t 1 (.int .u8), .own 5 1024 9 .str false true, .t 6 (.int .i64), .t 7 (.int .i64)]
def spec_l1Split.sp0_0 : List Sp := [.t 0 .str, .own 5 1024 9 .str false true, .t 6 (.int .i64)]
def spec_l1Split.A0 : LArm := .one spec_l1Split.sp0 spec_l1Split.sp0_0 (ByteArray × (List ByteArray) × Int) (fun k x => spec_l1Split.l0 k x.1 x.2.1 x.2.2.1 x.2.2.2.1 x.2.2.2.2.1) (.exit 0) (fun y => (y.1, y.2.1, y.2.2, ())) (fun x => (x.1, x.2.1, x.2.2.1))
def spec_l1Split.L : Nat → Option LArm := fun b => match b with
  | 0 => some spec_l1Split.A0
  | _ => none
theorem spec_l1Split.run (k : Nat) (a0 : ByteArray) (a1 : Int) : runF envX (tabC (spec_l1Split.C k)) (tabL 35 k spec_l1Split.L) Tryd.f67 [.t .str a0, .t (.int .u8) a1] (viewR1 (.fr 9 .str)) = spec_l1Split.F k a0 a1 := by kernel_rfl
theorem spec_l1Split.step0 (k : Nat) (x0 : ByteArray) (x1 : Int) (x5 : List ByteArray) (x6 : Int) (x7 : Int) : runC envX (tabC (spec_l1Split.C k)) (tabL 35 k spec_l1Split.L) 0 (loopAt Tryd.f67 0) (stOf 35 spec_l1Split.sp0 (x0, x1, x5, x6, x7, ())) (spec_l1Split.A0.cont 35 k) = spec_l1Split.l0 (k + 1) x0 x1 x5 x6 x7 := by kernel_rfl
theorem spec_l1Split.G (hE : EnvOk Tryd.prog envX) (pv : Nat → Value) (k : Nat) : ∀ cal A, spec_l1Split.C k cal = some A → ArmOk Tryd.prog envX pv cal A := by
  intro cal A h
  unfold spec_l1Split.C at h
  cases h
theorem spec_l1Split.good (hE : EnvOk Tryd.prog envX) (pv : Nat → Value) (k : Nat) (a0 : ByteArray) (a1 : Int) {y : _} (h : spec_l1Split.F k a0 a1 = some y) : Meets Tryd.prog envX pv (.f 67) (tvals [.str, (.int .u8)] (a0, a1, ())) (.fr 9 .str y) :=
  fun_loops hE (t := spec_l1Split.C) k (fun k _ => spec_l1Split.G hE pv k) (f := 67) (fn := Tryd.f67) (by kernel_rfl) rfl (by kernel_rfl) (by kernel_rfl) (lt := spec_l1Split.L) (by kernel_rfl) (fun b A h => by
    unfold spec_l1Split.L at h; split at h
    · cases h; exact ⟨by kernel_rfl, by kernel_rfl, fun _ => rfl, fun _ => rfl⟩
    · cases h) (fun b A h => by
    unfold spec_l1Split.L at h; split at h
    · cases h; exact fun k x => spec_l1Split.step0 k x.1 x.2.1 x.2.2.1 x.2.2.2.1 x.2.2.2.2.1
    · cases h) ((spec_l1Split.run k a0 a1).trans h) fun r hr => wk_view1 hr
/-! ### 49 loop.example/g00896/spec.l17Lines -/
def spec_l17Lines.l0 : Nat → ByteArray → Int → Int → ByteArray → Option (ByteArray × Int × ByteArray)
  | 0, _, _, _, _ => none
  | k + 1, x0, x1, x2, x7 => bif (decide ((x7.size : Int) < x2)) then (bif Nat.ble (x7.size + (⟨#[32]⟩ : ByteArray).size) 9223372036854775807 then (spec_l17Lines.l0 k x0 x1 x2 (x7 ++ (⟨#[32]⟩ : ByteArray))) else none) else (some (x0, x1, x7))
def spec_l17Lines.l2 : Nat → Int → ByteArray → (List ByteArray) → (List ByteArray) → ByteArray → Int → Option ((List ByteArray) × ByteArray)
  | 0, _, _, _, _, _, _ => none
  | k + 1, x1, x7, x8, x9, x10, x11 => bif (decide (x11 < (x8.length : Int))) then (bif decide (0 ≤ x11) then (bif decide (x11 < (x8.length : Int)) then (bif (decide ((IntKind.wrap .i64 ((IntKind.wrap .i64 ((x10.size : Int) + 1)) + ((x8.getD ((x11 : Int).toNat) (⟨#[]⟩ : ByteArray)).size : Int))) ≤ x1)) then (bif Nat.ble (x10.size + (⟨#[32]⟩ : ByteArray).size) 9223372036854775807 then (bif decide (0 ≤ x11) then (bif decide (x11 < (x8.length : Int)) then (bif Nat.ble ((x10 ++ (⟨#[32]⟩ : ByteArray)).size + (x8.getD ((x11 : Int).toNat) (⟨#[]⟩ : ByteArray)).size) 9223372036854775807 then (spec_l17Lines.l2 k x1 x7 x8 x9 ((x10 ++ (⟨#[32]⟩ : ByteArray)) ++ (x8.getD ((x11 : Int).toNat) (⟨#[]⟩ : ByteArray))) (IntKind.wrap .i64 (x11 + 1))) else none) else none) else none) else none) else (bif room (x9.length + ([x10] : List ByteArray).length) .str then (bif decide (0 ≤ x11) then (bif decide (x11 < (x8.length : Int)) then (bif Nat.ble (x7.size + (x8.getD ((x11 : Int).toNat) (⟨#[]⟩ : ByteArray)).size) 9223372036854775807 then (spec_l17Lines.l2 k x1 x7 x8 (x9 ++ ([x10] : List ByteArray)) (x7 ++ (x8.getD ((x11 : Int).toNat) (⟨#[]⟩ : ByteArray))) (IntKind.wrap .i64 (x11 + 1))) else none) else none) else none) else none)) else none) else none) else (some (x9, x10))
def spec_l17Lines.F (k : Nat) (a0 : ByteArray) (a1 : Int) (a2 : Int) : Option (List ByteArray) := (spec_l17Lines.l0 k a0 a1 a2 (⟨#[]⟩ : ByteArray)).bind fun y1 => (spec_l1Split.F k y1.1 32).bind fun r2 => bif decide (0 ≤ 0) then (bif decide (0 < (r2.length : Int)) then ((spec_l17Lines.l2 k y1.2.1 y1.2.2 r2 ([] : List ByteArray) (r2.getD ((0 : Int).toNat) (⟨#[]⟩ : ByteArray)) 1).bind fun y3 => bif room (y3.1.length + ([y3.2] : List ByteArray).length) .str then (some (y3.1 ++ ([y3.2] : List ByteArray))) else none) else none) else none
def spec_l17Lines.C (k : Nat) : Cal → Option CArm := fun c => match c with
  | .f 67 => some (.p [.str, (.int .u8)] _ (fun x => spec_l1Split.F k x.1 x.2.1) (fun r => (.fr 9 .str r)))
  | _ => none
def spec_l17Lines.sp0 : List Sp := [.t 0 .str, .t 1 (.int .i64), .t 2 (.int .i64), .t 7 .str]
def spec_l17Lines.sp0_0 : List Sp := [.t 0 .str, .t 1 (.int .i64), .t 7 .str]
def spec_l17Lines.A0 : LArm := .one spec_l17Lines.sp0 spec_l17Lines.sp0_0 (ByteArray × Int × ByteArray) (fun k x => spec_l17Lines.l0 k x.1 x.2.1 x.2.2.1 x.2.2.2.1) (.exit 0) (fun y => (y.1, y.2.1, y.2.2, ())) (fun x => (x.1, x.2.1, x.2.2.1))
def spec_l17Lines.sp2 : List Sp := [.t 1 (.int .i64), .t 7 .str, .own 8 4100 9 .str false true, .own 9 5120 9 .str false true, .t 10 .str, .t 11 (.int .i64)]
def spec_l17Lines.sp2_0 : List Sp := [.own 9 5120 9 .str false true, .t 10 .str]
def spec_l17Lines.A2 : LArm := .one spec_l17Lines.sp2 spec_l17Lines.sp2_0 ((List ByteArray) × ByteArray) (fun k x => spec_l17Lines.l2 k x.1 x.2.1 x.2.2.1 x.2.2.2.1 x.2.2.2.2.1 x.2.2.2.2.2.1) (.exit 2) (fun y => (y.1, y.2, ())) (fun x => (x.1, x.2.1))
def spec_l17Lines.L : Nat → Option LArm := fun b => match b with
  | 0 => some spec_l17Lines.A0
  | 2 => some spec_l17Lines.A2
  | _ => none
theorem spec_l17Lines.run (k : Nat) (a0 : ByteArray) (a1 : Int) (a2 : Int) : runF envX (tabC (spec_l17Lines.C k)) (tabL 62 k spec_l17Lines.L) Tryd.f49 [.t .str a0, .t (.int .i64) a1, .t (.int .i64) a2] (viewR1 (.fr 9 .str)) = spec_l17Lines.F k a0 a1 a2 := by kernel_rfl
theorem spec_l17Lines.step0 (k : Nat) (x0 : ByteArray) (x1 : Int) (x2 : Int) (x7 : ByteArray) : runC envX (tabC (spec_l17Lines.C k)) (tabL 62 k spec_l17Lines.L) 0 (loopAt Tryd.f49 0) (stOf 62 spec_l17Lines.sp0 (x0, x1, x2, x7, ())) (spec_l17Lines.A0.cont 62 k) = spec_l17Lines.l0 (k + 1) x0 x1 x2 x7 := by kernel_rfl
theorem spec_l17Lines.step2 (k : Nat) (x1 : Int) (x7 : ByteArray) (x8 : List ByteArray) (x9 : List ByteArray) (x10 : ByteArray) (x11 : Int) : runC envX (tabC (spec_l17Lines.C k)) (tabL 62 k spec_l17Lines.L) 2 (loopAt Tryd.f49 2) (stOf 62 spec_l17Lines.sp2 (x1, x7, x8, x9, x10, x11, ())) (spec_l17Lines.A2.cont 62 k) = spec_l17Lines.l2 (k + 1) x1 x7 x8 x9 x10 x11 := by kernel_rfl
theorem spec_l17Lines.G (hE : EnvOk Tryd.prog envX) (pv : Nat → Value) (k : Nat) : ∀ cal A, spec_l17Lines.C k cal = some A → ArmOk Tryd.prog envX pv cal A := by
  intro cal A h
  unfold spec_l17Lines.C at h
  split at h
  · cases h; exact fun x y hy => spec_l1Split.good hE pv k x.1 x.2.1 hy
  · cases h
theorem spec_l17Lines.good (hE : EnvOk Tryd.prog envX) (pv : Nat → Value) (k : Nat) (a0 : ByteArray) (a1 : Int) (a2 : Int) {y : _} (h : spec_l17Lines.F k a0 a1 a2 = some y) : Meets Tryd.prog envX pv (.f 49) (tvals [.str, (.int .i64), (.int .i64)] (a0, a1, a2, ())) (.fr 9 .str y) :=
  fun_loops hE (t := spec_l17Lines.C) k (fun k _ => spec_l17Lines.G hE pv k) (f := 49) (fn := Tryd.f49) (by kernel_rfl) rfl (by kernel_rfl) (by kernel_rfl) (lt := spec_l17Lines.L) (by kernel_rfl) (fun b A h => by
    unfold spec_l17Lines.L at h; split at h
    · cases h; exact ⟨by kernel_rfl, by kernel_rfl, fun _ => rfl, fun _ => rfl⟩
    · cases h; exact ⟨by kernel_rfl, by kernel_rfl, fun _ => rfl, fun _ => rfl⟩
    · cases h) (fun b A h => by
    unfold spec_l17Lines.L at h; split at h
    · cases h; exact fun k x => spec_l17Lines.step0 k x.1 x.2.1 x.2.2.1 x.2.2.2.1
    · cases h; exact fun k x => spec_l17Lines.step2 k x.1 x.2.1 x.2.2.1 x.2.2.2.1 x.2.2.2.2.1 x.2.2.2.2.2.1
    · cases h) ((spec_l17Lines.run k a0 a1 a2).trans h) fun r hr => wk_view1 hr
/-! ### 22 loop.example/g00896/spec.HangingLines -/
def spec_HangingLines.F (k : Nat) (a0 : ByteArray) (a1 : Int) (a2 : Int) : Option ((List ByteArray) × Bool) := (spec_l17Width.F a0 a1).bind fun r1 => bif (!r1) then (some (([] : List ByteArray), false)) else ((spec_l1In.F a2 0 8).bind fun r2 => bif (!r2) then (some (([] : List ByteArray), false)) else ((spec_l17Lines.F k a0 a1 a2).bind fun r3 => some (r3, true)))
def spec_HangingLines.C (k : Nat) : Cal → Option CArm := fun c => match c with
  | .f 47 => some (.p [.str, (.int .i64)] _ (fun x => spec_l17Width.F x.1 x.2.1) (fun r => (.t .bool r)))
  | .f 48 => some (.p [(.int .i64), (.int .i64), (.int .i64)] _ (fun x => spec_l1In.F x.1 x.2.1 x.2.2.1) (fun r => (.t .bool r)))
  | .f 49 => some (.p [.str, (.int .i64), (.int .i64)] _ (fun x => spec_l17Lines.F k x.1 x.2.1 x.2.2.1) (fun r => (.fr 9 .str r)))
  | _ => none
theorem spec_HangingLines.run (k : Nat) (a0 : ByteArray) (a1 : Int) (a2 : Int) : runF envX (tabC (spec_HangingLines.C k)) (tabL 22 0 (fun _ => none)) Tryd.f22 [.t .str a0, .t (.int .i64) a1, .t (.int .i64) a2] (viewR2 (.fr 9 .str) (.t .bool)) = spec_HangingLines.F k a0 a1 a2 := by kernel_rfl
theorem spec_HangingLines.G (hE : EnvOk Tryd.prog envX) (pv : Nat → Value) (k : Nat) : ∀ cal A, spec_HangingLines.C k cal = some A → ArmOk Tryd.prog envX pv cal A := by
  intro cal A h
  unfold spec_HangingLines.C at h
  split at h
  · cases h; exact fun x y hy => spec_l17Width.good hE pv x.1 x.2.1 hy
  · cases h; exact fun x y hy => spec_l1In.good hE pv x.1 x.2.1 x.2.2.1 hy
  · cases h; exact fun x y hy => spec_l17Lines.good hE pv k x.1 x.2.1 x.2.2.1 hy
  · cases h
theorem spec_HangingLines.good (hE : EnvOk Tryd.prog envX) (pv : Nat → Value) (k : Nat) (a0 : ByteArray) (a1 : Int) (a2 : Int) {y : _} (h : spec_HangingLines.F k a0 a1 a2 = some y) : Meets Tryd.prog envX pv (.f 22) (tvals [.str, (.int .i64), (.int .i64)] (a0, a1, a2, ())) (.tup [.fr 9 .str y.1, .t .bool y.2]) :=
  fun_plain hE (spec_HangingLines.G hE pv k) (f := 22) (fn := Tryd.f22) (by kernel_rfl) rfl (by kernel_rfl) (by kernel_rfl) ((spec_HangingLines.run k a0 a1 a2).trans h) fun r hr => wk_view2 hr
/-! ### 51 loop.example/g00896/impl.inside -/
def impl_inside.F (a0 : Int) (a1 : Int) (a2 : Int) : Option (Bool) := bif (decide (a0 ≥ a1)) then (some (decide (a0 ≤ a2))) else (some false)
def impl_inside.C : Cal → Option CArm := fun c => match c with
  | _ => none
theorem impl_inside.run (a0 : Int) (a1 : Int) (a2 : Int) : runF envX (tabC impl_inside.C) (tabL 15 0 (fun _ => none)) Tryd.f51 [.t (.int .i64) a0, .t (.int .i64) a1, .t (.int .i64) a2] (viewR1 (.t .bool)) = impl_inside.F a0 a1 a2 := by kernel_rfl
theorem impl_inside.G (hE : EnvOk Tryd.prog envX) (pv : Nat → Value) : ∀ cal A, impl_inside.C cal = some A → ArmOk Tryd.prog envX pv cal A := by
  intro cal A h
  unfold impl_inside.C at h
  cases h
theorem impl_inside.good (hE : EnvOk Tryd.prog envX) (pv : Nat → Value) (a0 : Int) (a1 : Int) (a2 : Int) {y : _} (h : impl_inside.F a0 a1 a2 = some y) : Meets Tryd.prog envX pv (.f 51) (tvals [(.int .i64), (.int .i64), (.int .i64)] (a0, a1, a2, ())) (.t .bool y) :=
  fun_plain hE (impl_inside.G hE pv) (f := 51) (fn := Tryd.f51) (by kernel_rfl) rfl (by kernel_rfl) (by kernel_rfl) ((impl_inside.run a0 a1 a2).trans h) fun r hr => wk_view1 hr
/-! ### 50 loop.example/g00896/impl.canWrap -/
def impl_canWrap.F (a0 : ByteArray) (a1 : Int) : Option (Bool) := bif (decide ((a0.size : Int) ≤ 4000)) then ((impl_inside.F a1 10 120).bind fun r1 => some r1) else (some false)
def impl_canWrap.C : Cal → Option CArm := fun c => match c with
  | .f 51 => some (.p [(.int .i64), (.int .i64), (.int .i64)] _ (fun x => impl_inside.F x.1 x.2.1 x.2.2.1) (fun r => (.t .bool r)))
  | _ => none
theorem impl_canWrap.run (a0 : ByteArray) (a1 : Int) : runF envX (tabC impl_canWrap.C) (tabL 12 0 (fun _ => none)) Tryd.f50 [.t .str a0, .t (.int .i64) a1] (viewR1 (.t .bool)) = impl_canWrap.F a0 a1 := by kernel_rfl
theorem impl_canWrap.G (hE : EnvOk Tryd.prog envX) (pv : Nat → Value) : ∀ cal A, impl_canWrap.C cal = some A → ArmOk Tryd.prog envX pv cal A := by
  intro cal A h
  unfold impl_canWrap.C at h
  split at h
  · cases h; exact fun x y hy => impl_inside.good hE pv x.1 x.2.1 x.2.2.1 hy
  · cases h
theorem impl_canWrap.good (hE : EnvOk Tryd.prog envX) (pv : Nat → Value) (a0 : ByteArray) (a1 : Int) {y : _} (h : impl_canWrap.F a0 a1 = some y) : Meets Tryd.prog envX pv (.f 50) (tvals [.str, (.int .i64)] (a0, a1, ())) (.t .bool y) :=
  fun_plain hE (impl_canWrap.G hE pv) (f := 50) (fn := Tryd.f50) (by kernel_rfl) rfl (by kernel_rfl) (by kernel_rfl) ((impl_canWrap.run a0 a1).trans h) fun r hr => wk_view1 hr
/-! ### 68 strings.Split -/
def strings_Split.F (a0 : ByteArray) (a1 : ByteArray) : Option (List ByteArray) := xSplit a0 a1
theorem strings_Split.good (hE : EnvOk Tryd.prog envX) (pv : Nat → Value) (a0 : ByteArray) (a1 : ByteArray) {y : _} (h : strings_Split.F a0 a1 = some y) : Meets Tryd.prog envX pv (.f 68) (tvals [.str, .str] (a0, a1, ())) (.fr 9 .str y) :=
  ext_split (fn := Tryd.f68) (by kernel_rfl) rfl (by kernel_rfl) (mx := 1) (by kernel_rfl) Tryd.strings_Split h
/-! ### 69 strings.Repeat -/
def strings_Repeat.F (a0 : ByteArray) (a1 : Int) : Option (ByteArray) := xRepeat a0 a1
theorem strings_Repeat.good (hE : EnvOk Tryd.prog envX) (pv : Nat → Value) (a0 : ByteArray) (a1 : Int) {y : _} (h : strings_Repeat.F a0 a1 = some y) : Meets Tryd.prog envX pv (.f 69) (tvals [.str, (.int .i64)] (a0, a1, ())) (.t .str y) :=
  ext_repeat (fn := Tryd.f69) (by kernel_rfl) rfl (by kernel_rfl) Tryd.strings_Repeat h
/-! ### 52 loop.example/g00896/impl.hangingLines -/
def impl_hangingLines.l0 : Nat → Int → Int → (List ByteArray) → ByteArray → Int → (List ByteArray) → Int → Int → Option ((List ByteArray) × ByteArray)
  | 0, _, _, _, _, _, _, _, _ => none
  | k + 1, x1, x2, x7, x8, x9, x14, x15, x16 => bif (decide (x16 < x15)) then (bif decide (0 ≤ x16) then (bif decide (x16 < (x14.length : Int)) then (bif (decide (x9 > 0)) then (bif (decide ((IntKind.wrap .i64 ((IntKind.wrap .i64 ((x8.size : Int) + 1)) + ((x14.getD ((x16 : Int).toNat) (⟨#[]⟩ : ByteArray)).size : Int))) > x1)) then (bif room (x7.length + ([x8] : List ByteArray).length) .str then ((strings_Repeat.F (⟨#[32]⟩ : ByteArray) x2).bind fun r2 => bif (decide ((0 : Int) > 0)) then (bif Nat.ble (r2.size + (⟨#[32]⟩ : ByteArray).size) 9223372036854775807 then (bif Nat.ble ((r2 ++ (⟨#[32]⟩ : ByteArray)).size + (x14.getD ((x16 : Int).toNat) (⟨#[]⟩ : ByteArray)).size) 9223372036854775807 then (impl_hangingLines.l0 k x1 x2 (x7 ++ ([x8] : List ByteArray)) ((r2 ++ (⟨#[32]⟩ : ByteArray)) ++ (x14.getD ((x16 : Int).toNat) (⟨#[]⟩ : ByteArray))) (IntKind.wrap .i64 (0 + 1)) x14 x15 (IntKind.wrap .i64 (x16 + 1))) else none) else none) else (bif Nat.ble (r2.size + (x14.getD ((x16 : Int).toNat) (⟨#[]⟩ : ByteArray)).size) 9223372036854775807 then (impl_hangingLines.l0 k x1 x2 (x7 ++ ([x8] : List ByteArray)) (r2 ++ (x14.getD ((x16 : Int).toNat) (⟨#[]⟩ : ByteArray))) (IntKind.wrap .i64 (0 + 1)) x14 x15 (IntKind.wrap .i64 (x16 + 1))) else none)) else none) else (bif (decide (x9 > 0)) then (bif Nat.ble (x8.size + (⟨#[32]⟩ : ByteArray).size) 9223372036854775807 then (bif Nat.ble ((x8 ++ (⟨#[32]⟩ : ByteArray)).size + (x14.getD ((x16 : Int).toNat) (⟨#[]⟩ : ByteArray)).size) 9223372036854775807 then (impl_hangingLines.l0 k x1 x2 x7 ((x8 ++ (⟨#[32]⟩ : ByteArray)) ++ (x14.getD ((x16 : Int).toNat) (⟨#[]⟩ : ByteArray))) (IntKind.wrap .i64 (x9 + 1)) x14 x15 (IntKind.wrap .i64 (x16 + 1))) else none) else none) else (bif Nat.ble (x8.size + (x14.getD ((x16 : Int).toNat) (⟨#[]⟩ : ByteArray)).size) 9223372036854775807 then (impl_hangingLines.l0 k x1 x2 x7 (x8 ++ (x14.getD ((x16 : Int).toNat) (⟨#[]⟩ : ByteArray))) (IntKind.wrap .i64 (x9 + 1)) x14 x15 (IntKind.wrap .i64 (x16 + 1))) else none))) else (bif (decide (x9 > 0)) then (bif Nat.ble (x8.size + (⟨#[32]⟩ : ByteArray).size) 9223372036854775807 then (bif Nat.ble ((x8 ++ (⟨#[32]⟩ : ByteArray)).size + (x14.getD ((x16 : Int).toNat) (⟨#[]⟩ : ByteArray)).size) 9223372036854775807 then (impl_hangingLines.l0 k x1 x2 x7 ((x8 ++ (⟨#[32]⟩ : ByteArray)) ++ (x14.getD ((x16 : Int).toNat) (⟨#[]⟩ : ByteArray))) (IntKind.wrap .i64 (x9 + 1)) x14 x15 (IntKind.wrap .i64 (x16 + 1))) else none) else none) else (bif Nat.ble (x8.size + (x14.getD ((x16 : Int).toNat) (⟨#[]⟩ : ByteArray)).size) 9223372036854775807 then (impl_hangingLines.l0 k x1 x2 x7 (x8 ++ (x14.getD ((x16 : Int).toNat) (⟨#[]⟩ : ByteArray))) (IntKind.wrap .i64 (x9 + 1)) x14 x15 (IntKind.wrap .i64 (x16 + 1))) else none))) else none) else none) else (some (x7, x8))
def impl_hangingLines.F (k : Nat) (a0 : ByteArray) (a1 : Int) (a2 : Int) : Option (List ByteArray) := (strings_Split.F a0 (⟨#[32]⟩ : ByteArray)).bind fun r1 => (impl_hangingLines.l0 k a1 a2 ([] : List ByteArray) (⟨#[]⟩ : ByteArray) 0 r1 (r1.length : Int) 0).bind fun y3 => bif room (y3.1.length + ([y3.2] : List ByteArray).length) .str then (some (y3.1 ++ ([y3.2] : List ByteArray))) else none
def impl_hangingLines.C (k : Nat) : Cal → Option CArm := fun c => match c with
  | .f 68 => some (.p [.str, .str] _ (fun x => strings_Split.F x.1 x.2.1) (fun r => (.fr 9 .str r)))
  | .f 69 => some (.p [.str, (.int .i64)] _ (fun x => strings_Repeat.F x.1 x.2.1) (fun r => (.t .str r)))
  | _ => none
def impl_hangingLines.sp0 : List Sp := [.t 1 (.int .i64), .t 2 (.int .i64), .own 7 1024 9 .str false true, .t 8 .str, .t 9 (.int .i64), .own 14 2052 9 .str false true, .t 15 (.int .i64), .t 16 (.int .i64)]
def impl_hangingLines.sp0_0 : List Sp := [.own 7 1024 9 .str false true, .t 8 .str]
def impl_hangingLines.A0 : LArm := .one impl_hangingLines.sp0 impl_hangingLines.sp0_0 ((List ByteArray) × ByteArray) (fun k x => impl_hangingLines.l0 k x.1 x.2.1 x.2.2.1 x.2.2.2.1 x.2.2.2.2.1 x.2.2.2.2.2.1 x.2.2.2.2.2.2.1 x.2.2.2.2.2.2.2.1) (.exit 0) (fun y => (y.1, y.2, ())) (fun x => (x.1, x.2.1))
def impl_hangingLines.L : Nat → Option LArm := fun b => match b with
  | 0 => some impl_hangingLines.A0
  | _ => none
theorem impl_hangingLines.run (k : Nat) (a0 : ByteArray) (a1 : Int) (a2 : Int) : runF envX (tabC (impl_hangingLines.C k)) (tabL 52 k impl_hangingLines.L) Tryd.f52 [.t .str a0, .t (.int .i64) a1, .t (.int .i64) a2] (viewR1 (.fr 9 .str)) = impl_hangingLines.F k a0 a1 a2 := by kernel_rfl
theorem impl_hangingLines.step0 (k : Nat) (x1 : Int) (x2 : Int) (x7 : List ByteArray) (x8 : ByteArray) (x9 : Int) (x14 : List ByteArray) (x15 : Int) (x16 : Int) : runC envX (tabC (impl_hangingLines.C k)) (tabL 52 k impl_hangingLines.L) 0 (loopAt Tryd.f52 0) (stOf 52 impl_hangingLines.sp0 (x1, x2, x7, x8, x9, x14, x15, x16, ())) (impl_hangingLines.A0.cont 52 k) = impl_hangingLines.l0 (k + 1) x1 x2 x7 x8 x9 x14 x15 x16 := by kernel_rfl
theorem impl_hangingLines.G (hE : EnvOk Tryd.prog envX) (pv : Nat → Value) (k : Nat) : ∀ cal A, impl_hangingLines.C k cal = some A → ArmOk Tryd.prog envX pv cal A := by
  intro cal A h
  unfold impl_hangingLines.C at h
  split at h
  · cases h; exact fun x y hy => strings_Split.good hE pv x.1 x.2.1 hy
  · cases h; exact fun x y hy => strings_Repeat.good hE pv x.1 x.2.1 hy
  · cases h
theorem impl_hangingLines.good (hE : EnvOk Tryd.prog envX) (pv : Nat → Value) (k : Nat) (a0 : ByteArray) (a1 : Int) (a2 : Int) {y : _} (h : impl_hangingLines.F k a0 a1 a2 = some y) : Meets Tryd.prog envX pv (.f 52) (tvals [.str, (.int .i64), (.int .i64)] (a0, a1, a2, ())) (.fr 9 .str y) :=
  fun_loops hE (t := impl_hangingLines.C) k (fun k _ => impl_hangingLines.G hE pv k) (f := 52) (fn := Tryd.f52) (by kernel_rfl) rfl (by kernel_rfl) (by kernel_rfl) (lt := impl_hangingLines.L) (by kernel_rfl) (fun b A h => by
    unfold impl_hangingLines.L at h; split at h
    · cases h; exact ⟨by kernel_rfl, by kernel_rfl, fun _ => rfl, fun _ => rfl⟩
    · cases h) (fun b A h => by
    unfold impl_hangingLines.L at h; split at h
    · cases h; exact fun k x => impl_hangingLines.step0 k x.1 x.2.1 x.2.2.1 x.2.2.2.1 x.2.2.2.2.1 x.2.2.2.2.2.1 x.2.2.2.2.2.2.1 x.2.2.2.2.2.2.2.1
    · cases h) ((impl_hangingLines.run k a0 a1 a2).trans h) fun r hr => wk_view1 hr
/-! ### 23 loop.example/g00896/impl.HangingLines -/
def impl_HangingLines.F (k : Nat) (a0 : ByteArray) (a1 : Int) (a2 : Int) : Option ((List ByteArray) × Bool) := (impl_canWrap.F a0 a1).bind fun r1 => bif (!r1) then (some ([], false)) else ((impl_inside.F a2 0 8).bind fun r2 => bif (!r2) then (some ([], false)) else ((impl_hangingLines.F k a0 a1 a2).bind fun r3 => some (r3, true)))
def impl_HangingLines.C (k : Nat) : Cal → Option CArm := fun c => match c with
  | .f 50 => some (.p [.str, (.int .i64)] _ (fun x => impl_canWrap.F x.1 x.2.1) (fun r => (.t .bool r)))
  | .f 51 => some (.p [(.int .i64), (.int .i64), (.int .i64)] _ (fun x => impl_inside.F x.1 x.2.1 x.2.2.1) (fun r => (.t .bool r)))
  | .f 52 => some (.p [.str, (.int .i64), (.int .i64)] _ (fun x => impl_hangingLines.F k x.1 x.2.1 x.2.2.1) (fun r => (.fr 9 .str r)))
  | _ => none
theorem impl_HangingLines.run (k : Nat) (a0 : ByteArray) (a1 : Int) (a2 : Int) : runF envX (tabC (impl_HangingLines.C k)) (tabL 21 0 (fun _ => none)) Tryd.f23 [.t .str a0, .t (.int .i64) a1, .t (.int .i64) a2] (viewR2 (.fr 9 .str) (.t .bool)) = impl_HangingLines.F k a0 a1 a2 := by kernel_rfl
theorem impl_HangingLines.G (hE : EnvOk Tryd.prog envX) (pv : Nat → Value) (k : Nat) : ∀ cal A, impl_HangingLines.C k cal = some A → ArmOk Tryd.prog envX pv cal A := by
  intro cal A h
  unfold impl_HangingLines.C at h
  split at h
  · cases h; exact fun x y hy => impl_canWrap.good hE pv x.1 x.2.1 hy
  · cases h; exact fun x y hy => impl_inside.good hE pv x.1 x.2.1 x.2.2.1 hy
  · cases h; exact fun x y hy => impl_hangingLines.good hE pv k x.1 x.2.1 x.2.2.1 hy
  · cases h
theorem impl_HangingLines.good (hE : EnvOk Tryd.prog envX) (pv : Nat → Value) (k : Nat) (a0 : ByteArray) (a1 : Int) (a2 : Int) {y : _} (h : impl_HangingLines.F k a0 a1 a2 = some y) : Meets Tryd.prog envX pv (.f 23) (tvals [.str, (.int .i64), (.int .i64)] (a0, a1, a2, ())) (.tup [.fr 9 .str y.1, .t .bool y.2]) :=
  fun_plain hE (impl_HangingLines.G hE pv k) (f := 23) (fn := Tryd.f23) (by kernel_rfl) rfl (by kernel_rfl) (by kernel_rfl) ((impl_HangingLines.run k a0 a1 a2).trans h) fun r hr => wk_view2 hr
/-! ### 24 loop.example/g00896/laws.eqStringS -/
def laws_eqStringS.l0 : Nat → (List ByteArray) → (List ByteArray) → Int → Option (Sum Bool Unit)
  | 0, _, _, _ => none
  | k + 1, x0, x1, x5 => bif (decide (x5 < (x0.length : Int))) then (bif decide (0 ≤ x5) then (bif decide (x5 < (x0.length : Int)) then (bif decide (0 ≤ x5) then (bif decide (x5 < (x1.length : Int)) then (bif (!beqS (x0.getD (x5 : Int).toNat (⟨#[]⟩ : ByteArray)) (x1.getD (x5 : Int).toNat (⟨#[]⟩ : ByteArray))) then (some (.inl false)) else (laws_eqStringS.l0 k x0 x1 (IntKind.wrap .i64 (x5 + 1)))) else none) else none) else none) else none) else (some (.inr ()))
def laws_eqStringS.F (k : Nat) (a0 : List ByteArray) (a1 : List ByteArray) : Option (Bool) := bif ((a0.length : Int) != (a1.length : Int)) then (some false) else ((laws_eqStringS.l0 k a0 a1 0).bind fun y1 => match y1 with | .inl z2 => some z2 | .inr z2 => some true)
def laws_eqStringS.C (k : Nat) : Cal → Option CArm := fun c => match c with
  | _ => none
def laws_eqStringS.sp0 : List Sp := [.t 0 (.sl .str), .t 1 (.sl .str), .t 5 (.int .i64)]
def laws_eqStringS.sp0_0 : List Sp := [.t 4 .bool]
def laws_eqStringS.sp0_1 : List Sp := []
def laws_eqStringS.A0 : LArm := .two laws_eqStringS.sp0 laws_eqStringS.sp0_0 laws_eqStringS.sp0_1 (Bool) (Unit) (fun k x => laws_eqStringS.l0 k x.1 x.2.1 x.2.2.1) .ret (.exit 0) (fun y => (y, ())) (fun x => x.1) (fun y => ()) (fun x => ())
def laws_eqStringS.L : Nat → Option LArm := fun b => match b with
  | 0 => some laws_eqStringS.A0
  | _ => none
theorem laws_eqStringS.run (k : Nat) (a0 : List ByteArray) (a1 : List ByteArray) : runF envX (tabC (laws_eqStringS.C k)) (tabL 26 k laws_eqStringS.L) Tryd.f24 [.t (.sl .str) a0, .t (.sl .str) a1] (viewR1 (.t .bool)) = laws_eqStringS.F k a0 a1 := by kernel_rfl
theorem laws_eqStringS.step0 (k : Nat) (x0 : List ByteArray) (x1 : List ByteArray) (x5 : Int) : runC envX (tabC (laws_eqStringS.C k)) (tabL 26 k laws_eqStringS.L) 0 (loopAt Tryd.f24 0) (stOf 26 laws_eqStringS.sp0 (x0, x1, x5, ())) (laws_eqStringS.A0.cont 26 k) = laws_eqStringS.l0 (k + 1) x0 x1 x5 := by kernel_rfl
theorem laws_eqStringS.G (hE : EnvOk Tryd.prog envX) (pv : Nat → Value) (k : Nat) : ∀ cal A, laws_eqStringS.C k cal = some A → ArmOk Tryd.prog envX pv cal A := by
  intro cal A h
  unfold laws_eqStringS.C at h
  cases h
theorem laws_eqStringS.good (hE : EnvOk Tryd.prog envX) (pv : Nat → Value) (k : Nat) (a0 : List ByteArray) (a1 : List ByteArray) {y : _} (h : laws_eqStringS.F k a0 a1 = some y) : Meets Tryd.prog envX pv (.f 24) (tvals [(.sl .str), (.sl .str)] (a0, a1, ())) (.t .bool y) :=
  fun_loops hE (t := laws_eqStringS.C) k (fun k _ => laws_eqStringS.G hE pv k) (f := 24) (fn := Tryd.f24) (by kernel_rfl) rfl (by kernel_rfl) (by kernel_rfl) (lt := laws_eqStringS.L) (by kernel_rfl) (fun b A h => by
    unfold laws_eqStringS.L at h; split at h
    · cases h; exact ⟨by kernel_rfl, by kernel_rfl, by kernel_rfl, fun _ => rfl, fun _ => rfl, fun _ => rfl⟩
    · cases h) (fun b A h => by
    unfold laws_eqStringS.L at h; split at h
    · cases h; exact fun k x => laws_eqStringS.step0 k x.1 x.2.1 x.2.2.1
    · cases h) ((laws_eqStringS.run k a0 a1).trans h) fun r hr => wk_view1 hr
/-! ### 53 loop.example/g00896/laws.markText -/
def laws_markText.l0 : Nat → Int → ByteArray → Option (ByteArray)
  | 0, _, _ => none
  | k + 1, x0, x3 => bif (decide (x0 > 0)) then (bif (10 == 0) then (none) else (bif Nat.ble ((strL ([(IntKind.wrap .u8 (IntKind.wrap .i64 (48 + (Int.tmod x0 10))))] : List Int)).size + x3.size) 9223372036854775807 then (bif (10 == 0) then (none) else (laws_markText.l0 k (IntKind.wrap .i64 (Int.tdiv x0 10)) ((strL ([(IntKind.wrap .u8 (IntKind.wrap .i64 (48 + (Int.tmod x0 10))))] : List Int)) ++ x3))) else none)) else (some x3)
def laws_markText.F (k : Nat) (a0 : Int) : Option (ByteArray) := bif (decide (a0 ≤ 0)) then (some (⟨#[109, 48]⟩ : ByteArray)) else ((laws_markText.l0 k a0 (⟨#[]⟩ : ByteArray)).bind fun y1 => bif Nat.ble ((⟨#[109]⟩ : ByteArray).size + y1.size) 9223372036854775807 then (some ((⟨#[109]⟩ : ByteArray) ++ y1)) else none)
def laws_markText.C (k : Nat) : Cal → Option CArm := fun c => match c with
  | _ => none
def laws_markText.sp0 : List Sp := [.t 0 (.int .i64), .t 3 .str]
def laws_markText.sp0_0 : List Sp := [.t 3 .str]
def laws_markText.A0 : LArm := .one laws_markText.sp0 laws_markText.sp0_0 (ByteArray) (fun k x => laws_markText.l0 k x.1 x.2.1) (.exit 0) (fun y => (y, ())) (fun x => x.1)
def laws_markText.L : Nat → Option LArm := fun b => match b with
  | 0 => some laws_markText.A0
  | _ => none
theorem laws_markText.run (k : Nat) (a0 : Int) : runF envX (tabC (laws_markText.C k)) (tabL 20 k laws_markText.L) Tryd.f53 [.t (.int .i64) a0] (viewR1 (.t .str)) = laws_markText.F k a0 := by kernel_rfl
theorem laws_markText.step0 (k : Nat) (x0 : Int) (x3 : ByteArray) : runC envX (tabC (laws_markText.C k)) (tabL 20 k laws_markText.L) 0 (loopAt Tryd.f53 0) (stOf 20 laws_markText.sp0 (x0, x3, ())) (laws_markText.A0.cont 20 k) = laws_markText.l0 (k + 1) x0 x3 := by kernel_rfl
theorem laws_markText.G (hE : EnvOk Tryd.prog envX) (pv : Nat → Value) (k : Nat) : ∀ cal A, laws_markText.C k cal = some A → ArmOk Tryd.prog envX pv cal A := by
  intro cal A h
  unfold laws_markText.C at h
  cases h
theorem laws_markText.good (hE : EnvOk Tryd.prog envX) (pv : Nat → Value) (k : Nat) (a0 : Int) {y : _} (h : laws_markText.F k a0 = some y) : Meets Tryd.prog envX pv (.f 53) (tvals [(.int .i64)] (a0, ())) (.t .str y) :=
  fun_loops hE (t := laws_markText.C) k (fun k _ => laws_markText.G hE pv k) (f := 53) (fn := Tryd.f53) (by kernel_rfl) rfl (by kernel_rfl) (by kernel_rfl) (lt := laws_markText.L) (by kernel_rfl) (fun b A h => by
    unfold laws_markText.L at h; split at h
    · cases h; exact ⟨by kernel_rfl, by kernel_rfl, fun _ => rfl, fun _ => rfl⟩
    · cases h) (fun b A h => by
    unfold laws_markText.L at h; split at h
    · cases h; exact fun k x => laws_markText.step0 k x.1 x.2.1
    · cases h) ((laws_markText.run k a0).trans h) fun r hr => wk_view1 hr
/-! ### 25 loop.example/g00896/laws.markStringS -/
def laws_markStringS.l0 : Nat → (List ByteArray) → Int → Int → Option ((List ByteArray) × Int)
  | 0, _, _, _ => none
  | k + 1, x0, x1, x5 => bif (decide (x5 < (x0.length : Int))) then ((laws_markText.F k x1).bind fun r1 => bif decide (0 ≤ x5) then (bif decide (x5 < (x0.length : Int)) then (laws_markStringS.l0 k (x0.set ((x5 : Int).toNat) r1) (IntKind.wrap .i64 (x1 + 1)) (IntKind.wrap .i64 (x5 + 1))) else none) else none) else (some (x0, x1))
def laws_markStringS.F (k : Nat) (a0 : List ByteArray) (a1 : Int) : Option ((List ByteArray) × Int) := (laws_markStringS.l0 k a0 a1 0).bind fun y2 => bif Nat.beq (y2.1).length a0.length then (some (y2.1, y2.2)) else none
def laws_markStringS.C (k : Nat) : Cal → Option CArm := fun c => match c with
  | .f 53 => some (.p [(.int .i64)] _ (fun x => laws_markText.F k x.1) (fun r => (.t .str r)))
  | _ => none
def laws_markStringS.sp0 : List Sp := [.own 0 1099511627776 9 .str false true, .t 1 (.int .i64), .t 5 (.int .i64)]
def laws_markStringS.sp0_0 : List Sp := [.own 0 1099511627776 9 .str false true, .t 1 (.int .i64)]
def laws_markStringS.A0 : LArm := .one laws_markStringS.sp0 laws_markStringS.sp0_0 ((List ByteArray) × Int) (fun k x => laws_markStringS.l0 k x.1 x.2.1 x.2.2.1) (.exit 0) (fun y => (y.1, y.2, ())) (fun x => (x.1, x.2.1))
def laws_markStringS.L : Nat → Option LArm := fun b => match b with
  | 0 => some laws_markStringS.A0
  | _ => none
theorem laws_markStringS.run (k : Nat) (a0 : List ByteArray) (a1 : Int) : runM envX (tabC (laws_markStringS.C k)) (tabL 20 k laws_markStringS.L) Tryd.f25 mbase (.fr 9 .str a0) [.t (.int .i64) a1] (viewK (.fr 9 .str) (viewR1 (.t (.int .i64)))) = laws_markStringS.F k a0 a1 := by kernel_rfl
theorem laws_markStringS.step0 (k : Nat) (x0 : List ByteArray) (x1 : Int) (x5 : Int) : runC envX (tabC (laws_markStringS.C k)) (tabL 20 k laws_markStringS.L) 0 (loopAt Tryd.f25 0) (stOf 20 laws_markStringS.sp0 (x0, x1, x5, ())) (laws_markStringS.A0.cont 20 k) = laws_markStringS.l0 (k + 1) x0 x1 x5 := by kernel_rfl
theorem laws_markStringS.G (hE : EnvOk Tryd.prog envX) (pv : Nat → Value) (k : Nat) : ∀ cal A, laws_markStringS.C k cal = some A → ArmOk Tryd.prog envX pv cal A := by
  intro cal A h
  unfold laws_markStringS.C at h
  split at h
  · cases h; exact fun x y hy => laws_markText.good hE pv k x.1 hy
  · cases h
theorem laws_markStringS.good (hE : EnvOk Tryd.prog envX) (pv : Nat → Value) (k : Nat) (a0 : List ByteArray) (a1 : Int) {y : _} (h : laws_markStringS.F k a0 a1 = some y) : MeetsM Tryd.prog envX pv 25 (.fr 9 .str a0) (tvals [(.int .i64)] (a1, ())) (.kep (.fr 9 .str y.1) (.t (.int .i64) y.2)) :=
  funM_loops hE (t := laws_markStringS.C) k (fun k _ => laws_markStringS.G hE pv k) (f := 25) (fn := Tryd.f25) (by kernel_rfl) rfl (by kernel_rfl) (.inl rfl) (by kernel_rfl) (lt := laws_markStringS.L) (by kernel_rfl) (fun b A h => by
    unfold laws_markStringS.L at h; split at h
    · cases h; exact ⟨by kernel_rfl, by kernel_rfl, fun _ => rfl, fun _ => rfl⟩
    · cases h) (fun b A h => by
    unfold laws_markStringS.L at h; split at h
    · cases h; exact fun k x => laws_markStringS.step0 k x.1 x.2.1 x.2.2.1
    · cases h) ((laws_markStringS.run k a0 a1).trans h) fun r hr => wk_viewK (fun r y h => wk_view1 h) hr
/-! ### 26 loop.example/g00896/laws.heldStringS -/
def laws_heldStringS.l0 : Nat → (List ByteArray) → Int → Int → Option (Sum Int Int)
  | 0, _, _, _ => none
  | k + 1, x0, x1, x5 => bif (decide (x5 < (x0.length : Int))) then (bif decide (0 ≤ x5) then (bif decide (x5 < (x0.length : Int)) then ((laws_markText.F k x1).bind fun r1 => bif (!beqS (x0.getD (x5 : Int).toNat (⟨#[]⟩ : ByteArray)) r1) then (some (.inl (-1))) else (laws_heldStringS.l0 k x0 (IntKind.wrap .i64 (x1 + 1)) (IntKind.wrap .i64 (x5 + 1)))) else none) else none) else (some (.inr x1))
def laws_heldStringS.F (k : Nat) (a0 : List ByteArray) (a1 : Int) : Option (Int) := (laws_heldStringS.l0 k a0 a1 0).bind fun y2 => match y2 with | .inl z3 => some z3 | .inr z3 => some z3
def laws_heldStringS.C (k : Nat) : Cal → Option CArm := fun c => match c with
  | .f 53 => some (.p [(.int .i64)] _ (fun x => laws_markText.F k x.1) (fun r => (.t .str r)))
  | _ => none
def laws_heldStringS.sp0 : List Sp := [.t 0 (.sl .str), .t 1 (.int .i64), .t 5 (.int .i64)]
def laws_heldStringS.sp0_0 : List Sp := [.t 4 (.int .i64)]
def laws_heldStringS.sp0_1 : List Sp := [.t 1 (.int .i64)]
def laws_heldStringS.A0 : LArm := .two laws_heldStringS.sp0 laws_heldStringS.sp0_0 laws_heldStringS.sp0_1 (Int) (Int) (fun k x => laws_heldStringS.l0 k x.1 x.2.1 x.2.2.1) .ret (.exit 0) (fun y => (y, ())) (fun x => x.1) (fun y => (y, ())) (fun x => x.1)
def laws_heldStringS.L : Nat → Option LArm := fun b => match b with
  | 0 => some laws_heldStringS.A0
  | _ => none
theorem laws_heldStringS.run (k : Nat) (a0 : List ByteArray) (a1 : Int) : runF envX (tabC (laws_heldStringS.C k)) (tabL 22 k laws_heldStringS.L) Tryd.f26 [.t (.sl .str) a0, .t (.int .i64) a1] (viewR1 (.t (.int .i64))) = laws_heldStringS.F k a0 a1 := by kernel_rfl
theorem laws_heldStringS.step0 (k : Nat) (x0 : List ByteArray) (x1 : Int) (x5 : Int) : runC envX (tabC (laws_heldStringS.C k)) (tabL 22 k laws_heldStringS.L) 0 (loopAt Tryd.f26 0) (stOf 22 laws_heldStringS.sp0 (x0, x1, x5, ())) (laws_heldStringS.A0.cont 22 k) = laws_heldStringS.l0 (k + 1) x0 x1 x5 := by kernel_rfl
theorem laws_heldStringS.G (hE : EnvOk Tryd.prog envX) (pv : Nat → Value) (k : Nat) : ∀ cal A, laws_heldStringS.C k cal = some A → ArmOk Tryd.prog envX pv cal A := by
  intro cal A h
  unfold laws_heldStringS.C at h
  split at h
  · cases h; exact fun x y hy => laws_markText.good hE pv k x.1 hy
  · cases h
theorem laws_heldStringS.good (hE : EnvOk Tryd.prog envX) (pv : Nat → Value) (k : Nat) (a0 : List ByteArray) (a1 : Int) {y : _} (h : laws_heldStringS.F k a0 a1 = some y) : Meets Tryd.prog envX pv (.f 26) (tvals [(.sl .str), (.int .i64)] (a0, a1, ())) (.t (.int .i64) y) :=
  fun_loops hE (t := laws_heldStringS.C) k (fun k _ => laws_heldStringS.G hE pv k) (f := 26) (fn := Tryd.f26) (by kernel_rfl) rfl (by kernel_rfl) (by kernel_rfl) (lt := laws_heldStringS.L) (by kernel_rfl) (fun b A h => by
    unfold laws_heldStringS.L at h; split at h
    · cases h; exact ⟨by kernel_rfl, by kernel_rfl, by kernel_rfl, fun _ => rfl, fun _ => rfl, fun _ => rfl⟩
    · cases h) (fun b A h => by
    unfold laws_heldStringS.L at h; split at h
    · cases h; exact fun k x => laws_heldStringS.step0 k x.1 x.2.1 x.2.2.1
    · cases h) ((laws_heldStringS.run k a0 a1).trans h) fun r hr => wk_view1 hr
/-! ### 6 loop.example/g00896/laws.FnExactHangingLines -/
def laws_FnExactHangingLines.F (k : Nat) (a0 : ByteArray) (a1 : Int) (a2 : Int) : Option (Bool) := bif (decide ((a0.size : Int) > 1048576)) then (some true) else ((spec_HangingLines.F k a0 a1 a2).bind fun r1 => (impl_HangingLines.F k a0 a1 a2).bind fun r2 => (laws_eqStringS.F k r2.1 r1.1).bind fun r3 => bif (!r3) then (some false) else (bif (!(r2.2 == r1.2)) then (some false) else ((laws_markStringS.F k r2.1 1).bind fun r4 => (laws_heldStringS.F k r4.1 1).bind fun r5 => bif (decide (r5 < 0)) then (some false) else (bif (r5 != r4.2) then (some false) else ((impl_HangingLines.F k a0 a1 a2).bind fun r6 => (laws_eqStringS.F k r6.1 r1.1).bind fun r7 => bif (!r7) then (some false) else (bif (!(r6.2 == r1.2)) then (some false) else ((laws_heldStringS.F k r4.1 1).bind fun r8 => bif (decide (r8 < 0)) then (some false) else (bif (r8 != r4.2) then (some false) else (some true)))))))))
def laws_FnExactHangingLines.C (k : Nat) : Cal → Option CArm := fun c => match c with
  | .f 22 => some (.p [.str, (.int .i64), (.int .i64)] _ (fun x => spec_HangingLines.F k x.1 x.2.1 x.2.2.1) (fun r => (.tup [.fr 9 .str r.1, .t .bool r.2])))
  | .f 23 => some (.p [.str, (.int .i64), (.int .i64)] _ (fun x => impl_HangingLines.F k x.1 x.2.1 x.2.2.1) (fun r => (.tup [.fr 9 .str r.1, .t .bool r.2])))
  | .f 24 => some (.p [(.sl .str), (.sl .str)] _ (fun x => laws_eqStringS.F k x.1 x.2.1) (fun r => (.t .bool r)))
  | .f 25 => some (.m (.fr 9 .str) [(.int .i64)] _ (fun x0 x => laws_markStringS.F k x0 x.1) (fun r => .kep (.fr 9 .str r.1) (.t (.int .i64) r.2)))
  | .f 26 => some (.p [(.sl .str), (.int .i64)] _ (fun x => laws_heldStringS.F k x.1 x.2.1) (fun r => (.t (.int .i64) r)))
  | _ => none
theorem laws_FnExactHangingLines.run (k : Nat) (a0 : ByteArray) (a1 : Int) (a2 : Int) : runF envX (tabC (laws_FnExactHangingLines.C k)) (tabL 76 0 (fun _ => none)) Tryd.f6 [.t .str a0, .t (.int .i64) a1, .t (.int .i64) a2] (viewR1 (.t .bool)) = laws_FnExactHangingLines.F k a0 a1 a2 := by kernel_rfl
theorem laws_FnExactHangingLines.G (hE : EnvOk Tryd.prog envX) (pv : Nat → Value) (k : Nat) : ∀ cal A, laws_FnExactHangingLines.C k cal = some A → ArmOk Tryd.prog envX pv cal A := by
  intro cal A h
  unfold laws_FnExactHangingLines.C at h
  split at h
  · cases h; exact fun x y hy => spec_HangingLines.good hE pv k x.1 x.2.1 x.2.2.1 hy
  · cases h; exact fun x y hy => impl_HangingLines.good hE pv k x.1 x.2.1 x.2.2.1 hy
  · cases h; exact fun x y hy => laws_eqStringS.good hE pv k x.1 x.2.1 hy
  · cases h; exact ⟨_, rfl, fun x0 x y hy => laws_markStringS.good hE pv k x0 x.1 hy⟩
  · cases h; exact fun x y hy => laws_heldStringS.good hE pv k x.1 x.2.1 hy
  · cases h
theorem laws_FnExactHangingLines.good (hE : EnvOk Tryd.prog envX) (pv : Nat → Value) (k : Nat) (a0 : ByteArray) (a1 : Int) (a2 : Int) {y : _} (h : laws_FnExactHangingLines.F k a0 a1 a2 = some y) : Meets Tryd.prog envX pv (.f 6) (tvals [.str, (.int .i64), (.int .i64)] (a0, a1, a2, ())) (.t .bool y) :=
  fun_plain hE (laws_FnExactHangingLines.G hE pv k) (f := 6) (fn := Tryd.f6) (by kernel_rfl) rfl (by kernel_rfl) (by kernel_rfl) ((laws_FnExactHangingLines.run k a0 a1 a2).trans h) fun r hr => wk_view1 hr
/-! ### 27 loop.example/g00896/spec.WrapText -/
def spec_WrapText.F (k : Nat) (a0 : ByteArray) (a1 : Int) : Option ((List ByteArray) × Bool) := (spec_l17Width.F a0 a1).bind fun r1 => bif (!r1) then (some (([] : List ByteArray), false)) else ((spec_l17Lines.F k a0 a1 0).bind fun r2 => some (r2, true))
def spec_WrapText.C (k : Nat) : Cal → Option CArm := fun c => match c with
  | .f 47 => some (.p [.str, (.int .i64)] _ (fun x => spec_l17Width.F x.1 x.2.1) (fun r => (.t .bool r)))
  | .f 49 => some (.p [.str, (.int .i64), (.int .i64)] _ (fun x => spec_l17Lines.F k x.1 x.2.1 x.2.2.1) (fun r => (.fr 9 .str r)))
  | _ => none
theorem spec_WrapText.run (k : Nat) (a0 : ByteArray) (a1 : Int) : runF envX (tabC (spec_WrapText.C k)) (tabL 14 0 (fun _ => none)) Tryd.f27 [.t .str a0, .t (.int .i64) a1] (viewR2 (.fr 9 .str) (.t .bool)) = spec_WrapText.F k a0 a1 := by kernel_rfl
theorem spec_WrapText.G (hE : EnvOk Tryd.prog envX) (pv : Nat → Value) (k : Nat) : ∀ cal A, spec_WrapText.C k cal = some A → ArmOk Tryd.prog envX pv cal A := by
  intro cal A h
  unfold spec_WrapText.C at h
  split at h
  · cases h; exact fun x y hy => spec_l17Width.good hE pv x.1 x.2.1 hy
  · cases h; exact fun x y hy => spec_l17Lines.good hE pv k x.1 x.2.1 x.2.2.1 hy
  · cases h
theorem spec_WrapText.good (hE : EnvOk Tryd.prog envX) (pv : Nat → Value) (k : Nat) (a0 : ByteArray) (a1 : Int) {y : _} (h : spec_WrapText.F k a0 a1 = some y) : Meets Tryd.prog envX pv (.f 27) (tvals [.str, (.int .i64)] (a0, a1, ())) (.tup [.fr 9 .str y.1, .t .bool y.2]) :=
  fun_plain hE (spec_WrapText.G hE pv k) (f := 27) (fn := Tryd.f27) (by kernel_rfl) rfl (by kernel_rfl) (by kernel_rfl) ((spec_WrapText.run k a0 a1).trans h) fun r hr => wk_view2 hr
/-! ### 28 loop.example/g00896/impl.WrapText -/
def impl_WrapText.F (k : Nat) (a0 : ByteArray) (a1 : Int) : Option ((List ByteArray) × Bool) := (impl_canWrap.F a0 a1).bind fun r1 => bif (!r1) then (some ([], false)) else ((impl_hangingLines.F k a0 a1 0).bind fun r2 => some (r2, true))
def impl_WrapText.C (k : Nat) : Cal → Option CArm := fun c => match c with
  | .f 50 => some (.p [.str, (.int .i64)] _ (fun x => impl_canWrap.F x.1 x.2.1) (fun r => (.t .bool r)))
  | .f 52 => some (.p [.str, (.int .i64), (.int .i64)] _ (fun x => impl_hangingLines.F k x.1 x.2.1 x.2.2.1) (fun r => (.fr 9 .str r)))
  | _ => none
theorem impl_WrapText.run (k : Nat) (a0 : ByteArray) (a1 : Int) : runF envX (tabC (impl_WrapText.C k)) (tabL 13 0 (fun _ => none)) Tryd.f28 [.t .str a0, .t (.int .i64) a1] (viewR2 (.fr 9 .str) (.t .bool)) = impl_WrapText.F k a0 a1 := by kernel_rfl
theorem impl_WrapText.G (hE : EnvOk Tryd.prog envX) (pv : Nat → Value) (k : Nat) : ∀ cal A, impl_WrapText.C k cal = some A → ArmOk Tryd.prog envX pv cal A := by
  intro cal A h
  unfold impl_WrapText.C at h
  split at h
  · cases h; exact fun x y hy => impl_canWrap.good hE pv x.1 x.2.1 hy
  · cases h; exact fun x y hy => impl_hangingLines.good hE pv k x.1 x.2.1 x.2.2.1 hy
  · cases h
theorem impl_WrapText.good (hE : EnvOk Tryd.prog envX) (pv : Nat → Value) (k : Nat) (a0 : ByteArray) (a1 : Int) {y : _} (h : impl_WrapText.F k a0 a1 = some y) : Meets Tryd.prog envX pv (.f 28) (tvals [.str, (.int .i64)] (a0, a1, ())) (.tup [.fr 9 .str y.1, .t .bool y.2]) :=
  fun_plain hE (impl_WrapText.G hE pv k) (f := 28) (fn := Tryd.f28) (by kernel_rfl) rfl (by kernel_rfl) (by kernel_rfl) ((impl_WrapText.run k a0 a1).trans h) fun r hr => wk_view2 hr
/-! ### 7 loop.example/g00896/laws.FnExactWrapText -/
def laws_FnExactWrapText.F (k : Nat) (a0 : ByteArray) (a1 : Int) : Option (Bool) := bif (decide ((a0.size : Int) > 1048576)) then (some true) else ((spec_WrapText.F k a0 a1).bind fun r1 => (impl_WrapText.F k a0 a1).bind fun r2 => (laws_eqStringS.F k r2.1 r1.1).bind fun r3 => bif (!r3) then (some false) else (bif (!(r2.2 == r1.2)) then (some false) else ((laws_markStringS.F k r2.1 1).bind fun r4 => (laws_heldStringS.F k r4.1 1).bind fun r5 => bif (decide (r5 < 0)) then (some false) else (bif (r5 != r4.2) then (some false) else ((impl_WrapText.F k a0 a1).bind fun r6 => (laws_eqStringS.F k r6.1 r1.1).bind fun r7 => bif (!r7) then (some false) else (bif (!(r6.2 == r1.2)) then (some false) else ((laws_heldStringS.F k r4.1 1).bind fun r8 => bif (decide (r8 < 0)) then (some false) else (bif (r8 != r4.2) then (some false) else (some true)))))))))
def laws_FnExactWrapText.C (k : Nat) : Cal → Option CArm := fun c => match c with
  | .f 27 => some (.p [.str, (.int .i64)] _ (fun x => spec_WrapText.F k x.1 x.2.1) (fun r => (.tup [.fr 9 .str r.1, .t .bool r.2])))
  | .f 28 => some (.p [.str, (.int .i64)] _ (fun x => impl_WrapText.F k x.1 x.2.1) (fun r => (.tup [.fr 9 .str r.1, .t .bool r.2])))
  | .f 24 => some (.p [(.sl .str), (.sl .str)] _ (fun x => laws_eqStringS.F k x.1 x.2.1) (fun r => (.t .bool r)))
  | .f 25 => some (.m (.fr 9 .str) [(.int .i64)] _ (fun x0 x => laws_markStringS.F k x0 x.1) (fun r => .kep (.fr 9 .str r.1) (.t (.int .i64) r.2)))
  | .f 26 => some (.p [(.sl .str), (.int .i64)] _ (fun x => laws_heldStringS.F k x.1 x.2.1) (fun r => (.t (.int .i64) r)))
  | _ => none
theorem laws_FnExactWrapText.run (k : Nat) (a0 : ByteArray) (a1 : Int) : runF envX (tabC (laws_FnExactWrapText.C k)) (tabL 71 0 (fun _ => none)) Tryd.f7 [.t .str a0, .t (.int .i64) a1] (viewR1 (.t .bool)) = laws_FnExactWrapText.F k a0 a1 := by kernel_rfl
theorem laws_FnExactWrapText.G (hE : EnvOk Tryd.prog envX) (pv : Nat → Value) (k : Nat) : ∀ cal A, laws_FnExactWrapText.C k cal = some A → ArmOk Tryd.prog envX pv cal A := by
  intro cal A h
  unfold laws_FnExactWrapText.C at h
  split at h
  · cases h; exact fun x y hy => spec_WrapText.good hE pv k x.1 x.2.1 hy
  · cases h; exact fun x y hy => impl_WrapText.good hE pv k x.1 x.2.1 hy
  · cases h; exact fun x y hy => laws_eqStringS.good hE pv k x.1 x.2.1 hy
  · cases h; exact ⟨_, rfl, fun x0 x y hy => laws_markStringS.good hE pv k x0 x.1 hy⟩
  · cases h; exact fun x y hy => laws_heldStringS.good hE pv k x.1 x.2.1 hy
  · cases h
theorem laws_FnExactWrapText.good (hE : EnvOk Tryd.prog envX) (pv : Nat → Value) (k : Nat) (a0 : ByteArray) (a1 : Int) {y : _} (h : laws_FnExactWrapText.F k a0 a1 = some y) : Meets Tryd.prog envX pv (.f 7) (tvals [.str, (.int .i64)] (a0, a1, ())) (.t .bool y) :=
  fun_plain hE (laws_FnExactWrapText.G hE pv k) (f := 7) (fn := Tryd.f7) (by kernel_rfl) rfl (by kernel_rfl) (by kernel_rfl) ((laws_FnExactWrapText.run k a0 a1).trans h) fun r hr => wk_view1 hr
end Go.Proofs.YtahacbcnjfoknaaDoor
