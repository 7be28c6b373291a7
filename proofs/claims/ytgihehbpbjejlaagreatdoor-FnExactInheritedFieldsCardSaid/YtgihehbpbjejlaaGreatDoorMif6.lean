/- Plain laws: bytes, pieces, edges of a text; no function of the program. -/
import Derived.Test.YtgihehbpbjejlaaGreatDoorMif5
import Derived.Test.YtgihehbpbjejlaaGreatDoorMif3
import Derived.Lib.IndexBytes
import Derived.Lib.IndexLaws
import Derived.Lib.CountLaws
import Derived.Lib.Split
import Derived.Lib.SplitLaws
import Derived.Lib.TrimByte
import Derived.Lib.Join
section
namespace Go.Proofs.YtgihehbpbjejlaaGreatDoor
open Go.Gx
set_option linter.unusedVariables false
set_option maxRecDepth 100000
/-! ### 147 loop.example/g00896/impl.isGreatWord -/
def impl_isGreatWord.F (k : Nat) (a0 : ByteArray) : Option (Bool) := (impl_isNameWord.F k a0).bind fun r1 => bif r1 then (bif decide (0 ≤ 0) then (bif decide (0 < (a0.size : Int)) then ((impl_isUpper.F (bt a0 (0 : Int).toNat)).bind fun r2 => some r2) else none) else none) else (some false)
def impl_isGreatWord.C (k : Nat) : Cal → Option CArm := fun c => match c with
  | .f 149 => some (.p [.str] _ (fun x => impl_isNameWord.F k x.1) (fun r => (.t .bool r)))
  | .f 163 => some (.p [(.int .u8)] _ (fun x => impl_isUpper.F x.1) (fun r => (.t .bool r)))
  | _ => none
theorem impl_isGreatWord.run (k : Nat) (a0 : ByteArray) : runF envX (tabC (impl_isGreatWord.C k)) (tabL 10 0 (fun _ => none)) Tryz.f147 [.t .str a0] (viewR1 (.t .bool)) = impl_isGreatWord.F k a0 := by kernel_rfl
theorem impl_isGreatWord.G (hE : EnvOk Tryz.prog envX) (pv : Nat → Value) (k : Nat) : ∀ cal A, impl_isGreatWord.C k cal = some A → ArmOk Tryz.prog envX pv cal A := by
  intro cal A h
  unfold impl_isGreatWord.C at h
  split at h
  · cases h; exact fun x y hy => impl_isNameWord.good hE pv k x.1 hy
  · cases h; exact fun x y hy => impl_isUpper.good hE pv x.1 hy
  · cases h
theorem impl_isGreatWord.good (hE : EnvOk Tryz.prog envX) (pv : Nat → Value) (k : Nat) (a0 : ByteArray) {y : _} (h : impl_isGreatWord.F k a0 = some y) : Meets Tryz.prog envX pv (.f 147) (tvals [.str] (a0, ())) (.t .bool y) :=
  fun_plain hE (impl_isGreatWord.G hE pv k) (f := 147) (fn := Tryz.f147) (by kernel_rfl) rfl (by kernel_rfl) (by kernel_rfl) ((impl_isGreatWord.run k a0).trans h) fun r hr => wk_view1 hr
/-! ### 146 loop.example/g00896/impl.IsValidName$1 -/
def impl_IsValidName_1.F (k : Nat) (a0 : ByteArray) : Option (Bool) := (impl_isGreatWord.F k a0).bind fun r1 => some (!r1)
def impl_IsValidName_1.C (k : Nat) : Cal → Option CArm := fun c => match c with
  | .f 147 => some (.p [.str] _ (fun x => impl_isGreatWord.F k x.1) (fun r => (.t .bool r)))
  | _ => none
theorem impl_IsValidName_1.run (k : Nat) (a0 : ByteArray) : runF envX (tabC (impl_IsValidName_1.C k)) (tabL 6 0 (fun _ => none)) Tryz.f146 [.t .str a0] (viewR1 (.t .bool)) = impl_IsValidName_1.F k a0 := by kernel_rfl
theorem impl_IsValidName_1.G (hE : EnvOk Tryz.prog envX) (pv : Nat → Value) (k : Nat) : ∀ cal A, impl_IsValidName_1.C k cal = some A → ArmOk Tryz.prog envX pv cal A := by
  intro cal A h
  unfold impl_IsValidName_1.C at h
  split at h
  · cases h; exact fun x y hy => impl_isGreatWord.good hE pv k x.1 hy
  · cases h
theorem impl_IsValidName_1.good (hE : EnvOk Tryz.prog envX) (pv : Nat → Value) (k : Nat) (a0 : ByteArray) {y : _} (h : impl_IsValidName_1.F k a0 = some y) : Meets Tryz.prog envX pv (.f 146) (tvals [.str] (a0, ())) (.t .bool y) :=
  fun_plain hE (impl_IsValidName_1.G hE pv k) (f := 146) (fn := Tryz.f146) (by kernel_rfl) rfl (by kernel_rfl) (by kernel_rfl) ((impl_IsValidName_1.run k a0).trans h) fun r hr => wk_view1 hr
/-! ### 164 strings.Split -/
def strings_Split.F (a0 : ByteArray) (a1 : ByteArray) : Option (List ByteArray) := xSplit a0 a1
theorem strings_Split.good (hE : EnvOk Tryz.prog envX) (pv : Nat → Value) (a0 : ByteArray) (a1 : ByteArray) {y : _} (h : strings_Split.F a0 a1 = some y) : Meets Tryz.prog envX pv (.f 164) (tvals [.str, .str] (a0, a1, ())) (.fr 9 .str y) :=
  ext_split (fn := Tryz.f164) (by kernel_rfl) rfl (by kernel_rfl) (mx := 1) (by kernel_rfl) Tryz.strings_Split h
/-! ### 148 loop.example/g00896/impl.isParticle -/
def impl_isParticle.l2 : Nat → (List ByteArray) → ByteArray → Int → Int → Int → Option (Sum Bool ((List ByteArray) × Int × Int))
  | 0, _, _, _, _, _ => none
  | k + 1, x3, x5, x6, x12, x13 => bif (decide (x6 < (x5.size : Int))) then (bif decide (0 ≤ x6) then (bif decide (x6 < (x5.size : Int)) then ((impl_isLower.F (bt x5 (x6 : Int).toNat)).bind fun r3 => bif (!r3) then (some (.inl false)) else (impl_isParticle.l2 k x3 x5 (IntKind.wrap .i64 (x6 + 1)) x12 x13)) else none) else none) else (some (.inr (x3, x12, x13)))
def impl_isParticle.l0 : Nat → (List ByteArray) → Int → Int → Option (Sum Bool (List ByteArray))
  | 0, _, _, _ => none
  | k + 1, x3, x12, x13 => bif (decide (x13 < x12)) then (bif decide (0 ≤ x13) then (bif decide (x13 < (x3.length : Int)) then ((impl_inside.F ((x3.getD ((x13 : Int).toNat) (⟨#[]⟩ : ByteArray)).size : Int) 1 12).bind fun r2 => bif (!r2) then (some (.inl false)) else ((impl_isParticle.l2 k x3 (x3.getD ((x13 : Int).toNat) (⟨#[]⟩ : ByteArray)) 0 x12 x13).bind fun y4 => match y4 with | .inl z5 => some (.inl z5) | .inr z5 => impl_isParticle.l0 k z5.1 z5.2.1 (IntKind.wrap .i64 (z5.2.2 + 1)))) else none) else none) else (some (.inr x3))
def impl_isParticle.F (k : Nat) (a0 : ByteArray) : Option (Bool) := bif (beqS a0 (⟨#[]⟩ : ByteArray)) then (some true) else ((strings_Split.F a0 (⟨#[32]⟩ : ByteArray)).bind fun r1 => (impl_isParticle.l0 k r1 (r1.length : Int) 0).bind fun y6 => match y6 with | .inl z7 => some z7 | .inr z7 => some (decide ((z7.length : Int) ≤ 2)))
def impl_isParticle.C (k : Nat) : Cal → Option CArm := fun c => match c with
  | .f 164 => some (.p [.str, .str] _ (fun x => strings_Split.F x.1 x.2.1) (fun r => (.fr 9 .str r)))
  | .f 103 => some (.p [(.int .i64), (.int .i64), (.int .i64)] _ (fun x => impl_inside.F x.1 x.2.1 x.2.2.1) (fun r => (.t .bool r)))
  | .f 123 => some (.p [(.int .u8)] _ (fun x => impl_isLower.F x.1) (fun r => (.t .bool r)))
  | _ => none
def impl_isParticle.sp2 : List Sp := [.own 3 3076 9 .str false true, .t 5 .str, .t 6 (.int .i64), .con 11 (.own 3076), .t 12 (.int .i64), .t 13 (.int .i64)]
def impl_isParticle.sp2_0 : List Sp := [.t 2 .bool]
def impl_isParticle.sp2_1 : List Sp := [.own 3 3076 9 .str false true, .con 11 (.own 3076), .t 12 (.int .i64), .t 13 (.int .i64)]
def impl_isParticle.A2 : LArm := .two impl_isParticle.sp2 impl_isParticle.sp2_0 impl_isParticle.sp2_1 (Bool) ((List ByteArray) × Int × Int) (fun k x => impl_isParticle.l2 k x.1 x.2.1 x.2.2.1 x.2.2.2.2.1 x.2.2.2.2.2.1) .ret (.exit 2) (fun y => (y, ())) (fun x => x.1) (fun y => (y.1, (), y.2.1, y.2.2, ())) (fun x => (x.1, x.2.2.1, x.2.2.2.1))
def impl_isParticle.sp0 : List Sp := [.own 3 3076 9 .str false true, .con 11 (.own 3076), .t 12 (.int .i64), .t 13 (.int .i64)]
def impl_isParticle.sp0_0 : List Sp := [.t 2 .bool]
def impl_isParticle.sp0_1 : List Sp := [.own 3 3076 9 .str false true]
def impl_isParticle.A0 : LArm := .two impl_isParticle.sp0 impl_isParticle.sp0_0 impl_isParticle.sp0_1 (Bool) ((List ByteArray)) (fun k x => impl_isParticle.l0 k x.1 x.2.2.1 x.2.2.2.1) .ret (.exit 0) (fun y => (y, ())) (fun x => x.1) (fun y => (y, ())) (fun x => x.1)
def impl_isParticle.L : Nat → Option LArm := fun b => match b with
  | 2 => some impl_isParticle.A2
  | 0 => some impl_isParticle.A0
  | _ => none
theorem impl_isParticle.run (k : Nat) (a0 : ByteArray) : runF envX (tabC (impl_isParticle.C k)) (tabL 36 k impl_isParticle.L) Tryz.f148 [.t .str a0] (viewR1 (.t .bool)) = impl_isParticle.F k a0 := by kernel_rfl
theorem impl_isParticle.step2 (k : Nat) (x3 : List ByteArray) (x5 : ByteArray) (x6 : Int) (x12 : Int) (x13 : Int) : runC envX (tabC (impl_isParticle.C k)) (tabL 36 k impl_isParticle.L) 2 (loopAt Tryz.f148 2) (stOf 36 impl_isParticle.sp2 (x3, x5, x6, (), x12, x13, ())) (impl_isParticle.A2.cont 36 k) = impl_isParticle.l2 (k + 1) x3 x5 x6 x12 x13 := by kernel_rfl
theorem impl_isParticle.step0 (k : Nat) (x3 : List ByteArray) (x12 : Int) (x13 : Int) : runC envX (tabC (impl_isParticle.C k)) (tabL 36 k impl_isParticle.L) 0 (loopAt Tryz.f148 0) (stOf 36 impl_isParticle.sp0 (x3, (), x12, x13, ())) (impl_isParticle.A0.cont 36 k) = impl_isParticle.l0 (k + 1) x3 x12 x13 := by kernel_rfl
theorem impl_isParticle.G (hE : EnvOk Tryz.prog envX) (pv : Nat → Value) (k : Nat) : ∀ cal A, impl_isParticle.C k cal = some A → ArmOk Tryz.prog envX pv cal A := by
  intro cal A h
  unfold impl_isParticle.C at h
  split at h
  · cases h; exact fun x y hy => strings_Split.good hE pv x.1 x.2.1 hy
  · cases h; exact fun x y hy => impl_inside.good hE pv x.1 x.2.1 x.2.2.1 hy
  · cases h; exact fun x y hy => impl_isLower.good hE pv x.1 hy
  · cases h
theorem impl_isParticle.good (hE : EnvOk Tryz.prog envX) (pv : Nat → Value) (k : Nat) (a0 : ByteArray) {y : _} (h : impl_isParticle.F k a0 = some y) : Meets Tryz.prog envX pv (.f 148) (tvals [.str] (a0, ())) (.t .bool y) :=
  fun_loops hE (t := impl_isParticle.C) k (fun k _ => impl_isParticle.G hE pv k) (f := 148) (fn := Tryz.f148) (by kernel_rfl) rfl (by kernel_rfl) (by kernel_rfl) (lt := impl_isParticle.L) (by kernel_rfl) (fun b A h => by
    unfold impl_isParticle.L at h; split at h
    · cases h; exact ⟨by kernel_rfl, by kernel_rfl, by kernel_rfl, fun _ => rfl, fun _ => rfl, fun _ => rfl⟩
    · cases h; exact ⟨by kernel_rfl, by kernel_rfl, by kernel_rfl, fun _ => rfl, fun _ => rfl, fun _ => rfl⟩
    · cases h) (fun b A h => by
    unfold impl_isParticle.L at h; split at h
    · cases h; exact fun k x => impl_isParticle.step2 k x.1 x.2.1 x.2.2.1 x.2.2.2.2.1 x.2.2.2.2.2.1
    · cases h; exact fun k x => impl_isParticle.step0 k x.1 x.2.2.1 x.2.2.2.1
    · cases h) ((impl_isParticle.run k a0).trans h) fun r hr => wk_view1 hr
/-! ### 155 slices.IndexFunc[[]string,string] at loop.example/g00896/impl.IsValidName$1 -/
def slices_IndexFunc_string_f146.l0 : Nat → (List ByteArray) → Int → Int → Option (Sum Int Unit)
  | 0, _, _, _ => none
  | k + 1, x0, x7, x8 => bif (decide (x8 < x7)) then (bif decide (0 ≤ x8) then (bif decide (x8 < (x0.length : Int)) then ((impl_IsValidName_1.F k (x0.getD (x8 : Int).toNat (⟨#[]⟩ : ByteArray))).bind fun r1 => bif r1 then (some (.inl x8)) else (slices_IndexFunc_string_f146.l0 k x0 x7 (IntKind.wrap .i64 (x8 + 1)))) else none) else none) else (some (.inr ()))
def slices_IndexFunc_string_f146.F (k : Nat) (a0 : List ByteArray) : Option (Int) := (slices_IndexFunc_string_f146.l0 k a0 (a0.length : Int) 0).bind fun y2 => match y2 with | .inl z3 => some z3 | .inr z3 => some (-1)
def slices_IndexFunc_string_f146.C (k : Nat) : Cal → Option CArm := fun c => match c with
  | .f 146 => some (.p [.str] _ (fun x => impl_IsValidName_1.F k x.1) (fun r => (.t .bool r)))
  | _ => none
def slices_IndexFunc_string_f146.sp0 : List Sp := [.t 0 (.sl .str), .con 1 (.clo 146), .t 7 (.int .i64), .t 8 (.int .i64)]
def slices_IndexFunc_string_f146.sp0_0 : List Sp := [.t 4 (.int .i64)]
def slices_IndexFunc_string_f146.sp0_1 : List Sp := []
def slices_IndexFunc_string_f146.A0 : LArm := .two slices_IndexFunc_string_f146.sp0 slices_IndexFunc_string_f146.sp0_0 slices_IndexFunc_string_f146.sp0_1 (Int) (Unit) (fun k x => slices_IndexFunc_string_f146.l0 k x.1 x.2.2.1 x.2.2.2.1) .ret (.exit 0) (fun y => (y, ())) (fun x => x.1) (fun y => ()) (fun x => ())
def slices_IndexFunc_string_f146.L : Nat → Option LArm := fun b => match b with
  | 0 => some slices_IndexFunc_string_f146.A0
  | _ => none
theorem slices_IndexFunc_string_f146.run (k : Nat) (a0 : List ByteArray) : runF envX (tabC (slices_IndexFunc_string_f146.C k)) (tabL 19 k slices_IndexFunc_string_f146.L) Tryz.f155 [.t (.sl .str) a0, .clo 146 []] (viewR1 (.t (.int .i64))) = slices_IndexFunc_string_f146.F k a0 := by kernel_rfl
theorem slices_IndexFunc_string_f146.step0 (k : Nat) (x0 : List ByteArray) (x7 : Int) (x8 : Int) : runC envX (tabC (slices_IndexFunc_string_f146.C k)) (tabL 19 k slices_IndexFunc_string_f146.L) 0 (loopAt Tryz.f155 0) (stOf 19 slices_IndexFunc_string_f146.sp0 (x0, (), x7, x8, ())) (slices_IndexFunc_string_f146.A0.cont 19 k) = slices_IndexFunc_string_f146.l0 (k + 1) x0 x7 x8 := by kernel_rfl
theorem slices_IndexFunc_string_f146.G (hE : EnvOk Tryz.prog envX) (pv : Nat → Value) (k : Nat) : ∀ cal A, slices_IndexFunc_string_f146.C k cal = some A → ArmOk Tryz.prog envX pv cal A := by
  intro cal A h
  unfold slices_IndexFunc_string_f146.C at h
  split at h
  · cases h; exact fun x y hy => impl_IsValidName_1.good hE pv k x.1 hy
  · cases h
theorem slices_IndexFunc_string_f146.good (hE : EnvOk Tryz.prog envX) (pv : Nat → Value) (k : Nat) (a0 : List ByteArray) {y : _} (h : slices_IndexFunc_string_f146.F k a0 = some y) : Meets Tryz.prog envX pv (.f 155) (pvals [.t (.sl .str), .clo 146 []] (a0, (()), ())) (.t (.int .i64) y) :=
  fun_loops hE (t := slices_IndexFunc_string_f146.C) k (fun k _ => slices_IndexFunc_string_f146.G hE pv k) (f := 155) (fn := Tryz.f155) (by kernel_rfl) rfl (by kernel_rfl) (by kernel_rfl) (lt := slices_IndexFunc_string_f146.L) (by kernel_rfl) (fun b A h => by
    unfold slices_IndexFunc_string_f146.L at h; split at h
    · cases h; exact ⟨by kernel_rfl, by kernel_rfl, by kernel_rfl, fun _ => rfl, fun _ => rfl, fun _ => rfl⟩
    · cases h) (fun b A h => by
    unfold slices_IndexFunc_string_f146.L at h; split at h
    · cases h; exact fun k x => slices_IndexFunc_string_f146.step0 k x.1 x.2.2.1 x.2.2.2.1
    · cases h) ((slices_IndexFunc_string_f146.run k a0).trans h) fun r hr => wk_view1 hr
/-! ### 145 slices.ContainsFunc[[]string,string] at loop.example/g00896/impl.IsValidName$1 -/
def slices_ContainsFunc_string_f146.F (k : Nat) (a0 : List ByteArray) : Option (Bool) := (slices_IndexFunc_string_f146.F k a0).bind fun r1 => some (decide (r1 ≥ 0))
def slices_ContainsFunc_string_f146.C (k : Nat) : Cal → Option CArm := fun c => match c with
  | .f 155 => some (.q [.t (.sl .str), .clo 146 []] _ (fun x => slices_IndexFunc_string_f146.F k x.1) (fun r => (.t (.int .i64) r)))
  | _ => none
theorem slices_ContainsFunc_string_f146.run (k : Nat) (a0 : List ByteArray) : runF envX (tabC (slices_ContainsFunc_string_f146.C k)) (tabL 9 0 (fun _ => none)) Tryz.f145 [.t (.sl .str) a0, .clo 146 []] (viewR1 (.t .bool)) = slices_ContainsFunc_string_f146.F k a0 := by kernel_rfl
theorem slices_ContainsFunc_string_f146.G (hE : EnvOk Tryz.prog envX) (pv : Nat → Value) (k : Nat) : ∀ cal A, slices_ContainsFunc_string_f146.C k cal = some A → ArmOk Tryz.prog envX pv cal A := by
  intro cal A h
  unfold slices_ContainsFunc_string_f146.C at h
  split at h
  · cases h; exact fun x y hy => slices_IndexFunc_string_f146.good hE pv k x.1 hy
  · cases h
theorem slices_ContainsFunc_string_f146.good (hE : EnvOk Tryz.prog envX) (pv : Nat → Value) (k : Nat) (a0 : List ByteArray) {y : _} (h : slices_ContainsFunc_string_f146.F k a0 = some y) : Meets Tryz.prog envX pv (.f 145) (pvals [.t (.sl .str), .clo 146 []] (a0, (()), ())) (.t .bool y) :=
  fun_plain hE (slices_ContainsFunc_string_f146.G hE pv k) (f := 145) (fn := Tryz.f145) (by kernel_rfl) rfl (by kernel_rfl) (by kernel_rfl) ((slices_ContainsFunc_string_f146.run k a0).trans h) fun r hr => wk_view1 hr
/-! ### 127 loop.example/g00896/impl.IsValidName -/
def impl_IsValidName.F (k : Nat) (a0 : Name) : Option (Bool) := bif (decide ((a0.given.length : Int) > 3)) then (some false) else ((slices_ContainsFunc_string_f146.F k a0.given).bind fun r1 => bif r1 then (some false) else ((impl_isParticle.F k a0.particle).bind fun r2 => bif r2 then ((impl_isGreatWord.F k a0.family).bind fun r3 => bif r3 then (bif (beqS a0.suffix (⟨#[]⟩ : ByteArray)) then (some true) else ((impl_isNameWord.F k a0.suffix).bind fun r4 => some r4)) else (some false)) else (some false)))
def impl_IsValidName.C (k : Nat) : Cal → Option CArm := fun c => match c with
  | .f 145 => some (.q [.t (.sl .str), .clo 146 []] _ (fun x => slices_ContainsFunc_string_f146.F k x.1) (fun r => (.t .bool r)))
  | .f 148 => some (.p [.str] _ (fun x => impl_isParticle.F k x.1) (fun r => (.t .bool r)))
  | .f 147 => some (.p [.str] _ (fun x => impl_isGreatWord.F k x.1) (fun r => (.t .bool r)))
  | .f 149 => some (.p [.str] _ (fun x => impl_isNameWord.F k x.1) (fun r => (.t .bool r)))
  | _ => none
theorem impl_IsValidName.run (k : Nat) (a0 : Name) : runF envX (tabC (impl_IsValidName.C k)) (tabL 30 0 (fun _ => none)) Tryz.f127 [.t .name a0] (viewR1 (.t .bool)) = impl_IsValidName.F k a0 := by kernel_rfl
theorem impl_IsValidName.G (hE : EnvOk Tryz.prog envX) (pv : Nat → Value) (k : Nat) : ∀ cal A, impl_IsValidName.C k cal = some A → ArmOk Tryz.prog envX pv cal A := by
  intro cal A h
  unfold impl_IsValidName.C at h
  split at h
  · cases h; exact fun x y hy => slices_ContainsFunc_string_f146.good hE pv k x.1 hy
  · cases h; exact fun x y hy => impl_isParticle.good hE pv k x.1 hy
  · cases h; exact fun x y hy => impl_isGreatWord.good hE pv k x.1 hy
  · cases h; exact fun x y hy => impl_isNameWord.good hE pv k x.1 hy
  · cases h
theorem impl_IsValidName.good (hE : EnvOk Tryz.prog envX) (pv : Nat → Value) (k : Nat) (a0 : Name) {y : _} (h : impl_IsValidName.F k a0 = some y) : Meets Tryz.prog envX pv (.f 127) (tvals [.name] (a0, ())) (.t .bool y) :=
  fun_plain hE (impl_IsValidName.G hE pv k) (f := 127) (fn := Tryz.f127) (by kernel_rfl) rfl (by kernel_rfl) (by kernel_rfl) ((impl_IsValidName.run k a0).trans h) fun r hr => wk_view1 hr
/-! ### 126 loop.example/g00896/impl.areNames$1 -/
def impl_areNames_1.F (k : Nat) (a0 : Name) : Option (Bool) := (impl_IsValidName.F k a0).bind fun r1 => some (!r1)
def impl_areNames_1.C (k : Nat) : Cal → Option CArm := fun c => match c with
  | .f 127 => some (.p [.name] _ (fun x => impl_IsValidName.F k x.1) (fun r => (.t .bool r)))
  | _ => none
theorem impl_areNames_1.run (k : Nat) (a0 : Name) : runF envX (tabC (impl_areNames_1.C k)) (tabL 6 0 (fun _ => none)) Tryz.f126 [.t .name a0] (viewR1 (.t .bool)) = impl_areNames_1.F k a0 := by kernel_rfl
theorem impl_areNames_1.G (hE : EnvOk Tryz.prog envX) (pv : Nat → Value) (k : Nat) : ∀ cal A, impl_areNames_1.C k cal = some A → ArmOk Tryz.prog envX pv cal A := by
  intro cal A h
  unfold impl_areNames_1.C at h
  split at h
  · cases h; exact fun x y hy => impl_IsValidName.good hE pv k x.1 hy
  · cases h
theorem impl_areNames_1.good (hE : EnvOk Tryz.prog envX) (pv : Nat → Value) (k : Nat) (a0 : Name) {y : _} (h : impl_areNames_1.F k a0 = some y) : Meets Tryz.prog envX pv (.f 126) (tvals [.name] (a0, ())) (.t .bool y) :=
  fun_plain hE (impl_areNames_1.G hE pv k) (f := 126) (fn := Tryz.f126) (by kernel_rfl) rfl (by kernel_rfl) (by kernel_rfl) ((impl_areNames_1.run k a0).trans h) fun r hr => wk_view1 hr
/-! ### 144 slices.IndexFunc[[]loop.example/g00896/impl.Name,loop.example/g00896/impl.Name] at loop.example/g00896/impl.areNames$1 -/
def slices_IndexFunc_Name_f126.l0 : Nat → (List Name) → Int → Int → Option (Sum Int Unit)
  | 0, _, _, _ => none
  | k + 1, x0, x7, x8 => bif (decide (x8 < x7)) then (bif decide (0 ≤ x8) then (bif decide (x8 < (x0.length : Int)) then ((impl_areNames_1.F k (x0.getD (x8 : Int).toNat (dflt .name))).bind fun r1 => bif r1 then (some (.inl x8)) else (slices_IndexFunc_Name_f126.l0 k x0 x7 (IntKind.wrap .i64 (x8 + 1)))) else none) else none) else (some (.inr ()))
def slices_IndexFunc_Name_f126.F (k : Nat) (a0 : List Name) : Option (Int) := (slices_IndexFunc_Name_f126.l0 k a0 (a0.length : Int) 0).bind fun y2 => match y2 with | .inl z3 => some z3 | .inr z3 => some (-1)
def slices_IndexFunc_Name_f126.C (k : Nat) : Cal → Option CArm := fun c => match c with
  | .f 126 => some (.p [.name] _ (fun x => impl_areNames_1.F k x.1) (fun r => (.t .bool r)))
  | _ => none
def slices_IndexFunc_Name_f126.sp0 : List Sp := [.t 0 (.sl .name), .con 1 (.clo 126), .t 7 (.int .i64), .t 8 (.int .i64)]
def slices_IndexFunc_Name_f126.sp0_0 : List Sp := [.t 4 (.int .i64)]
def slices_IndexFunc_Name_f126.sp0_1 : List Sp := []
def slices_IndexFunc_Name_f126.A0 : LArm := .two slices_IndexFunc_Name_f126.sp0 slices_IndexFunc_Name_f126.sp0_0 slices_IndexFunc_Name_f126.sp0_1 (Int) (Unit) (fun k x => slices_IndexFunc_Name_f126.l0 k x.1 x.2.2.1 x.2.2.2.1) .ret (.exit 0) (fun y => (y, ())) (fun x => x.1) (fun y => ()) (fun x => ())
def slices_IndexFunc_Name_f126.L : Nat → Option LArm := fun b => match b with
  | 0 => some slices_IndexFunc_Name_f126.A0
  | _ => none
theorem slices_IndexFunc_Name_f126.run (k : Nat) (a0 : List Name) : runF envX (tabC (slices_IndexFunc_Name_f126.C k)) (tabL 19 k slices_IndexFunc_Name_f126.L) Tryz.f144 [.t (.sl .name) a0, .clo 126 []] (viewR1 (.t (.int .i64))) = slices_IndexFunc_Name_f126.F k a0 := by kernel_rfl
theorem slices_IndexFunc_Name_f126.step0 (k : Nat) (x0 : List Name) (x7 : Int) (x8 : Int) : runC envX (tabC (slices_IndexFunc_Name_f126.C k)) (tabL 19 k slices_IndexFunc_Name_f126.L) 0 (loopAt Tryz.f144 0) (stOf 19 slices_IndexFunc_Name_f126.sp0 (x0, (), x7, x8, ())) (slices_IndexFunc_Name_f126.A0.cont 19 k) = slices_IndexFunc_Name_f126.l0 (k + 1) x0 x7 x8 := by kernel_rfl
theorem slices_IndexFunc_Name_f126.G (hE : EnvOk Tryz.prog envX) (pv : Nat → Value) (k : Nat) : ∀ cal A, slices_IndexFunc_Name_f126.C k cal = some A → ArmOk Tryz.prog envX pv cal A := by
  intro cal A h
  unfold slices_IndexFunc_Name_f126.C at h
  split at h
  · cases h; exact fun x y hy => impl_areNames_1.good hE pv k x.1 hy
  · cases h
theorem slices_IndexFunc_Name_f126.good (hE : EnvOk Tryz.prog envX) (pv : Nat → Value) (k : Nat) (a0 : List Name) {y : _} (h : slices_IndexFunc_Name_f126.F k a0 = some y) : Meets Tryz.prog envX pv (.f 144) (pvals [.t (.sl .name), .clo 126 []] (a0, (()), ())) (.t (.int .i64) y) :=
  fun_loops hE (t := slices_IndexFunc_Name_f126.C) k (fun k _ => slices_IndexFunc_Name_f126.G hE pv k) (f := 144) (fn := Tryz.f144) (by kernel_rfl) rfl (by kernel_rfl) (by kernel_rfl) (lt := slices_IndexFunc_Name_f126.L) (by kernel_rfl) (fun b A h => by
    unfold slices_IndexFunc_Name_f126.L at h; split at h
    · cases h; exact ⟨by kernel_rfl, by kernel_rfl, by kernel_rfl, fun _ => rfl, fun _ => rfl, fun _ => rfl⟩
    · cases h) (fun b A h => by
    unfold slices_IndexFunc_Name_f126.L at h; split at h
    · cases h; exact fun k x => slices_IndexFunc_Name_f126.step0 k x.1 x.2.2.1 x.2.2.2.1
    · cases h) ((slices_IndexFunc_Name_f126.run k a0).trans h) fun r hr => wk_view1 hr
/-! ### 125 slices.ContainsFunc[[]loop.example/g00896/impl.Name,loop.example/g00896/impl.Name] at loop.example/g00896/impl.areNames$1 -/
def slices_ContainsFunc_Name_f126.F (k : Nat) (a0 : List Name) : Option (Bool) := (slices_IndexFunc_Name_f126.F k a0).bind fun r1 => some (decide (r1 ≥ 0))
def slices_ContainsFunc_Name_f126.C (k : Nat) : Cal → Option CArm := fun c => match c with
  | .f 144 => some (.q [.t (.sl .name), .clo 126 []] _ (fun x => slices_IndexFunc_Name_f126.F k x.1) (fun r => (.t (.int .i64) r)))
  | _ => none
theorem slices_ContainsFunc_Name_f126.run (k : Nat) (a0 : List Name) : runF envX (tabC (slices_ContainsFunc_Name_f126.C k)) (tabL 9 0 (fun _ => none)) Tryz.f125 [.t (.sl .name) a0, .clo 126 []] (viewR1 (.t .bool)) = slices_ContainsFunc_Name_f126.F k a0 := by kernel_rfl
theorem slices_ContainsFunc_Name_f126.G (hE : EnvOk Tryz.prog envX) (pv : Nat → Value) (k : Nat) : ∀ cal A, slices_ContainsFunc_Name_f126.C k cal = some A → ArmOk Tryz.prog envX pv cal A := by
  intro cal A h
  unfold slices_ContainsFunc_Name_f126.C at h
  split at h
  · cases h; exact fun x y hy => slices_IndexFunc_Name_f126.good hE pv k x.1 hy
  · cases h
theorem slices_ContainsFunc_Name_f126.good (hE : EnvOk Tryz.prog envX) (pv : Nat → Value) (k : Nat) (a0 : List Name) {y : _} (h : slices_ContainsFunc_Name_f126.F k a0 = some y) : Meets Tryz.prog envX pv (.f 125) (pvals [.t (.sl .name), .clo 126 []] (a0, (()), ())) (.t .bool y) :=
  fun_plain hE (slices_ContainsFunc_Name_f126.G hE pv k) (f := 125) (fn := Tryz.f125) (by kernel_rfl) rfl (by kernel_rfl) (by kernel_rfl) ((slices_ContainsFunc_Name_f126.run k a0).trans h) fun r hr => wk_view1 hr
/-! ### 101 loop.example/g00896/impl.areNames -/
def impl_areNames.F (k : Nat) (a0 : List Name) : Option (Bool) := bif (decide ((a0.length : Int) ≤ 4)) then ((slices_ContainsFunc_Name_f126.F k a0).bind fun r1 => some (!r1)) else (some false)
def impl_areNames.C (k : Nat) : Cal → Option CArm := fun c => match c with
  | .f 125 => some (.q [.t (.sl .name), .clo 126 []] _ (fun x => slices_ContainsFunc_Name_f126.F k x.1) (fun r => (.t .bool r)))
  | _ => none
theorem impl_areNames.run (k : Nat) (a0 : List Name) : runF envX (tabC (impl_areNames.C k)) (tabL 11 0 (fun _ => none)) Tryz.f101 [.t (.sl .name) a0] (viewR1 (.t .bool)) = impl_areNames.F k a0 := by kernel_rfl
theorem impl_areNames.G (hE : EnvOk Tryz.prog envX) (pv : Nat → Value) (k : Nat) : ∀ cal A, impl_areNames.C k cal = some A → ArmOk Tryz.prog envX pv cal A := by
  intro cal A h
  unfold impl_areNames.C at h
  split at h
  · cases h; exact fun x y hy => slices_ContainsFunc_Name_f126.good hE pv k x.1 hy
  · cases h
theorem impl_areNames.good (hE : EnvOk Tryz.prog envX) (pv : Nat → Value) (k : Nat) (a0 : List Name) {y : _} (h : impl_areNames.F k a0 = some y) : Meets Tryz.prog envX pv (.f 101) (tvals [(.sl .name)] (a0, ())) (.t .bool y) :=
  fun_plain hE (impl_areNames.G hE pv k) (f := 101) (fn := Tryz.f101) (by kernel_rfl) rfl (by kernel_rfl) (by kernel_rfl) ((impl_areNames.run k a0).trans h) fun r hr => wk_view1 hr
/-! ### 128 loop.example/g00896/impl.daysInMonth -/
def impl_daysInMonth.F (a0 : Int) (a1 : Int) : Option (Int) := bif (a1 == 2) then (bif (4 == 0) then (none) else (bif ((Int.tmod a0 4) == 0) then (bif (100 == 0) then (none) else (bif ((Int.tmod a0 100) != 0) then (some 29) else (bif (400 == 0) then (none) else (bif ((Int.tmod a0 400) == 0) then (some 29) else (some 28))))) else (some 28))) else (bif (a1 == 4) then (bif (a1 == 4) then (some 30) else (some 31)) else (bif (a1 == 6) then (bif (a1 == 6) then (some 30) else (some 31)) else (bif (a1 == 9) then (bif (a1 == 9) then (some 30) else (some 31)) else (bif (a1 == 11) then (some 30) else (some 31)))))
def impl_daysInMonth.C : Cal → Option CArm := fun c => match c with
  | _ => none
theorem impl_daysInMonth.run (a0 : Int) (a1 : Int) : runF envX (tabC impl_daysInMonth.C) (tabL 26 0 (fun _ => none)) Tryz.f128 [.t (.int .i64) a0, .t (.int .i64) a1] (viewR1 (.t (.int .i64))) = impl_daysInMonth.F a0 a1 := by kernel_rfl
theorem impl_daysInMonth.G (hE : EnvOk Tryz.prog envX) (pv : Nat → Value) : ∀ cal A, impl_daysInMonth.C cal = some A → ArmOk Tryz.prog envX pv cal A := by
  intro cal A h
  unfold impl_daysInMonth.C at h
  cases h
theorem impl_daysInMonth.good (hE : EnvOk Tryz.prog envX) (pv : Nat → Value) (a0 : Int) (a1 : Int) {y : _} (h : impl_daysInMonth.F a0 a1 = some y) : Meets Tryz.prog envX pv (.f 128) (tvals [(.int .i64), (.int .i64)] (a0, a1, ())) (.t (.int .i64) y) :=
  fun_plain hE (impl_daysInMonth.G hE pv) (f := 128) (fn := Tryz.f128) (by kernel_rfl) rfl (by kernel_rfl) (by kernel_rfl) ((impl_daysInMonth.run a0 a1).trans h) fun r hr => wk_view1 hr
/-! ### 102 loop.example/g00896/impl.IsValidDate -/
def impl_IsValidDate.F (a0 : Date) : Option (Bool) := bif ((a0.y == 0 && (a0.m == 0 && (a0.d == 0 && a0.c == false)))) then (some true) else ((impl_inside.F a0.y 1 2999).bind fun r1 => bif (!r1) then (some false) else ((impl_inside.F a0.m 0 12).bind fun r2 => bif (!r2) then (some false) else (bif a0.c then (bif (a0.m != 0) then (some false) else (bif (a0.m == 0) then (some (a0.d == 0)) else ((impl_daysInMonth.F a0.y a0.m).bind fun r3 => (impl_inside.F a0.d 0 r3).bind fun r4 => some r4))) else (bif (a0.m == 0) then (some (a0.d == 0)) else ((impl_daysInMonth.F a0.y a0.m).bind fun r5 => (impl_inside.F a0.d 0 r5).bind fun r6 => some r6)))))
def impl_IsValidDate.C : Cal → Option CArm := fun c => match c with
  | .f 103 => some (.p [(.int .i64), (.int .i64), (.int .i64)] _ (fun x => impl_inside.F x.1 x.2.1 x.2.2.1) (fun r => (.t .bool r)))
  | .f 128 => some (.p [(.int .i64), (.int .i64)] _ (fun x => impl_daysInMonth.F x.1 x.2.1) (fun r => (.t (.int .i64) r)))
  | _ => none
theorem impl_IsValidDate.run (a0 : Date) : runF envX (tabC impl_IsValidDate.C) (tabL 39 0 (fun _ => none)) Tryz.f102 [.t .date a0] (viewR1 (.t .bool)) = impl_IsValidDate.F a0 := by kernel_rfl
theorem impl_IsValidDate.G (hE : EnvOk Tryz.prog envX) (pv : Nat → Value) : ∀ cal A, impl_IsValidDate.C cal = some A → ArmOk Tryz.prog envX pv cal A := by
  intro cal A h
  unfold impl_IsValidDate.C at h
  split at h
  · cases h; exact fun x y hy => impl_inside.good hE pv x.1 x.2.1 x.2.2.1 hy
  · cases h; exact fun x y hy => impl_daysInMonth.good hE pv x.1 x.2.1 hy
  · cases h
theorem impl_IsValidDate.good (hE : EnvOk Tryz.prog envX) (pv : Nat → Value) (a0 : Date) {y : _} (h : impl_IsValidDate.F a0 = some y) : Meets Tryz.prog envX pv (.f 102) (tvals [.date] (a0, ())) (.t .bool y) :=
  fun_plain hE (impl_IsValidDate.G hE pv) (f := 102) (fn := Tryz.f102) (by kernel_rfl) rfl (by kernel_rfl) (by kernel_rfl) ((impl_IsValidDate.run a0).trans h) fun r hr => wk_view1 hr
/-! ### 150 strings.Trim -/
def strings_Trim.F (a0 : ByteArray) (a1 : ByteArray) : Option (ByteArray) := xTrim1 a0 a1
theorem strings_Trim.good (hE : EnvOk Tryz.prog envX) (pv : Nat → Value) (a0 : ByteArray) (a1 : ByteArray) {y : _} (h : strings_Trim.F a0 a1 = some y) : Meets Tryz.prog envX pv (.f 150) (tvals [.str, .str] (a0, a1, ())) (.t .str y) :=
  ext_trim1 (fn := Tryz.f150) (by kernel_rfl) rfl (by kernel_rfl) Tryz.strings_Trim_one h
/-! ### 129 loop.example/g00896/impl.isPrintable -/
def impl_isPrintable.l0 : Nat → ByteArray → Int → Option (Sum Bool ByteArray)
  | 0, _, _ => none
  | k + 1, x0, x3 => bif (decide (x3 < (x0.size : Int))) then (bif decide (0 ≤ x3) then (bif decide (x3 < (x0.size : Int)) then (bif (decide ((bt x0 (x3 : Int).toNat) < 32)) then (some (.inl false)) else (bif decide (0 ≤ x3) then (bif decide (x3 < (x0.size : Int)) then (bif (decide ((bt x0 (x3 : Int).toNat) > 126)) then (some (.inl false)) else (impl_isPrintable.l0 k x0 (IntKind.wrap .i64 (x3 + 1)))) else none) else none)) else none) else none) else (some (.inr x0))
def impl_isPrintable.F (k : Nat) (a0 : ByteArray) : Option (Bool) := (impl_isPrintable.l0 k a0 0).bind fun y1 => match y1 with | .inl z2 => some z2 | .inr z2 => (strings_Trim.F z2 (⟨#[32]⟩ : ByteArray)).bind fun r3 => some (beqS r3 z2)
def impl_isPrintable.C (k : Nat) : Cal → Option CArm := fun c => match c with
  | .f 150 => some (.p [.str, .str] _ (fun x => strings_Trim.F x.1 x.2.1) (fun r => (.t .str r)))
  | _ => none
def impl_isPrintable.sp0 : List Sp := [.t 0 .str, .t 3 (.int .i64)]
def impl_isPrintable.sp0_0 : List Sp := [.t 2 .bool]
def impl_isPrintable.sp0_1 : List Sp := [.t 0 .str]
def impl_isPrintable.A0 : LArm := .two impl_isPrintable.sp0 impl_isPrintable.sp0_0 impl_isPrintable.sp0_1 (Bool) (ByteArray) (fun k x => impl_isPrintable.l0 k x.1 x.2.1) .ret (.exit 0) (fun y => (y, ())) (fun x => x.1) (fun y => (y, ())) (fun x => x.1)
def impl_isPrintable.L : Nat → Option LArm := fun b => match b with
  | 0 => some impl_isPrintable.A0
  | _ => none
theorem impl_isPrintable.run (k : Nat) (a0 : ByteArray) : runF envX (tabC (impl_isPrintable.C k)) (tabL 24 k impl_isPrintable.L) Tryz.f129 [.t .str a0] (viewR1 (.t .bool)) = impl_isPrintable.F k a0 := by kernel_rfl
theorem impl_isPrintable.step0 (k : Nat) (x0 : ByteArray) (x3 : Int) : runC envX (tabC (impl_isPrintable.C k)) (tabL 24 k impl_isPrintable.L) 0 (loopAt Tryz.f129 0) (stOf 24 impl_isPrintable.sp0 (x0, x3, ())) (impl_isPrintable.A0.cont 24 k) = impl_isPrintable.l0 (k + 1) x0 x3 := by kernel_rfl
theorem impl_isPrintable.G (hE : EnvOk Tryz.prog envX) (pv : Nat → Value) (k : Nat) : ∀ cal A, impl_isPrintable.C k cal = some A → ArmOk Tryz.prog envX pv cal A := by
  intro cal A h
  unfold impl_isPrintable.C at h
  split at h
  · cases h; exact fun x y hy => strings_Trim.good hE pv x.1 x.2.1 hy
  · cases h
theorem impl_isPrintable.good (hE : EnvOk Tryz.prog envX) (pv : Nat → Value) (k : Nat) (a0 : ByteArray) {y : _} (h : impl_isPrintable.F k a0 = some y) : Meets Tryz.prog envX pv (.f 129) (tvals [.str] (a0, ())) (.t .bool y) :=
  fun_loops hE (t := impl_isPrintable.C) k (fun k _ => impl_isPrintable.G hE pv k) (f := 129) (fn := Tryz.f129) (by kernel_rfl) rfl (by kernel_rfl) (by kernel_rfl) (lt := impl_isPrintable.L) (by kernel_rfl) (fun b A h => by
    unfold impl_isPrintable.L at h; split at h
    · cases h; exact ⟨by kernel_rfl, by kernel_rfl, by kernel_rfl, fun _ => rfl, fun _ => rfl, fun _ => rfl⟩
    · cases h) (fun b A h => by
    unfold impl_isPrintable.L at h; split at h
    · cases h; exact fun k x => impl_isPrintable.step0 k x.1 x.2.1
    · cases h) ((impl_isPrintable.run k a0).trans h) fun r hr => wk_view1 hr
/-! ### 104 loop.example/g00896/impl.isText -/
def impl_isText.F (k : Nat) (a0 : ByteArray) : Option (Bool) := bif (decide ((a0.size : Int) ≤ 40)) then ((impl_isPrintable.F k a0).bind fun r1 => some r1) else (some false)
def impl_isText.C (k : Nat) : Cal → Option CArm := fun c => match c with
  | .f 129 => some (.p [.str] _ (fun x => impl_isPrintable.F k x.1) (fun r => (.t .bool r)))
  | _ => none
theorem impl_isText.run (k : Nat) (a0 : ByteArray) : runF envX (tabC (impl_isText.C k)) (tabL 10 0 (fun _ => none)) Tryz.f104 [.t .str a0] (viewR1 (.t .bool)) = impl_isText.F k a0 := by kernel_rfl
theorem impl_isText.G (hE : EnvOk Tryz.prog envX) (pv : Nat → Value) (k : Nat) : ∀ cal A, impl_isText.C k cal = some A → ArmOk Tryz.prog envX pv cal A := by
  intro cal A h
  unfold impl_isText.C at h
  split at h
  · cases h; exact fun x y hy => impl_isPrintable.good hE pv k x.1 hy
  · cases h
theorem impl_isText.good (hE : EnvOk Tryz.prog envX) (pv : Nat → Value) (k : Nat) (a0 : ByteArray) {y : _} (h : impl_isText.F k a0 = some y) : Meets Tryz.prog envX pv (.f 104) (tvals [.str] (a0, ())) (.t .bool y) :=
  fun_plain hE (impl_isText.G hE pv k) (f := 104) (fn := Tryz.f104) (by kernel_rfl) rfl (by kernel_rfl) (by kernel_rfl) ((impl_isText.run k a0).trans h) fun r hr => wk_view1 hr
/-! ### 74 loop.example/g00896/impl.IsValidEntry -/
def impl_IsValidEntry.F (k : Nat) (a0 : Entry) : Option (Bool) := (impl_isKey.F k a0.key).bind fun r1 => bif (!r1) then (some false) else ((impl_isKind.F a0.kind).bind fun r2 => bif (!r2) then (some false) else ((impl_areNames.F k a0.authors).bind fun r3 => bif (!r3) then (some false) else ((impl_areNames.F k a0.editors).bind fun r4 => bif (!r4) then (some false) else ((impl_IsValidDate.F a0.date).bind fun r5 => bif (!r5) then (some false) else ((impl_inside.F a0.volume 0 9999).bind fun r6 => bif (!r6) then (some false) else ((impl_isText.F k a0.title).bind fun r7 => bif r7 then ((impl_isText.F k a0.container).bind fun r8 => bif r8 then ((impl_isText.F k a0.publisher).bind fun r9 => bif r9 then ((impl_isText.F k a0.pages).bind fun r10 => bif r10 then (bif (beqS a0.cross (⟨#[]⟩ : ByteArray)) then (some true) else ((impl_isKey.F k a0.cross).bind fun r11 => bif r11 then (some (!beqS a0.cross a0.key)) else (some false))) else (some false)) else (some false)) else (some false)) else (some false)))))))
def impl_IsValidEntry.C (k : Nat) : Cal → Option CArm := fun c => match c with
  | .f 99 => some (.p [.str] _ (fun x => impl_isKey.F k x.1) (fun r => (.t .bool r)))
  | .f 100 => some (.p [(.int .i64)] _ (fun x => impl_isKind.F x.1) (fun r => (.t .bool r)))
  | .f 101 => some (.p [(.sl .name)] _ (fun x => impl_areNames.F k x.1) (fun r => (.t .bool r)))
  | .f 102 => some (.p [.date] _ (fun x => impl_IsValidDate.F x.1) (fun r => (.t .bool r)))
  | .f 103 => some (.p [(.int .i64), (.int .i64), (.int .i64)] _ (fun x => impl_inside.F x.1 x.2.1 x.2.2.1) (fun r => (.t .bool r)))
  | .f 104 => some (.p [.str] _ (fun x => impl_isText.F k x.1) (fun r => (.t .bool r)))
  | _ => none
theorem impl_IsValidEntry.run (k : Nat) (a0 : Entry) : runF envX (tabC (impl_IsValidEntry.C k)) (tabL 72 0 (fun _ => none)) Tryz.f74 [.t .entry a0] (viewR1 (.t .bool)) = impl_IsValidEntry.F k a0 := by kernel_rfl
theorem impl_IsValidEntry.G (hE : EnvOk Tryz.prog envX) (pv : Nat → Value) (k : Nat) : ∀ cal A, impl_IsValidEntry.C k cal = some A → ArmOk Tryz.prog envX pv cal A := by
  intro cal A h
  unfold impl_IsValidEntry.C at h
  split at h
  · cases h; exact fun x y hy => impl_isKey.good hE pv k x.1 hy
  · cases h; exact fun x y hy => impl_isKind.good hE pv x.1 hy
  · cases h; exact fun x y hy => impl_areNames.good hE pv k x.1 hy
  · cases h; exact fun x y hy => impl_IsValidDate.good hE pv x.1 hy
  · cases h; exact fun x y hy => impl_inside.good hE pv x.1 x.2.1 x.2.2.1 hy
  · cases h; exact fun x y hy => impl_isText.good hE pv k x.1 hy
  · cases h
theorem impl_IsValidEntry.good (hE : EnvOk Tryz.prog envX) (pv : Nat → Value) (k : Nat) (a0 : Entry) {y : _} (h : impl_IsValidEntry.F k a0 = some y) : Meets Tryz.prog envX pv (.f 74) (tvals [.entry] (a0, ())) (.t .bool y) :=
  fun_plain hE (impl_IsValidEntry.G hE pv k) (f := 74) (fn := Tryz.f74) (by kernel_rfl) rfl (by kernel_rfl) (by kernel_rfl) ((impl_IsValidEntry.run k a0).trans h) fun r hr => wk_view1 hr
/-! ### 44 loop.example/g00896/impl.IsValidLibrary -/
def impl_IsValidLibrary.l0 : Nat → Library → (List Entry) → Int → Int → Option (Sum Bool Library)
  | 0, _, _, _, _ => none
  | k + 1, x1, x6, x7, x8 => bif (decide (x8 < x7)) then (bif decide (0 ≤ x8) then (bif decide (x8 < (x6.length : Int)) then ((impl_IsValidEntry.F k (x6.getD (x8 : Int).toNat (dflt .entry))).bind fun r1 => bif (!r1) then (some (.inl false)) else (bif (decide (x8 > 0)) then (bif decide (0 ≤ (IntKind.wrap .i64 (x8 - 1))) then (bif decide ((IntKind.wrap .i64 (x8 - 1)) < (x1.entries.length : Int)) then (bif (!ltS ((x1.entries.getD ((IntKind.wrap .i64 (x8 - 1)) : Int).toNat (dflt .entry)).key) ((x6.getD (x8 : Int).toNat (dflt .entry)).key)) then (some (.inl false)) else (impl_IsValidLibrary.l0 k x1 x6 x7 (IntKind.wrap .i64 (x8 + 1)))) else none) else none) else (impl_IsValidLibrary.l0 k x1 x6 x7 (IntKind.wrap .i64 (x8 + 1))))) else none) else none) else (some (.inr x1))
def impl_IsValidLibrary.F (k : Nat) (a0 : Library) : Option (Bool) := (impl_IsValidLibrary.l0 k a0 a0.entries (a0.entries.length : Int) 0).bind fun y2 => match y2 with | .inl z3 => some z3 | .inr z3 => some (decide ((z3.entries.length : Int) ≤ 8))
def impl_IsValidLibrary.C (k : Nat) : Cal → Option CArm := fun c => match c with
  | .f 74 => some (.p [.entry] _ (fun x => impl_IsValidEntry.F k x.1) (fun r => (.t .bool r)))
  | _ => none
def impl_IsValidLibrary.sp0 : List Sp := [.boxT 1 0 .lib, .t 6 (.sl .entry), .t 7 (.int .i64), .t 8 (.int .i64)]
def impl_IsValidLibrary.sp0_0 : List Sp := [.t 2 .bool]
def impl_IsValidLibrary.sp0_1 : List Sp := [.boxT 1 0 .lib]
def impl_IsValidLibrary.A0 : LArm := .two impl_IsValidLibrary.sp0 impl_IsValidLibrary.sp0_0 impl_IsValidLibrary.sp0_1 (Bool) (Library) (fun k x => impl_IsValidLibrary.l0 k x.1 x.2.1 x.2.2.1 x.2.2.2.1) .ret (.exit 0) (fun y => (y, ())) (fun x => x.1) (fun y => (y, ())) (fun x => x.1)
def impl_IsValidLibrary.L : Nat → Option LArm := fun b => match b with
  | 0 => some impl_IsValidLibrary.A0
  | _ => none
theorem impl_IsValidLibrary.run (k : Nat) (a0 : Library) : runF envX (tabC (impl_IsValidLibrary.C k)) (tabL 37 k impl_IsValidLibrary.L) Tryz.f44 [.t .lib a0] (viewR1 (.t .bool)) = impl_IsValidLibrary.F k a0 := by kernel_rfl
theorem impl_IsValidLibrary.step0 (k : Nat) (x1 : Library) (x6 : List Entry) (x7 : Int) (x8 : Int) : runC envX (tabC (impl_IsValidLibrary.C k)) (tabL 37 k impl_IsValidLibrary.L) 0 (loopAt Tryz.f44 0) (stOf 37 impl_IsValidLibrary.sp0 (x1, x6, x7, x8, ())) (impl_IsValidLibrary.A0.cont 37 k) = impl_IsValidLibrary.l0 (k + 1) x1 x6 x7 x8 := by kernel_rfl
theorem impl_IsValidLibrary.G (hE : EnvOk Tryz.prog envX) (pv : Nat → Value) (k : Nat) : ∀ cal A, impl_IsValidLibrary.C k cal = some A → ArmOk Tryz.prog envX pv cal A := by
  intro cal A h
  unfold impl_IsValidLibrary.C at h
  split at h
  · cases h; exact fun x y hy => impl_IsValidEntry.good hE pv k x.1 hy
  · cases h
theorem impl_IsValidLibrary.good (hE : EnvOk Tryz.prog envX) (pv : Nat → Value) (k : Nat) (a0 : Library) {y : _} (h : impl_IsValidLibrary.F k a0 = some y) : Meets Tryz.prog envX pv (.f 44) (tvals [.lib] (a0, ())) (.t .bool y) :=
  fun_loops hE (t := impl_IsValidLibrary.C) k (fun k _ => impl_IsValidLibrary.G hE pv k) (f := 44) (fn := Tryz.f44) (by kernel_rfl) rfl (by kernel_rfl) (by kernel_rfl) (lt := impl_IsValidLibrary.L) (by kernel_rfl) (fun b A h => by
    unfold impl_IsValidLibrary.L at h; split at h
    · cases h; exact ⟨by kernel_rfl, by kernel_rfl, by kernel_rfl, fun _ => rfl, fun _ => rfl, fun _ => rfl⟩
    · cases h) (fun b A h => by
    unfold impl_IsValidLibrary.L at h; split at h
    · cases h; exact fun k x => impl_IsValidLibrary.step0 k x.1 x.2.1 x.2.2.1 x.2.2.2.1
    · cases h) ((impl_IsValidLibrary.run k a0).trans h) fun r hr => wk_view1 hr
/-! ### 55 loop.example/g00896/impl.parentIndex -/
def impl_parentIndex.F (k : Nat) (a0 : Library) (a1 : Int) : Option (Int) := bif decide (0 ≤ a1) then (bif decide (a1 < (a0.entries.length : Int)) then (bif (beqS ((a0.entries.getD (a1 : Int).toNat (dflt .entry)).cross) (⟨#[]⟩ : ByteArray)) then (some (-1)) else (bif decide (0 ≤ a1) then (bif decide (a1 < (a0.entries.length : Int)) then ((impl_entryIndex.F k a0 ((a0.entries.getD (a1 : Int).toNat (dflt .entry)).cross)).bind fun r1 => some r1) else none) else none)) else none) else none
def impl_parentIndex.C (k : Nat) : Cal → Option CArm := fun c => match c with
  | .f 43 => some (.p [.lib, .str] _ (fun x => impl_entryIndex.F k x.1 x.2.1) (fun r => (.t (.int .i64) r)))
  | _ => none
theorem impl_parentIndex.run (k : Nat) (a0 : Library) (a1 : Int) : runF envX (tabC (impl_parentIndex.C k)) (tabL 20 0 (fun _ => none)) Tryz.f55 [.t .lib a0, .t (.int .i64) a1] (viewR1 (.t (.int .i64))) = impl_parentIndex.F k a0 a1 := by kernel_rfl
theorem impl_parentIndex.G (hE : EnvOk Tryz.prog envX) (pv : Nat → Value) (k : Nat) : ∀ cal A, impl_parentIndex.C k cal = some A → ArmOk Tryz.prog envX pv cal A := by
  intro cal A h
  unfold impl_parentIndex.C at h
  split at h
  · cases h; exact fun x y hy => impl_entryIndex.good hE pv k x.1 x.2.1 hy
  · cases h
theorem impl_parentIndex.good (hE : EnvOk Tryz.prog envX) (pv : Nat → Value) (k : Nat) (a0 : Library) (a1 : Int) {y : _} (h : impl_parentIndex.F k a0 a1 = some y) : Meets Tryz.prog envX pv (.f 55) (tvals [.lib, (.int .i64)] (a0, a1, ())) (.t (.int .i64) y) :=
  fun_plain hE (impl_parentIndex.G hE pv k) (f := 55) (fn := Tryz.f55) (by kernel_rfl) rfl (by kernel_rfl) (by kernel_rfl) ((impl_parentIndex.run k a0 a1).trans h) fun r hr => wk_view1 hr
/-! ### 111 slices.Index[[]int,int] -/
def slices_Index_int.l0 : Nat → (List Int) → Int → Int → Int → Option (Sum Int Unit)
  | 0, _, _, _, _ => none
  | k + 1, x0, x1, x7, x8 => bif (decide (x8 < x7)) then (bif decide (0 ≤ x8) then (bif decide (x8 < (x0.length : Int)) then (bif (x1 == (x0.getD (x8 : Int).toNat 0)) then (some (.inl x8)) else (slices_Index_int.l0 k x0 x1 x7 (IntKind.wrap .i64 (x8 + 1)))) else none) else none) else (some (.inr ()))
def slices_Index_int.F (k : Nat) (a0 : List Int) (a1 : Int) : Option (Int) := (slices_Index_int.l0 k a0 a1 (a0.length : Int) 0).bind fun y1 => match y1 with | .inl z2 => some z2 | .inr z2 => some (-1)
def slices_Index_int.C (k : Nat) : Cal → Option CArm := fun c => match c with
  | _ => none
def slices_Index_int.sp0 : List Sp := [.t 0 (.sl (.int .i64)), .t 1 (.int .i64), .t 7 (.int .i64), .t 8 (.int .i64)]
def slices_Index_int.sp0_0 : List Sp := [.t 4 (.int .i64)]
def slices_Index_int.sp0_1 : List Sp := []
def slices_Index_int.A0 : LArm := .two slices_Index_int.sp0 slices_Index_int.sp0_0 slices_Index_int.sp0_1 (Int) (Unit) (fun k x => slices_Index_int.l0 k x.1 x.2.1 x.2.2.1 x.2.2.2.1) .ret (.exit 0) (fun y => (y, ())) (fun x => x.1) (fun y => ()) (fun x => ())
def slices_Index_int.L : Nat → Option LArm := fun b => match b with
  | 0 => some slices_Index_int.A0
  | _ => none
theorem slices_Index_int.run (k : Nat) (a0 : List Int) (a1 : Int) : runF envX (tabC (slices_Index_int.C k)) (tabL 19 k slices_Index_int.L) Tryz.f111 [.t (.sl (.int .i64)) a0, .t (.int .i64) a1] (viewR1 (.t (.int .i64))) = slices_Index_int.F k a0 a1 := by kernel_rfl
theorem slices_Index_int.step0 (k : Nat) (x0 : List Int) (x1 : Int) (x7 : Int) (x8 : Int) : runC envX (tabC (slices_Index_int.C k)) (tabL 19 k slices_Index_int.L) 0 (loopAt Tryz.f111 0) (stOf 19 slices_Index_int.sp0 (x0, x1, x7, x8, ())) (slices_Index_int.A0.cont 19 k) = slices_Index_int.l0 (k + 1) x0 x1 x7 x8 := by kernel_rfl
theorem slices_Index_int.G (hE : EnvOk Tryz.prog envX) (pv : Nat → Value) (k : Nat) : ∀ cal A, slices_Index_int.C k cal = some A → ArmOk Tryz.prog envX pv cal A := by
  intro cal A h
  unfold slices_Index_int.C at h
  cases h
theorem slices_Index_int.good (hE : EnvOk Tryz.prog envX) (pv : Nat → Value) (k : Nat) (a0 : List Int) (a1 : Int) {y : _} (h : slices_Index_int.F k a0 a1 = some y) : Meets Tryz.prog envX pv (.f 111) (tvals [(.sl (.int .i64)), (.int .i64)] (a0, a1, ())) (.t (.int .i64) y) :=
  fun_loops hE (t := slices_Index_int.C) k (fun k _ => slices_Index_int.G hE pv k) (f := 111) (fn := Tryz.f111) (by kernel_rfl) rfl (by kernel_rfl) (by kernel_rfl) (lt := slices_Index_int.L) (by kernel_rfl) (fun b A h => by
    unfold slices_Index_int.L at h; split at h
    · cases h; exact ⟨by kernel_rfl, by kernel_rfl, by kernel_rfl, fun _ => rfl, fun _ => rfl, fun _ => rfl⟩
    · cases h) (fun b A h => by
    unfold slices_Index_int.L at h; split at h
    · cases h; exact fun k x => slices_Index_int.step0 k x.1 x.2.1 x.2.2.1 x.2.2.2.1
    · cases h) ((slices_Index_int.run k a0 a1).trans h) fun r hr => wk_view1 hr
/-! ### 80 slices.Contains[[]int,int] -/
def slices_Contains_int.F (k : Nat) (a0 : List Int) (a1 : Int) : Option (Bool) := (slices_Index_int.F k a0 a1).bind fun r1 => some (decide (r1 ≥ 0))
def slices_Contains_int.C (k : Nat) : Cal → Option CArm := fun c => match c with
  | .f 111 => some (.p [(.sl (.int .i64)), (.int .i64)] _ (fun x => slices_Index_int.F k x.1 x.2.1) (fun r => (.t (.int .i64) r)))
  | _ => none
theorem slices_Contains_int.run (k : Nat) (a0 : List Int) (a1 : Int) : runF envX (tabC (slices_Contains_int.C k)) (tabL 9 0 (fun _ => none)) Tryz.f80 [.t (.sl (.int .i64)) a0, .t (.int .i64) a1] (viewR1 (.t .bool)) = slices_Contains_int.F k a0 a1 := by kernel_rfl
theorem slices_Contains_int.G (hE : EnvOk Tryz.prog envX) (pv : Nat → Value) (k : Nat) : ∀ cal A, slices_Contains_int.C k cal = some A → ArmOk Tryz.prog envX pv cal A := by
  intro cal A h
  unfold slices_Contains_int.C at h
  split at h
  · cases h; exact fun x y hy => slices_Index_int.good hE pv k x.1 x.2.1 hy
  · cases h
theorem slices_Contains_int.good (hE : EnvOk Tryz.prog envX) (pv : Nat → Value) (k : Nat) (a0 : List Int) (a1 : Int) {y : _} (h : slices_Contains_int.F k a0 a1 = some y) : Meets Tryz.prog envX pv (.f 80) (tvals [(.sl (.int .i64)), (.int .i64)] (a0, a1, ())) (.t .bool y) :=
  fun_plain hE (slices_Contains_int.G hE pv k) (f := 80) (fn := Tryz.f80) (by kernel_rfl) rfl (by kernel_rfl) (by kernel_rfl) ((slices_Contains_int.run k a0 a1).trans h) fun r hr => wk_view1 hr
/-! ### 54 loop.example/g00896/impl.chainOf -/
def impl_chainOf.l0 : Nat → Int → Library → (List Int) → Option (Sum ((List Int) × Bool) (List Int))
  | 0, _, _, _ => none
  | k + 1, x1, x2, x6 => bif (decide (x1 ≥ 0)) then ((slices_Contains_int.F k x6 x1).bind fun r1 => bif r1 then (some (.inl (x6, true))) else (bif room (x6.length + ([x1] : List Int).length) (.int .i64) then ((impl_parentIndex.F k x2 x1).bind fun r2 => impl_chainOf.l0 k r2 x2 (x6 ++ ([x1] : List Int))) else none)) else (some (.inr x6))
def impl_chainOf.F (k : Nat) (a0 : Library) (a1 : Int) : Option ((List Int) × Bool) := (impl_chainOf.l0 k a1 a0 ([] : List Int)).bind fun y3 => match y3 with | .inl z4 => some (z4.1, z4.2) | .inr z4 => some (z4, false)
def impl_chainOf.C (k : Nat) : Cal → Option CArm := fun c => match c with
  | .f 80 => some (.p [(.sl (.int .i64)), (.int .i64)] _ (fun x => slices_Contains_int.F k x.1 x.2.1) (fun r => (.t .bool r)))
  | .f 55 => some (.p [.lib, (.int .i64)] _ (fun x => impl_parentIndex.F k x.1 x.2.1) (fun r => (.t (.int .i64) r)))
  | _ => none
def impl_chainOf.sp0 : List Sp := [.t 1 (.int .i64), .boxT 2 0 .lib, .own 6 1024 3 (.int .i64) false true]
def impl_chainOf.sp0_0 : List Sp := [.own 4 1024 3 (.int .i64) false true, .t 5 .bool]
def impl_chainOf.sp0_1 : List Sp := [.own 6 1024 3 (.int .i64) false true]
def impl_chainOf.A0 : LArm := .two impl_chainOf.sp0 impl_chainOf.sp0_0 impl_chainOf.sp0_1 ((List Int) × Bool) ((List Int)) (fun k x => impl_chainOf.l0 k x.1 x.2.1 x.2.2.1) .ret (.exit 0) (fun y => (y.1, y.2, ())) (fun x => (x.1, x.2.1)) (fun y => (y, ())) (fun x => x.1)
def impl_chainOf.L : Nat → Option LArm := fun b => match b with
  | 0 => some impl_chainOf.A0
  | _ => none
theorem impl_chainOf.run (k : Nat) (a0 : Library) (a1 : Int) : runF envX (tabC (impl_chainOf.C k)) (tabL 22 k impl_chainOf.L) Tryz.f54 [.t .lib a0, .t (.int .i64) a1] (viewR2 (.fr 3 (.int .i64)) (.t .bool)) = impl_chainOf.F k a0 a1 := by kernel_rfl
theorem impl_chainOf.step0 (k : Nat) (x1 : Int) (x2 : Library) (x6 : List Int) : runC envX (tabC (impl_chainOf.C k)) (tabL 22 k impl_chainOf.L) 0 (loopAt Tryz.f54 0) (stOf 22 impl_chainOf.sp0 (x1, x2, x6, ())) (impl_chainOf.A0.cont 22 k) = impl_chainOf.l0 (k + 1) x1 x2 x6 := by kernel_rfl
theorem impl_chainOf.G (hE : EnvOk Tryz.prog envX) (pv : Nat → Value) (k : Nat) : ∀ cal A, impl_chainOf.C k cal = some A → ArmOk Tryz.prog envX pv cal A := by
  intro cal A h
  unfold impl_chainOf.C at h
  split at h
  · cases h; exact fun x y hy => slices_Contains_int.good hE pv k x.1 x.2.1 hy
  · cases h; exact fun x y hy => impl_parentIndex.good hE pv k x.1 x.2.1 hy
  · cases h
theorem impl_chainOf.good (hE : EnvOk Tryz.prog envX) (pv : Nat → Value) (k : Nat) (a0 : Library) (a1 : Int) {y : _} (h : impl_chainOf.F k a0 a1 = some y) : Meets Tryz.prog envX pv (.f 54) (tvals [.lib, (.int .i64)] (a0, a1, ())) (.tup [.fr 3 (.int .i64) y.1, .t .bool y.2]) :=
  fun_loops hE (t := impl_chainOf.C) k (fun k _ => impl_chainOf.G hE pv k) (f := 54) (fn := Tryz.f54) (by kernel_rfl) rfl (by kernel_rfl) (by kernel_rfl) (lt := impl_chainOf.L) (by kernel_rfl) (fun b A h => by
    unfold impl_chainOf.L at h; split at h
    · cases h; exact ⟨by kernel_rfl, by kernel_rfl, by kernel_rfl, fun _ => rfl, fun _ => rfl, fun _ => rfl⟩
    · cases h) (fun b A h => by
    unfold impl_chainOf.L at h; split at h
    · cases h; exact fun k x => impl_chainOf.step0 k x.1 x.2.1 x.2.2.1
    · cases h) ((impl_chainOf.run k a0 a1).trans h) fun r hr => wk_view2 hr
/-! ### 105 loop.example/g00896/impl.newNames -/
def impl_newNames.l0 : Nat → (List Name) → (List Name) → Int → Int → Option ((List Name))
  | 0, _, _, _, _ => none
  | k + 1, x3, x7, x8, x9 => bif (decide (x9 < x8)) then (bif decide (0 ≤ x9) then (bif decide (x9 < (x7.length : Int)) then (bif room (([] : List ByteArray).length + ((x7.getD (x9 : Int).toNat (dflt .name)).given).length) .str then (bif room (x3.length + ([(⟨(([] : List ByteArray) ++ ((x7.getD (x9 : Int).toNat (dflt .name)).given)), (x7.getD (x9 : Int).toNat (dflt .name)).particle, (x7.getD (x9 : Int).toNat (dflt .name)).family, (x7.getD (x9 : Int).toNat (dflt .name)).suffix⟩ : Name)] : List Name).length) .name then (impl_newNames.l0 k (x3 ++ ([(⟨(([] : List ByteArray) ++ ((x7.getD (x9 : Int).toNat (dflt .name)).given)), (x7.getD (x9 : Int).toNat (dflt .name)).particle, (x7.getD (x9 : Int).toNat (dflt .name)).family, (x7.getD (x9 : Int).toNat (dflt .name)).suffix⟩ : Name)] : List Name)) x7 x8 (IntKind.wrap .i64 (x9 + 1))) else none) else none) else none) else none) else (some x3)
def impl_newNames.F (k : Nat) (a0 : List Name) : Option (List Name) := (impl_newNames.l0 k ([] : List Name) a0 (a0.length : Int) 0).bind fun y1 => some y1
def impl_newNames.C (k : Nat) : Cal → Option CArm := fun c => match c with
  | _ => none
def impl_newNames.sp0 : List Sp := [.own 3 1024 96 .name false true, .t 7 (.sl .name), .t 8 (.int .i64), .t 9 (.int .i64)]
def impl_newNames.sp0_0 : List Sp := [.own 3 1024 96 .name false true]
def impl_newNames.A0 : LArm := .one impl_newNames.sp0 impl_newNames.sp0_0 ((List Name)) (fun k x => impl_newNames.l0 k x.1 x.2.1 x.2.2.1 x.2.2.2.1) (.exit 0) (fun y => (y, ())) (fun x => x.1)
def impl_newNames.L : Nat → Option LArm := fun b => match b with
  | 0 => some impl_newNames.A0
  | _ => none
theorem impl_newNames.run (k : Nat) (a0 : List Name) : runF envX (tabC (impl_newNames.C k)) (tabL 24 k impl_newNames.L) Tryz.f105 [.t (.sl .name) a0] (viewR1 (.fr 96 .name)) = impl_newNames.F k a0 := by kernel_rfl
theorem impl_newNames.step0 (k : Nat) (x3 : List Name) (x7 : List Name) (x8 : Int) (x9 : Int) : runC envX (tabC (impl_newNames.C k)) (tabL 24 k impl_newNames.L) 0 (loopAt Tryz.f105 0) (stOf 24 impl_newNames.sp0 (x3, x7, x8, x9, ())) (impl_newNames.A0.cont 24 k) = impl_newNames.l0 (k + 1) x3 x7 x8 x9 := by kernel_rfl
theorem impl_newNames.G (hE : EnvOk Tryz.prog envX) (pv : Nat → Value) (k : Nat) : ∀ cal A, impl_newNames.C k cal = some A → ArmOk Tryz.prog envX pv cal A := by
  intro cal A h
  unfold impl_newNames.C at h
  cases h
theorem impl_newNames.good (hE : EnvOk Tryz.prog envX) (pv : Nat → Value) (k : Nat) (a0 : List Name) {y : _} (h : impl_newNames.F k a0 = some y) : Meets Tryz.prog envX pv (.f 105) (tvals [(.sl .name)] (a0, ())) (.fr 96 .name y) :=
  fun_loops hE (t := impl_newNames.C) k (fun k _ => impl_newNames.G hE pv k) (f := 105) (fn := Tryz.f105) (by kernel_rfl) rfl (by kernel_rfl) (by kernel_rfl) (lt := impl_newNames.L) (by kernel_rfl) (fun b A h => by
    unfold impl_newNames.L at h; split at h
    · cases h; exact ⟨by kernel_rfl, by kernel_rfl, fun _ => rfl, fun _ => rfl⟩
    · cases h) (fun b A h => by
    unfold impl_newNames.L at h; split at h
    · cases h; exact fun k x => impl_newNames.step0 k x.1 x.2.1 x.2.2.1 x.2.2.2.1
    · cases h) ((impl_newNames.run k a0).trans h) fun r hr => wk_view1 hr
/-! ### 75 loop.example/g00896/impl.newEntry -/
def impl_newEntry.F (k : Nat) (a0 : Entry) : Option (Entry) := (impl_newNames.F k a0.authors).bind fun r1 => (impl_newNames.F k a0.editors).bind fun r2 => some (⟨a0.key, a0.kind, r1, r2, a0.title, a0.container, a0.publisher, a0.date, a0.volume, a0.pages, a0.cross⟩ : Entry)
def impl_newEntry.C (k : Nat) : Cal → Option CArm := fun c => match c with
  | .f 105 => some (.p [(.sl .name)] _ (fun x => impl_newNames.F k x.1) (fun r => (.fr 96 .name r)))
  | _ => none
theorem impl_newEntry.run (k : Nat) (a0 : Entry) : runF envX (tabC (impl_newEntry.C k)) (tabL 12 0 (fun _ => none)) Tryz.f75 [.t .entry a0] (viewR1 (.t .entry)) = impl_newEntry.F k a0 := by kernel_rfl
theorem impl_newEntry.G (hE : EnvOk Tryz.prog envX) (pv : Nat → Value) (k : Nat) : ∀ cal A, impl_newEntry.C k cal = some A → ArmOk Tryz.prog envX pv cal A := by
  intro cal A h
  unfold impl_newEntry.C at h
  split at h
  · cases h; exact fun x y hy => impl_newNames.good hE pv k x.1 hy
  · cases h
theorem impl_newEntry.good (hE : EnvOk Tryz.prog envX) (pv : Nat → Value) (k : Nat) (a0 : Entry) {y : _} (h : impl_newEntry.F k a0 = some y) : Meets Tryz.prog envX pv (.f 75) (tvals [.entry] (a0, ())) (.t .entry y) :=
  fun_plain hE (impl_newEntry.G hE pv k) (f := 75) (fn := Tryz.f75) (by kernel_rfl) rfl (by kernel_rfl) (by kernel_rfl) ((impl_newEntry.run k a0).trans h) fun r hr => wk_view1 hr
/-! ### 85 loop.example/g00896/impl.orNames -/
def impl_orNames.F (k : Nat) (a0 : List Name) (a1 : List Name) : Option (List Name) := bif ((a0.length : Int) == 0) then ((impl_newNames.F k a1).bind fun r1 => some r1) else ((impl_newNames.F k a0).bind fun r2 => some r2)
def impl_orNames.C (k : Nat) : Cal → Option CArm := fun c => match c with
  | .f 105 => some (.p [(.sl .name)] _ (fun x => impl_newNames.F k x.1) (fun r => (.fr 96 .name r)))
  | _ => none
theorem impl_orNames.run (k : Nat) (a0 : List Name) (a1 : List Name) : runF envX (tabC (impl_orNames.C k)) (tabL 12 0 (fun _ => none)) Tryz.f85 [.t (.sl .name) a0, .t (.sl .name) a1] (viewR1 (.fr 96 .name)) = impl_orNames.F k a0 a1 := by kernel_rfl
theorem impl_orNames.G (hE : EnvOk Tryz.prog envX) (pv : Nat → Value) (k : Nat) : ∀ cal A, impl_orNames.C k cal = some A → ArmOk Tryz.prog envX pv cal A := by
  intro cal A h
  unfold impl_orNames.C at h
  split at h
  · cases h; exact fun x y hy => impl_newNames.good hE pv k x.1 hy
  · cases h
theorem impl_orNames.good (hE : EnvOk Tryz.prog envX) (pv : Nat → Value) (k : Nat) (a0 : List Name) (a1 : List Name) {y : _} (h : impl_orNames.F k a0 a1 = some y) : Meets Tryz.prog envX pv (.f 85) (tvals [(.sl .name), (.sl .name)] (a0, a1, ())) (.fr 96 .name y) :=
  fun_plain hE (impl_orNames.G hE pv k) (f := 85) (fn := Tryz.f85) (by kernel_rfl) rfl (by kernel_rfl) (by kernel_rfl) ((impl_orNames.run k a0 a1).trans h) fun r hr => wk_view1 hr
/-! ### 86 loop.example/g00896/impl.orText -/
def impl_orText.F (a0 : ByteArray) (a1 : ByteArray) : Option (ByteArray) := bif (beqS a0 (⟨#[]⟩ : ByteArray)) then (some a1) else (some a0)
def impl_orText.C : Cal → Option CArm := fun c => match c with
  | _ => none
theorem impl_orText.run (a0 : ByteArray) (a1 : ByteArray) : runF envX (tabC impl_orText.C) (tabL 9 0 (fun _ => none)) Tryz.f86 [.t .str a0, .t .str a1] (viewR1 (.t .str)) = impl_orText.F a0 a1 := by kernel_rfl
theorem impl_orText.G (hE : EnvOk Tryz.prog envX) (pv : Nat → Value) : ∀ cal A, impl_orText.C cal = some A → ArmOk Tryz.prog envX pv cal A := by
  intro cal A h
  unfold impl_orText.C at h
  cases h
theorem impl_orText.good (hE : EnvOk Tryz.prog envX) (pv : Nat → Value) (a0 : ByteArray) (a1 : ByteArray) {y : _} (h : impl_orText.F a0 a1 = some y) : Meets Tryz.prog envX pv (.f 86) (tvals [.str, .str] (a0, a1, ())) (.t .str y) :=
  fun_plain hE (impl_orText.G hE pv) (f := 86) (fn := Tryz.f86) (by kernel_rfl) rfl (by kernel_rfl) (by kernel_rfl) ((impl_orText.run a0 a1).trans h) fun r hr => wk_view1 hr
/-! ### 87 loop.example/g00896/impl.orDate -/
def impl_orDate.F (a0 : Date) (a1 : Date) : Option (Date) := bif (a0.y == 0) then (some a1) else (some a0)
def impl_orDate.C : Cal → Option CArm := fun c => match c with
  | _ => none
theorem impl_orDate.run (a0 : Date) (a1 : Date) : runF envX (tabC impl_orDate.C) (tabL 10 0 (fun _ => none)) Tryz.f87 [.t .date a0, .t .date a1] (viewR1 (.t .date)) = impl_orDate.F a0 a1 := by kernel_rfl
theorem impl_orDate.G (hE : EnvOk Tryz.prog envX) (pv : Nat → Value) : ∀ cal A, impl_orDate.C cal = some A → ArmOk Tryz.prog envX pv cal A := by
  intro cal A h
  unfold impl_orDate.C at h
  cases h
theorem impl_orDate.good (hE : EnvOk Tryz.prog envX) (pv : Nat → Value) (a0 : Date) (a1 : Date) {y : _} (h : impl_orDate.F a0 a1 = some y) : Meets Tryz.prog envX pv (.f 87) (tvals [.date, .date] (a0, a1, ())) (.t .date y) :=
  fun_plain hE (impl_orDate.G hE pv) (f := 87) (fn := Tryz.f87) (by kernel_rfl) rfl (by kernel_rfl) (by kernel_rfl) ((impl_orDate.run a0 a1).trans h) fun r hr => wk_view1 hr
/-! ### 88 loop.example/g00896/impl.orVolume -/
def impl_orVolume.F (a0 : Int) (a1 : Int) : Option (Int) := bif (a0 == 0) then (some a1) else (some a0)
def impl_orVolume.C : Cal → Option CArm := fun c => match c with
  | _ => none
theorem impl_orVolume.run (a0 : Int) (a1 : Int) : runF envX (tabC impl_orVolume.C) (tabL 9 0 (fun _ => none)) Tryz.f88 [.t (.int .i64) a0, .t (.int .i64) a1] (viewR1 (.t (.int .i64))) = impl_orVolume.F a0 a1 := by kernel_rfl
theorem impl_orVolume.G (hE : EnvOk Tryz.prog envX) (pv : Nat → Value) : ∀ cal A, impl_orVolume.C cal = some A → ArmOk Tryz.prog envX pv cal A := by
  intro cal A h
  unfold impl_orVolume.C at h
  cases h
theorem impl_orVolume.good (hE : EnvOk Tryz.prog envX) (pv : Nat → Value) (a0 : Int) (a1 : Int) {y : _} (h : impl_orVolume.F a0 a1 = some y) : Meets Tryz.prog envX pv (.f 88) (tvals [(.int .i64), (.int .i64)] (a0, a1, ())) (.t (.int .i64) y) :=
  fun_plain hE (impl_orVolume.G hE pv) (f := 88) (fn := Tryz.f88) (by kernel_rfl) rfl (by kernel_rfl) (by kernel_rfl) ((impl_orVolume.run a0 a1).trans h) fun r hr => wk_view1 hr
/-! ### 76 loop.example/g00896/impl.inherit -/
def impl_inherit.F (k : Nat) (a0 : Entry) (a1 : Entry) : Option (Entry) := (impl_orText.F a0.publisher a1.publisher).bind fun r1 => (impl_orDate.F a0.date a1.date).bind fun r2 => (impl_orVolume.F a0.volume a1.volume).bind fun r3 => bif (a0.kind == 3) then ((impl_orText.F a0.container a1.title).bind fun r4 => (impl_orNames.F k a1.editors a1.authors).bind fun r5 => (impl_orNames.F k a0.editors r5).bind fun r6 => some (⟨a0.key, a0.kind, a0.authors, r6, a0.title, r4, r1, r2, r3, a0.pages, a0.cross⟩ : Entry)) else (bif (a0.kind == 2) then ((impl_orText.F a0.container a1.title).bind fun r7 => some (⟨a0.key, a0.kind, a0.authors, a0.editors, a0.title, r7, r1, r2, r3, a0.pages, a0.cross⟩ : Entry)) else ((impl_orText.F a0.container a1.container).bind fun r8 => some (⟨a0.key, a0.kind, a0.authors, a0.editors, a0.title, r8, r1, r2, r3, a0.pages, a0.cross⟩ : Entry)))
def impl_inherit.C (k : Nat) : Cal → Option CArm := fun c => match c with
  | .f 86 => some (.p [.str, .str] _ (fun x => impl_orText.F x.1 x.2.1) (fun r => (.t .str r)))
  | .f 87 => some (.p [.date, .date] _ (fun x => impl_orDate.F x.1 x.2.1) (fun r => (.t .date r)))
  | .f 88 => some (.p [(.int .i64), (.int .i64)] _ (fun x => impl_orVolume.F x.1 x.2.1) (fun r => (.t (.int .i64) r)))
  | .f 85 => some (.p [(.sl .name), (.sl .name)] _ (fun x => impl_orNames.F k x.1 x.2.1) (fun r => (.fr 96 .name r)))
  | _ => none
theorem impl_inherit.run (k : Nat) (a0 : Entry) (a1 : Entry) : runF envX (tabC (impl_inherit.C k)) (tabL 57 0 (fun _ => none)) Tryz.f76 [.t .entry a0, .t .entry a1] (viewR1 (.t .entry)) = impl_inherit.F k a0 a1 := by kernel_rfl
theorem impl_inherit.G (hE : EnvOk Tryz.prog envX) (pv : Nat → Value) (k : Nat) : ∀ cal A, impl_inherit.C k cal = some A → ArmOk Tryz.prog envX pv cal A := by
  intro cal A h
  unfold impl_inherit.C at h
  split at h
  · cases h; exact fun x y hy => impl_orText.good hE pv x.1 x.2.1 hy
  · cases h; exact fun x y hy => impl_orDate.good hE pv x.1 x.2.1 hy
  · cases h; exact fun x y hy => impl_orVolume.good hE pv x.1 x.2.1 hy
  · cases h; exact fun x y hy => impl_orNames.good hE pv k x.1 x.2.1 hy
  · cases h
theorem impl_inherit.good (hE : EnvOk Tryz.prog envX) (pv : Nat → Value) (k : Nat) (a0 : Entry) (a1 : Entry) {y : _} (h : impl_inherit.F k a0 a1 = some y) : Meets Tryz.prog envX pv (.f 76) (tvals [.entry, .entry] (a0, a1, ())) (.t .entry y) :=
  fun_plain hE (impl_inherit.G hE pv k) (f := 76) (fn := Tryz.f76) (by kernel_rfl) rfl (by kernel_rfl) (by kernel_rfl) ((impl_inherit.run k a0 a1).trans h) fun r hr => wk_view1 hr
/-! ### 45 loop.example/g00896/impl.resolveEntry -/
def impl_resolveEntry.l0 : Nat → Library → Entry → (List Int) → Entry → Int → Option (Entry × Entry)
  | 0, _, _, _, _, _ => none
  | k + 1, x2, x4, x6, x8, x9 => bif (decide (x9 ≥ 0)) then (bif decide (0 ≤ x9) then (bif decide (x9 < (x6.length : Int)) then (bif decide (0 ≤ (x6.getD ((x9 : Int).toNat) 0)) then (bif decide ((x6.getD ((x9 : Int).toNat) 0) < (x2.entries.length : Int)) then ((impl_newEntry.F k (x2.entries.getD ((x6.getD ((x9 : Int).toNat) 0) : Int).toNat (dflt .entry))).bind fun r3 => (impl_inherit.F k r3 x8).bind fun r4 => impl_resolveEntry.l0 k x2 x4 x6 r4 (IntKind.wrap .i64 (x9 - 1))) else none) else none) else none) else none) else (some (x4, x8))
def impl_resolveEntry.F (k : Nat) (a0 : Library) (a1 : Int) : Option (Entry × Bool) := (impl_chainOf.F k a0 a1).bind fun r1 => bif r1.2 then (some ((⟨(⟨#[]⟩ : ByteArray), 0, [], [], (⟨#[]⟩ : ByteArray), (⟨#[]⟩ : ByteArray), (⟨#[]⟩ : ByteArray), (dflt .date), 0, (⟨#[]⟩ : ByteArray), (⟨#[]⟩ : ByteArray)⟩ : Entry), false)) else (bif decide (0 ≤ (IntKind.wrap .i64 ((r1.1.length : Int) - 1))) then (bif decide ((IntKind.wrap .i64 ((r1.1.length : Int) - 1)) < (r1.1.length : Int)) then (bif decide (0 ≤ (r1.1.getD (((IntKind.wrap .i64 ((r1.1.length : Int) - 1)) : Int).toNat) 0)) then (bif decide ((r1.1.getD (((IntKind.wrap .i64 ((r1.1.length : Int) - 1)) : Int).toNat) 0) < (a0.entries.length : Int)) then ((impl_newEntry.F k (a0.entries.getD ((r1.1.getD (((IntKind.wrap .i64 ((r1.1.length : Int) - 1)) : Int).toNat) 0) : Int).toNat (dflt .entry))).bind fun r2 => (impl_resolveEntry.l0 k a0 (dflt .entry) r1.1 r2 (IntKind.wrap .i64 ((r1.1.length : Int) - 2))).bind fun y5 => some (y5.2, true)) else none) else none) else none) else none)
def impl_resolveEntry.C (k : Nat) : Cal → Option CArm := fun c => match c with
  | .f 54 => some (.p [.lib, (.int .i64)] _ (fun x => impl_chainOf.F k x.1 x.2.1) (fun r => (.tup [.fr 3 (.int .i64) r.1, .t .bool r.2])))
  | .f 75 => some (.p [.entry] _ (fun x => impl_newEntry.F k x.1) (fun r => (.t .entry r)))
  | .f 76 => some (.p [.entry, .entry] _ (fun x => impl_inherit.F k x.1 x.2.1) (fun r => (.t .entry r)))
  | _ => none
def impl_resolveEntry.sp0 : List Sp := [.boxT 2 0 .lib, .boxT 4 4 .entry, .own 6 1032 3 (.int .i64) false true, .boxT 8 4140 .entry, .t 9 (.int .i64)]
def impl_resolveEntry.sp0_0 : List Sp := [.boxT 4 4 .entry, .boxT 8 4140 .entry]
def impl_resolveEntry.A0 : LArm := .one impl_resolveEntry.sp0 impl_resolveEntry.sp0_0 (Entry × Entry) (fun k x => impl_resolveEntry.l0 k x.1 x.2.1 x.2.2.1 x.2.2.2.1 x.2.2.2.2.1) (.exit 0) (fun y => (y.1, y.2, ())) (fun x => (x.1, x.2.1))
def impl_resolveEntry.L : Nat → Option LArm := fun b => match b with
  | 0 => some impl_resolveEntry.A0
  | _ => none
theorem impl_resolveEntry.run (k : Nat) (a0 : Library) (a1 : Int) : runF envX (tabC (impl_resolveEntry.C k)) (tabL 48 k impl_resolveEntry.L) Tryz.f45 [.t .lib a0, .t (.int .i64) a1] (viewR2 (.t .entry) (.t .bool)) = impl_resolveEntry.F k a0 a1 := by kernel_rfl
theorem impl_resolveEntry.step0 (k : Nat) (x2 : Library) (x4 : Entry) (x6 : List Int) (x8 : Entry) (x9 : Int) : runC envX (tabC (impl_resolveEntry.C k)) (tabL 48 k impl_resolveEntry.L) 0 (loopAt Tryz.f45 0) (stOf 48 impl_resolveEntry.sp0 (x2, x4, x6, x8, x9, ())) (impl_resolveEntry.A0.cont 48 k) = impl_resolveEntry.l0 (k + 1) x2 x4 x6 x8 x9 := by kernel_rfl
theorem impl_resolveEntry.G (hE : EnvOk Tryz.prog envX) (pv : Nat → Value) (k : Nat) : ∀ cal A, impl_resolveEntry.C k cal = some A → ArmOk Tryz.prog envX pv cal A := by
  intro cal A h
  unfold impl_resolveEntry.C at h
  split at h
  · cases h; exact fun x y hy => impl_chainOf.good hE pv k x.1 x.2.1 hy
  · cases h; exact fun x y hy => impl_newEntry.good hE pv k x.1 hy
  · cases h; exact fun x y hy => impl_inherit.good hE pv k x.1 x.2.1 hy
  · cases h
theorem impl_resolveEntry.good (hE : EnvOk Tryz.prog envX) (pv : Nat → Value) (k : Nat) (a0 : Library) (a1 : Int) {y : _} (h : impl_resolveEntry.F k a0 a1 = some y) : Meets Tryz.prog envX pv (.f 45) (tvals [.lib, (.int .i64)] (a0, a1, ())) (.tup [.t .entry y.1, .t .bool y.2]) :=
  fun_loops hE (t := impl_resolveEntry.C) k (fun k _ => impl_resolveEntry.G hE pv k) (f := 45) (fn := Tryz.f45) (by kernel_rfl) rfl (by kernel_rfl) (by kernel_rfl) (lt := impl_resolveEntry.L) (by kernel_rfl) (fun b A h => by
    unfold impl_resolveEntry.L at h; split at h
    · cases h; exact ⟨by kernel_rfl, by kernel_rfl, fun _ => rfl, fun _ => rfl⟩
    · cases h) (fun b A h => by
    unfold impl_resolveEntry.L at h; split at h
    · cases h; exact fun k x => impl_resolveEntry.step0 k x.1 x.2.1 x.2.2.1 x.2.2.2.1 x.2.2.2.2.1
    · cases h) ((impl_resolveEntry.run k a0 a1).trans h) fun r hr => wk_view2 hr
/-! ### 18 loop.example/g00896/impl.ResolveEntry -/
def impl_ResolveEntry.F (k : Nat) (a0 : Library) (a1 : ByteArray) : Option (Entry × Bool) := (impl_entryIndex.F k a0 a1).bind fun r1 => (impl_IsValidLibrary.F k a0).bind fun r2 => bif (!r2) then (some ((⟨(⟨#[]⟩ : ByteArray), 0, [], [], (⟨#[]⟩ : ByteArray), (⟨#[]⟩ : ByteArray), (⟨#[]⟩ : ByteArray), (dflt .date), 0, (⟨#[]⟩ : ByteArray), (⟨#[]⟩ : ByteArray)⟩ : Entry), false)) else (bif (decide (r1 < 0)) then (some ((⟨(⟨#[]⟩ : ByteArray), 0, [], [], (⟨#[]⟩ : ByteArray), (⟨#[]⟩ : ByteArray), (⟨#[]⟩ : ByteArray), (dflt .date), 0, (⟨#[]⟩ : ByteArray), (⟨#[]⟩ : ByteArray)⟩ : Entry), false)) else ((impl_resolveEntry.F k a0 r1).bind fun r3 => some (r3.1, r3.2)))
def impl_ResolveEntry.C (k : Nat) : Cal → Option CArm := fun c => match c with
  | .f 43 => some (.p [.lib, .str] _ (fun x => impl_entryIndex.F k x.1 x.2.1) (fun r => (.t (.int .i64) r)))
  | .f 44 => some (.p [.lib] _ (fun x => impl_IsValidLibrary.F k x.1) (fun r => (.t .bool r)))
  | .f 45 => some (.p [.lib, (.int .i64)] _ (fun x => impl_resolveEntry.F k x.1 x.2.1) (fun r => (.tup [.t .entry r.1, .t .bool r.2])))
  | _ => none
theorem impl_ResolveEntry.run (k : Nat) (a0 : Library) (a1 : ByteArray) : runF envX (tabC (impl_ResolveEntry.C k)) (tabL 23 0 (fun _ => none)) Tryz.f18 [.t .lib a0, .t .str a1] (viewR2 (.t .entry) (.t .bool)) = impl_ResolveEntry.F k a0 a1 := by kernel_rfl
theorem impl_ResolveEntry.G (hE : EnvOk Tryz.prog envX) (pv : Nat → Value) (k : Nat) : ∀ cal A, impl_ResolveEntry.C k cal = some A → ArmOk Tryz.prog envX pv cal A := by
  intro cal A h
  unfold impl_ResolveEntry.C at h
  split at h
  · cases h; exact fun x y hy => impl_entryIndex.good hE pv k x.1 x.2.1 hy
  · cases h; exact fun x y hy => impl_IsValidLibrary.good hE pv k x.1 hy
  · cases h; exact fun x y hy => impl_resolveEntry.good hE pv k x.1 x.2.1 hy
  · cases h
theorem impl_ResolveEntry.good (hE : EnvOk Tryz.prog envX) (pv : Nat → Value) (k : Nat) (a0 : Library) (a1 : ByteArray) {y : _} (h : impl_ResolveEntry.F k a0 a1 = some y) : Meets Tryz.prog envX pv (.f 18) (tvals [.lib, .str] (a0, a1, ())) (.tup [.t .entry y.1, .t .bool y.2]) :=
  fun_plain hE (impl_ResolveEntry.G hE pv k) (f := 18) (fn := Tryz.f18) (by kernel_rfl) rfl (by kernel_rfl) (by kernel_rfl) ((impl_ResolveEntry.run k a0 a1).trans h) fun r hr => wk_view2 hr
/-! ### 36 loop.example/g00896/impl.entryOf -/
def impl_entryOf.F (k : Nat) (a0 : Library) (a1 : ByteArray) : Option (Entry) := (impl_entryIndex.F k a0 a1).bind fun r1 => bif decide (0 ≤ r1) then (bif decide (r1 < (a0.entries.length : Int)) then (some (a0.entries.getD (r1 : Int).toNat (dflt .entry))) else none) else none
def impl_entryOf.C (k : Nat) : Cal → Option CArm := fun c => match c with
  | .f 43 => some (.p [.lib, .str] _ (fun x => impl_entryIndex.F k x.1 x.2.1) (fun r => (.t (.int .i64) r)))
  | _ => none
theorem impl_entryOf.run (k : Nat) (a0 : Library) (a1 : ByteArray) : runF envX (tabC (impl_entryOf.C k)) (tabL 12 0 (fun _ => none)) Tryz.f36 [.t .lib a0, .t .str a1] (viewR1 (.t .entry)) = impl_entryOf.F k a0 a1 := by kernel_rfl
theorem impl_entryOf.G (hE : EnvOk Tryz.prog envX) (pv : Nat → Value) (k : Nat) : ∀ cal A, impl_entryOf.C k cal = some A → ArmOk Tryz.prog envX pv cal A := by
  intro cal A h
  unfold impl_entryOf.C at h
  split at h
  · cases h; exact fun x y hy => impl_entryIndex.good hE pv k x.1 x.2.1 hy
  · cases h
theorem impl_entryOf.good (hE : EnvOk Tryz.prog envX) (pv : Nat → Value) (k : Nat) (a0 : Library) (a1 : ByteArray) {y : _} (h : impl_entryOf.F k a0 a1 = some y) : Meets Tryz.prog envX pv (.f 36) (tvals [.lib, .str] (a0, a1, ())) (.t .entry y) :=
  fun_plain hE (impl_entryOf.G hE pv k) (f := 36) (fn := Tryz.f36) (by kernel_rfl) rfl (by kernel_rfl) (by kernel_rfl) ((impl_entryOf.run k a0 a1).trans h) fun r hr => wk_view1 hr
/-! ### 96 strings.Join -/
def strings_Join.F (a0 : List ByteArray) (a1 : ByteArray) : Option (ByteArray) := xJoin a0 a1
theorem strings_Join.good (hE : EnvOk Tryz.prog envX) (pv : Nat → Value) (a0 : List ByteArray) (a1 : ByteArray) {y : _} (h : strings_Join.F a0 a1 = some y) : Meets Tryz.prog envX pv (.f 96) (tvals [(.sl .str), .str] (a0, a1, ())) (.t .str y) :=
  ext_join (fn := Tryz.f96) (by kernel_rfl) rfl (by kernel_rfl) Tryz.strings_Join_none Tryz.strings_Join h
-- NO 136 slices.DeleteFunc[[]string,string]: a parameter's type
/-! ### 137 loop.example/g00896/impl.spaced$1 -/
def impl_spaced_1.F (a0 : ByteArray) : Option (Bool) := some (beqS a0 (⟨#[]⟩ : ByteArray))
def impl_spaced_1.C : Cal → Option CArm := fun c => match c with
  | _ => none
theorem impl_spaced_1.run (a0 : ByteArray) : runF envX (tabC impl_spaced_1.C) (tabL 5 0 (fun _ => none)) Tryz.f137 [.t .str a0] (viewR1 (.t .bool)) = impl_spaced_1.F a0 := by kernel_rfl
theorem impl_spaced_1.G (hE : EnvOk Tryz.prog envX) (pv : Nat → Value) : ∀ cal A, impl_spaced_1.C cal = some A → ArmOk Tryz.prog envX pv cal A := by
  intro cal A h
  unfold impl_spaced_1.C at h
  cases h
theorem impl_spaced_1.good (hE : EnvOk Tryz.prog envX) (pv : Nat → Value) (a0 : ByteArray) {y : _} (h : impl_spaced_1.F a0 = some y) : Meets Tryz.prog envX pv (.f 137) (tvals [.str] (a0, ())) (.t .bool y) :=
  fun_plain hE (impl_spaced_1.G hE pv) (f := 137) (fn := Tryz.f137) (by kernel_rfl) rfl (by kernel_rfl) (by kernel_rfl) ((impl_spaced_1.run a0).trans h) fun r hr => wk_view1 hr
/-! ### 155 slices.IndexFunc[[]string,string] at loop.example/g00896/impl.spaced$1 -/
def slices_IndexFunc_string_f137.l0 : Nat → (List ByteArray) → Int → Int → Option (Sum Int Unit)
  | 0, _, _, _ => none
  | k + 1, x0, x7, x8 => bif (decide (x8 < x7)) then (bif decide (0 ≤ x8) then (bif decide (x8 < (x0.length : Int)) then ((impl_spaced_1.F (x0.getD (x8 : Int).toNat (⟨#[]⟩ : ByteArray))).bind fun r1 => bif r1 then (some (.inl x8)) else (slices_IndexFunc_string_f137.l0 k x0 x7 (IntKind.wrap .i64 (x8 + 1)))) else none) else none) else (some (.inr ()))
def slices_IndexFunc_string_f137.F (k : Nat) (a0 : List ByteArray) : Option (Int) := (slices_IndexFunc_string_f137.l0 k a0 (a0.length : Int) 0).bind fun y2 => match y2 with | .inl z3 => some z3 | .inr z3 => some (-1)
def slices_IndexFunc_string_f137.C (k : Nat) : Cal → Option CArm := fun c => match c with
  | .f 137 => some (.p [.str] _ (fun x => impl_spaced_1.F x.1) (fun r => (.t .bool r)))
  | _ => none
def slices_IndexFunc_string_f137.sp0 : List Sp := [.t 0 (.sl .str), .con 1 (.clo 137), .t 7 (.int .i64), .t 8 (.int .i64)]
def slices_IndexFunc_string_f137.sp0_0 : List Sp := [.t 4 (.int .i64)]
def slices_IndexFunc_string_f137.sp0_1 : List Sp := []
def slices_IndexFunc_string_f137.A0 : LArm := .two slices_IndexFunc_string_f137.sp0 slices_IndexFunc_string_f137.sp0_0 slices_IndexFunc_string_f137.sp0_1 (Int) (Unit) (fun k x => slices_IndexFunc_string_f137.l0 k x.1 x.2.2.1 x.2.2.2.1) .ret (.exit 0) (fun y => (y, ())) (fun x => x.1) (fun y => ()) (fun x => ())
def slices_IndexFunc_string_f137.L : Nat → Option LArm := fun b => match b with
  | 0 => some slices_IndexFunc_string_f137.A0
  | _ => none
theorem slices_IndexFunc_string_f137.run (k : Nat) (a0 : List ByteArray) : runF envX (tabC (slices_IndexFunc_string_f137.C k)) (tabL 19 k slices_IndexFunc_string_f137.L) Tryz.f155 [.t (.sl .str) a0, .clo 137 []] (viewR1 (.t (.int .i64))) = slices_IndexFunc_string_f137.F k a0 := by kernel_rfl
theorem slices_IndexFunc_string_f137.step0 (k : Nat) (x0 : List ByteArray) (x7 : Int) (x8 : Int) : runC envX (tabC (slices_IndexFunc_string_f137.C k)) (tabL 19 k slices_IndexFunc_string_f137.L) 0 (loopAt Tryz.f155 0) (stOf 19 slices_IndexFunc_string_f137.sp0 (x0, (), x7, x8, ())) (slices_IndexFunc_string_f137.A0.cont 19 k) = slices_IndexFunc_string_f137.l0 (k + 1) x0 x7 x8 := by kernel_rfl
theorem slices_IndexFunc_string_f137.G (hE : EnvOk Tryz.prog envX) (pv : Nat → Value) (k : Nat) : ∀ cal A, slices_IndexFunc_string_f137.C k cal = some A → ArmOk Tryz.prog envX pv cal A := by
  intro cal A h
  unfold slices_IndexFunc_string_f137.C at h
  split at h
  · cases h; exact fun x y hy => impl_spaced_1.good hE pv x.1 hy
  · cases h
theorem slices_IndexFunc_string_f137.good (hE : EnvOk Tryz.prog envX) (pv : Nat → Value) (k : Nat) (a0 : List ByteArray) {y : _} (h : slices_IndexFunc_string_f137.F k a0 = some y) : Meets Tryz.prog envX pv (.f 155) (pvals [.t (.sl .str), .clo 137 []] (a0, (()), ())) (.t (.int .i64) y) :=
  fun_loops hE (t := slices_IndexFunc_string_f137.C) k (fun k _ => slices_IndexFunc_string_f137.G hE pv k) (f := 155) (fn := Tryz.f155) (by kernel_rfl) rfl (by kernel_rfl) (by kernel_rfl) (lt := slices_IndexFunc_string_f137.L) (by kernel_rfl) (fun b A h => by
    unfold slices_IndexFunc_string_f137.L at h; split at h
    · cases h; exact ⟨by kernel_rfl, by kernel_rfl, by kernel_rfl, fun _ => rfl, fun _ => rfl, fun _ => rfl⟩
    · cases h) (fun b A h => by
    unfold slices_IndexFunc_string_f137.L at h; split at h
    · cases h; exact fun k x => slices_IndexFunc_string_f137.step0 k x.1 x.2.2.1 x.2.2.2.1
    · cases h) ((slices_IndexFunc_string_f137.run k a0).trans h) fun r hr => wk_view1 hr
/-! ### 136 slices.DeleteFunc[[]string,string] at loop.example/g00896/impl.spaced$1 -/
def slices_DeleteFunc_string_f137.l0 : Nat → (List ByteArray) → Int → Int → Option ((List ByteArray) × Int)
  | 0, _, _, _ => none
  | k + 1, x0, x5, x6 => bif (decide (x6 < (x0.length : Int))) then (bif decide (0 ≤ x6) then (bif decide (x6 < (x0.length : Int)) then ((impl_spaced_1.F (x0.getD ((x6 : Int).toNat) (⟨#[]⟩ : ByteArray))).bind fun r2 => bif (!r2) then (bif decide (0 ≤ x5) then (bif decide (x5 < (x0.length : Int)) then (slices_DeleteFunc_string_f137.l0 k (x0.set ((x5 : Int).toNat) (x0.getD ((x6 : Int).toNat) (⟨#[]⟩ : ByteArray))) (IntKind.wrap .i64 (x5 + 1)) (IntKind.wrap .i64 (x6 + 1))) else none) else none) else (slices_DeleteFunc_string_f137.l0 k x0 x5 (IntKind.wrap .i64 (x6 + 1)))) else none) else none) else (some (x0, x5))
def slices_DeleteFunc_string_f137.F (k : Nat) (a0 : List ByteArray) : Option (List ByteArray) := (slices_IndexFunc_string_f137.F k a0).bind fun r1 => bif (r1 == (-1)) then (some a0) else ((slices_DeleteFunc_string_f137.l0 k a0 r1 (IntKind.wrap .i64 (r1 + 1))).bind fun y3 => bif decide (0 ≤ y3.2) then (bif decide (y3.2 ≤ (y3.1.length : Int)) then (bif decide (0 ≤ y3.2) then (bif decide (y3.2 ≤ ((y3.1.take ((y3.2 : Int).toNat) ++ List.replicate (y3.1.length - ((y3.2 : Int).toNat)) (⟨#[]⟩ : ByteArray)).length : Int)) then (some ((y3.1.take ((y3.2 : Int).toNat) ++ List.replicate (y3.1.length - ((y3.2 : Int).toNat)) (⟨#[]⟩ : ByteArray)).take (y3.2 : Int).toNat)) else none) else none) else none) else none)
def slices_DeleteFunc_string_f137.C (k : Nat) : Cal → Option CArm := fun c => match c with
  | .f 155 => some (.q [.t (.sl .str), .clo 137 []] _ (fun x => slices_IndexFunc_string_f137.F k x.1) (fun r => (.t (.int .i64) r)))
  | .f 137 => some (.p [.str] _ (fun x => impl_spaced_1.F x.1) (fun r => (.t .bool r)))
  | _ => none
def slices_DeleteFunc_string_f137.sp0 : List Sp := [.own 0 1099511627777 9 .str false true, .con 1 (.clo 137), .t 5 (.int .i64), .t 6 (.int .i64)]
def slices_DeleteFunc_string_f137.sp0_0 : List Sp := [.own 0 1099511627777 9 .str false true, .t 5 (.int .i64)]
def slices_DeleteFunc_string_f137.A0 : LArm := .one slices_DeleteFunc_string_f137.sp0 slices_DeleteFunc_string_f137.sp0_0 ((List ByteArray) × Int) (fun k x => slices_DeleteFunc_string_f137.l0 k x.1 x.2.2.1 x.2.2.2.1) (.exit 0) (fun y => (y.1, y.2, ())) (fun x => (x.1, x.2.1))
def slices_DeleteFunc_string_f137.L : Nat → Option LArm := fun b => match b with
  | 0 => some slices_DeleteFunc_string_f137.A0
  | _ => none
theorem slices_DeleteFunc_string_f137.run (k : Nat) (a0 : List ByteArray) : runM envX (tabC (slices_DeleteFunc_string_f137.C k)) (tabL 42 k slices_DeleteFunc_string_f137.L) Tryz.f136 mmove (.fr 9 .str a0) [.clo 137 []] (viewMov 9 .str) = slices_DeleteFunc_string_f137.F k a0 := by kernel_rfl
theorem slices_DeleteFunc_string_f137.step0 (k : Nat) (x0 : List ByteArray) (x5 : Int) (x6 : Int) : runC envX (tabC (slices_DeleteFunc_string_f137.C k)) (tabL 42 k slices_DeleteFunc_string_f137.L) 0 (loopAt Tryz.f136 0) (stOf 42 slices_DeleteFunc_string_f137.sp0 (x0, (), x5, x6, ())) (slices_DeleteFunc_string_f137.A0.cont 42 k) = slices_DeleteFunc_string_f137.l0 (k + 1) x0 x5 x6 := by kernel_rfl
theorem slices_DeleteFunc_string_f137.G (hE : EnvOk Tryz.prog envX) (pv : Nat → Value) (k : Nat) : ∀ cal A, slices_DeleteFunc_string_f137.C k cal = some A → ArmOk Tryz.prog envX pv cal A := by
  intro cal A h
  unfold slices_DeleteFunc_string_f137.C at h
  split at h
  · cases h; exact fun x y hy => slices_IndexFunc_string_f137.good hE pv k x.1 hy
  · cases h; exact fun x y hy => impl_spaced_1.good hE pv x.1 hy
  · cases h
theorem slices_DeleteFunc_string_f137.good (hE : EnvOk Tryz.prog envX) (pv : Nat → Value) (k : Nat) (a0 : List ByteArray) {y : _} (h : slices_DeleteFunc_string_f137.F k a0 = some y) : MeetsM Tryz.prog envX pv 136 (.fr 9 .str a0) (pvals [.clo 137 []] ((()), ())) (.mov 9 .str y) :=
  funM_loops hE (t := slices_DeleteFunc_string_f137.C) k (fun k _ => slices_DeleteFunc_string_f137.G hE pv k) (f := 136) (fn := Tryz.f136) (by kernel_rfl) rfl (by kernel_rfl) (.inr rfl) (by kernel_rfl) (lt := slices_DeleteFunc_string_f137.L) (by kernel_rfl) (fun b A h => by
    unfold slices_DeleteFunc_string_f137.L at h; split at h
    · cases h; exact ⟨by kernel_rfl, by kernel_rfl, fun _ => rfl, fun _ => rfl⟩
    · cases h) (fun b A h => by
    unfold slices_DeleteFunc_string_f137.L at h; split at h
    · cases h; exact fun k x => slices_DeleteFunc_string_f137.step0 k x.1 x.2.2.1 x.2.2.2.1
    · cases h) ((slices_DeleteFunc_string_f137.run k a0).trans h) fun r hr => wk_viewMov hr
/-! ### 118 loop.example/g00896/impl.spaced -/
def impl_spaced.F (k : Nat) (a0 : List ByteArray) : Option (ByteArray) := (slices_DeleteFunc_string_f137.F k a0).bind fun r1 => (strings_Join.F r1 (⟨#[32]⟩ : ByteArray)).bind fun r2 => some r2
def impl_spaced.C (k : Nat) : Cal → Option CArm := fun c => match c with
  | .f 136 => some (.mq (.fr 9 .str) [.clo 137 []] _ (fun x0 x => slices_DeleteFunc_string_f137.F k x0) (fun r => .mov 9 .str r))
  | .f 96 => some (.p [(.sl .str), .str] _ (fun x => strings_Join.F x.1 x.2.1) (fun r => (.t .str r)))
  | _ => none
theorem impl_spaced.run (k : Nat) (a0 : List ByteArray) : runM envX (tabC (impl_spaced.C k)) (tabL 6 0 (fun _ => none)) Tryz.f118 mmove (.fr 9 .str a0) [] (viewEat .str) = impl_spaced.F k a0 := by kernel_rfl
theorem impl_spaced.G (hE : EnvOk Tryz.prog envX) (pv : Nat → Value) (k : Nat) : ∀ cal A, impl_spaced.C k cal = some A → ArmOk Tryz.prog envX pv cal A := by
  intro cal A h
  unfold impl_spaced.C at h
  split at h
  · cases h; exact ⟨_, rfl, fun x0 x y hy => slices_DeleteFunc_string_f137.good hE pv k x0 hy⟩
  · cases h; exact fun x y hy => strings_Join.good hE pv x.1 x.2.1 hy
  · cases h
theorem impl_spaced.good (hE : EnvOk Tryz.prog envX) (pv : Nat → Value) (k : Nat) (a0 : List ByteArray) {y : _} (h : impl_spaced.F k a0 = some y) : MeetsM Tryz.prog envX pv 118 (.fr 9 .str a0) (tvals [] (())) (.pc false .str y) :=
  funM_plain hE (impl_spaced.G hE pv k) (f := 118) (fn := Tryz.f118) (by kernel_rfl) rfl (by kernel_rfl) (.inr rfl) (by kernel_rfl) ((impl_spaced.run k a0).trans h) fun r hr => wk_viewEat hr
/-! ### 95 loop.example/g00896/impl.inverseForm -/
def impl_inverseForm.F (k : Nat) (a0 : Name) : Option (ByteArray) := (impl_spaced.F k ([a0.particle, a0.family] : List ByteArray)).bind fun r1 => bif (decide ((a0.given.length : Int) > 0)) then ((strings_Join.F a0.given (⟨#[32]⟩ : ByteArray)).bind fun r2 => bif Nat.ble ((⟨#[44, 32]⟩ : ByteArray).size + r2.size) 9223372036854775807 then (bif Nat.ble (r1.size + ((⟨#[44, 32]⟩ : ByteArray) ++ r2).size) 9223372036854775807 then (bif (!beqS a0.suffix (⟨#[]⟩ : ByteArray)) then (bif Nat.ble ((⟨#[44, 32]⟩ : ByteArray).size + a0.suffix.size) 9223372036854775807 then (bif Nat.ble ((r1 ++ ((⟨#[44, 32]⟩ : ByteArray) ++ r2)).size + ((⟨#[44, 32]⟩ : ByteArray) ++ a0.suffix).size) 9223372036854775807 then (some ((r1 ++ ((⟨#[44, 32]⟩ : ByteArray) ++ r2)) ++ ((⟨#[44, 32]⟩ : ByteArray) ++ a0.suffix))) else none) else none) else (some (r1 ++ ((⟨#[44, 32]⟩ : ByteArray) ++ r2)))) else none) else none) else (bif (!beqS a0.suffix (⟨#[]⟩ : ByteArray)) then ((strings_Join.F a0.given (⟨#[32]⟩ : ByteArray)).bind fun r3 => bif Nat.ble ((⟨#[44, 32]⟩ : ByteArray).size + r3.size) 9223372036854775807 then (bif Nat.ble (r1.size + ((⟨#[44, 32]⟩ : ByteArray) ++ r3).size) 9223372036854775807 then (bif (!beqS a0.suffix (⟨#[]⟩ : ByteArray)) then (bif Nat.ble ((⟨#[44, 32]⟩ : ByteArray).size + a0.suffix.size) 9223372036854775807 then (bif Nat.ble ((r1 ++ ((⟨#[44, 32]⟩ : ByteArray) ++ r3)).size + ((⟨#[44, 32]⟩ : ByteArray) ++ a0.suffix).size) 9223372036854775807 then (some ((r1 ++ ((⟨#[44, 32]⟩ : ByteArray) ++ r3)) ++ ((⟨#[44, 32]⟩ : ByteArray) ++ a0.suffix))) else none) else none) else (some (r1 ++ ((⟨#[44, 32]⟩ : ByteArray) ++ r3)))) else none) else none) else (bif (!beqS a0.suffix (⟨#[]⟩ : ByteArray)) then (bif Nat.ble ((⟨#[44, 32]⟩ : ByteArray).size + a0.suffix.size) 9223372036854775807 then (bif Nat.ble (r1.size + ((⟨#[44, 32]⟩ : ByteArray) ++ a0.suffix).size) 9223372036854775807 then (some (r1 ++ ((⟨#[44, 32]⟩ : ByteArray) ++ a0.suffix))) else none) else none) else (some r1)))
def impl_inverseForm.C (k : Nat) : Cal → Option CArm := fun c => match c with
  | .f 118 => some (.m (.fr 9 .str) [] _ (fun x0 x => impl_spaced.F k x0) (fun r => .pc false .str r))
  | .f 96 => some (.p [(.sl .str), .str] _ (fun x => strings_Join.F x.1 x.2.1) (fun r => (.t .str r)))
  | _ => none
theorem impl_inverseForm.run (k : Nat) (a0 : Name) : runF envX (tabC (impl_inverseForm.C k)) (tabL 34 0 (fun _ => none)) Tryz.f95 [.t .name a0] (viewR1 (.t .str)) = impl_inverseForm.F k a0 := by kernel_rfl
theorem impl_inverseForm.G (hE : EnvOk Tryz.prog envX) (pv : Nat → Value) (k : Nat) : ∀ cal A, impl_inverseForm.C k cal = some A → ArmOk Tryz.prog envX pv cal A := by
  intro cal A h
  unfold impl_inverseForm.C at h
  split at h
  · cases h; exact ⟨_, rfl, fun x0 x y hy => impl_spaced.good hE pv k x0 hy⟩
  · cases h; exact fun x y hy => strings_Join.good hE pv x.1 x.2.1 hy
  · cases h
theorem impl_inverseForm.good (hE : EnvOk Tryz.prog envX) (pv : Nat → Value) (k : Nat) (a0 : Name) {y : _} (h : impl_inverseForm.F k a0 = some y) : Meets Tryz.prog envX pv (.f 95) (tvals [.name] (a0, ())) (.t .str y) :=
  fun_plain hE (impl_inverseForm.G hE pv k) (f := 95) (fn := Tryz.f95) (by kernel_rfl) rfl (by kernel_rfl) (by kernel_rfl) ((impl_inverseForm.run k a0).trans h) fun r hr => wk_view1 hr
/-! ### 68 loop.example/g00896/impl.namesText -/
def impl_namesText.l0 : Nat → (List ByteArray) → (List Name) → Int → Int → Option ((List ByteArray))
  | 0, _, _, _, _ => none
  | k + 1, x3, x7, x8, x9 => bif (decide (x9 < x8)) then (bif decide (0 ≤ x9) then (bif decide (x9 < (x7.length : Int)) then ((impl_inverseForm.F k (x7.getD (x9 : Int).toNat (dflt .name))).bind fun r1 => bif room (x3.length + ([r1] : List ByteArray).length) .str then (impl_namesText.l0 k (x3 ++ ([r1] : List ByteArray)) x7 x8 (IntKind.wrap .i64 (x9 + 1))) else none) else none) else none) else (some x3)
def impl_namesText.F (k : Nat) (a0 : List Name) : Option (ByteArray) := (impl_namesText.l0 k ([] : List ByteArray) a0 (a0.length : Int) 0).bind fun y2 => (strings_Join.F y2 (⟨#[59, 32]⟩ : ByteArray)).bind fun r3 => some r3
def impl_namesText.C (k : Nat) : Cal → Option CArm := fun c => match c with
  | .f 95 => some (.p [.name] _ (fun x => impl_inverseForm.F k x.1) (fun r => (.t .str r)))
  | .f 96 => some (.p [(.sl .str), .str] _ (fun x => strings_Join.F x.1 x.2.1) (fun r => (.t .str r)))
  | _ => none
def impl_namesText.sp0 : List Sp := [.own 3 1024 9 .str false true, .t 7 (.sl .name), .t 8 (.int .i64), .t 9 (.int .i64)]
def impl_namesText.sp0_0 : List Sp := [.own 3 1024 9 .str false true]
def impl_namesText.A0 : LArm := .one impl_namesText.sp0 impl_namesText.sp0_0 ((List ByteArray)) (fun k x => impl_namesText.l0 k x.1 x.2.1 x.2.2.1 x.2.2.2.1) (.exit 0) (fun y => (y, ())) (fun x => x.1)
def impl_namesText.L : Nat → Option LArm := fun b => match b with
  | 0 => some impl_namesText.A0
  | _ => none
theorem impl_namesText.run (k : Nat) (a0 : List Name) : runF envX (tabC (impl_namesText.C k)) (tabL 21 k impl_namesText.L) Tryz.f68 [.t (.sl .name) a0] (viewR1 (.t .str)) = impl_namesText.F k a0 := by kernel_rfl
theorem impl_namesText.step0 (k : Nat) (x3 : List ByteArray) (x7 : List Name) (x8 : Int) (x9 : Int) : runC envX (tabC (impl_namesText.C k)) (tabL 21 k impl_namesText.L) 0 (loopAt Tryz.f68 0) (stOf 21 impl_namesText.sp0 (x3, x7, x8, x9, ())) (impl_namesText.A0.cont 21 k) = impl_namesText.l0 (k + 1) x3 x7 x8 x9 := by kernel_rfl
theorem impl_namesText.G (hE : EnvOk Tryz.prog envX) (pv : Nat → Value) (k : Nat) : ∀ cal A, impl_namesText.C k cal = some A → ArmOk Tryz.prog envX pv cal A := by
  intro cal A h
  unfold impl_namesText.C at h
  split at h
  · cases h; exact fun x y hy => impl_inverseForm.good hE pv k x.1 hy
  · cases h; exact fun x y hy => strings_Join.good hE pv x.1 x.2.1 hy
  · cases h
theorem impl_namesText.good (hE : EnvOk Tryz.prog envX) (pv : Nat → Value) (k : Nat) (a0 : List Name) {y : _} (h : impl_namesText.F k a0 = some y) : Meets Tryz.prog envX pv (.f 68) (tvals [(.sl .name)] (a0, ())) (.t .str y) :=
  fun_loops hE (t := impl_namesText.C) k (fun k _ => impl_namesText.G hE pv k) (f := 68) (fn := Tryz.f68) (by kernel_rfl) rfl (by kernel_rfl) (by kernel_rfl) (lt := impl_namesText.L) (by kernel_rfl) (fun b A h => by
    unfold impl_namesText.L at h; split at h
    · cases h; exact ⟨by kernel_rfl, by kernel_rfl, fun _ => rfl, fun _ => rfl⟩
    · cases h) (fun b A h => by
    unfold impl_namesText.L at h; split at h
    · cases h; exact fun k x => impl_namesText.step0 k x.1 x.2.1 x.2.2.1 x.2.2.2.1
    · cases h) ((impl_namesText.run k a0).trans h) fun r hr => wk_view1 hr
/-! ### 70 strconv.Itoa -/
def strconv_Itoa.F (a0 : Int) : Option (ByteArray) := xItoaN a0
theorem strconv_Itoa.good (hE : EnvOk Tryz.prog envX) (pv : Nat → Value) (a0 : Int) {y : _} (h : strconv_Itoa.F a0 = some y) : Meets Tryz.prog envX pv (.f 70) (tvals [(.int .i64)] (a0, ())) (.t .str y) :=
  ext_itoaN (fn := Tryz.f70) (by kernel_rfl) rfl (by kernel_rfl) (g := 0) (by kernel_rfl) (by kernel_rfl) Tryz.strconv_Itoa h
/-! ### 97 loop.example/g00896/impl.digits -/
def impl_digits.l0 : Nat → Int → ByteArray → Option (ByteArray)
  | 0, _, _ => none
  | k + 1, x1, x5 => bif (decide ((x5.size : Int) < x1)) then (bif Nat.ble ((⟨#[48]⟩ : ByteArray).size + x5.size) 9223372036854775807 then (impl_digits.l0 k x1 ((⟨#[48]⟩ : ByteArray) ++ x5)) else none) else (some x5)
def impl_digits.F (k : Nat) (a0 : Int) (a1 : Int) : Option (ByteArray) := (strconv_Itoa.F a0).bind fun r1 => (impl_digits.l0 k a1 r1).bind fun y2 => some y2
def impl_digits.C (k : Nat) : Cal → Option CArm := fun c => match c with
  | .f 70 => some (.p [(.int .i64)] _ (fun x => strconv_Itoa.F x.1) (fun r => (.t .str r)))
  | _ => none
def impl_digits.sp0 : List Sp := [.t 1 (.int .i64), .t 5 .str]
def impl_digits.sp0_0 : List Sp := [.t 5 .str]
def impl_digits.A0 : LArm := .one impl_digits.sp0 impl_digits.sp0_0 (ByteArray) (fun k x => impl_digits.l0 k x.1 x.2.1) (.exit 0) (fun y => (y, ())) (fun x => x.1)
def impl_digits.L : Nat → Option LArm := fun b => match b with
  | 0 => some impl_digits.A0
  | _ => none
theorem impl_digits.run (k : Nat) (a0 : Int) (a1 : Int) : runF envX (tabC (impl_digits.C k)) (tabL 15 k impl_digits.L) Tryz.f97 [.t (.int .i64) a0, .t (.int .i64) a1] (viewR1 (.t .str)) = impl_digits.F k a0 a1 := by kernel_rfl
theorem impl_digits.step0 (k : Nat) (x1 : Int) (x5 : ByteArray) : runC envX (tabC (impl_digits.C k)) (tabL 15 k impl_digits.L) 0 (loopAt Tryz.f97 0) (stOf 15 impl_digits.sp0 (x1, x5, ())) (impl_digits.A0.cont 15 k) = impl_digits.l0 (k + 1) x1 x5 := by kernel_rfl
theorem impl_digits.G (hE : EnvOk Tryz.prog envX) (pv : Nat → Value) (k : Nat) : ∀ cal A, impl_digits.C k cal = some A → ArmOk Tryz.prog envX pv cal A := by
  intro cal A h
  unfold impl_digits.C at h
  split at h
  · cases h; exact fun x y hy => strconv_Itoa.good hE pv x.1 hy
  · cases h
theorem impl_digits.good (hE : EnvOk Tryz.prog envX) (pv : Nat → Value) (k : Nat) (a0 : Int) (a1 : Int) {y : _} (h : impl_digits.F k a0 a1 = some y) : Meets Tryz.prog envX pv (.f 97) (tvals [(.int .i64), (.int .i64)] (a0, a1, ())) (.t .str y) :=
  fun_loops hE (t := impl_digits.C) k (fun k _ => impl_digits.G hE pv k) (f := 97) (fn := Tryz.f97) (by kernel_rfl) rfl (by kernel_rfl) (by kernel_rfl) (lt := impl_digits.L) (by kernel_rfl) (fun b A h => by
    unfold impl_digits.L at h; split at h
    · cases h; exact ⟨by kernel_rfl, by kernel_rfl, fun _ => rfl, fun _ => rfl⟩
    · cases h) (fun b A h => by
    unfold impl_digits.L at h; split at h
    · cases h; exact fun k x => impl_digits.step0 k x.1 x.2.1
    · cases h) ((impl_digits.run k a0 a1).trans h) fun r hr => wk_view1 hr
/-! ### 69 loop.example/g00896/impl.formatDate -/
def impl_formatDate.F (k : Nat) (a0 : Date) : Option (ByteArray) := bif (a0.y == 0) then (some (⟨#[117, 110, 107, 110, 111, 119, 110]⟩ : ByteArray)) else ((impl_digits.F k a0.y 4).bind fun r1 => bif a0.c then (bif Nat.ble ((⟨#[99]⟩ : ByteArray).size + r1.size) 9223372036854775807 then (bif (decide (a0.m > 0)) then ((impl_digits.F k a0.m 2).bind fun r2 => bif Nat.ble ((⟨#[45]⟩ : ByteArray).size + r2.size) 9223372036854775807 then (bif Nat.ble (((⟨#[99]⟩ : ByteArray) ++ r1).size + ((⟨#[45]⟩ : ByteArray) ++ r2).size) 9223372036854775807 then (bif (decide (a0.d > 0)) then ((impl_digits.F k a0.d 2).bind fun r3 => bif Nat.ble ((⟨#[45]⟩ : ByteArray).size + r3.size) 9223372036854775807 then (bif Nat.ble ((((⟨#[99]⟩ : ByteArray) ++ r1) ++ ((⟨#[45]⟩ : ByteArray) ++ r2)).size + ((⟨#[45]⟩ : ByteArray) ++ r3).size) 9223372036854775807 then (some ((((⟨#[99]⟩ : ByteArray) ++ r1) ++ ((⟨#[45]⟩ : ByteArray) ++ r2)) ++ ((⟨#[45]⟩ : ByteArray) ++ r3))) else none) else none) else (some (((⟨#[99]⟩ : ByteArray) ++ r1) ++ ((⟨#[45]⟩ : ByteArray) ++ r2)))) else none) else none) else (bif (decide (a0.d > 0)) then ((impl_digits.F k a0.d 2).bind fun r4 => bif Nat.ble ((⟨#[45]⟩ : ByteArray).size + r4.size) 9223372036854775807 then (bif Nat.ble (((⟨#[99]⟩ : ByteArray) ++ r1).size + ((⟨#[45]⟩ : ByteArray) ++ r4).size) 9223372036854775807 then (some (((⟨#[99]⟩ : ByteArray) ++ r1) ++ ((⟨#[45]⟩ : ByteArray) ++ r4))) else none) else none) else (some ((⟨#[99]⟩ : ByteArray) ++ r1)))) else none) else (bif (decide (a0.m > 0)) then ((impl_digits.F k a0.m 2).bind fun r5 => bif Nat.ble ((⟨#[45]⟩ : ByteArray).size + r5.size) 9223372036854775807 then (bif Nat.ble (r1.size + ((⟨#[45]⟩ : ByteArray) ++ r5).size) 9223372036854775807 then (bif (decide (a0.d > 0)) then ((impl_digits.F k a0.d 2).bind fun r6 => bif Nat.ble ((⟨#[45]⟩ : ByteArray).size + r6.size) 9223372036854775807 then (bif Nat.ble ((r1 ++ ((⟨#[45]⟩ : ByteArray) ++ r5)).size + ((⟨#[45]⟩ : ByteArray) ++ r6).size) 9223372036854775807 then (some ((r1 ++ ((⟨#[45]⟩ : ByteArray) ++ r5)) ++ ((⟨#[45]⟩ : ByteArray) ++ r6))) else none) else none) else (some (r1 ++ ((⟨#[45]⟩ : ByteArray) ++ r5)))) else none) else none) else (bif (decide (a0.d > 0)) then ((impl_digits.F k a0.d 2).bind fun r7 => bif Nat.ble ((⟨#[45]⟩ : ByteArray).size + r7.size) 9223372036854775807 then (bif Nat.ble (r1.size + ((⟨#[45]⟩ : ByteArray) ++ r7).size) 9223372036854775807 then (some (r1 ++ ((⟨#[45]⟩ : ByteArray) ++ r7))) else none) else none) else (some r1))))
def impl_formatDate.C (k : Nat) : Cal → Option CArm := fun c => match c with
  | .f 97 => some (.p [(.int .i64), (.int .i64)] _ (fun x => impl_digits.F k x.1 x.2.1) (fun r => (.t .str r)))
  | _ => none
theorem impl_formatDate.run (k : Nat) (a0 : Date) : runF envX (tabC (impl_formatDate.C k)) (tabL 33 0 (fun _ => none)) Tryz.f69 [.t .date a0] (viewR1 (.t .str)) = impl_formatDate.F k a0 := by kernel_rfl
theorem impl_formatDate.G (hE : EnvOk Tryz.prog envX) (pv : Nat → Value) (k : Nat) : ∀ cal A, impl_formatDate.C k cal = some A → ArmOk Tryz.prog envX pv cal A := by
  intro cal A h
  unfold impl_formatDate.C at h
  split at h
  · cases h; exact fun x y hy => impl_digits.good hE pv k x.1 x.2.1 hy
  · cases h
theorem impl_formatDate.good (hE : EnvOk Tryz.prog envX) (pv : Nat → Value) (k : Nat) (a0 : Date) {y : _} (h : impl_formatDate.F k a0 = some y) : Meets Tryz.prog envX pv (.f 69) (tvals [.date] (a0, ())) (.t .str y) :=
  fun_plain hE (impl_formatDate.G hE pv k) (f := 69) (fn := Tryz.f69) (by kernel_rfl) rfl (by kernel_rfl) (by kernel_rfl) ((impl_formatDate.run k a0).trans h) fun r hr => wk_view1 hr
/-! ### 37 loop.example/g00896/impl.fieldText -/
def impl_fieldText.F (k : Nat) (a0 : Entry) (a1 : ByteArray) : Option (ByteArray) := bif (beqS a1 (⟨#[97, 117, 116, 104, 111, 114, 115]⟩ : ByteArray)) then ((impl_namesText.F k a0.authors).bind fun r1 => some r1) else (bif (beqS a1 (⟨#[101, 100, 105, 116, 111, 114, 115]⟩ : ByteArray)) then ((impl_namesText.F k a0.editors).bind fun r2 => some r2) else (bif (beqS a1 (⟨#[116, 105, 116, 108, 101]⟩ : ByteArray)) then (some a0.title) else (bif (beqS a1 (⟨#[99, 111, 110, 116, 97, 105, 110, 101, 114]⟩ : ByteArray)) then (some a0.container) else (bif (beqS a1 (⟨#[112, 117, 98, 108, 105, 115, 104, 101, 114]⟩ : ByteArray)) then (some a0.publisher) else (bif (beqS a1 (⟨#[100, 97, 116, 101]⟩ : ByteArray)) then (bif (decide (a0.date.y > 0)) then ((impl_formatDate.F k a0.date).bind fun r3 => some r3) else (some (⟨#[]⟩ : ByteArray))) else (bif (beqS a1 (⟨#[118, 111, 108, 117, 109, 101]⟩ : ByteArray)) then (bif (decide (a0.volume > 0)) then ((strconv_Itoa.F a0.volume).bind fun r4 => some r4) else (some (⟨#[]⟩ : ByteArray))) else (bif (beqS a1 (⟨#[112, 97, 103, 101, 115]⟩ : ByteArray)) then (some a0.pages) else (some (⟨#[]⟩ : ByteArray)))))))))
def impl_fieldText.C (k : Nat) : Cal → Option CArm := fun c => match c with
  | .f 68 => some (.p [(.sl .name)] _ (fun x => impl_namesText.F k x.1) (fun r => (.t .str r)))
  | .f 69 => some (.p [.date] _ (fun x => impl_formatDate.F k x.1) (fun r => (.t .str r)))
  | .f 70 => some (.p [(.int .i64)] _ (fun x => strconv_Itoa.F x.1) (fun r => (.t .str r)))
  | _ => none
theorem impl_fieldText.run (k : Nat) (a0 : Entry) (a1 : ByteArray) : runF envX (tabC (impl_fieldText.C k)) (tabL 49 0 (fun _ => none)) Tryz.f37 [.t .entry a0, .t .str a1] (viewR1 (.t .str)) = impl_fieldText.F k a0 a1 := by kernel_rfl
theorem impl_fieldText.G (hE : EnvOk Tryz.prog envX) (pv : Nat → Value) (k : Nat) : ∀ cal A, impl_fieldText.C k cal = some A → ArmOk Tryz.prog envX pv cal A := by
  intro cal A h
  unfold impl_fieldText.C at h
  split at h
  · cases h; exact fun x y hy => impl_namesText.good hE pv k x.1 hy
  · cases h; exact fun x y hy => impl_formatDate.good hE pv k x.1 hy
  · cases h; exact fun x y hy => strconv_Itoa.good hE pv x.1 hy
  · cases h
theorem impl_fieldText.good (hE : EnvOk Tryz.prog envX) (pv : Nat → Value) (k : Nat) (a0 : Entry) (a1 : ByteArray) {y : _} (h : impl_fieldText.F k a0 a1 = some y) : Meets Tryz.prog envX pv (.f 37) (tvals [.entry, .str] (a0, a1, ())) (.t .str y) :=
  fun_plain hE (impl_fieldText.G hE pv k) (f := 37) (fn := Tryz.f37) (by kernel_rfl) rfl (by kernel_rfl) (by kernel_rfl) ((impl_fieldText.run k a0 a1).trans h) fun r hr => wk_view1 hr
/-! ### 11 loop.example/g00896/impl.InheritedFields -/
def impl_InheritedFields.l0 : Nat → Entry → Entry → (List ByteArray) → (List ByteArray) → Int → Int → Option ((List ByteArray))
  | 0, _, _, _, _, _, _ => none
  | k + 1, x6, x8, x9, x24, x25, x26 => bif (decide (x26 < x25)) then (bif decide (0 ≤ x26) then (bif decide (x26 < (x24.length : Int)) then ((impl_fieldText.F k x8 (x24.getD ((x26 : Int).toNat) (⟨#[]⟩ : ByteArray))).bind fun r3 => bif (beqS r3 (⟨#[]⟩ : ByteArray)) then ((impl_fieldText.F k x6 (x24.getD ((x26 : Int).toNat) (⟨#[]⟩ : ByteArray))).bind fun r4 => bif (!beqS r4 (⟨#[]⟩ : ByteArray)) then (bif room (x9.length + ([(x24.getD ((x26 : Int).toNat) (⟨#[]⟩ : ByteArray))] : List ByteArray).length) .str then (impl_InheritedFields.l0 k x6 x8 (x9 ++ ([(x24.getD ((x26 : Int).toNat) (⟨#[]⟩ : ByteArray))] : List ByteArray)) x24 x25 (IntKind.wrap .i64 (x26 + 1))) else none) else (impl_InheritedFields.l0 k x6 x8 x9 x24 x25 (IntKind.wrap .i64 (x26 + 1)))) else (impl_InheritedFields.l0 k x6 x8 x9 x24 x25 (IntKind.wrap .i64 (x26 + 1)))) else none) else none) else (some x9)
def impl_InheritedFields.F (k : Nat) (a0 : Library) (a1 : ByteArray) : Option ((List ByteArray) × Bool) := (impl_ResolveEntry.F k a0 a1).bind fun r1 => bif (!r1.2) then (some ([], false)) else ((impl_entryOf.F k a0 a1).bind fun r2 => (impl_InheritedFields.l0 k r1.1 r2 ([] : List ByteArray) ([(⟨#[101, 100, 105, 116, 111, 114, 115]⟩ : ByteArray), (⟨#[99, 111, 110, 116, 97, 105, 110, 101, 114]⟩ : ByteArray), (⟨#[112, 117, 98, 108, 105, 115, 104, 101, 114]⟩ : ByteArray), (⟨#[100, 97, 116, 101]⟩ : ByteArray), (⟨#[118, 111, 108, 117, 109, 101]⟩ : ByteArray)] : List ByteArray) (([(⟨#[101, 100, 105, 116, 111, 114, 115]⟩ : ByteArray), (⟨#[99, 111, 110, 116, 97, 105, 110, 101, 114]⟩ : ByteArray), (⟨#[112, 117, 98, 108, 105, 115, 104, 101, 114]⟩ : ByteArray), (⟨#[100, 97, 116, 101]⟩ : ByteArray), (⟨#[118, 111, 108, 117, 109, 101]⟩ : ByteArray)] : List ByteArray).length : Int) 0).bind fun y5 => some (y5, true))
def impl_InheritedFields.C (k : Nat) : Cal → Option CArm := fun c => match c with
  | .f 18 => some (.p [.lib, .str] _ (fun x => impl_ResolveEntry.F k x.1 x.2.1) (fun r => (.tup [.t .entry r.1, .t .bool r.2])))
  | .f 36 => some (.p [.lib, .str] _ (fun x => impl_entryOf.F k x.1 x.2.1) (fun r => (.t .entry r)))
  | .f 37 => some (.p [.entry, .str] _ (fun x => impl_fieldText.F k x.1 x.2.1) (fun r => (.t .str r)))
  | _ => none
def impl_InheritedFields.sp0 : List Sp := [.boxT 6 1048 .entry, .boxT 8 4112 .entry, .own 9 4108 9 .str false true, .own 24 5120 9 .str false true, .t 25 (.int .i64), .t 26 (.int .i64)]
def impl_InheritedFields.sp0_0 : List Sp := [.own 9 4108 9 .str false true]
def impl_InheritedFields.A0 : LArm := .one impl_InheritedFields.sp0 impl_InheritedFields.sp0_0 ((List ByteArray)) (fun k x => impl_InheritedFields.l0 k x.1 x.2.1 x.2.2.1 x.2.2.2.1 x.2.2.2.2.1 x.2.2.2.2.2.1) (.exit 0) (fun y => (y, ())) (fun x => x.1)
def impl_InheritedFields.L : Nat → Option LArm := fun b => match b with
  | 0 => some impl_InheritedFields.A0
  | _ => none
theorem impl_InheritedFields.run (k : Nat) (a0 : Library) (a1 : ByteArray) : runF envX (tabC (impl_InheritedFields.C k)) (tabL 46 k impl_InheritedFields.L) Tryz.f11 [.t .lib a0, .t .str a1] (viewR2 (.fr 9 .str) (.t .bool)) = impl_InheritedFields.F k a0 a1 := by kernel_rfl
theorem impl_InheritedFields.step0 (k : Nat) (x6 : Entry) (x8 : Entry) (x9 : List ByteArray) (x24 : List ByteArray) (x25 : Int) (x26 : Int) : runC envX (tabC (impl_InheritedFields.C k)) (tabL 46 k impl_InheritedFields.L) 0 (loopAt Tryz.f11 0) (stOf 46 impl_InheritedFields.sp0 (x6, x8, x9, x24, x25, x26, ())) (impl_InheritedFields.A0.cont 46 k) = impl_InheritedFields.l0 (k + 1) x6 x8 x9 x24 x25 x26 := by kernel_rfl
theorem impl_InheritedFields.G (hE : EnvOk Tryz.prog envX) (pv : Nat → Value) (k : Nat) : ∀ cal A, impl_InheritedFields.C k cal = some A → ArmOk Tryz.prog envX pv cal A := by
  intro cal A h
  unfold impl_InheritedFields.C at h
  split at h
  · cases h; exact fun x y hy => impl_ResolveEntry.good hE pv k x.1 x.2.1 hy
  · cases h; exact fun x y hy => impl_entryOf.good hE pv k x.1 x.2.1 hy
  · cases h; exact fun x y hy => impl_fieldText.good hE pv k x.1 x.2.1 hy
  · cases h
theorem impl_InheritedFields.good (hE : EnvOk Tryz.prog envX) (pv : Nat → Value) (k : Nat) (a0 : Library) (a1 : ByteArray) {y : _} (h : impl_InheritedFields.F k a0 a1 = some y) : Meets Tryz.prog envX pv (.f 11) (tvals [.lib, .str] (a0, a1, ())) (.tup [.fr 9 .str y.1, .t .bool y.2]) :=
  fun_loops hE (t := impl_InheritedFields.C) k (fun k _ => impl_InheritedFields.G hE pv k) (f := 11) (fn := Tryz.f11) (by kernel_rfl) rfl (by kernel_rfl) (by kernel_rfl) (lt := impl_InheritedFields.L) (by kernel_rfl) (fun b A h => by
    unfold impl_InheritedFields.L at h; split at h
    · cases h; exact ⟨by kernel_rfl, by kernel_rfl, fun _ => rfl, fun _ => rfl⟩
    · cases h) (fun b A h => by
    unfold impl_InheritedFields.L at h; split at h
    · cases h; exact fun k x => impl_InheritedFields.step0 k x.1 x.2.1 x.2.2.1 x.2.2.2.1 x.2.2.2.2.1 x.2.2.2.2.2.1
    · cases h) ((impl_InheritedFields.run k a0 a1).trans h) fun r hr => wk_view2 hr
/-! ### 12 loop.example/g00896/laws.eqStringS -/
def laws_eqStringS.l0 : Nat → (List ByteArray) → (List ByteArray) → Int → Option (Sum Bool Unit)
  | 0, _, _, _ => none
  | k + 1, x0, x1, x5 => bif (decide (x5 < (x0.length : Int))) then (bif decide (0 ≤ x5) then (bif decide (x5 < (x0.length : Int)) then (bif decide (0 ≤ x5) then (bif decide (x5 < (x1.length : Int)) then (bif (!beqS (x0.getD (x5 : Int).toNat (⟨#[]⟩ : ByteArray)) (x1.getD (x5 : Int).toNat (⟨#[]⟩ : ByteArray))) then (some (.inl false)) else (laws_eqStringS.l0 k x0 x1 (IntKind.wrap .i64 (x5 + 1)))) else none) else none) else none) else none) else (some (.inr ()))
def laws_eqStringS.F (k : Nat) (a0 : List ByteArray) (a1 : List ByteArray) : Option (Bool) := bif ((a0.length : Int) != (a1.length : Int)) then (some false) else ((laws_eqStringS.l0 k a0 a1 0).bind fun y1 => match y1 with | .inl z2 => some z2 | .inr z2 => some true)
def laws_eqStringS.C (k : Nat) : Cal → Option CArm := fun c => match c with
  | _ => none
def laws_eqStringS.sp0 : List Sp := [.t 0 (.sl .str), .t 1 (.sl .str), .t 5 (.int .i64)]
def laws_eqStringS.sp0_0 : List Sp := [.t 4 .bool]
def laws_eqStringS.sp0_1 : List Sp := []
def laws_eqStringS.A0 : LArm := .two laws_eqStringS.sp0 laws_eqStringS.sp0_0 laws_eqStringS.sp0_1 (Bool) (Unit) (fun k x => laws_eqStringS.l0 k x.1 x.2.1 x.2.2.1) .ret (.exit 0) (fun y => (y, ())) (fun x => x.1) (fun y => ()) (fun x => ())
def laws_eqStringS.L : Nat → Option LArm := fun b => match b with
  | 0 => some laws_eqStringS.A0
  | _ => none
theorem laws_eqStringS.run (k : Nat) (a0 : List ByteArray) (a1 : List ByteArray) : runF envX (tabC (laws_eqStringS.C k)) (tabL 26 k laws_eqStringS.L) Tryz.f12 [.t (.sl .str) a0, .t (.sl .str) a1] (viewR1 (.t .bool)) = laws_eqStringS.F k a0 a1 := by kernel_rfl
theorem laws_eqStringS.step0 (k : Nat) (x0 : List ByteArray) (x1 : List ByteArray) (x5 : Int) : runC envX (tabC (laws_eqStringS.C k)) (tabL 26 k laws_eqStringS.L) 0 (loopAt Tryz.f12 0) (stOf 26 laws_eqStringS.sp0 (x0, x1, x5, ())) (laws_eqStringS.A0.cont 26 k) = laws_eqStringS.l0 (k + 1) x0 x1 x5 := by kernel_rfl
theorem laws_eqStringS.G (hE : EnvOk Tryz.prog envX) (pv : Nat → Value) (k : Nat) : ∀ cal A, laws_eqStringS.C k cal = some A → ArmOk Tryz.prog envX pv cal A := by
  intro cal A h
  unfold laws_eqStringS.C at h
  cases h
theorem laws_eqStringS.good (hE : EnvOk Tryz.prog envX) (pv : Nat → Value) (k : Nat) (a0 : List ByteArray) (a1 : List ByteArray) {y : _} (h : laws_eqStringS.F k a0 a1 = some y) : Meets Tryz.prog envX pv (.f 12) (tvals [(.sl .str), (.sl .str)] (a0, a1, ())) (.t .bool y) :=
  fun_loops hE (t := laws_eqStringS.C) k (fun k _ => laws_eqStringS.G hE pv k) (f := 12) (fn := Tryz.f12) (by kernel_rfl) rfl (by kernel_rfl) (by kernel_rfl) (lt := laws_eqStringS.L) (by kernel_rfl) (fun b A h => by
    unfold laws_eqStringS.L at h; split at h
    · cases h; exact ⟨by kernel_rfl, by kernel_rfl, by kernel_rfl, fun _ => rfl, fun _ => rfl, fun _ => rfl⟩
    · cases h) (fun b A h => by
    unfold laws_eqStringS.L at h; split at h
    · cases h; exact fun k x => laws_eqStringS.step0 k x.1 x.2.1 x.2.2.1
    · cases h) ((laws_eqStringS.run k a0 a1).trans h) fun r hr => wk_view1 hr
/-! ### 77 loop.example/g00896/laws.eqName -/
def laws_eqName.F (k : Nat) (a0 : Name) (a1 : Name) : Option (Bool) := (laws_eqStringS.F k a0.given a1.given).bind fun r1 => bif (!r1) then (some false) else (bif (!beqS a0.particle a1.particle) then (some false) else (bif (!beqS a0.family a1.family) then (some false) else (bif (!beqS a0.suffix a1.suffix) then (some false) else (some true))))
def laws_eqName.C (k : Nat) : Cal → Option CArm := fun c => match c with
  | .f 12 => some (.p [(.sl .str), (.sl .str)] _ (fun x => laws_eqStringS.F k x.1 x.2.1) (fun r => (.t .bool r)))
  | _ => none
theorem laws_eqName.run (k : Nat) (a0 : Name) (a1 : Name) : runF envX (tabC (laws_eqName.C k)) (tabL 26 0 (fun _ => none)) Tryz.f77 [.t .name a0, .t .name a1] (viewR1 (.t .bool)) = laws_eqName.F k a0 a1 := by kernel_rfl
theorem laws_eqName.G (hE : EnvOk Tryz.prog envX) (pv : Nat → Value) (k : Nat) : ∀ cal A, laws_eqName.C k cal = some A → ArmOk Tryz.prog envX pv cal A := by
  intro cal A h
  unfold laws_eqName.C at h
  split at h
  · cases h; exact fun x y hy => laws_eqStringS.good hE pv k x.1 x.2.1 hy
  · cases h
theorem laws_eqName.good (hE : EnvOk Tryz.prog envX) (pv : Nat → Value) (k : Nat) (a0 : Name) (a1 : Name) {y : _} (h : laws_eqName.F k a0 a1 = some y) : Meets Tryz.prog envX pv (.f 77) (tvals [.name, .name] (a0, a1, ())) (.t .bool y) :=
  fun_plain hE (laws_eqName.G hE pv k) (f := 77) (fn := Tryz.f77) (by kernel_rfl) rfl (by kernel_rfl) (by kernel_rfl) ((laws_eqName.run k a0 a1).trans h) fun r hr => wk_view1 hr
/-! ### 46 loop.example/g00896/laws.eqNameS -/
def laws_eqNameS.l0 : Nat → (List Name) → (List Name) → Int → Option (Sum Bool Unit)
  | 0, _, _, _ => none
  | k + 1, x0, x1, x5 => bif (decide (x5 < (x0.length : Int))) then (bif decide (0 ≤ x5) then (bif decide (x5 < (x0.length : Int)) then (bif decide (0 ≤ x5) then (bif decide (x5 < (x1.length : Int)) then ((laws_eqName.F k (x0.getD (x5 : Int).toNat (dflt .name)) (x1.getD (x5 : Int).toNat (dflt .name))).bind fun r1 => bif (!r1) then (some (.inl false)) else (laws_eqNameS.l0 k x0 x1 (IntKind.wrap .i64 (x5 + 1)))) else none) else none) else none) else none) else (some (.inr ()))
def laws_eqNameS.F (k : Nat) (a0 : List Name) (a1 : List Name) : Option (Bool) := bif ((a0.length : Int) != (a1.length : Int)) then (some false) else ((laws_eqNameS.l0 k a0 a1 0).bind fun y2 => match y2 with | .inl z3 => some z3 | .inr z3 => some true)
def laws_eqNameS.C (k : Nat) : Cal → Option CArm := fun c => match c with
  | .f 77 => some (.p [.name, .name] _ (fun x => laws_eqName.F k x.1 x.2.1) (fun r => (.t .bool r)))
  | _ => none
def laws_eqNameS.sp0 : List Sp := [.t 0 (.sl .name), .t 1 (.sl .name), .t 5 (.int .i64)]
def laws_eqNameS.sp0_0 : List Sp := [.t 4 .bool]
def laws_eqNameS.sp0_1 : List Sp := []
def laws_eqNameS.A0 : LArm := .two laws_eqNameS.sp0 laws_eqNameS.sp0_0 laws_eqNameS.sp0_1 (Bool) (Unit) (fun k x => laws_eqNameS.l0 k x.1 x.2.1 x.2.2.1) .ret (.exit 0) (fun y => (y, ())) (fun x => x.1) (fun y => ()) (fun x => ())
def laws_eqNameS.L : Nat → Option LArm := fun b => match b with
  | 0 => some laws_eqNameS.A0
  | _ => none
theorem laws_eqNameS.run (k : Nat) (a0 : List Name) (a1 : List Name) : runF envX (tabC (laws_eqNameS.C k)) (tabL 27 k laws_eqNameS.L) Tryz.f46 [.t (.sl .name) a0, .t (.sl .name) a1] (viewR1 (.t .bool)) = laws_eqNameS.F k a0 a1 := by kernel_rfl
theorem laws_eqNameS.step0 (k : Nat) (x0 : List Name) (x1 : List Name) (x5 : Int) : runC envX (tabC (laws_eqNameS.C k)) (tabL 27 k laws_eqNameS.L) 0 (loopAt Tryz.f46 0) (stOf 27 laws_eqNameS.sp0 (x0, x1, x5, ())) (laws_eqNameS.A0.cont 27 k) = laws_eqNameS.l0 (k + 1) x0 x1 x5 := by kernel_rfl
theorem laws_eqNameS.G (hE : EnvOk Tryz.prog envX) (pv : Nat → Value) (k : Nat) : ∀ cal A, laws_eqNameS.C k cal = some A → ArmOk Tryz.prog envX pv cal A := by
  intro cal A h
  unfold laws_eqNameS.C at h
  split at h
  · cases h; exact fun x y hy => laws_eqName.good hE pv k x.1 x.2.1 hy
  · cases h
theorem laws_eqNameS.good (hE : EnvOk Tryz.prog envX) (pv : Nat → Value) (k : Nat) (a0 : List Name) (a1 : List Name) {y : _} (h : laws_eqNameS.F k a0 a1 = some y) : Meets Tryz.prog envX pv (.f 46) (tvals [(.sl .name), (.sl .name)] (a0, a1, ())) (.t .bool y) :=
  fun_loops hE (t := laws_eqNameS.C) k (fun k _ => laws_eqNameS.G hE pv k) (f := 46) (fn := Tryz.f46) (by kernel_rfl) rfl (by kernel_rfl) (by kernel_rfl) (lt := laws_eqNameS.L) (by kernel_rfl) (fun b A h => by
    unfold laws_eqNameS.L at h; split at h
    · cases h; exact ⟨by kernel_rfl, by kernel_rfl, by kernel_rfl, fun _ => rfl, fun _ => rfl, fun _ => rfl⟩
    · cases h) (fun b A h => by
    unfold laws_eqNameS.L at h; split at h
    · cases h; exact fun k x => laws_eqNameS.step0 k x.1 x.2.1 x.2.2.1
    · cases h) ((laws_eqNameS.run k a0 a1).trans h) fun r hr => wk_view1 hr
/-! ### 47 loop.example/g00896/laws.eqDate -/
def laws_eqDate.F (a0 : Date) (a1 : Date) : Option (Bool) := bif (a0.y != a1.y) then (some false) else (bif (a0.m != a1.m) then (some false) else (bif (a0.d != a1.d) then (some false) else (bif (!(a0.c == a1.c)) then (some false) else (some true))))
def laws_eqDate.C : Cal → Option CArm := fun c => match c with
  | _ => none
theorem laws_eqDate.run (a0 : Date) (a1 : Date) : runF envX (tabC laws_eqDate.C) (tabL 25 0 (fun _ => none)) Tryz.f47 [.t .date a0, .t .date a1] (viewR1 (.t .bool)) = laws_eqDate.F a0 a1 := by kernel_rfl
theorem laws_eqDate.G (hE : EnvOk Tryz.prog envX) (pv : Nat → Value) : ∀ cal A, laws_eqDate.C cal = some A → ArmOk Tryz.prog envX pv cal A := by
  intro cal A h
  unfold laws_eqDate.C at h
  cases h
theorem laws_eqDate.good (hE : EnvOk Tryz.prog envX) (pv : Nat → Value) (a0 : Date) (a1 : Date) {y : _} (h : laws_eqDate.F a0 a1 = some y) : Meets Tryz.prog envX pv (.f 47) (tvals [.date, .date] (a0, a1, ())) (.t .bool y) :=
  fun_plain hE (laws_eqDate.G hE pv) (f := 47) (fn := Tryz.f47) (by kernel_rfl) rfl (by kernel_rfl) (by kernel_rfl) ((laws_eqDate.run a0 a1).trans h) fun r hr => wk_view1 hr
/-! ### 19 loop.example/g00896/laws.eqEntry -/
def laws_eqEntry.F (k : Nat) (a0 : Entry) (a1 : Entry) : Option (Bool) := bif (!beqS a0.key a1.key) then (some false) else (bif (a0.kind != a1.kind) then (some false) else ((laws_eqNameS.F k a0.authors a1.authors).bind fun r1 => bif (!r1) then (some false) else ((laws_eqNameS.F k a0.editors a1.editors).bind fun r2 => bif (!r2) then (some false) else (bif (!beqS a0.title a1.title) then (some false) else (bif (!beqS a0.container a1.container) then (some false) else (bif (!beqS a0.publisher a1.publisher) then (some false) else ((laws_eqDate.F a0.date a1.date).bind fun r3 => bif (!r3) then (some false) else (bif (a0.volume != a1.volume) then (some false) else (bif (!beqS a0.pages a1.pages) then (some false) else (bif (!beqS a0.cross a1.cross) then (some false) else (some true)))))))))))
def laws_eqEntry.C (k : Nat) : Cal → Option CArm := fun c => match c with
  | .f 46 => some (.p [(.sl .name), (.sl .name)] _ (fun x => laws_eqNameS.F k x.1 x.2.1) (fun r => (.t .bool r)))
  | .f 47 => some (.p [.date, .date] _ (fun x => laws_eqDate.F x.1 x.2.1) (fun r => (.t .bool r)))
  | _ => none
theorem laws_eqEntry.run (k : Nat) (a0 : Entry) (a1 : Entry) : runF envX (tabC (laws_eqEntry.C k)) (tabL 63 0 (fun _ => none)) Tryz.f19 [.t .entry a0, .t .entry a1] (viewR1 (.t .bool)) = laws_eqEntry.F k a0 a1 := by kernel_rfl
theorem laws_eqEntry.G (hE : EnvOk Tryz.prog envX) (pv : Nat → Value) (k : Nat) : ∀ cal A, laws_eqEntry.C k cal = some A → ArmOk Tryz.prog envX pv cal A := by
  intro cal A h
  unfold laws_eqEntry.C at h
  split at h
  · cases h; exact fun x y hy => laws_eqNameS.good hE pv k x.1 x.2.1 hy
  · cases h; exact fun x y hy => laws_eqDate.good hE pv x.1 x.2.1 hy
  · cases h
theorem laws_eqEntry.good (hE : EnvOk Tryz.prog envX) (pv : Nat → Value) (k : Nat) (a0 : Entry) (a1 : Entry) {y : _} (h : laws_eqEntry.F k a0 a1 = some y) : Meets Tryz.prog envX pv (.f 19) (tvals [.entry, .entry] (a0, a1, ())) (.t .bool y) :=
  fun_plain hE (laws_eqEntry.G hE pv k) (f := 19) (fn := Tryz.f19) (by kernel_rfl) rfl (by kernel_rfl) (by kernel_rfl) ((laws_eqEntry.run k a0 a1).trans h) fun r hr => wk_view1 hr
/-! ### 38 loop.example/g00896/laws.eqEntryS -/
def laws_eqEntryS.l0 : Nat → (List Entry) → (List Entry) → Int → Option (Sum Bool Unit)
  | 0, _, _, _ => none
  | k + 1, x0, x1, x5 => bif (decide (x5 < (x0.length : Int))) then (bif decide (0 ≤ x5) then (bif decide (x5 < (x0.length : Int)) then (bif decide (0 ≤ x5) then (bif decide (x5 < (x1.length : Int)) then ((laws_eqEntry.F k (x0.getD (x5 : Int).toNat (dflt .entry)) (x1.getD (x5 : Int).toNat (dflt .entry))).bind fun r1 => bif (!r1) then (some (.inl false)) else (laws_eqEntryS.l0 k x0 x1 (IntKind.wrap .i64 (x5 + 1)))) else none) else none) else none) else none) else (some (.inr ()))
def laws_eqEntryS.F (k : Nat) (a0 : List Entry) (a1 : List Entry) : Option (Bool) := bif ((a0.length : Int) != (a1.length : Int)) then (some false) else ((laws_eqEntryS.l0 k a0 a1 0).bind fun y2 => match y2 with | .inl z3 => some z3 | .inr z3 => some true)
def laws_eqEntryS.C (k : Nat) : Cal → Option CArm := fun c => match c with
  | .f 19 => some (.p [.entry, .entry] _ (fun x => laws_eqEntry.F k x.1 x.2.1) (fun r => (.t .bool r)))
  | _ => none
def laws_eqEntryS.sp0 : List Sp := [.t 0 (.sl .entry), .t 1 (.sl .entry), .t 5 (.int .i64)]
def laws_eqEntryS.sp0_0 : List Sp := [.t 4 .bool]
def laws_eqEntryS.sp0_1 : List Sp := []
def laws_eqEntryS.A0 : LArm := .two laws_eqEntryS.sp0 laws_eqEntryS.sp0_0 laws_eqEntryS.sp0_1 (Bool) (Unit) (fun k x => laws_eqEntryS.l0 k x.1 x.2.1 x.2.2.1) .ret (.exit 0) (fun y => (y, ())) (fun x => x.1) (fun y => ()) (fun x => ())
def laws_eqEntryS.L : Nat → Option LArm := fun b => match b with
  | 0 => some laws_eqEntryS.A0
  | _ => none
theorem laws_eqEntryS.run (k : Nat) (a0 : List Entry) (a1 : List Entry) : runF envX (tabC (laws_eqEntryS.C k)) (tabL 27 k laws_eqEntryS.L) Tryz.f38 [.t (.sl .entry) a0, .t (.sl .entry) a1] (viewR1 (.t .bool)) = laws_eqEntryS.F k a0 a1 := by kernel_rfl
theorem laws_eqEntryS.step0 (k : Nat) (x0 : List Entry) (x1 : List Entry) (x5 : Int) : runC envX (tabC (laws_eqEntryS.C k)) (tabL 27 k laws_eqEntryS.L) 0 (loopAt Tryz.f38 0) (stOf 27 laws_eqEntryS.sp0 (x0, x1, x5, ())) (laws_eqEntryS.A0.cont 27 k) = laws_eqEntryS.l0 (k + 1) x0 x1 x5 := by kernel_rfl
theorem laws_eqEntryS.G (hE : EnvOk Tryz.prog envX) (pv : Nat → Value) (k : Nat) : ∀ cal A, laws_eqEntryS.C k cal = some A → ArmOk Tryz.prog envX pv cal A := by
  intro cal A h
  unfold laws_eqEntryS.C at h
  split at h
  · cases h; exact fun x y hy => laws_eqEntry.good hE pv k x.1 x.2.1 hy
  · cases h
theorem laws_eqEntryS.good (hE : EnvOk Tryz.prog envX) (pv : Nat → Value) (k : Nat) (a0 : List Entry) (a1 : List Entry) {y : _} (h : laws_eqEntryS.F k a0 a1 = some y) : Meets Tryz.prog envX pv (.f 38) (tvals [(.sl .entry), (.sl .entry)] (a0, a1, ())) (.t .bool y) :=
  fun_loops hE (t := laws_eqEntryS.C) k (fun k _ => laws_eqEntryS.G hE pv k) (f := 38) (fn := Tryz.f38) (by kernel_rfl) rfl (by kernel_rfl) (by kernel_rfl) (lt := laws_eqEntryS.L) (by kernel_rfl) (fun b A h => by
    unfold laws_eqEntryS.L at h; split at h
    · cases h; exact ⟨by kernel_rfl, by kernel_rfl, by kernel_rfl, fun _ => rfl, fun _ => rfl, fun _ => rfl⟩
    · cases h) (fun b A h => by
    unfold laws_eqEntryS.L at h; split at h
    · cases h; exact fun k x => laws_eqEntryS.step0 k x.1 x.2.1 x.2.2.1
    · cases h) ((laws_eqEntryS.run k a0 a1).trans h) fun r hr => wk_view1 hr
/-! ### 13 loop.example/g00896/laws.eqLibrary -/
def laws_eqLibrary.F (k : Nat) (a0 : Library) (a1 : Library) : Option (Bool) := (laws_eqEntryS.F k a0.entries a1.entries).bind fun r1 => bif (!r1) then (some false) else (some true)
def laws_eqLibrary.C (k : Nat) : Cal → Option CArm := fun c => match c with
  | .f 38 => some (.p [(.sl .entry), (.sl .entry)] _ (fun x => laws_eqEntryS.F k x.1 x.2.1) (fun r => (.t .bool r)))
  | _ => none
theorem laws_eqLibrary.run (k : Nat) (a0 : Library) (a1 : Library) : runF envX (tabC (laws_eqLibrary.C k)) (tabL 11 0 (fun _ => none)) Tryz.f13 [.t .lib a0, .t .lib a1] (viewR1 (.t .bool)) = laws_eqLibrary.F k a0 a1 := by kernel_rfl
theorem laws_eqLibrary.G (hE : EnvOk Tryz.prog envX) (pv : Nat → Value) (k : Nat) : ∀ cal A, laws_eqLibrary.C k cal = some A → ArmOk Tryz.prog envX pv cal A := by
  intro cal A h
  unfold laws_eqLibrary.C at h
  split at h
  · cases h; exact fun x y hy => laws_eqEntryS.good hE pv k x.1 x.2.1 hy
  · cases h
theorem laws_eqLibrary.good (hE : EnvOk Tryz.prog envX) (pv : Nat → Value) (k : Nat) (a0 : Library) (a1 : Library) {y : _} (h : laws_eqLibrary.F k a0 a1 = some y) : Meets Tryz.prog envX pv (.f 13) (tvals [.lib, .lib] (a0, a1, ())) (.t .bool y) :=
  fun_plain hE (laws_eqLibrary.G hE pv k) (f := 13) (fn := Tryz.f13) (by kernel_rfl) rfl (by kernel_rfl) (by kernel_rfl) ((laws_eqLibrary.run k a0 a1).trans h) fun r hr => wk_view1 hr
/-! ### 40 loop.example/g00896/laws.markText -/
def laws_markText.l0 : Nat → Int → ByteArray → Option (ByteArray)
  | 0, _, _ => none
  | k + 1, x0, x3 => bif (decide (x0 > 0)) then (bif (10 == 0) then (none) else (bif Nat.ble ((strL ([(IntKind.wrap .u8 (IntKind.wrap .i64 (48 + (Int.tmod x0 10))))] : List Int)).size + x3.size) 9223372036854775807 then (bif (10 == 0) then (none) else (laws_markText.l0 k (IntKind.wrap .i64 (Int.tdiv x0 10)) ((strL ([(IntKind.wrap .u8 (IntKind.wrap .i64 (48 + (Int.tmod x0 10))))] : List Int)) ++ x3))) else none)) else (some x3)
def laws_markText.F (k : Nat) (a0 : Int) : Option (ByteArray) := bif (decide (a0 ≤ 0)) then (some (⟨#[109, 48]⟩ : ByteArray)) else ((laws_markText.l0 k a0 (⟨#[]⟩ : ByteArray)).bind fun y1 => bif Nat.ble ((⟨#[109]⟩ : ByteArray).size + y1.size) 9223372036854775807 then (some ((⟨#[109]⟩ : ByteArray) ++ y1)) else none)
def laws_markText.C (k : Nat) : Cal → Option CArm := fun c => match c with
  | _ => none
def laws_markText.sp0 : List Sp := [.t 0 (.int .i64), .t 3 .str]
def laws_markText.sp0_0 : List Sp := [.t 3 .str]
def laws_markText.A0 : LArm := .one laws_markText.sp0 laws_markText.sp0_0 (ByteArray) (fun k x => laws_markText.l0 k x.1 x.2.1) (.exit 0) (fun y => (y, ())) (fun x => x.1)
def laws_markText.L : Nat → Option LArm := fun b => match b with
  | 0 => some laws_markText.A0
  | _ => none
theorem laws_markText.run (k : Nat) (a0 : Int) : runF envX (tabC (laws_markText.C k)) (tabL 20 k laws_markText.L) Tryz.f40 [.t (.int .i64) a0] (viewR1 (.t .str)) = laws_markText.F k a0 := by kernel_rfl
theorem laws_markText.step0 (k : Nat) (x0 : Int) (x3 : ByteArray) : runC envX (tabC (laws_markText.C k)) (tabL 20 k laws_markText.L) 0 (loopAt Tryz.f40 0) (stOf 20 laws_markText.sp0 (x0, x3, ())) (laws_markText.A0.cont 20 k) = laws_markText.l0 (k + 1) x0 x3 := by kernel_rfl
theorem laws_markText.G (hE : EnvOk Tryz.prog envX) (pv : Nat → Value) (k : Nat) : ∀ cal A, laws_markText.C k cal = some A → ArmOk Tryz.prog envX pv cal A := by
  intro cal A h
  unfold laws_markText.C at h
  cases h
theorem laws_markText.good (hE : EnvOk Tryz.prog envX) (pv : Nat → Value) (k : Nat) (a0 : Int) {y : _} (h : laws_markText.F k a0 = some y) : Meets Tryz.prog envX pv (.f 40) (tvals [(.int .i64)] (a0, ())) (.t .str y) :=
  fun_loops hE (t := laws_markText.C) k (fun k _ => laws_markText.G hE pv k) (f := 40) (fn := Tryz.f40) (by kernel_rfl) rfl (by kernel_rfl) (by kernel_rfl) (lt := laws_markText.L) (by kernel_rfl) (fun b A h => by
    unfold laws_markText.L at h; split at h
    · cases h; exact ⟨by kernel_rfl, by kernel_rfl, fun _ => rfl, fun _ => rfl⟩
    · cases h) (fun b A h => by
    unfold laws_markText.L at h; split at h
    · cases h; exact fun k x => laws_markText.step0 k x.1 x.2.1
    · cases h) ((laws_markText.run k a0).trans h) fun r hr => wk_view1 hr
/-! ### 15 loop.example/g00896/laws.markStringS -/
def laws_markStringS.l0 : Nat → (List ByteArray) → Int → Int → Option ((List ByteArray) × Int)
  | 0, _, _, _ => none
  | k + 1, x0, x1, x5 => bif (decide (x5 < (x0.length : Int))) then ((laws_markText.F k x1).bind fun r1 => bif decide (0 ≤ x5) then (bif decide (x5 < (x0.length : Int)) then (laws_markStringS.l0 k (x0.set ((x5 : Int).toNat) r1) (IntKind.wrap .i64 (x1 + 1)) (IntKind.wrap .i64 (x5 + 1))) else none) else none) else (some (x0, x1))
def laws_markStringS.F (k : Nat) (a0 : List ByteArray) (a1 : Int) : Option ((List ByteArray) × Int) := (laws_markStringS.l0 k a0 a1 0).bind fun y2 => bif Nat.beq (y2.1).length a0.length then (some (y2.1, y2.2)) else none
def laws_markStringS.C (k : Nat) : Cal → Option CArm := fun c => match c with
  | .f 40 => some (.p [(.int .i64)] _ (fun x => laws_markText.F k x.1) (fun r => (.t .str r)))
  | _ => none
def laws_markStringS.sp0 : List Sp := [.own 0 1099511627776 9 .str false true, .t 1 (.int .i64), .t 5 (.int .i64)]
def laws_markStringS.sp0_0 : List Sp := [.own 0 1099511627776 9 .str false true, .t 1 (.int .i64)]
def laws_markStringS.A0 : LArm := .one laws_markStringS.sp0 laws_markStringS.sp0_0 ((List ByteArray) × Int) (fun k x => laws_markStringS.l0 k x.1 x.2.1 x.2.2.1) (.exit 0) (fun y => (y.1, y.2, ())) (fun x => (x.1, x.2.1))
def laws_markStringS.L : Nat → Option LArm := fun b => match b with
  | 0 => some laws_markStringS.A0
  | _ => none
theorem laws_markStringS.run (k : Nat) (a0 : List ByteArray) (a1 : Int) : runM envX (tabC (laws_markStringS.C k)) (tabL 20 k laws_markStringS.L) Tryz.f15 mbase (.fr 9 .str a0) [.t (.int .i64) a1] (viewK (.fr 9 .str) (viewR1 (.t (.int .i64)))) = laws_markStringS.F k a0 a1 := by kernel_rfl
theorem laws_markStringS.step0 (k : Nat) (x0 : List ByteArray) (x1 : Int) (x5 : Int) : runC envX (tabC (laws_markStringS.C k)) (tabL 20 k laws_markStringS.L) 0 (loopAt Tryz.f15 0) (stOf 20 laws_markStringS.sp0 (x0, x1, x5, ())) (laws_markStringS.A0.cont 20 k) = laws_markStringS.l0 (k + 1) x0 x1 x5 := by kernel_rfl
theorem laws_markStringS.G (hE : EnvOk Tryz.prog envX) (pv : Nat → Value) (k : Nat) : ∀ cal A, laws_markStringS.C k cal = some A → ArmOk Tryz.prog envX pv cal A := by
  intro cal A h
  unfold laws_markStringS.C at h
  split at h
  · cases h; exact fun x y hy => laws_markText.good hE pv k x.1 hy
  · cases h
theorem laws_markStringS.good (hE : EnvOk Tryz.prog envX) (pv : Nat → Value) (k : Nat) (a0 : List ByteArray) (a1 : Int) {y : _} (h : laws_markStringS.F k a0 a1 = some y) : MeetsM Tryz.prog envX pv 15 (.fr 9 .str a0) (tvals [(.int .i64)] (a1, ())) (.kep (.fr 9 .str y.1) (.t (.int .i64) y.2)) :=
  funM_loops hE (t := laws_markStringS.C) k (fun k _ => laws_markStringS.G hE pv k) (f := 15) (fn := Tryz.f15) (by kernel_rfl) rfl (by kernel_rfl) (.inl rfl) (by kernel_rfl) (lt := laws_markStringS.L) (by kernel_rfl) (fun b A h => by
    unfold laws_markStringS.L at h; split at h
    · cases h; exact ⟨by kernel_rfl, by kernel_rfl, fun _ => rfl, fun _ => rfl⟩
    · cases h) (fun b A h => by
    unfold laws_markStringS.L at h; split at h
    · cases h; exact fun k x => laws_markStringS.step0 k x.1 x.2.1 x.2.2.1
    · cases h) ((laws_markStringS.run k a0 a1).trans h) fun r hr => wk_viewK (fun r y h => wk_view1 h) hr
-- NO 48 loop.example/g00896/laws.markNameS: handed over: t for ('fr', 9, ('str',))
-- NO 39 loop.example/g00896/laws.markEntryS: a call of loop.example/g00896/laws.markNameS
-- NO 14 loop.example/g00896/laws.markLibrary: a call of loop.example/g00896/laws.markEntryS
/-! ### 16 loop.example/g00896/laws.heldStringS -/
def laws_heldStringS.l0 : Nat → (List ByteArray) → Int → Int → Option (Sum Int Int)
  | 0, _, _, _ => none
  | k + 1, x0, x1, x5 => bif (decide (x5 < (x0.length : Int))) then (bif decide (0 ≤ x5) then (bif decide (x5 < (x0.length : Int)) then ((laws_markText.F k x1).bind fun r1 => bif (!beqS (x0.getD (x5 : Int).toNat (⟨#[]⟩ : ByteArray)) r1) then (some (.inl (-1))) else (laws_heldStringS.l0 k x0 (IntKind.wrap .i64 (x1 + 1)) (IntKind.wrap .i64 (x5 + 1)))) else none) else none) else (some (.inr x1))
def laws_heldStringS.F (k : Nat) (a0 : List ByteArray) (a1 : Int) : Option (Int) := (laws_heldStringS.l0 k a0 a1 0).bind fun y2 => match y2 with | .inl z3 => some z3 | .inr z3 => some z3
def laws_heldStringS.C (k : Nat) : Cal → Option CArm := fun c => match c with
  | .f 40 => some (.p [(.int .i64)] _ (fun x => laws_markText.F k x.1) (fun r => (.t .str r)))
  | _ => none
def laws_heldStringS.sp0 : List Sp := [.t 0 (.sl .str), .t 1 (.int .i64), .t 5 (.int .i64)]
def laws_heldStringS.sp0_0 : List Sp := [.t 4 (.int .i64)]
def laws_heldStringS.sp0_1 : List Sp := [.t 1 (.int .i64)]
def laws_heldStringS.A0 : LArm := .two laws_heldStringS.sp0 laws_heldStringS.sp0_0 laws_heldStringS.sp0_1 (Int) (Int) (fun k x => laws_heldStringS.l0 k x.1 x.2.1 x.2.2.1) .ret (.exit 0) (fun y => (y, ())) (fun x => x.1) (fun y => (y, ())) (fun x => x.1)
def laws_heldStringS.L : Nat → Option LArm := fun b => match b with
  | 0 => some laws_heldStringS.A0
  | _ => none
theorem laws_heldStringS.run (k : Nat) (a0 : List ByteArray) (a1 : Int) : runF envX (tabC (laws_heldStringS.C k)) (tabL 22 k laws_heldStringS.L) Tryz.f16 [.t (.sl .str) a0, .t (.int .i64) a1] (viewR1 (.t (.int .i64))) = laws_heldStringS.F k a0 a1 := by kernel_rfl
theorem laws_heldStringS.step0 (k : Nat) (x0 : List ByteArray) (x1 : Int) (x5 : Int) : runC envX (tabC (laws_heldStringS.C k)) (tabL 22 k laws_heldStringS.L) 0 (loopAt Tryz.f16 0) (stOf 22 laws_heldStringS.sp0 (x0, x1, x5, ())) (laws_heldStringS.A0.cont 22 k) = laws_heldStringS.l0 (k + 1) x0 x1 x5 := by kernel_rfl
theorem laws_heldStringS.G (hE : EnvOk Tryz.prog envX) (pv : Nat → Value) (k : Nat) : ∀ cal A, laws_heldStringS.C k cal = some A → ArmOk Tryz.prog envX pv cal A := by
  intro cal A h
  unfold laws_heldStringS.C at h
  split at h
  · cases h; exact fun x y hy => laws_markText.good hE pv k x.1 hy
  · cases h
theorem laws_heldStringS.good (hE : EnvOk Tryz.prog envX) (pv : Nat → Value) (k : Nat) (a0 : List ByteArray) (a1 : Int) {y : _} (h : laws_heldStringS.F k a0 a1 = some y) : Meets Tryz.prog envX pv (.f 16) (tvals [(.sl .str), (.int .i64)] (a0, a1, ())) (.t (.int .i64) y) :=
  fun_loops hE (t := laws_heldStringS.C) k (fun k _ => laws_heldStringS.G hE pv k) (f := 16) (fn := Tryz.f16) (by kernel_rfl) rfl (by kernel_rfl) (by kernel_rfl) (lt := laws_heldStringS.L) (by kernel_rfl) (fun b A h => by
    unfold laws_heldStringS.L at h; split at h
    · cases h; exact ⟨by kernel_rfl, by kernel_rfl, by kernel_rfl, fun _ => rfl, fun _ => rfl, fun _ => rfl⟩
    · cases h) (fun b A h => by
    unfold laws_heldStringS.L at h; split at h
    · cases h; exact fun k x => laws_heldStringS.step0 k x.1 x.2.1 x.2.2.1
    · cases h) ((laws_heldStringS.run k a0 a1).trans h) fun r hr => wk_view1 hr
/-! ### 35 loop.example/g00896/laws.toEntryS, with a mark -/
def laws_toEntryS_p.l0 : Nat → (List Entry) → (List Entry) → Int → Option ((List Entry))
  | 0, _, _, _ => none
  | k + 1, x0, x3, x4 => bif (decide (x4 < (x0.length : Int))) then (bif decide (0 ≤ x4) then (bif decide (x4 < (x0.length : Int)) then ((laws_toEntry_p.F k (x0.getD (x4 : Int).toNat (dflt .entry))).bind fun r1 => bif decide (0 ≤ x4) then (bif decide (x4 < (x3.length : Int)) then (laws_toEntryS_p.l0 k x0 (x3.set ((x4 : Int).toNat) r1) (IntKind.wrap .i64 (x4 + 1))) else none) else none) else none) else none) else (some x3)
def laws_toEntryS_p.F (k : Nat) (a0 : List Entry) : Option (List Entry) := bif ((a0.length : Int) == (a0.length : Int)) then (bif decide (0 ≤ (a0.length : Int)) then (bif Nat.ble (((a0.length : Int) : Int).toNat * nb .entry) 140737488355328 then ((laws_toEntryS_p.l0 k a0 (List.replicate ((a0.length : Int) : Int).toNat (dflt .entry)) 0).bind fun y2 => some y2) else none) else none) else none
def laws_toEntryS_p.C (k : Nat) : Cal → Option CArm := fun c => match c with
  | .f 67 => some (.p [.entry] _ (fun x => laws_toEntry_p.F k x.1) (fun r => (.pc true .entry r)))
  | _ => none
def laws_toEntryS_p.sp0 : List Sp := [.t 0 (.sl .entry), .own 3 1032 42 .entry false true, .t 4 (.int .i64)]
def laws_toEntryS_p.sp0_0 : List Sp := [.own 3 1032 42 .entry false true]
def laws_toEntryS_p.A0 : LArm := .one laws_toEntryS_p.sp0 laws_toEntryS_p.sp0_0 ((List Entry)) (fun k x => laws_toEntryS_p.l0 k x.1 x.2.1 x.2.2.1) (.exit 0) (fun y => (y, ())) (fun x => x.1)
def laws_toEntryS_p.L : Nat → Option LArm := fun b => match b with
  | 0 => some laws_toEntryS_p.A0
  | _ => none
theorem laws_toEntryS_p.run (k : Nat) (a0 : List Entry) : runF envP (tabC (laws_toEntryS_p.C k)) (tabL 23 k laws_toEntryS_p.L) Tryz.f35 [.t (.sl .entry) a0] (viewR1 (.fr 42 .entry)) = laws_toEntryS_p.F k a0 := by kernel_rfl
theorem laws_toEntryS_p.step0 (k : Nat) (x0 : List Entry) (x3 : List Entry) (x4 : Int) : runC envP (tabC (laws_toEntryS_p.C k)) (tabL 23 k laws_toEntryS_p.L) 0 (loopAt Tryz.f35 0) (stOf 23 laws_toEntryS_p.sp0 (x0, x3, x4, ())) (laws_toEntryS_p.A0.cont 23 k) = laws_toEntryS_p.l0 (k + 1) x0 x3 x4 := by kernel_rfl
theorem laws_toEntryS_p.G (hE : EnvOk Tryz.prog envP) (pv : Nat → Value) (n : Nat) (k : Nat) : ∀ cal A, laws_toEntryS_p.C k cal = some A → ArmOk Tryz.prog envP (mpv pv n) cal A := by
  intro cal A h
  unfold laws_toEntryS_p.C at h
  split at h
  · cases h; exact fun x y hy => laws_toEntry_p.good hE pv n k x.1 hy
  · cases h
theorem laws_toEntryS_p.good (hE : EnvOk Tryz.prog envP) (pv : Nat → Value) (n : Nat) (k : Nat) (a0 : List Entry) {y : _} (h : laws_toEntryS_p.F k a0 = some y) : Meets Tryz.prog envP (mpv pv n) (.f 35) (tvals [(.sl .entry)] (a0, ())) (.fr 42 .entry y) :=
  fun_loops hE (t := laws_toEntryS_p.C) k (fun k _ => laws_toEntryS_p.G hE pv n k) (f := 35) (fn := Tryz.f35) (by kernel_rfl) rfl (by kernel_rfl) (by kernel_rfl) (lt := laws_toEntryS_p.L) (by kernel_rfl) (fun b A h => by
    unfold laws_toEntryS_p.L at h; split at h
    · cases h; exact ⟨by kernel_rfl, by kernel_rfl, fun _ => rfl, fun _ => rfl⟩
    · cases h) (fun b A h => by
    unfold laws_toEntryS_p.L at h; split at h
    · cases h; exact fun k x => laws_toEntryS_p.step0 k x.1 x.2.1 x.2.2.1
    · cases h) ((laws_toEntryS_p.run k a0).trans h) fun r hr => wk_view1 hr
/-! ### 10 loop.example/g00896/laws.toLibrary, with a mark -/
def laws_toLibrary_p.F (k : Nat) (a0 : Library) : Option (Library) := (laws_toEntryS_p.F k a0.entries).bind fun r1 => some (⟨r1⟩ : Library)
def laws_toLibrary_p.C (k : Nat) : Cal → Option CArm := fun c => match c with
  | .f 35 => some (.p [(.sl .entry)] _ (fun x => laws_toEntryS_p.F k x.1) (fun r => (.fr 42 .entry r)))
  | _ => none
theorem laws_toLibrary_p.run (k : Nat) (a0 : Library) : runPc envP (tabC (laws_toLibrary_p.C k)) (tabL 9 0 (fun _ => none)) Tryz.f10 [.t .lib a0] (viewR1 (.pc .lib)) = laws_toLibrary_p.F k a0 := by kernel_rfl
theorem laws_toLibrary_p.G (hE : EnvOk Tryz.prog envP) (pv : Nat → Value) (n : Nat) (k : Nat) : ∀ cal A, laws_toLibrary_p.C k cal = some A → ArmOk Tryz.prog envP (mpv pv n) cal A := by
  intro cal A h
  unfold laws_toLibrary_p.C at h
  split at h
  · cases h; exact fun x y hy => laws_toEntryS_p.good hE pv n k x.1 hy
  · cases h
theorem laws_toLibrary_p.good (hE : EnvOk Tryz.prog envP) (pv : Nat → Value) (n : Nat) (k : Nat) (a0 : Library) {y : _} (h : laws_toLibrary_p.F k a0 = some y) : Meets Tryz.prog envP (mpv pv n) (.f 10) (tvals [.lib] (a0, ())) (.pc true .lib y) :=
  funPc_plain hE (mpv_O pv n) (mpv_Q pv n) (laws_toLibrary_p.G hE pv n k) (f := 10) (fn := Tryz.f10) (by kernel_rfl) rfl (by kernel_rfl) (by kernel_rfl) ((laws_toLibrary_p.run k a0).trans h) fun r hr => wk_view1 hr
/-! ### 15 loop.example/g00896/laws.markStringS, marking deep down -/
def laws_markStringS_d.l0 : Nat → (List ByteArray) → Int → Int → Option ((List ByteArray) × Int)
  | 0, _, _, _ => none
  | k + 1, x0, x1, x5 => bif (decide (x5 < (x0.length : Int))) then ((laws_markText.F k x1).bind fun r1 => bif decide (0 ≤ x5) then (bif decide (x5 < (x0.length : Int)) then (laws_markStringS_d.l0 k x0 (IntKind.wrap .i64 (x1 + 1)) (IntKind.wrap .i64 (x5 + 1))) else none) else none) else (some (x0, x1))
def laws_markStringS_d.F (k : Nat) (a0 : List ByteArray) (a1 : Int) : Option (Int) := (laws_markStringS_d.l0 k a0 a1 0).bind fun y2 => some y2.2
def laws_markStringS_d.C (k : Nat) : Cal → Option CArm := fun c => match c with
  | .f 40 => some (.p [(.int .i64)] _ (fun x => laws_markText.F k x.1) (fun r => (.t .str r)))
  | _ => none
def laws_markStringS_d.sp0 : List Sp := [.ds 0 1099511627776 (.sl .str) (.sl .str), .t 1 (.int .i64), .t 5 (.int .i64)]
def laws_markStringS_d.sp0_0 : List Sp := [.ds 0 1099511627776 (.sl .str) (.sl .str), .t 1 (.int .i64)]
def laws_markStringS_d.A0 : LArm := .one laws_markStringS_d.sp0 laws_markStringS_d.sp0_0 ((List ByteArray) × Int) (fun k x => laws_markStringS_d.l0 k x.1 x.2.1 x.2.2.1) (.exit 0) (fun y => (y.1, y.2, ())) (fun x => (x.1, x.2.1))
def laws_markStringS_d.L : Nat → Option LArm := fun b => match b with
  | 0 => some laws_markStringS_d.A0
  | _ => none
theorem laws_markStringS_d.run (k : Nat) (a0 : List ByteArray) (a1 : Int) : runD envX (tabC (laws_markStringS_d.C k)) (tabL 20 k laws_markStringS_d.L) Tryz.f15 (.sl .str) a0 a1 (viewR1 (.t (.int .i64))) = laws_markStringS_d.F k a0 a1 := by kernel_rfl
theorem laws_markStringS_d.step0 (k : Nat) (x0 : List ByteArray) (x1 : Int) (x5 : Int) : runC envX (tabC (laws_markStringS_d.C k)) (tabL 20 k laws_markStringS_d.L) 0 (loopAt Tryz.f15 0) (stOf 20 laws_markStringS_d.sp0 (x0, x1, x5, ())) (laws_markStringS_d.A0.cont 20 k) = laws_markStringS_d.l0 (k + 1) x0 x1 x5 := by kernel_rfl
theorem laws_markStringS_d.G (hE : EnvOk Tryz.prog envX) (pv : Nat → Value) (k : Nat) : ∀ cal A, laws_markStringS_d.C k cal = some A → ArmOk Tryz.prog envX pv cal A := by
  intro cal A h
  unfold laws_markStringS_d.C at h
  split at h
  · cases h; exact fun x y hy => laws_markText.good hE pv k x.1 hy
  · cases h
theorem laws_markStringS_d.good (hE : EnvOk Tryz.prog envX) (pv : Nat → Value) (k : Nat) (a0 : List ByteArray) (a1 : Int) {y : _} (h : laws_markStringS_d.F k a0 a1 = some y) : MeetsD Tryz.prog envX pv 15 (.sl .str) a0 a1 y :=
  funD_loops hE (t := laws_markStringS_d.C) k (fun k _ => laws_markStringS_d.G hE pv k) (f := 15) (fn := Tryz.f15) (by kernel_rfl) rfl (by kernel_rfl) (by kernel_rfl) (lt := laws_markStringS_d.L) (by kernel_rfl) (fun b A h => by
    unfold laws_markStringS_d.L at h; split at h
    · cases h; exact ⟨by kernel_rfl, by kernel_rfl, fun _ => rfl, fun _ => rfl⟩
    · cases h) (fun b A h => by
    unfold laws_markStringS_d.L at h; split at h
    · cases h; exact fun k x => laws_markStringS_d.step0 k x.1 x.2.1 x.2.2.1
    · cases h) rfl ((laws_markStringS_d.run k a0 a1).trans h) fun r hr => view_int hr
/-! ### 48 loop.example/g00896/laws.markNameS, marking deep down -/
def laws_markNameS_d.l0 : Nat → (List Name) → Int → Int → Option ((List Name) × Int)
  | 0, _, _, _ => none
  | k + 1, x0, x1, x5 => bif (decide (x5 < (x0.length : Int))) then (bif decide (0 ≤ x5) then (bif decide (x5 < (x0.length : Int)) then ((laws_markStringS_d.F k ((x0.getD (x5 : Int).toNat (dflt .name)).given) x1).bind fun r1 => (laws_markText.F k r1).bind fun r2 => bif decide (0 ≤ x5) then (bif decide (x5 < (x0.length : Int)) then ((laws_markText.F k (IntKind.wrap .i64 (r1 + 1))).bind fun r3 => bif decide (0 ≤ x5) then (bif decide (x5 < (x0.length : Int)) then ((laws_markText.F k (IntKind.wrap .i64 ((IntKind.wrap .i64 (r1 + 1)) + 1))).bind fun r4 => bif decide (0 ≤ x5) then (bif decide (x5 < (x0.length : Int)) then (laws_markNameS_d.l0 k x0 (IntKind.wrap .i64 ((IntKind.wrap .i64 ((IntKind.wrap .i64 (r1 + 1)) + 1)) + 1)) (IntKind.wrap .i64 (x5 + 1))) else none) else none) else none) else none) else none) else none) else none) else none) else (some (x0, x1))
def laws_markNameS_d.F (k : Nat) (a0 : List Name) (a1 : Int) : Option (Int) := (laws_markNameS_d.l0 k a0 a1 0).bind fun y5 => some y5.2
def laws_markNameS_d.C (k : Nat) : Cal → Option CArm := fun c => match c with
  | .f 15 => some (.d (.sl .str) (fun x q => laws_markStringS_d.F k x q))
  | .f 40 => some (.p [(.int .i64)] _ (fun x => laws_markText.F k x.1) (fun r => (.t .str r)))
  | _ => none
def laws_markNameS_d.sp0 : List Sp := [.ds 0 1099511627776 (.sl .name) (.sl .name), .t 1 (.int .i64), .t 5 (.int .i64)]
def laws_markNameS_d.sp0_0 : List Sp := [.ds 0 1099511627776 (.sl .name) (.sl .name), .t 1 (.int .i64)]
def laws_markNameS_d.A0 : LArm := .one laws_markNameS_d.sp0 laws_markNameS_d.sp0_0 ((List Name) × Int) (fun k x => laws_markNameS_d.l0 k x.1 x.2.1 x.2.2.1) (.exit 0) (fun y => (y.1, y.2, ())) (fun x => (x.1, x.2.1))
def laws_markNameS_d.L : Nat → Option LArm := fun b => match b with
  | 0 => some laws_markNameS_d.A0
  | _ => none
theorem laws_markNameS_d.run (k : Nat) (a0 : List Name) (a1 : Int) : runD envX (tabC (laws_markNameS_d.C k)) (tabL 44 k laws_markNameS_d.L) Tryz.f48 (.sl .name) a0 a1 (viewR1 (.t (.int .i64))) = laws_markNameS_d.F k a0 a1 := by kernel_rfl
theorem laws_markNameS_d.step0 (k : Nat) (x0 : List Name) (x1 : Int) (x5 : Int) : runC envX (tabC (laws_markNameS_d.C k)) (tabL 44 k laws_markNameS_d.L) 0 (loopAt Tryz.f48 0) (stOf 44 laws_markNameS_d.sp0 (x0, x1, x5, ())) (laws_markNameS_d.A0.cont 44 k) = laws_markNameS_d.l0 (k + 1) x0 x1 x5 := by kernel_rfl
theorem laws_markNameS_d.G (hE : EnvOk Tryz.prog envX) (pv : Nat → Value) (k : Nat) : ∀ cal A, laws_markNameS_d.C k cal = some A → ArmOk Tryz.prog envX pv cal A := by
  intro cal A h
  unfold laws_markNameS_d.C at h
  split at h
  · cases h; exact ⟨_, rfl, fun x q y hy => laws_markStringS_d.good hE pv k x q hy⟩
  · cases h; exact fun x y hy => laws_markText.good hE pv k x.1 hy
  · cases h
theorem laws_markNameS_d.good (hE : EnvOk Tryz.prog envX) (pv : Nat → Value) (k : Nat) (a0 : List Name) (a1 : Int) {y : _} (h : laws_markNameS_d.F k a0 a1 = some y) : MeetsD Tryz.prog envX pv 48 (.sl .name) a0 a1 y :=
  funD_loops hE (t := laws_markNameS_d.C) k (fun k _ => laws_markNameS_d.G hE pv k) (f := 48) (fn := Tryz.f48) (by kernel_rfl) rfl (by kernel_rfl) (by kernel_rfl) (lt := laws_markNameS_d.L) (by kernel_rfl) (fun b A h => by
    unfold laws_markNameS_d.L at h; split at h
    · cases h; exact ⟨by kernel_rfl, by kernel_rfl, fun _ => rfl, fun _ => rfl⟩
    · cases h) (fun b A h => by
    unfold laws_markNameS_d.L at h; split at h
    · cases h; exact fun k x => laws_markNameS_d.step0 k x.1 x.2.1 x.2.2.1
    · cases h) rfl ((laws_markNameS_d.run k a0 a1).trans h) fun r hr => view_int hr
/-! ### 39 loop.example/g00896/laws.markEntryS, marking deep down -/
def laws_markEntryS_d.l0 : Nat → (List Entry) → Int → Int → Option ((List Entry) × Int)
  | 0, _, _, _ => none
  | k + 1, x0, x1, x5 => bif (decide (x5 < (x0.length : Int))) then ((laws_markText.F k x1).bind fun r1 => bif decide (0 ≤ x5) then (bif decide (x5 < (x0.length : Int)) then (bif decide (0 ≤ x5) then (bif decide (x5 < (x0.length : Int)) then (bif decide (0 ≤ x5) then (bif decide (x5 < (x0.length : Int)) then ((laws_markNameS_d.F k ((x0.getD (x5 : Int).toNat (dflt .entry)).authors) (IntKind.wrap .i64 ((IntKind.wrap .i64 (x1 + 1)) + 1))).bind fun r2 => bif decide (0 ≤ x5) then (bif decide (x5 < (x0.length : Int)) then ((laws_markNameS_d.F k ((x0.getD (x5 : Int).toNat (dflt .entry)).editors) r2).bind fun r3 => (laws_markText.F k r3).bind fun r4 => bif decide (0 ≤ x5) then (bif decide (x5 < (x0.length : Int)) then ((laws_markText.F k (IntKind.wrap .i64 (r3 + 1))).bind fun r5 => bif decide (0 ≤ x5) then (bif decide (x5 < (x0.length : Int)) then ((laws_markText.F k (IntKind.wrap .i64 ((IntKind.wrap .i64 (r3 + 1)) + 1))).bind fun r6 => bif decide (0 ≤ x5) then (bif decide (x5 < (x0.length : Int)) then (bif decide (0 ≤ x5) then (bif decide (x5 < (x0.length : Int)) then (bif decide (0 ≤ x5) then (bif decide (x5 < (x0.length : Int)) then (bif decide (0 ≤ x5) then (bif decide (x5 < (x0.length : Int)) then (bif (3 == 0) then (none) else (bif decide (0 ≤ x5) then (bif decide (x5 < (x0.length : Int)) then (bif decide (0 ≤ x5) then (bif decide (x5 < (x0.length : Int)) then ((laws_markText.F k (IntKind.wrap .i64 ((IntKind.wrap .i64 ((IntKind.wrap .i64 ((IntKind.wrap .i64 ((IntKind.wrap .i64 ((IntKind.wrap .i64 ((IntKind.wrap .i64 ((IntKind.wrap .i64 (r3 + 1)) + 1)) + 1)) + 1)) + 1)) + 1)) + 1)) + 1))).bind fun r7 => bif decide (0 ≤ x5) then (bif decide (x5 < (x0.length : Int)) then ((laws_markText.F k (IntKind.wrap .i64 ((IntKind.wrap .i64 ((IntKind.wrap .i64 ((IntKind.wrap .i64 ((IntKind.wrap .i64 ((IntKind.wrap .i64 ((IntKind.wrap .i64 ((IntKind.wrap .i64 ((IntKind.wrap .i64 (r3 + 1)) + 1)) + 1)) + 1)) + 1)) + 1)) + 1)) + 1)) + 1))).bind fun r8 => bif decide (0 ≤ x5) then (bif decide (x5 < (x0.length : Int)) then (laws_markEntryS_d.l0 k x0 (IntKind.wrap .i64 ((IntKind.wrap .i64 ((IntKind.wrap .i64 ((IntKind.wrap .i64 ((IntKind.wrap .i64 ((IntKind.wrap .i64 ((IntKind.wrap .i64 ((IntKind.wrap .i64 ((IntKind.wrap .i64 ((IntKind.wrap .i64 (r3 + 1)) + 1)) + 1)) + 1)) + 1)) + 1)) + 1)) + 1)) + 1)) + 1)) (IntKind.wrap .i64 (x5 + 1))) else none) else none) else none) else none) else none) else none) else none) else none)) else none) else none) else none) else none) else none) else none) else none) else none) else none) else none) else none) else none) else none) else none) else none) else none) else none) else none) else none) else none) else (some (x0, x1))
def laws_markEntryS_d.F (k : Nat) (a0 : List Entry) (a1 : Int) : Option (Int) := (laws_markEntryS_d.l0 k a0 a1 0).bind fun y9 => some y9.2
def laws_markEntryS_d.C (k : Nat) : Cal → Option CArm := fun c => match c with
  | .f 40 => some (.p [(.int .i64)] _ (fun x => laws_markText.F k x.1) (fun r => (.t .str r)))
  | .f 48 => some (.d (.sl .name) (fun x q => laws_markNameS_d.F k x q))
  | _ => none
def laws_markEntryS_d.sp0 : List Sp := [.ds 0 1099511627776 (.sl .entry) (.sl .entry), .t 1 (.int .i64), .t 5 (.int .i64)]
def laws_markEntryS_d.sp0_0 : List Sp := [.ds 0 1099511627776 (.sl .entry) (.sl .entry), .t 1 (.int .i64)]
def laws_markEntryS_d.A0 : LArm := .one laws_markEntryS_d.sp0 laws_markEntryS_d.sp0_0 ((List Entry) × Int) (fun k x => laws_markEntryS_d.l0 k x.1 x.2.1 x.2.2.1) (.exit 0) (fun y => (y.1, y.2, ())) (fun x => (x.1, x.2.1))
def laws_markEntryS_d.L : Nat → Option LArm := fun b => match b with
  | 0 => some laws_markEntryS_d.A0
  | _ => none
theorem laws_markEntryS_d.run (k : Nat) (a0 : List Entry) (a1 : Int) : runD envX (tabC (laws_markEntryS_d.C k)) (tabL 123 k laws_markEntryS_d.L) Tryz.f39 (.sl .entry) a0 a1 (viewR1 (.t (.int .i64))) = laws_markEntryS_d.F k a0 a1 := by kernel_rfl
theorem laws_markEntryS_d.step0 (k : Nat) (x0 : List Entry) (x1 : Int) (x5 : Int) : runC envX (tabC (laws_markEntryS_d.C k)) (tabL 123 k laws_markEntryS_d.L) 0 (loopAt Tryz.f39 0) (stOf 123 laws_markEntryS_d.sp0 (x0, x1, x5, ())) (laws_markEntryS_d.A0.cont 123 k) = laws_markEntryS_d.l0 (k + 1) x0 x1 x5 := by kernel_rfl
theorem laws_markEntryS_d.G (hE : EnvOk Tryz.prog envX) (pv : Nat → Value) (k : Nat) : ∀ cal A, laws_markEntryS_d.C k cal = some A → ArmOk Tryz.prog envX pv cal A := by
  intro cal A h
  unfold laws_markEntryS_d.C at h
  split at h
  · cases h; exact fun x y hy => laws_markText.good hE pv k x.1 hy
  · cases h; exact ⟨_, rfl, fun x q y hy => laws_markNameS_d.good hE pv k x q hy⟩
  · cases h
theorem laws_markEntryS_d.good (hE : EnvOk Tryz.prog envX) (pv : Nat → Value) (k : Nat) (a0 : List Entry) (a1 : Int) {y : _} (h : laws_markEntryS_d.F k a0 a1 = some y) : MeetsD Tryz.prog envX pv 39 (.sl .entry) a0 a1 y :=
  funD_loops hE (t := laws_markEntryS_d.C) k (fun k _ => laws_markEntryS_d.G hE pv k) (f := 39) (fn := Tryz.f39) (by kernel_rfl) rfl (by kernel_rfl) (by kernel_rfl) (lt := laws_markEntryS_d.L) (by kernel_rfl) (fun b A h => by
    unfold laws_markEntryS_d.L at h; split at h
    · cases h; exact ⟨by kernel_rfl, by kernel_rfl, fun _ => rfl, fun _ => rfl⟩
    · cases h) (fun b A h => by
    unfold laws_markEntryS_d.L at h; split at h
    · cases h; exact fun k x => laws_markEntryS_d.step0 k x.1 x.2.1 x.2.2.1
    · cases h) rfl ((laws_markEntryS_d.run k a0 a1).trans h) fun r hr => view_int hr
/-! ### 14 loop.example/g00896/laws.markLibrary, marking deep down -/
def laws_markLibrary_d.F (k : Nat) (a0 : Library) (a1 : Int) : Option (Int) := (laws_markEntryS_d.F k a0.entries a1).bind fun r1 => some r1
def laws_markLibrary_d.C (k : Nat) : Cal → Option CArm := fun c => match c with
  | .f 39 => some (.d (.sl .entry) (fun x q => laws_markEntryS_d.F k x q))
  | _ => none
theorem laws_markLibrary_d.run (k : Nat) (a0 : Library) (a1 : Int) : runD envX (tabC (laws_markLibrary_d.C k)) (tabL 10 0 (fun _ => none)) Tryz.f14 .lib a0 a1 (viewR1 (.t (.int .i64))) = laws_markLibrary_d.F k a0 a1 := by kernel_rfl
theorem laws_markLibrary_d.G (hE : EnvOk Tryz.prog envX) (pv : Nat → Value) (k : Nat) : ∀ cal A, laws_markLibrary_d.C k cal = some A → ArmOk Tryz.prog envX pv cal A := by
  intro cal A h
  unfold laws_markLibrary_d.C at h
  split at h
  · cases h; exact ⟨_, rfl, fun x q y hy => laws_markEntryS_d.good hE pv k x q hy⟩
  · cases h
theorem laws_markLibrary_d.good (hE : EnvOk Tryz.prog envX) (pv : Nat → Value) (k : Nat) (a0 : Library) (a1 : Int) {y : _} (h : laws_markLibrary_d.F k a0 a1 = some y) : MeetsD Tryz.prog envX pv 14 .lib a0 a1 y :=
  funD_plain hE (laws_markLibrary_d.G hE pv k) (f := 14) (fn := Tryz.f14) (by kernel_rfl) rfl (by kernel_rfl) (by kernel_rfl) rfl ((laws_markLibrary_d.run k a0 a1).trans h) fun r hr => view_int hr
/-! ### 3 loop.example/g00896/laws.FnExactInheritedFields -/
def laws_FnExactInheritedFields.F (k : Nat) (a0 : Library) (a1 : ByteArray) : Option (Bool) := bif (decide ((a1.size : Int) > 1048576)) then (some true) else ((laws_szLibrary.F k a0 1048576).bind fun r1 => bif (decide (r1 < 0)) then (some true) else ((laws_toLibrary_p.F k a0).bind fun r2 => (spec_InheritedFields.F k r2 a1).bind fun r3 => (laws_toLibrary_p.F k a0).bind fun r4 => (impl_InheritedFields.F k r4 a1).bind fun r5 => (laws_eqStringS.F k r5.1 r3.1).bind fun r6 => bif (!r6) then (some false) else (bif (!(r5.2 == r3.2)) then (some false) else ((laws_toLibrary_p.F k a0).bind fun r7 => (laws_eqLibrary.F k r4 r7).bind fun r8 => bif (!r8) then (some false) else ((laws_markLibrary_d.F k r4 1).bind fun r9 => bif (decide (r9 < 0)) then (some false) else ((laws_eqStringS.F k r5.1 r3.1).bind fun r10 => bif (!r10) then (some false) else (bif (!(r5.2 == r3.2)) then (some false) else ((laws_markStringS.F k r5.1 1).bind fun r11 => (laws_heldStringS.F k r11.1 1).bind fun r12 => bif (decide (r12 < 0)) then (some false) else (bif (r12 != r11.2) then (some false) else ((laws_toLibrary_p.F k a0).bind fun r13 => (impl_InheritedFields.F k r13 a1).bind fun r14 => (laws_eqStringS.F k r14.1 r3.1).bind fun r15 => bif (!r15) then (some false) else (bif (!(r14.2 == r3.2)) then (some false) else ((laws_heldStringS.F k r11.1 1).bind fun r16 => bif (decide (r16 < 0)) then (some false) else (bif (r16 != r11.2) then (some false) else (some true))))))))))))))
def laws_FnExactInheritedFields.C (k : Nat) : Cal → Option CArm := fun c => match c with
  | .f 8 => some (.p [.lib, (.int .i64)] _ (fun x => laws_szLibrary.F k x.1 x.2.1) (fun r => (.t (.int .i64) r)))
  | .f 10 => some (.pp [.lib] .lib (fun x => laws_toLibrary_p.F k x.1))
  | .f 9 => some (.p [.lib, .str] _ (fun x => spec_InheritedFields.F k x.1 x.2.1) (fun r => (.tup [.fr 9 .str r.1, .t .bool r.2])))
  | .f 11 => some (.p [.lib, .str] _ (fun x => impl_InheritedFields.F k x.1 x.2.1) (fun r => (.tup [.fr 9 .str r.1, .t .bool r.2])))
  | .f 12 => some (.p [(.sl .str), (.sl .str)] _ (fun x => laws_eqStringS.F k x.1 x.2.1) (fun r => (.t .bool r)))
  | .f 13 => some (.p [.lib, .lib] _ (fun x => laws_eqLibrary.F k x.1 x.2.1) (fun r => (.t .bool r)))
  | .f 14 => some (.d .lib (fun x q => laws_markLibrary_d.F k x q))
  | .f 15 => some (.m (.fr 9 .str) [(.int .i64)] _ (fun x0 x => laws_markStringS.F k x0 x.1) (fun r => .kep (.fr 9 .str r.1) (.t (.int .i64) r.2)))
  | .f 16 => some (.p [(.sl .str), (.int .i64)] _ (fun x => laws_heldStringS.F k x.1 x.2.1) (fun r => (.t (.int .i64) r)))
  | _ => none
theorem laws_FnExactInheritedFields.run (k : Nat) (a0 : Library) (a1 : ByteArray) : runF envX (tabC (laws_FnExactInheritedFields.C k)) (tabL 104 0 (fun _ => none)) Tryz.f3 [.t .lib a0, .t .str a1] (viewR1 (.t .bool)) = laws_FnExactInheritedFields.F k a0 a1 := by kernel_rfl
theorem laws_FnExactInheritedFields.G (hE : EnvOk Tryz.prog envX) (pv : Nat → Value) (k : Nat) : ∀ cal A, laws_FnExactInheritedFields.C k cal = some A → ArmOk Tryz.prog envX pv cal A := by
  intro cal A h
  unfold laws_FnExactInheritedFields.C at h
  split at h
  · cases h; exact fun x y hy => laws_szLibrary.good hE pv k x.1 x.2.1 hy
  · cases h; exact ⟨_, rfl, fun x y hy => meetsP_of (E := envX) (E' := envP) rfl rfl rfl fun n => laws_toLibrary_p.good envOkP pv n k x.1 hy⟩
  · cases h; exact fun x y hy => spec_InheritedFields.good hE pv k x.1 x.2.1 hy
  · cases h; exact fun x y hy => impl_InheritedFields.good hE pv k x.1 x.2.1 hy
  · cases h; exact fun x y hy => laws_eqStringS.good hE pv k x.1 x.2.1 hy
  · cases h; exact fun x y hy => laws_eqLibrary.good hE pv k x.1 x.2.1 hy
  · cases h; exact ⟨_, rfl, fun x q y hy => laws_markLibrary_d.good hE pv k x q hy⟩
  · cases h; exact ⟨_, rfl, fun x0 x y hy => laws_markStringS.good hE pv k x0 x.1 hy⟩
  · cases h; exact fun x y hy => laws_heldStringS.good hE pv k x.1 x.2.1 hy
  · cases h
theorem laws_FnExactInheritedFields.good (hE : EnvOk Tryz.prog envX) (pv : Nat → Value) (k : Nat) (a0 : Library) (a1 : ByteArray) {y : _} (h : laws_FnExactInheritedFields.F k a0 a1 = some y) : Meets Tryz.prog envX pv (.f 3) (tvals [.lib, .str] (a0, a1, ())) (.t .bool y) :=
  fun_plain hE (laws_FnExactInheritedFields.G hE pv k) (f := 3) (fn := Tryz.f3) (by kernel_rfl) rfl (by kernel_rfl) (by kernel_rfl) ((laws_FnExactInheritedFields.run k a0 a1).trans h) fun r hr => wk_view1 hr
end Go.Proofs.YtgihehbpbjejlaaGreatDoor
end
section
/- Plain laws: bytes, pieces, edges of a text; no function of the program. -/
namespace Go.Proofs.YtgihehbpbjejlaaGreatDoor
open Go.Gx
set_option linter.unusedVariables false
set_option linter.unusedSimpArgs false

theorem getD_at {α : Type} {xs : List α} {i : Nat} (h : i < xs.length) (d : α) : xs.getD i d = xs[i] := by simp [List.getD, List.getElem?_eq_getElem h]
theorem wf_len {e : Ty} {xs : List (den e)} (h : WF (.sl e) xs) : xs.length ≤ 9223372036854775807 := by
  cases h with | sl _ _ h _ => exact maxLen_eq ▸ h
theorem size_pos {s : ByteArray} : (!beqS s ⟨#[]⟩) = decide (0 < s.size) := by
  rw [beqS_eq]
  have : L ⟨#[]⟩ = [] := rfl
  rw [this, ← L_size]
  cases L s <;> rfl
theorem size_app (s t : ByteArray) : (s ++ t).size = s.size + t.size := by
  rw [← L_size, L_append, List.length_append, L_size, L_size]
theorem bytesL_len (s : ByteArray) : (bytesL s).length = s.size := by
  simp only [bytesL, List.length_map, Array.length_toList]; rfl
theorem bytesL_map (s : ByteArray) : bytesL s = (L s).map fun b => (b.toNat : Int) := rfl
theorem bt_bytes (s : ByteArray) (i : Nat) (h : i < (bytesL s).length) : bt s i = (bytesL s)[i] := by
  rw [L_bt]
  have h' : i < (L s).length := by simpa [bytesL_map] using h
  simp [bytesL_map, List.getD, h']
theorem bytes_range (s : ByteArray) (i : Nat) (h : i < (bytesL s).length) : 0 ≤ (bytesL s)[i] ∧ (bytesL s)[i] ≤ 255 := by
  rw [← bt_bytes s i h]; exact bt_range s i
theorem all_bytes {s : ByteArray} {i : Nat} (h : i < (bytesL s).length) (p : Int → Bool) : ((bytesL s).drop i).all p = (p (bytesL s)[i] && ((bytesL s).drop (i + 1)).all p) := by
  rw [List.drop_eq_getElem_cons h]; rfl
theorem sub_tail (s : ByteArray) (st a : Nat) : (s.extract st s.size).extract a (s.extract st s.size).size = s.extract (st + a) s.size := by
  apply L_inj
  have e : (L s).take s.size = L s := List.take_of_length_le (Nat.le_refl _)
  rw [L_extract, L_extract s (st + a), ← L_size (s.extract st s.size), L_extract, List.take_length, List.drop_drop, e]
theorem sub_head (s : ByteArray) (st i : Nat) (h : st ≤ i) (hi : i ≤ s.size) : (s.extract st s.size).extract 0 (i - st) = s.extract st i := by
  apply L_inj
  rw [L_extract, L_extract, L_extract, List.drop_zero, List.take_of_length_le (show (L s).length ≤ s.size from Nat.le_refl _), List.drop_take]
def sp : ByteArray := ⟨#[32]⟩
theorem ib_hit {l : List UInt8} {c : UInt8} {i : Nat} (h : l[i]? = some c) (hn : ∀ j, j < i → l[j]? ≠ some c) : Lib.indexByte l c = i := by
  have hg := Lib.indexByte_ge l c
  by_cases e : Lib.indexByte l c = -1
  · exact absurd h (Lib.indexByte_none e i)
  · obtain ⟨o, ho⟩ : ∃ o : Nat, Lib.indexByte l c = o := ⟨(Lib.indexByte l c).toNat, by omega⟩
    obtain ⟨h1, h2⟩ := Lib.indexByte_some ho
    rcases Nat.lt_trichotomy o i with h3 | h3 | h3
    · exact absurd h1 (hn o h3)
    · rw [ho, h3]
    · exact absurd h (h2 i h3)
theorem ib_miss {l : List UInt8} {c : UInt8} (hn : ∀ j : Nat, l[j]? ≠ some c) : Lib.indexByte l c = -1 := by
  have hg := Lib.indexByte_ge l c
  by_cases e : Lib.indexByte l c = -1
  · exact e
  · obtain ⟨o, ho⟩ : ∃ o : Nat, Lib.indexByte l c = o := ⟨(Lib.indexByte l c).toNat, by omega⟩
    exact absurd (Lib.indexByte_some ho).1 (hn o)
theorem indexB_sp (s : ByteArray) : Lib.indexB s sp = Lib.indexByte (L s) 32 := Lib.one s sp rfl
theorem sub_at (s : ByteArray) (st j : Nat) : (L (s.extract st s.size))[j]? = (L s)[st + j]? := by
  rw [L_extract, List.take_of_length_le (show (L s).length ≤ s.size from Nat.le_refl _), List.getElem?_drop]
def wordsFrom (s : ByteArray) (st : Nat) : List ByteArray := Lib.splitB sp 0 (Lib.countB (s.extract st s.size) sp) (s.extract st s.size)
theorem words_end (s : ByteArray) (st : Nat) (h : ∀ j, st ≤ j → (L s)[j]? ≠ some 32) : wordsFrom s st = [s.extract st s.size] := by
  unfold wordsFrom
  rw [Lib.countB_miss _ _ ((indexB_sp _).trans (ib_miss fun j => by rw [sub_at]; exact h _ (by omega)))]
  rfl
theorem words_hit (s : ByteArray) (st i : Nat) (h1 : st ≤ i) (hi : i < s.size) (hb : (L s)[i]? = some 32) (h : ∀ j, st ≤ j → j < i → (L s)[j]? ≠ some 32) : wordsFrom s st = s.extract st i :: wordsFrom s (i + 1) := by
  have e : Lib.indexB (s.extract st s.size) sp = ((i - st : Nat) : Int) := (indexB_sp _).trans (ib_hit (by rw [sub_at, show st + (i - st) = i by omega]; exact hb) fun j hj => by rw [sub_at]; exact h _ (by omega) (by omega))
  have e1 : sp.size = 1 := rfl
  unfold wordsFrom
  rw [Lib.countB_hit _ _ _ (by rw [e1]; exact Nat.le_refl _) e, Nat.add_comm 1, Lib.splitB_hit _ _ _ _ _ e, Nat.add_zero, sub_head s st i h1 (by omega), e1, sub_tail, show st + (i - st + 1) = i + 1 by omega]
theorem sub_self (s : ByteArray) : s.extract 0 s.size = s := by
  apply L_inj
  rw [L_extract, List.take_of_length_le (show (L s).length ≤ s.size from Nat.le_refl _), List.drop_zero]
def words (s : ByteArray) : List ByteArray := Lib.splitB sp 0 (Lib.countB s sp) s
theorem words_from (s : ByteArray) : wordsFrom s 0 = words s := by unfold wordsFrom words; rw [sub_self]
theorem words_small : ∀ (k : Nat) (s : ByteArray), ∀ x ∈ Lib.splitB sp 0 k s, x.size ≤ s.size
  | 0, s, x, hx => by
    rw [Lib.splitB_zero] at hx
    simp only [List.mem_singleton] at hx
    rw [hx]; exact Nat.le_refl _
  | k + 1, s, x, hx => by
    unfold Lib.splitB at hx
    split at hx
    · simp only [List.mem_singleton] at hx
      rw [hx]; exact Nat.le_refl _
    · rcases List.mem_cons.1 hx with rfl | hx
      · rw [ByteArray.size_extract]; omega
      · have := words_small k _ x hx
        rw [ByteArray.size_extract] at this
        omega
theorem words_len (s : ByteArray) : 1 ≤ (words s).length ∧ (words s).length ≤ s.size + 1 := by
  unfold words
  have h1 : 1 ≤ sp.size := Nat.le_refl 1
  rw [Lib.splitB_all sp h1 0 _ s rfl]
  have := Lib.countB_le sp h1 s.size s (Nat.le_refl _)
  omega
theorem dropWhile_self {α : Type} (p : α → Bool) : ∀ l : List α, l.dropWhile p = l ↔ (∀ a, l.head? = some a → p a = false)
  | [] => by simp
  | a :: l => by
    have hl : (l.dropWhile p).length ≤ l.length := (List.dropWhile_sublist p).length_le
    cases h : p a with
    | true =>
      rw [List.dropWhile_cons_of_pos h]
      constructor
      · intro e
        have := congrArg List.length e
        simp at this
        omega
      · intro e
        have := e a rfl
        rw [h] at this; cases this
    | false =>
      rw [List.dropWhile_cons_of_neg (by rw [h]; exact Bool.noConfusion)]
      simp [h]
theorem trimB_self (l : List UInt8) (c : UInt8) : Lib.trimB l c = l ↔ l.head? ≠ some c ∧ l.getLast? ≠ some c := by
  unfold Lib.trimB Lib.trimLeftB Lib.trimRightB
  have h1 : ∀ m : List UInt8, m.dropWhile (· == c) = m ↔ m.head? ≠ some c := fun m => by
    rw [dropWhile_self]
    constructor
    · intro h e; have := h c e; simp at this
    · intro h a e
      have : a ≠ c := fun e' => h (e' ▸ e)
      simpa using this
  constructor
  · intro h
    have h2 : ((l.reverse.dropWhile (· == c)).reverse).length ≤ l.length := by
      have := (List.dropWhile_sublist (p := (· == c)) (l := l.reverse)).length_le
      simpa using this
    have h3 := (List.dropWhile_sublist (p := (· == c)) (l := (l.reverse.dropWhile (· == c)).reverse))
    have h4 : (l.reverse.dropWhile (· == c)).reverse = l := by
      have h5 : (l.reverse.dropWhile (· == c)).reverse.length = l.length := by
        have := h3.length_le
        rw [h] at this
        omega
      have h6 : l.reverse.dropWhile (· == c) = l.reverse := (List.dropWhile_sublist (p := (· == c)) (l := l.reverse)).eq_of_length (by simpa using h5)
      rw [h6, List.reverse_reverse]
    rw [h4] at h
    refine ⟨(h1 l).1 h, ?_⟩
    have h6 : l.reverse.dropWhile (· == c) = l.reverse := by rw [← List.reverse_inj, h4, List.reverse_reverse]
    have := (h1 _).1 h6
    simpa using this
  · rintro ⟨ha, hb⟩
    have h6 : l.reverse.dropWhile (· == c) = l.reverse := (h1 _).2 (by simpa using hb)
    rw [h6, List.reverse_reverse]
    exact (h1 l).2 ha
def vis (lo b : Int) : Bool := decide (lo ≤ b) && decide (b ≤ 126)
theorem bt_sp {s : ByteArray} {i : Nat} (hi : i < s.size) : bt s i = 32 ↔ (L s)[i]? = some 32 := by
  have hi' : i < (L s).length := hi
  have hbt : bt s i = ((L s)[i].toNat : Int) := by rw [L_bt, getD_at hi']
  rw [List.getElem?_eq_getElem hi', hbt]
  have : (32 : UInt8).toNat = 32 := rfl
  constructor
  · intro h
    congr 1
    apply UInt8.toNat_inj.1
    omega
  · intro h
    rw [Option.some.inj h]; rfl
def edge (s : ByteArray) : Bool := (decide (s.size = 0)) || (bt s 0 != 32 && bt s (s.size - 1) != 32)
theorem edge_eq (s : ByteArray) : beqS ⟨(Lib.trimB (L s) 32).toArray⟩ s = edge s := by
  rw [Bool.eq_iff_iff, beqS_iff]
  have h1 : (⟨(Lib.trimB (L s) 32).toArray⟩ : ByteArray) = s ↔ Lib.trimB (L s) 32 = L s := by
    constructor
    · intro h
      have := congrArg L h
      rwa [L_mk] at this
    · intro h
      apply L_inj
      rw [L_mk, h]
  rw [h1, trimB_self]
  unfold edge
  by_cases hz : s.size = 0
  · have : L s = [] := List.eq_nil_of_length_eq_zero hz
    rw [this]
    simp [hz]
  · have h2 : (L s).head? = (L s)[0]? := List.head?_eq_getElem?
    have h3 : (L s).getLast? = (L s)[s.size - 1]? := by rw [List.getLast?_eq_getElem?]; rfl
    rw [h2, h3, Bool.or_eq_true, decide_eq_true_eq, Bool.and_eq_true, bne_iff_ne, bne_iff_ne, Ne, Ne, Ne, Ne, bt_sp (by omega), bt_sp (by omega)]
    simp [hz]
def pos (s : ByteArray) : Bool := decide (0 < s.size)
theorem ext_size {s : ByteArray} {a b : Nat} (h : a ≤ b) (hb : b ≤ s.size) : (s.extract a b).size = b - a := by
  rw [ByteArray.size_extract]; omega
theorem room_s {n : Nat} (h : n ≤ 8192) : room n .str = true := by
  unfold room
  rw [Nat.ble_eq]
  have : nb .str = 16 := rfl
  rw [this]
  omega
theorem fpos_one (s : ByteArray) (a b : Nat) (hab : a ≤ b) (hb : b ≤ s.size) (l : List ByteArray) : (s.extract a b :: l).filter pos = (if a < b then [s.extract a b] else []) ++ l.filter pos := by
  rw [List.filter_cons]
  unfold pos
  rw [ext_size hab hb]
  by_cases c : a < b
  · rw [if_pos c, decide_eq_true (by omega)]; rfl
  · rw [if_neg c, decide_eq_false (by omega)]; rfl
theorem tail_cons (x : List UInt8) (r : List (List UInt8)) : Lib.joinTail [32] (x :: r) = 32 :: (x ++ Lib.joinTail [32] r) := by simp [Lib.joinTail]
theorem e32 : (⟨#[32]⟩ : ByteArray).size = 1 := rfl
theorem L32 : L ⟨#[32]⟩ = [32] := rfl
/-! ### A list, changed from its begin -/
def ms {α : Type} (f : α → α) (W : List α) (i : Nat) : List α := (W.take i).map f ++ W.drop i
section
variable {α : Type} (f : α → α) (W : List α)
theorem ms_len (i : Nat) : (ms f W i).length = W.length := by unfold ms; simp; omega
theorem ms_zero : ms f W 0 = W := by simp [ms]
theorem ms_all : ms f W W.length = W.map f := by simp [ms]
theorem ms_at {i : Nat} (h : i < W.length) (d : α) : (ms f W i).getD i d = W[i] := by
  unfold ms
  rw [List.getD_eq_getElem?_getD, List.getElem?_append_right (by simp; omega)]
  simp [Nat.min_eq_left (Nat.le_of_lt h), h]
theorem ms_set {i : Nat} (h : i < W.length) : (ms f W i).set i (f W[i]) = ms f W (i + 1) := by
  unfold ms
  rw [List.set_append_right _ _ (by simp; omega)]
  simp only [List.length_map, List.length_take, Nat.min_eq_left (Nat.le_of_lt h), Nat.sub_self]
  rw [List.drop_eq_getElem_cons h, List.set_cons_zero, List.take_add_one, List.getElem?_eq_getElem h]
  simp only [Option.toList_some, List.map_append, List.map_cons, List.map_nil, List.append_assoc, List.cons_append, List.nil_append]
end
end Go.Proofs.YtgihehbpbjejlaaGreatDoor
end
section
/- Plain laws: texts of an entry. -/
namespace Go.Proofs.YtgihehbpbjejlaaGreatDoor
open Go.Gx
set_option linter.unusedVariables false
set_option linter.unusedSimpArgs false

theorem edge_trim (s : ByteArray) (hs : s.size ≤ 1048576) : strings_Trim.F s ⟨#[32]⟩ = some ⟨(Lib.trimB (L s) 32).toArray⟩ := by
  unfold strings_Trim.F xTrim1
  rw [Nat.ble_eq_true_of_le (by omega)]
  rfl
theorem specText_l0 (s : ByteArray) (hs : s.size ≤ 1048576) : ∀ n i : Nat, i + n = s.size → Ev (fun k => spec_l4Text.l0 k s i) (if ((bytesL s).drop i).all (vis 32) = true then .inr s else .inl false)
  | 0, i, h => by
    refine Ev.step (fun k => by rw [spec_l4Text.l0]) ?_
    simp (disch := omega) only [cneg]
    rw [List.drop_eq_nil_of_le (by rw [bytesL_len]; omega)]
    exact Ev.pure _
  | n + 1, i, h => by
    have hl := bytesL_len s
    have hi : i < (bytesL s).length := by omega
    refine Ev.step (fun k => by rw [spec_l4Text.l0]) ?_
    simp (disch := omega) only [cpos, Int.toNat_natCast, bt_bytes s i hi]
    rw [all_bytes hi]
    unfold vis
    by_cases c1 : (bytesL s)[i] < 32
    · simp (disch := omega) only [cpos, dneg, Bool.false_and]; exact Ev.pure _
    · by_cases c2 : (bytesL s)[i] > 126
      · simp (disch := omega) only [cpos, cneg, dneg, Bool.and_false, Bool.false_and]; exact Ev.pure _
      · simp (disch := omega) only [cpos, cneg, dpos, Bool.and_self, Bool.true_and, wrap_in]
        exact specText_l0 s hs n (i + 1) (by omega)
theorem isPrint_l0 (s : ByteArray) (hs : s.size ≤ 1048576) : ∀ n i : Nat, i + n = s.size → Ev (fun k => impl_isPrintable.l0 k s i) (if ((bytesL s).drop i).all (vis 32) = true then .inr s else .inl false)
  | 0, i, h => by
    refine Ev.step (fun k => by rw [impl_isPrintable.l0]) ?_
    simp (disch := omega) only [cneg]
    rw [List.drop_eq_nil_of_le (by rw [bytesL_len]; omega)]
    exact Ev.pure _
  | n + 1, i, h => by
    have hl := bytesL_len s
    have hi : i < (bytesL s).length := by omega
    refine Ev.step (fun k => by rw [impl_isPrintable.l0]) ?_
    simp (disch := omega) only [cpos, Int.toNat_natCast, bt_bytes s i hi]
    rw [all_bytes hi]
    unfold vis
    by_cases c1 : (bytesL s)[i] < 32
    · simp (disch := omega) only [cpos, dneg, Bool.false_and]; exact Ev.pure _
    · by_cases c2 : (bytesL s)[i] > 126
      · simp (disch := omega) only [cpos, cneg, dneg, Bool.and_false, Bool.false_and]; exact Ev.pure _
      · simp (disch := omega) only [cpos, cneg, dpos, Bool.and_self, Bool.true_and, wrap_in]
        exact isPrint_l0 s hs n (i + 1) (by omega)
def textB (s : ByteArray) : Bool := decide (s.size ≤ 40) && ((bytesL s).all (vis 32) && edge s)
theorem specText_ev (s : ByteArray) : Ev (fun k => spec_l4Text.F k s) (textB s) := by
  unfold spec_l4Text.F textB
  by_cases c : (s.size : Int) > 40
  · simp (disch := omega) only [cpos, dneg, Bool.false_and]
    exact Ev.pure _
  · simp (disch := omega) only [cneg, dpos, Bool.true_and]
    have := specText_l0 s (by omega) s.size 0 (by omega)
    rw [List.drop_zero] at this
    cases h : (bytesL s).all (vis 32) with
    | false => rw [h] at this; exact Ev.bind this (Ev.pure _)
    | true =>
      rw [h] at this
      refine Ev.bind (a := .inr s) this ?_
      dsimp only
      have he : beqS s ⟨#[]⟩ = decide (s.size = 0) := by
        rw [← Bool.not_not (b := beqS s ⟨#[]⟩), size_pos]
        by_cases hz : s.size = 0
        · simp [hz]
        · rw [decide_eq_true (by omega : 0 < s.size), decide_eq_false hz]; rfl
      rw [he]
      unfold edge
      by_cases hz : s.size = 0
      · rw [decide_eq_true hz]; exact Ev.pure _
      · rw [decide_eq_false hz]
        simp (disch := omega) only [cond_false, cond_true, cpos, wrap_in]
        rw [show ((s.size : Int) - 1).toNat = s.size - 1 by omega, show (0 : Int).toNat = 0 from rfl, Bool.false_or, Bool.true_and]
        cases (bt s 0 != 32) with
        | true => exact Ev.pure _
        | false => exact Ev.pure _
theorem isText_ev (s : ByteArray) : Ev (fun k => impl_isText.F k s) (textB s) := by
  unfold impl_isText.F textB
  by_cases c : (s.size : Int) ≤ 40
  · simp (disch := omega) only [cpos, dpos, Bool.true_and]
    refine Ev.bind ?_ (Ev.pure _)
    unfold impl_isPrintable.F
    have := isPrint_l0 s (by omega) s.size 0 (by omega)
    rw [List.drop_zero] at this
    cases h : (bytesL s).all (vis 32) with
    | false => rw [h] at this; exact Ev.bind this (Ev.pure _)
    | true =>
      rw [h] at this
      refine Ev.bind (a := .inr s) this ?_
      dsimp only
      refine Ev.bind0 (edge_trim s (by omega)) ?_
      simp only [edge_eq, Bool.true_and]
      exact Ev.pure _
  · simp (disch := omega) only [cneg, dneg, Bool.false_and]
    exact Ev.pure _
end Go.Proofs.YtgihehbpbjejlaaGreatDoor
end
section
/- Plain laws: a text split at its spaces. -/
namespace Go.Proofs.YtgihehbpbjejlaaGreatDoor
open Go.Gx
set_option linter.unusedVariables false
set_option linter.unusedSimpArgs false

theorem split_ev (s : ByteArray) (hs : s.size ≤ 1048576) : strings_Split.F s ⟨#[32]⟩ = some (words s) := by
  unfold strings_Split.F xSplit
  rw [Nat.ble_eq_true_of_le (by omega)]
  rfl
end Go.Proofs.YtgihehbpbjejlaaGreatDoor
end
section
/- Plain laws: a text split at its spaces, the other way. -/
namespace Go.Proofs.YtgihehbpbjejlaaGreatDoor
open Go.Gx
set_option linter.unusedVariables false
set_option linter.unusedSimpArgs false

theorem split_l0 (s : ByteArray) (hs : s.size ≤ 1048576) : ∀ n i : Nat, i + n = s.size → ∀ st : Nat, st ≤ i → (∀ j, st ≤ j → j < i → (L s)[j]? ≠ some 32) → ∀ acc : List ByteArray, acc.length ≤ i →
    ∃ acc' st', Ev (fun k => spec_l1Split.l0 k s 32 acc st i) (s, acc', ((st' : Nat) : Int)) ∧ st' ≤ s.size ∧ acc'.length ≤ s.size ∧ acc' ++ [s.extract st' s.size] = acc ++ wordsFrom s st
  | 0, i, h, st, h1, hn, acc, ha => by
    refine ⟨acc, st, Ev.step (fun k => by rw [spec_l1Split.l0]) ?_, by omega, by omega, ?_⟩
    · simp (disch := omega) only [cneg]
      exact Ev.pure _
    · rw [words_end s st fun j hj => ?_]
      by_cases hj2 : j < i
      · exact hn j hj hj2
      · rw [List.getElem?_eq_none (by rw [L_size]; omega)]; exact fun h => by cases h
  | n + 1, i, h, st, h1, hn, acc, ha => by
    have hi : i < (L s).length := by rw [L_size]; omega
    have hbt : bt s i = ((L s)[i].toNat : Int) := by rw [L_bt, getD_at hi]
    by_cases c : bt s i = 32
    · have hb : (L s)[i]? = some 32 := by
        rw [List.getElem?_eq_getElem hi]
        congr 1
        apply UInt8.toNat_inj.1
        have : (32 : UInt8).toNat = 32 := rfl
        omega
      obtain ⟨acc', st', r1, r2, r3, r4⟩ := split_l0 s hs n (i + 1) (by omega) (i + 1) (Nat.le_refl _) (fun j h1 h2 => by omega) (acc ++ [s.extract st i]) (by simp; omega)
      refine ⟨acc', st', Ev.step (fun k => by rw [spec_l1Split.l0]) ?_, r2, r3, ?_⟩
      · have hr : room (acc.length + ([s.extract st i] : List ByteArray).length) .str = true := by
          unfold room
          rw [Nat.ble_eq]
          have : nb .str = 16 := rfl
          rw [this]
          simp; omega
        simp (disch := omega) only [cpos, Int.toNat_natCast, ceq, hr, cond_true, wrap_in]
        exact r1
      · rw [r4, words_hit s st i h1 (by omega) hb hn]; simp
    · obtain ⟨acc', st', r1, r2, r3, r4⟩ := split_l0 s hs n (i + 1) (by omega) st (by omega) (fun j h1 h2 => by
        rcases Nat.lt_or_ge j i with h3 | h3
        · exact hn j h1 h3
        · obtain rfl : j = i := by omega
          rw [List.getElem?_eq_getElem hi]
          intro e
          apply c
          rw [hbt, Option.some.inj e]; rfl) acc (by omega)
      refine ⟨acc', st', Ev.step (fun k => by rw [spec_l1Split.l0]) ?_, r2, r3, r4⟩
      simp (disch := omega) only [cpos, Int.toNat_natCast, cne, wrap_in]
      exact r1
theorem specSplit_ev (s : ByteArray) (hs : s.size ≤ 1048576) : Ev (fun k => spec_l1Split.F k s 32) (words s) := by
  unfold spec_l1Split.F
  obtain ⟨acc', st', r1, r2, r3, r4⟩ := split_l0 s hs s.size 0 (by omega) 0 (Nat.le_refl _) (fun j h1 h2 => by omega) [] (Nat.le_refl _)
  refine Ev.bind r1 ?_
  have hr : room (acc'.length + ([s.extract st' s.size] : List ByteArray).length) .str = true := by
    unfold room
    rw [Nat.ble_eq]
    have : nb .str = 16 := rfl
    rw [this]
    simp; omega
  simp (disch := omega) only [cpos, Int.toNat_natCast, hr, cond_true, r4, words_from, List.nil_append]
  exact Ev.pure _
end Go.Proofs.YtgihehbpbjejlaaGreatDoor
end
section
/- Plain laws: lists of texts: size, copy, equality. -/
namespace Go.Proofs.YtgihehbpbjejlaaGreatDoor
open Go.Gx
set_option linter.unusedVariables false
set_option linter.unusedSimpArgs false

def totS (xs : List ByteArray) : Nat := (xs.map ByteArray.size).sum
theorem szS_l0 (xs : List ByteArray) (hw : WF (.sl .str) xs) (hlen : xs.length ≤ 1048576) : ∀ n i : Nat, i + n = xs.length → ∀ l : Int, 0 ≤ l → l ≤ 1048576 →
    Ev (fun k => laws_szStringS.l0 k xs l i) (if l - totS (xs.drop i) < 0 then .inl (-1) else .inr (l - totS (xs.drop i)))
  | 0, i, h, l, h0, h1 => by
    refine Ev.step (fun k => by rw [laws_szStringS.l0]) ?_
    simp (disch := omega) only [cneg]
    rw [List.drop_eq_nil_of_le (by omega)]
    simp only [totS, List.map_nil, List.sum_nil]
    rw [if_neg (by omega)]
    exact (Ev.pure _).eq (by congr 1; omega)
  | n + 1, i, h, l, h0, h1 => by
    have hi : i < xs.length := by omega
    have hwi : xs[i].size ≤ 9223372036854775807 := by cases hw with | sl _ _ _ h => exact wf_str (h i hi)
    have hd : totS (xs.drop i) = xs[i].size + totS (xs.drop (i + 1)) := by
      rw [List.drop_eq_getElem_cons hi]; unfold totS; rw [List.map_cons, List.sum_cons]
    refine Ev.step (fun k => by rw [laws_szStringS.l0]) ?_
    simp (disch := omega) only [cpos, Int.toNat_natCast, getD_at hi]
    by_cases c : l - (xs[i].size : Int) < 0
    · simp (disch := omega) only [wrap_in, cpos]
      rw [if_pos (by omega)]
      exact Ev.pure _
    · simp (disch := omega) only [wrap_in, cneg]
      have := szS_l0 xs hw hlen n (i + 1) (by omega) (l - xs[i].size) (by omega) (by omega)
      refine this.eq ?_
      rw [hd]
      by_cases c2 : l - (xs[i].size : Int) - (totS (xs.drop (i + 1)) : Int) < 0
      · rw [if_pos c2, if_pos (by omega)]
      · rw [if_neg c2, if_neg (by omega)]; congr 1; omega
theorem szS_ev (xs : List ByteArray) (l : Int) (h0 : 0 ≤ l) (h1 : l ≤ 1048576) (hw : WF (.sl .str) xs) : ∃ r, Ev (fun k => laws_szStringS.F k xs l) r ∧ (0 ≤ r → (xs.length : Int) + totS xs + r = l) := by
  have hl : xs.length ≤ 9223372036854775807 := wf_len hw
  unfold laws_szStringS.F
  by_cases c : l - (xs.length : Int) < 0
  · simp (disch := omega) only [wrap_in, cpos]
    exact ⟨-1, Ev.pure _, fun h => by omega⟩
  · simp (disch := omega) only [wrap_in, cneg]
    have := szS_l0 xs hw (by omega) xs.length 0 (by omega) (l - xs.length) (by omega) (by omega)
    simp only [List.drop_zero] at this
    by_cases c2 : l - (xs.length : Int) - (totS xs : Int) < 0
    · rw [if_pos c2] at this
      exact ⟨-1, Ev.bind this (Ev.pure _), fun h => by omega⟩
    · rw [if_neg c2] at this
      exact ⟨l - (xs.length : Int) - (totS xs : Int), Ev.bind this (Ev.pure _), fun h => by omega⟩
theorem totS_mem {xs : List ByteArray} {x : ByteArray} (h : x ∈ xs) : x.size ≤ totS xs := by
  unfold totS
  induction xs with
  | nil => cases h
  | cons b l ih =>
    simp only [List.map_cons, List.sum_cons]
    rcases List.mem_cons.1 h with rfl | h
    · omega
    · have := ih h; omega
theorem toS_l0 (xs : List ByteArray) (hlen : xs.length ≤ 1048576) : ∀ n i : Nat, i + n = xs.length → ∀ ys : List ByteArray, ys.length = xs.length → ys.take i = xs.take i → Ev (fun k => laws_toStringS.l0 k xs ys i) xs
  | 0, i, h, ys, hy, ht => by
    refine Ev.step (fun k => by rw [laws_toStringS.l0]) ?_
    simp (disch := omega) only [cneg]
    have : ys = xs := by
      rw [List.take_of_length_le (by omega), List.take_of_length_le (by omega)] at ht
      exact ht
    rw [this]; exact Ev.pure _
  | n + 1, i, h, ys, hy, ht => by
    have hi : i < xs.length := by omega
    refine Ev.step (fun k => by rw [laws_toStringS.l0]) ?_
    simp (disch := omega) only [cpos, Int.toNat_natCast, getD_at hi, wrap_in]
    exact toS_l0 xs hlen n (i + 1) (by omega) (ys.set i xs[i]) (by simpa using hy) (by
      rw [List.take_add_one, List.take_add_one, List.take_set_of_le (Nat.le_refl i), ht]
      simp [show i < ys.length by omega, hi])
theorem toS_ev (xs : List ByteArray) (hlen : xs.length ≤ 1048576) : Ev (fun k => laws_toStringS.F k xs) xs := by
  unfold laws_toStringS.F
  have hn : nb .str = 16 := rfl
  simp (disch := first | omega | (simp only [hn, Int.toNat_natCast]; omega)) only [ceq, cpos, cble]
  exact Ev.bind (a := xs) (toS_l0 xs hlen xs.length 0 (by omega) _ (by simp) (by simp)) (Ev.pure _)
theorem eqS_l0 (xs : List ByteArray) (hlen : xs.length ≤ 1048576) : ∀ n i : Nat, i + n = xs.length → Ev (fun k => laws_eqStringS.l0 k xs xs i) (.inr ())
  | 0, i, h => by
    refine Ev.step (fun k => by rw [laws_eqStringS.l0]) ?_
    simp (disch := omega) only [cneg]
    exact Ev.pure _
  | n + 1, i, h => by
    refine Ev.step (fun k => by rw [laws_eqStringS.l0]) ?_
    simp (disch := omega) only [cpos, Int.toNat_natCast, beqS_self, Bool.not_true, cond_false, wrap_in]
    exact eqS_l0 xs hlen n (i + 1) (by omega)
theorem eqS_ev (xs : List ByteArray) (hlen : xs.length ≤ 1048576) : Ev (fun k => laws_eqStringS.F k xs xs) true := by
  unfold laws_eqStringS.F
  simp (disch := omega) only [cbeq]
  exact Ev.bind (eqS_l0 xs hlen xs.length 0 (by omega)) (Ev.pure _)
end Go.Proofs.YtgihehbpbjejlaaGreatDoor
end
section
/- Plain laws: names, entries, libraries: size, copy, equality. -/
namespace Go.Proofs.YtgihehbpbjejlaaGreatDoor
open Go.Gx
set_option linter.unusedVariables false
set_option linter.unusedSimpArgs false

def totN (n : Name) : Nat := n.given.length + totS n.given + n.particle.size + n.family.size + n.suffix.size
def totNs (xs : List Name) : Nat := xs.length + (xs.map totN).sum
def totE (e : Entry) : Nat := e.key.size + totNs e.authors + totNs e.editors + e.title.size + e.container.size + e.publisher.size + e.pages.size + e.cross.size
def totEs (xs : List Entry) : Nat := xs.length + (xs.map totE).sum
theorem sum_mem {α : Type} (f : α → Nat) {xs : List α} {x : α} (h : x ∈ xs) : f x ≤ (xs.map f).sum := by
  induction xs with
  | nil => cases h
  | cons b l ih =>
    simp only [List.map_cons, List.sum_cons]
    rcases List.mem_cons.1 h with rfl | h
    · omega
    · have := ih h; omega
def smallN (n : Name) : Prop := totN n ≤ 1048576
def smallE (e : Entry) : Prop := totE e ≤ 1048576
def smallL (l : Library) : Prop := totEs l.entries ≤ 1048576
theorem smallL_at {l : Library} (h : smallL l) {e : Entry} (he : e ∈ l.entries) : smallE e := by
  have := sum_mem totE he
  unfold smallL totEs at h
  unfold smallE
  omega
theorem smallNs_at {xs : List Name} (h : totNs xs ≤ 1048576) {n : Name} (hn : n ∈ xs) : smallN n := by
  have := sum_mem totN hn
  unfold totNs at h
  unfold smallN
  omega
theorem smallE_a {e : Entry} (h : smallE e) : totNs e.authors ≤ 1048576 := by unfold smallE totE at h; omega
theorem smallE_e {e : Entry} (h : smallE e) : totNs e.editors ≤ 1048576 := by unfold smallE totE at h; omega
theorem smallNs_len {xs : List Name} (h : totNs xs ≤ 1048576) : xs.length ≤ 1048576 := by unfold totNs at h; omega
theorem smallL_len {l : Library} (h : smallL l) : l.entries.length ≤ 1048576 := by unfold smallL totEs at h; omega
theorem szN_ev (a : Name) (l : Int) (h0 : 0 ≤ l) (h1 : l ≤ 1048576) (hw : WF .name a) : EvP (fun k => laws_szName.F k a l) fun r => 0 ≤ r → (totN a : Int) + r = l := by
  obtain ⟨w1, w2, w3, w4⟩ : WF (.sl .str) a.given ∧ a.particle.size ≤ 9223372036854775807 ∧ a.family.size ≤ 9223372036854775807 ∧ a.suffix.size ≤ 9223372036854775807 := by
    cases hw with | name _ h1 h2 h3 h4 => exact ⟨h1, wf_str h2, wf_str h3, wf_str h4⟩
  unfold laws_szName.F totN
  obtain ⟨r, r1, r2⟩ := szS_ev a.given l h0 h1 w1
  refine EvP.of r1 ?_
  by_cases c : r < 0
  · simp (disch := omega) only [cpos]
    exact EvP.pure _ (fun h => by omega)
  simp (disch := omega) only [cneg]
  have r3 := r2 (by omega)
  by_cases c1 : r - (a.particle.size : Int) < 0
  · simp (disch := omega) only [wrap_in, cpos]
    exact EvP.pure _ (fun h => by omega)
  simp (disch := omega) only [wrap_in, cneg]
  by_cases c2 : r - (a.particle.size : Int) - (a.family.size : Int) < 0
  · simp (disch := omega) only [wrap_in, cpos]
    exact EvP.pure _ (fun h => by omega)
  simp (disch := omega) only [wrap_in, cneg]
  by_cases c3 : r - (a.particle.size : Int) - (a.family.size : Int) - (a.suffix.size : Int) < 0
  · simp (disch := omega) only [wrap_in, cpos]
    exact EvP.pure _ (fun h => by omega)
  simp (disch := omega) only [wrap_in, cneg]
  exact EvP.pure _ (fun h => by omega)
theorem szNs_l0 (xs : List Name) (hw : WF (.sl .name) xs) (hlen : xs.length ≤ 1048576) : ∀ n i : Nat, i + n = xs.length → ∀ l : Int, 0 ≤ l → l ≤ 1048576 →
    EvP (fun k => laws_szNameS.l0 k xs l i) fun r => r = .inl (-1) ∨ ∃ q : Int, r = .inr q ∧ 0 ≤ q ∧ (((xs.drop i).map totN).sum : Int) + q = l
  | 0, i, h, l, h0, h1 => by
    refine EvP.step (fun k => by rw [laws_szNameS.l0]) ?_
    simp (disch := omega) only [cneg]
    rw [List.drop_eq_nil_of_le (by omega)]
    exact EvP.pure _ (.inr ⟨l, rfl, h0, by simp⟩)
  | n + 1, i, h, l, h0, h1 => by
    have hi : i < xs.length := by omega
    have hwi : WF .name xs[i] := by cases hw with | sl _ _ _ h => exact h i hi
    refine EvP.step (fun k => by rw [laws_szNameS.l0]) ?_
    simp (disch := omega) only [cpos, Int.toNat_natCast, getD_at hi]
    refine EvP.bind (szN_ev _ l h0 h1 hwi) fun r hr => ?_
    by_cases c : r < 0
    · simp (disch := omega) only [cpos]
      exact EvP.pure _ (.inl rfl)
    · have hr := hr (by omega)
      simp (disch := omega) only [cneg, wrap_in]
      refine EvP.mono (szNs_l0 xs hw hlen n (i + 1) (by omega) r (by omega) (by omega)) fun q hq => ?_
      rcases hq with rfl | ⟨q, rfl, h2, h3⟩
      · exact .inl rfl
      · refine .inr ⟨q, rfl, h2, ?_⟩
        rw [List.drop_eq_getElem_cons hi, List.map_cons, List.sum_cons]
        omega
theorem szNs_ev (xs : List Name) (l : Int) (h0 : 0 ≤ l) (h1 : l ≤ 1048576) (hw : WF (.sl .name) xs) : EvP (fun k => laws_szNameS.F k xs l) fun r => 0 ≤ r → (totNs xs : Int) + r = l := by
  have hl : xs.length ≤ 9223372036854775807 := wf_len hw
  unfold laws_szNameS.F totNs
  by_cases c : l - (xs.length : Int) < 0
  · simp (disch := omega) only [wrap_in, cpos]
    exact EvP.pure _ fun h => by omega
  · simp (disch := omega) only [wrap_in, cneg]
    refine EvP.bind (szNs_l0 xs hw (by omega) xs.length 0 (by omega) (l - xs.length) (by omega) (by omega)) fun r hr => ?_
    rcases hr with rfl | ⟨q, rfl, h2, h3⟩
    · exact EvP.pure _ fun h => by omega
    · rw [List.drop_zero] at h3
      exact EvP.pure _ fun h => by omega
theorem szE_ev (a : Entry) (l : Int) (h0 : 0 ≤ l) (h1 : l ≤ 1048576) (hw : WF .entry a) : EvP (fun k => laws_szEntry.F k a l) fun r => 0 ≤ r → (totE a : Int) + r = l := by
  obtain ⟨w1, w2, w3, w4, w5, w6, w7, w8⟩ : a.key.size ≤ 9223372036854775807 ∧ WF (.sl .name) a.authors ∧ WF (.sl .name) a.editors ∧ a.title.size ≤ 9223372036854775807 ∧ a.container.size ≤ 9223372036854775807 ∧ a.publisher.size ≤ 9223372036854775807 ∧ a.pages.size ≤ 9223372036854775807 ∧ a.cross.size ≤ 9223372036854775807 := by
    cases hw with | entry _ h1 h2 h3 h4 h5 h6 h7 h8 h9 h10 h11 => exact ⟨wf_str h1, h3, h4, wf_str h5, wf_str h6, wf_str h7, wf_str h10, wf_str h11⟩
  unfold laws_szEntry.F totE
  by_cases c0 : l - (a.key.size : Int) < 0
  · simp (disch := omega) only [wrap_in, cpos]
    exact EvP.pure _ (fun h => by omega)
  simp (disch := omega) only [wrap_in, cneg]
  refine EvP.bind (szNs_ev a.authors _ (by omega) (by omega) w2) fun r hr => ?_
  by_cases c : r < 0
  · simp (disch := omega) only [cpos]
    exact EvP.pure _ (fun h => by omega)
  simp (disch := omega) only [cneg]
  have hr := hr (by omega)
  refine EvP.bind (szNs_ev a.editors r (by omega) (by omega) w3) fun q hq => ?_
  by_cases c' : q < 0
  · simp (disch := omega) only [cpos]
    exact EvP.pure _ (fun h => by omega)
  simp (disch := omega) only [cneg]
  have hq := hq (by omega)
  by_cases c1 : q - (a.title.size : Int) < 0
  · simp (disch := omega) only [wrap_in, cpos]
    exact EvP.pure _ (fun h => by omega)
  simp (disch := omega) only [wrap_in, cneg]
  by_cases c2 : q - (a.title.size : Int) - (a.container.size : Int) < 0
  · simp (disch := omega) only [wrap_in, cpos]
    exact EvP.pure _ (fun h => by omega)
  simp (disch := omega) only [wrap_in, cneg]
  by_cases c3 : q - (a.title.size : Int) - (a.container.size : Int) - (a.publisher.size : Int) < 0
  · simp (disch := omega) only [wrap_in, cpos]
    exact EvP.pure _ (fun h => by omega)
  simp (disch := omega) only [wrap_in, cneg]
  by_cases c4 : q - (a.title.size : Int) - (a.container.size : Int) - (a.publisher.size : Int) - (a.pages.size : Int) < 0
  · simp (disch := omega) only [wrap_in, cpos]
    exact EvP.pure _ (fun h => by omega)
  simp (disch := omega) only [wrap_in, cneg]
  by_cases c5 : q - (a.title.size : Int) - (a.container.size : Int) - (a.publisher.size : Int) - (a.pages.size : Int) - (a.cross.size : Int) < 0
  · simp (disch := omega) only [wrap_in, cpos]
    exact EvP.pure _ (fun h => by omega)
  simp (disch := omega) only [wrap_in, cneg]
  exact EvP.pure _ (fun h => by omega)
theorem szEs_l0 (xs : List Entry) (hw : WF (.sl .entry) xs) (hlen : xs.length ≤ 1048576) : ∀ n i : Nat, i + n = xs.length → ∀ l : Int, 0 ≤ l → l ≤ 1048576 →
    EvP (fun k => laws_szEntryS.l0 k xs l i) fun r => r = .inl (-1) ∨ ∃ q : Int, r = .inr q ∧ 0 ≤ q ∧ (((xs.drop i).map totE).sum : Int) + q = l
  | 0, i, h, l, h0, h1 => by
    refine EvP.step (fun k => by rw [laws_szEntryS.l0]) ?_
    simp (disch := omega) only [cneg]
    rw [List.drop_eq_nil_of_le (by omega)]
    exact EvP.pure _ (.inr ⟨l, rfl, h0, by simp⟩)
  | n + 1, i, h, l, h0, h1 => by
    have hi : i < xs.length := by omega
    have hwi : WF .entry xs[i] := by cases hw with | sl _ _ _ h => exact h i hi
    refine EvP.step (fun k => by rw [laws_szEntryS.l0]) ?_
    simp (disch := omega) only [cpos, Int.toNat_natCast, getD_at hi]
    refine EvP.bind (szE_ev _ l h0 h1 hwi) fun r hr => ?_
    by_cases c : r < 0
    · simp (disch := omega) only [cpos]
      exact EvP.pure _ (.inl rfl)
    · have hr := hr (by omega)
      simp (disch := omega) only [cneg, wrap_in]
      refine EvP.mono (szEs_l0 xs hw hlen n (i + 1) (by omega) r (by omega) (by omega)) fun q hq => ?_
      rcases hq with rfl | ⟨q, rfl, h2, h3⟩
      · exact .inl rfl
      · refine .inr ⟨q, rfl, h2, ?_⟩
        rw [List.drop_eq_getElem_cons hi, List.map_cons, List.sum_cons]
        omega
theorem szEs_ev (xs : List Entry) (l : Int) (h0 : 0 ≤ l) (h1 : l ≤ 1048576) (hw : WF (.sl .entry) xs) : EvP (fun k => laws_szEntryS.F k xs l) fun r => 0 ≤ r → (totEs xs : Int) + r = l := by
  have hl : xs.length ≤ 9223372036854775807 := wf_len hw
  unfold laws_szEntryS.F totEs
  by_cases c : l - (xs.length : Int) < 0
  · simp (disch := omega) only [wrap_in, cpos]
    exact EvP.pure _ fun h => by omega
  · simp (disch := omega) only [wrap_in, cneg]
    refine EvP.bind (szEs_l0 xs hw (by omega) xs.length 0 (by omega) (l - xs.length) (by omega) (by omega)) fun r hr => ?_
    rcases hr with rfl | ⟨q, rfl, h2, h3⟩
    · exact EvP.pure _ fun h => by omega
    · rw [List.drop_zero] at h3
      exact EvP.pure _ fun h => by omega
theorem szL_ev (a : Library) (l : Int) (h0 : 0 ≤ l) (h1 : l ≤ 1048576) (hw : WF .lib a) : EvP (fun k => laws_szLibrary.F k a l) fun r => 0 ≤ r → (totEs a.entries : Int) + r = l := by
  have w1 : WF (.sl .entry) a.entries := by cases hw with | lib _ h => exact h
  unfold laws_szLibrary.F
  refine EvP.bind (szEs_ev a.entries l h0 h1 w1) fun r hr => ?_
  by_cases c : r < 0
  · simp (disch := omega) only [cpos]
    exact EvP.pure _ (fun h => by omega)
  simp (disch := omega) only [cneg]
  exact EvP.pure _ hr

/-! ### Copies -/
theorem toSp_l0 (xs : List ByteArray) (hlen : xs.length ≤ 1048576) : ∀ n i : Nat, i + n = xs.length → ∀ ys : List ByteArray, ys.length = xs.length → ys.take i = xs.take i → Ev (fun k => laws_toStringS_p.l0 k xs ys i) xs
  | 0, i, h, ys, hy, ht => by
    refine Ev.step (fun k => by rw [laws_toStringS_p.l0]) ?_
    simp (disch := omega) only [cneg]
    have : ys = xs := by
      rw [List.take_of_length_le (by omega), List.take_of_length_le (by omega)] at ht
      exact ht
    rw [this]; exact Ev.pure _
  | n + 1, i, h, ys, hy, ht => by
    have hi : i < xs.length := by omega
    refine Ev.step (fun k => by rw [laws_toStringS_p.l0]) ?_
    simp (disch := omega) only [cpos, Int.toNat_natCast, getD_at hi, wrap_in]
    exact toSp_l0 xs hlen n (i + 1) (by omega) (ys.set i xs[i]) (by simpa using hy) (by
      rw [List.take_add_one, List.take_add_one, List.take_set_of_le (Nat.le_refl i), ht]
      simp [show i < ys.length by omega, hi])
theorem toSp_ev (xs : List ByteArray) (hlen : xs.length ≤ 1048576) : Ev (fun k => laws_toStringS_p.F k xs) xs := by
  unfold laws_toStringS_p.F
  have hn : nb .str = 16 := rfl
  simp (disch := first | omega | (simp only [hn, Int.toNat_natCast]; omega)) only [ceq, cpos, cble]
  exact Ev.bind (a := xs) (toSp_l0 xs hlen xs.length 0 (by omega) _ (by simp) (by simp)) (Ev.pure _)
theorem toN_ev (a : Name) (hs : smallN a) : Ev (fun k => laws_toName_p.F k a) a := by
  unfold laws_toName_p.F
  exact Ev.bind (toSp_ev a.given (by unfold smallN totN at hs; omega)) (Ev.pure _)
theorem toNs_l0 (xs : List Name) (hs : ∀ x ∈ xs, smallN x) (hlen : xs.length ≤ 1048576) : ∀ n i : Nat, i + n = xs.length → ∀ ys : List Name, ys.length = xs.length → ys.take i = xs.take i → Ev (fun k => laws_toNameS_p.l0 k xs ys i) xs
  | 0, i, h, ys, hy, ht => by
    refine Ev.step (fun k => by rw [laws_toNameS_p.l0]) ?_
    simp (disch := omega) only [cneg]
    have : ys = xs := by
      rw [List.take_of_length_le (by omega), List.take_of_length_le (by omega)] at ht
      exact ht
    rw [this]; exact Ev.pure _
  | n + 1, i, h, ys, hy, ht => by
    have hi : i < xs.length := by omega
    refine Ev.step (fun k => by rw [laws_toNameS_p.l0]) ?_
    simp (disch := omega) only [cpos, Int.toNat_natCast, getD_at hi]
    refine Ev.bind (toN_ev _ (hs _ (List.getElem_mem hi))) ?_
    simp (disch := omega) only [cpos, wrap_in]
    exact toNs_l0 xs hs hlen n (i + 1) (by omega) (ys.set i xs[i]) (by simpa using hy) (by
      rw [List.take_add_one, List.take_add_one, List.take_set_of_le (Nat.le_refl i), ht]
      simp [show i < ys.length by omega, hi])
theorem toNs_ev (xs : List Name) (hs : ∀ x ∈ xs, smallN x) (hlen : xs.length ≤ 1048576) : Ev (fun k => laws_toNameS_p.F k xs) xs := by
  unfold laws_toNameS_p.F
  have hn : nb .name = 72 := rfl
  simp (disch := first | omega | (simp only [hn, Int.toNat_natCast]; omega)) only [ceq, cpos, cble]
  exact Ev.bind (a := xs) (toNs_l0 xs hs hlen xs.length 0 (by omega) _ (by simp) (by simp)) (Ev.pure _)
theorem toE_ev (a : Entry) (hs : smallE a) : Ev (fun k => laws_toEntry_p.F k a) a := by
  unfold laws_toEntry_p.F
  have ha := smallE_a hs
  have he := smallE_e hs
  exact Ev.bind (toNs_ev a.authors (fun x hx => smallNs_at ha hx) (smallNs_len ha)) (Ev.bind (toNs_ev a.editors (fun x hx => smallNs_at he hx) (smallNs_len he)) (Ev.pure _))
theorem toEs_l0 (xs : List Entry) (hs : ∀ x ∈ xs, smallE x) (hlen : xs.length ≤ 1048576) : ∀ n i : Nat, i + n = xs.length → ∀ ys : List Entry, ys.length = xs.length → ys.take i = xs.take i → Ev (fun k => laws_toEntryS_p.l0 k xs ys i) xs
  | 0, i, h, ys, hy, ht => by
    refine Ev.step (fun k => by rw [laws_toEntryS_p.l0]) ?_
    simp (disch := omega) only [cneg]
    have : ys = xs := by
      rw [List.take_of_length_le (by omega), List.take_of_length_le (by omega)] at ht
      exact ht
    rw [this]; exact Ev.pure _
  | n + 1, i, h, ys, hy, ht => by
    have hi : i < xs.length := by omega
    refine Ev.step (fun k => by rw [laws_toEntryS_p.l0]) ?_
    simp (disch := omega) only [cpos, Int.toNat_natCast, getD_at hi]
    refine Ev.bind (toE_ev _ (hs _ (List.getElem_mem hi))) ?_
    simp (disch := omega) only [cpos, wrap_in]
    exact toEs_l0 xs hs hlen n (i + 1) (by omega) (ys.set i xs[i]) (by simpa using hy) (by
      rw [List.take_add_one, List.take_add_one, List.take_set_of_le (Nat.le_refl i), ht]
      simp [show i < ys.length by omega, hi])
theorem toEs_ev (xs : List Entry) (hs : ∀ x ∈ xs, smallE x) (hlen : xs.length ≤ 1048576) : Ev (fun k => laws_toEntryS_p.F k xs) xs := by
  unfold laws_toEntryS_p.F
  have hn : nb .entry = 192 := rfl
  simp (disch := first | omega | (simp only [hn, Int.toNat_natCast]; omega)) only [ceq, cpos, cble]
  exact Ev.bind (a := xs) (toEs_l0 xs hs hlen xs.length 0 (by omega) _ (by simp) (by simp)) (Ev.pure _)
theorem toL_ev (a : Library) (hs : smallL a) : Ev (fun k => laws_toLibrary_p.F k a) a := by
  unfold laws_toLibrary_p.F
  exact Ev.bind (toEs_ev a.entries (fun x hx => smallL_at hs hx) (smallL_len hs)) (Ev.pure _)

/-! ### Equality -/
theorem eqN_ev (a : Name) (hs : smallN a) : Ev (fun k => laws_eqName.F k a a) true := by
  unfold laws_eqName.F
  refine Ev.bind (eqS_ev a.given (by unfold smallN totN at hs; omega)) ?_
  simp only [beqS_self, Bool.not_true, cond_false]
  exact Ev.pure _
theorem eqD_ev (a : Date) : laws_eqDate.F a a = some true := by
  unfold laws_eqDate.F
  simp only [bne_self_eq_false, beq_self_eq_true, Bool.not_true, cond_false]
theorem eqNs_l0 (xs : List Name) (hs : ∀ x ∈ xs, smallN x) (hlen : xs.length ≤ 1048576) : ∀ n i : Nat, i + n = xs.length → Ev (fun k => laws_eqNameS.l0 k xs xs i) (.inr ())
  | 0, i, h => by
    refine Ev.step (fun k => by rw [laws_eqNameS.l0]) ?_
    simp (disch := omega) only [cneg]
    exact Ev.pure _
  | n + 1, i, h => by
    have hi : i < xs.length := by omega
    refine Ev.step (fun k => by rw [laws_eqNameS.l0]) ?_
    simp (disch := omega) only [cpos, Int.toNat_natCast, getD_at hi]
    refine Ev.bind (eqN_ev _ (hs _ (List.getElem_mem hi))) ?_
    simp (disch := omega) only [Bool.not_true, cond_false, wrap_in]
    exact eqNs_l0 xs hs hlen n (i + 1) (by omega)
theorem eqNs_ev (xs : List Name) (hs : ∀ x ∈ xs, smallN x) (hlen : xs.length ≤ 1048576) : Ev (fun k => laws_eqNameS.F k xs xs) true := by
  unfold laws_eqNameS.F
  simp (disch := omega) only [cbeq]
  exact Ev.bind (eqNs_l0 xs hs hlen xs.length 0 (by omega)) (Ev.pure _)
theorem eqE_ev (a : Entry) (hs : smallE a) : Ev (fun k => laws_eqEntry.F k a a) true := by
  unfold laws_eqEntry.F
  have ha := smallE_a hs
  have he := smallE_e hs
  simp only [beqS_self, bne_self_eq_false, Bool.not_true, cond_false]
  refine Ev.bind (eqNs_ev a.authors (fun x hx => smallNs_at ha hx) (smallNs_len ha)) ?_
  simp only [Bool.not_true, cond_false]
  refine Ev.bind (eqNs_ev a.editors (fun x hx => smallNs_at he hx) (smallNs_len he)) ?_
  simp only [Bool.not_true, cond_false]
  refine Ev.bind0 (eqD_ev _) ?_
  simp only [Bool.not_true, cond_false]
  exact Ev.pure _
theorem eqEs_l0 (xs : List Entry) (hs : ∀ x ∈ xs, smallE x) (hlen : xs.length ≤ 1048576) : ∀ n i : Nat, i + n = xs.length → Ev (fun k => laws_eqEntryS.l0 k xs xs i) (.inr ())
  | 0, i, h => by
    refine Ev.step (fun k => by rw [laws_eqEntryS.l0]) ?_
    simp (disch := omega) only [cneg]
    exact Ev.pure _
  | n + 1, i, h => by
    have hi : i < xs.length := by omega
    refine Ev.step (fun k => by rw [laws_eqEntryS.l0]) ?_
    simp (disch := omega) only [cpos, Int.toNat_natCast, getD_at hi]
    refine Ev.bind (eqE_ev _ (hs _ (List.getElem_mem hi))) ?_
    simp (disch := omega) only [Bool.not_true, cond_false, wrap_in]
    exact eqEs_l0 xs hs hlen n (i + 1) (by omega)
theorem eqEs_ev (xs : List Entry) (hs : ∀ x ∈ xs, smallE x) (hlen : xs.length ≤ 1048576) : Ev (fun k => laws_eqEntryS.F k xs xs) true := by
  unfold laws_eqEntryS.F
  simp (disch := omega) only [cbeq]
  exact Ev.bind (eqEs_l0 xs hs hlen xs.length 0 (by omega)) (Ev.pure _)
theorem eqL_ev (a : Library) (hs : smallL a) : Ev (fun k => laws_eqLibrary.F k a a) true := by
  unfold laws_eqLibrary.F
  refine Ev.bind (eqEs_ev a.entries (fun x hx => smallL_at hs hx) (smallL_len hs)) ?_
  simp only [Bool.not_true, cond_false]
  exact Ev.pure _
end Go.Proofs.YtgihehbpbjejlaaGreatDoor
end
section
/- Plain laws: slices.IndexFunc, slices.DeleteFunc, as they are printed for a function value. -/
namespace Go.Gx
set_option linter.unusedVariables false
set_option linter.unusedSimpArgs false

section
variable {α : Type} {d : α} {p : α → Bool} {q : Nat → α → Option Bool} {xs : List α}
theorem getDat {α : Type} {xs : List α} {i : Nat} (h : i < xs.length) (d : α) : xs.getD i d = xs[i] := by simp [List.getD, List.getElem?_eq_getElem h]
theorem idx_l0 {l0 : Nat → List α → Int → Int → Option (Sum Int Unit)} (H : ∀ k x0 x7 x8, l0 (k + 1) x0 x7 x8 = bif (decide (x8 < x7)) then (bif decide (0 ≤ x8) then (bif decide (x8 < (x0.length : Int)) then ((q k (x0.getD (x8 : Int).toNat d)).bind fun r1 => bif r1 then (some (.inl x8)) else (l0 k x0 x7 (IntKind.wrap .i64 (x8 + 1)))) else none) else none) else (some (.inr ())))
    (hq : ∀ x, x ∈ xs → Ev (fun k => q k x) (p x)) (hl : xs.length ≤ 4611686018427387904) : ∀ n i : Nat, i + n = xs.length → (∀ x ∈ xs.take i, p x = false) →
    ∃ r, Ev (fun k => l0 k xs xs.length i) r ∧ ((r = .inr () ∧ ∀ x ∈ xs, p x = false) ∨ ∃ j : Nat, r = .inl j ∧ j < xs.length ∧ p (xs.getD j d) = true ∧ ∀ x ∈ xs.take j, p x = false)
  | 0, i, h, ht => by
    refine ⟨.inr (), Ev.step (fun k => by rw [H]) ?_, .inl ⟨rfl, by rw [List.take_of_length_le (by omega)] at ht; exact ht⟩⟩
    simp (disch := omega) only [cneg]
    exact Ev.pure _
  | n + 1, i, h, ht => by
    have hi : i < xs.length := by omega
    cases hp : p xs[i] with
    | true =>
      refine ⟨.inl i, Ev.step (fun k => by rw [H]) ?_, .inr ⟨i, rfl, hi, by rw [getDat hi, hp], ht⟩⟩
      simp (disch := omega) only [cpos, Int.toNat_natCast, getDat hi]
      refine Ev.bind (hq _ (List.getElem_mem hi)) ?_
      rw [hp]
      exact Ev.pure _
    | false =>
      obtain ⟨r, h1, h2⟩ := idx_l0 H hq hl n (i + 1) (by omega) (by
        intro x hx
        rw [List.take_add_one, List.getElem?_eq_getElem hi] at hx
        rcases List.mem_append.1 hx with hx | hx
        · exact ht x hx
        · simp only [Option.toList_some, List.mem_singleton] at hx
          rw [hx, hp])
      refine ⟨r, Ev.step (fun k => by rw [H]) ?_, h2⟩
      simp (disch := omega) only [cpos, Int.toNat_natCast, getDat hi]
      refine Ev.bind (hq _ (List.getElem_mem hi)) ?_
      rw [hp]
      simp (disch := omega) only [cond_false, wrap_in]
      exact h1
theorem idx_ev {l0 : Nat → List α → Int → Int → Option (Sum Int Unit)} (H : ∀ k x0 x7 x8, l0 (k + 1) x0 x7 x8 = bif (decide (x8 < x7)) then (bif decide (0 ≤ x8) then (bif decide (x8 < (x0.length : Int)) then ((q k (x0.getD (x8 : Int).toNat d)).bind fun r1 => bif r1 then (some (.inl x8)) else (l0 k x0 x7 (IntKind.wrap .i64 (x8 + 1)))) else none) else none) else (some (.inr ())))
    (hq : ∀ x, x ∈ xs → Ev (fun k => q k x) (p x)) (hl : xs.length ≤ 4611686018427387904) {F : Nat → List α → Option Int} (HF : ∀ k a0, F k a0 = (l0 k a0 (a0.length : Int) 0).bind fun y2 => match y2 with | .inl z3 => some z3 | .inr z3 => some (-1)) :
    ∃ r, Ev (fun k => F k xs) r ∧ ((r = -1 ∧ ∀ x ∈ xs, p x = false) ∨ ∃ j : Nat, r = j ∧ j < xs.length ∧ p (xs.getD j d) = true ∧ ∀ x ∈ xs.take j, p x = false) := by
  obtain ⟨r, h1, h2⟩ := idx_l0 H hq hl xs.length 0 (by omega) (fun x hx => by simp at hx)
  rcases h2 with ⟨rfl, h2⟩ | ⟨j, rfl, h2⟩
  · exact ⟨-1, Ev.congr (Ev.bind h1 (Ev.pure _)) (fun k => HF k xs), .inl ⟨rfl, h2⟩⟩
  · exact ⟨j, Ev.congr (Ev.bind h1 (Ev.pure _)) (fun k => HF k xs), .inr ⟨j, rfl, h2⟩⟩
theorem del_l0 {l0 : Nat → List α → Int → Int → Option (List α × Int)} (H : ∀ k x0 x5 x6, l0 (k + 1) x0 x5 x6 = bif (decide (x6 < (x0.length : Int))) then (bif decide (0 ≤ x6) then (bif decide (x6 < (x0.length : Int)) then ((q k (x0.getD ((x6 : Int).toNat) d)).bind fun r2 => bif (!r2) then (bif decide (0 ≤ x5) then (bif decide (x5 < (x0.length : Int)) then (l0 k (x0.set ((x5 : Int).toNat) (x0.getD ((x6 : Int).toNat) d)) (IntKind.wrap .i64 (x5 + 1)) (IntKind.wrap .i64 (x6 + 1))) else none) else none) else (l0 k x0 x5 (IntKind.wrap .i64 (x6 + 1)))) else none) else none) else (some (x0, x5)))
    (hq : ∀ x, x ∈ xs → Ev (fun k => q k x) (p x)) (hl : xs.length ≤ 4611686018427387904) : ∀ n j : Nat, j + n = xs.length → ∀ (ys : List α) (i : Nat), ys.length = xs.length → i ≤ j → ys.drop j = xs.drop j →
    ∃ zs, ∃ i' : Nat, Ev (fun k => l0 k ys i j) (zs, (i' : Int)) ∧ i' ≤ xs.length ∧ zs.length = xs.length ∧ zs.take i' = ys.take i ++ (xs.drop j).filter fun x => !p x
  | 0, j, h, ys, i, hy, hij, hd => by
    refine ⟨ys, i, Ev.step (fun k => by rw [H]) ?_, by omega, hy, ?_⟩
    · simp (disch := omega) only [cneg]
      exact Ev.pure _
    · rw [List.drop_eq_nil_of_le (by omega), List.filter_nil, List.append_nil]
  | n + 1, j, h, ys, i, hy, hij, hd => by
    have hj : j < xs.length := by omega
    have hj' : j < ys.length := by omega
    have hx : ys[j] = xs[j] := by
      have h0 := congrArg (·[0]?) hd
      simpa [hj, hj'] using h0
    have hd1 : ys.drop (j + 1) = xs.drop (j + 1) := by
      have := congrArg (List.drop 1) hd
      simpa [List.drop_drop] using this
    cases hp : p xs[j] with
    | true =>
      obtain ⟨zs, i', h1, h2, h3, h4⟩ := del_l0 H hq hl n (j + 1) (by omega) ys i hy (by omega) hd1
      refine ⟨zs, i', Ev.step (fun k => by rw [H]) ?_, h2, h3, ?_⟩
      · simp (disch := omega) only [cpos, Int.toNat_natCast, getDat hj', hx]
        refine Ev.bind (hq _ (List.getElem_mem hj)) ?_
        rw [hp]
        simp (disch := omega) only [Bool.not_true, cond_false, wrap_in]
        exact h1
      · rw [h4, List.drop_eq_getElem_cons hj, List.filter_cons_of_neg (by rw [hp]; decide)]
    | false =>
      obtain ⟨zs, i', h1, h2, h3, h4⟩ := del_l0 H hq hl n (j + 1) (by omega) (ys.set i xs[j]) (i + 1) (by simpa using hy) (by omega) (by rw [List.drop_set_of_lt (by omega)]; exact hd1)
      refine ⟨zs, i', Ev.step (fun k => by rw [H]) ?_, h2, h3, ?_⟩
      · simp (disch := omega) only [cpos, Int.toNat_natCast, getDat hj', hx]
        refine Ev.bind (hq _ (List.getElem_mem hj)) ?_
        rw [hp]
        simp (disch := omega) only [Bool.not_false, cond_true, cpos, Int.toNat_natCast, wrap_in]
        exact h1
      · rw [h4, List.drop_eq_getElem_cons hj, List.filter_cons_of_pos (by rw [hp]; decide), List.take_add_one, List.take_set_of_le (Nat.le_refl i)]
        have : (ys.set i xs[j])[i]? = some xs[j] := by rw [List.getElem?_set_self (by omega)]
        rw [this]
        simp
theorem delete_ev {l0 : Nat → List α → Int → Int → Option (List α × Int)} (H : ∀ k x0 x5 x6, l0 (k + 1) x0 x5 x6 = bif (decide (x6 < (x0.length : Int))) then (bif decide (0 ≤ x6) then (bif decide (x6 < (x0.length : Int)) then ((q k (x0.getD ((x6 : Int).toNat) d)).bind fun r2 => bif (!r2) then (bif decide (0 ≤ x5) then (bif decide (x5 < (x0.length : Int)) then (l0 k (x0.set ((x5 : Int).toNat) (x0.getD ((x6 : Int).toNat) d)) (IntKind.wrap .i64 (x5 + 1)) (IntKind.wrap .i64 (x6 + 1))) else none) else none) else (l0 k x0 x5 (IntKind.wrap .i64 (x6 + 1)))) else none) else none) else (some (x0, x5)))
    (hq : ∀ x, x ∈ xs → Ev (fun k => q k x) (p x)) (hl : xs.length ≤ 4611686018427387904) {I F : Nat → List α → Option _} {e : α}
    (hI : ∃ r : Int, Ev (fun k => I k xs) r ∧ ((r = -1 ∧ ∀ x ∈ xs, p x = false) ∨ ∃ j : Nat, r = j ∧ j < xs.length ∧ p (xs.getD j d) = true ∧ ∀ x ∈ xs.take j, p x = false))
    (HF : ∀ k a0, F k a0 = (I k a0).bind fun r1 => bif (r1 == (-1)) then (some a0) else ((l0 k a0 r1 (IntKind.wrap .i64 (r1 + 1))).bind fun y3 => bif decide (0 ≤ y3.2) then (bif decide (y3.2 ≤ (y3.1.length : Int)) then (bif decide (0 ≤ y3.2) then (bif decide (y3.2 ≤ ((y3.1.take ((y3.2 : Int).toNat) ++ List.replicate (y3.1.length - ((y3.2 : Int).toNat)) e).length : Int)) then (some ((y3.1.take ((y3.2 : Int).toNat) ++ List.replicate (y3.1.length - ((y3.2 : Int).toNat)) e).take (y3.2 : Int).toNat)) else none) else none) else none) else none)) :
    Ev (fun k => F k xs) (xs.filter fun x => !p x) := by
  obtain ⟨r, h1, h2⟩ := hI
  refine Ev.congr (?_ : Ev _ _) (fun k => HF k xs)
  refine Ev.bind h1 ?_
  rcases h2 with ⟨rfl, h2⟩ | ⟨j, rfl, hj, hp, h2⟩
  · have : (xs.filter fun x => !p x) = xs := List.filter_eq_self.2 fun x hx => by rw [h2 x hx]; rfl
    rw [this]
    exact Ev.pure _
  · obtain ⟨zs, i', h3, h4, h5, h6⟩ := del_l0 H hq hl (xs.length - (j + 1)) (j + 1) (by omega) xs j rfl (by omega) rfl
    rw [getDat hj] at hp
    have hz : zs.take i' = xs.filter fun x => !p x := by
      rw [h6]
      conv => rhs; rw [← List.take_append_drop j xs, List.filter_append, List.drop_eq_getElem_cons hj, List.filter_cons_of_neg (by rw [hp]; decide)]
      congr 1
      exact (List.filter_eq_self.2 fun x hx => by rw [h2 x hx]; rfl).symm
    simp (disch := omega) only [cne, wrap_in]
    refine Ev.bind h3 ?_
    have e1 : ((zs.take i' ++ List.replicate (zs.length - i') e)).length = zs.length := by simp; omega
    simp (disch := (try simp only [Int.toNat_natCast, e1]); omega) only [cpos, Int.toNat_natCast, e1]
    rw [List.take_append_of_le_length (by simp; omega), List.take_take, Nat.min_self, hz]
    exact Ev.pure _
end
end Go.Gx
end
section
/- Plain laws: keys, names, dates, entries, libraries: are they valid? -/
namespace Go.Proofs.YtgihehbpbjejlaaGreatDoor
open Go.Gx
set_option linter.unusedVariables false
set_option linter.unusedSimpArgs false

theorem in_ev (a b c : Int) : spec_l1In.F a b c = some (decide (a ≥ b) && decide (a ≤ c)) := by
  unfold spec_l1In.F
  cases decide (a ≥ b) <;> rfl
theorem inside_ev (a b c : Int) : impl_inside.F a b c = some (decide (a ≥ b) && decide (a ≤ c)) := by
  unfold impl_inside.F
  cases decide (a ≥ b) <;> rfl
theorem and_step {f : Nat → Option Bool} {b c : Bool} (h : b = true → Ev f c) : Ev (fun k => bif (!b) then some false else f k) (b && c) := by
  cases b with
  | false => exact Ev.pure _
  | true => exact h rfl
theorem and_step' {f : Nat → Option Bool} {b c : Bool} (h : b = true → Ev f c) : Ev (fun k => bif b then f k else some false) (b && c) := by
  cases b with
  | false => exact Ev.pure _
  | true => exact h rfl
theorem cbx (b : Bool) {α : Type} (x : α) : (bif b then x else x) = x := by cases b <;> rfl

/-! ### Bytes -/
def lowc (b : Int) : Bool := decide (97 ≤ b) && decide (b ≤ 122)
def upc (b : Int) : Bool := decide (65 ≤ b) && decide (b ≤ 90)
def ltr (b : Int) : Bool := upc b || lowc b
def dig (b : Int) : Bool := decide (48 ≤ b) && decide (b ≤ 57)
theorem sLower (b : Int) : spec_l2Lower.F b = some (lowc b) := by
  unfold spec_l2Lower.F lowc
  simp only [ge_iff_le]
  cases decide (97 ≤ b) <;> rfl
theorem sUpper (b : Int) : spec_l2Upper.F b = some (upc b) := by
  unfold spec_l2Upper.F upc
  simp only [ge_iff_le]
  cases decide (65 ≤ b) <;> rfl
theorem sLetter (b : Int) : spec_l2Letter.F b = some (ltr b) := by
  unfold spec_l2Letter.F ltr
  rw [sUpper, sLower]
  cases upc b <;> rfl
theorem iLower (b : Int) : impl_isLower.F b = some (lowc b) := by
  unfold impl_isLower.F lowc
  simp only [ge_iff_le]
  cases decide (97 ≤ b) <;> rfl
theorem iUpper (b : Int) : impl_isUpper.F b = some (upc b) := by
  unfold impl_isUpper.F upc
  simp only [ge_iff_le]
  cases decide (65 ≤ b) <;> rfl
theorem iLetter (b : Int) : impl_isLetter.F b = some (ltr b) := by
  unfold impl_isLetter.F ltr
  rw [iUpper, iLower]
  cases upc b <;> rfl
theorem iDigit (b : Int) : impl_isDigit.F b = some (dig b) := by
  unfold impl_isDigit.F dig
  simp only [ge_iff_le]
  cases decide (48 ≤ b) <;> rfl
def ins (n : Nat) (lo hi : Int) : Bool := decide ((n : Int) ≥ lo) && decide ((n : Int) ≤ hi)
theorem ins_le {n : Nat} {lo hi : Int} (h : ins n lo hi = true) : lo ≤ n ∧ (n : Int) ≤ hi := by
  unfold ins at h
  simp only [Bool.and_eq_true, decide_eq_true_eq] at h
  exact h

/-! ### Keys -/
def kb (s : ByteArray) (i : Nat) : Bool := lowc (bt s i) || dig (bt s i)
def keyB (s : ByteArray) : Bool := ins s.size 1 10 && (lowc (bt s 0) && (List.range' 0 s.size).all (kb s))
theorem specKey_l0 (s : ByteArray) (hs : s.size ≤ 10) : Ev (fun k => spec_l4Key.l0 k s ((0 : Nat) : Int)) (if (List.range' 0 s.size).all (kb s) = true then .inr () else .inl false) := by
  refine loop_all (f := fun k i => spec_l4Key.l0 k s i) (n := s.size) (fun i hi hp => ?_) (fun i r hi hp ih => ?_) ?_ s.size 0 (by omega)
  · refine Ev.step (fun k => by rw [spec_l4Key.l0]) ?_
    unfold kb at hp
    rw [Bool.or_eq_false_iff] at hp
    simp (disch := omega) only [cpos, Int.toNat_natCast]
    refine Ev.bind0 (sLower _) ?_
    rw [hp.1]
    have h2 := hp.2
    unfold dig at h2
    by_cases c : bt s i < 48
    · simp (disch := omega) only [cpos, Bool.not_false, cond_true]
      exact Ev.pure _
    · have c2 : bt s i > 57 := by
        rw [decide_eq_true (show 48 ≤ bt s i by omega), Bool.true_and, decide_eq_false_iff_not] at h2
        omega
      simp (disch := omega) only [cpos, cneg, Bool.not_false, cond_true]
      exact Ev.pure _
  · refine Ev.step (fun k => by rw [spec_l4Key.l0]) ?_
    simp (disch := omega) only [cpos, Int.toNat_natCast]
    refine Ev.bind0 (sLower _) ?_
    cases hl : lowc (bt s i) with
    | true =>
      simp (disch := omega) only [Bool.not_true, cond_false, wrap_in]
      exact ih
    | false =>
      unfold kb at hp
      rw [hl, Bool.false_or] at hp
      unfold dig at hp
      simp only [Bool.and_eq_true, decide_eq_true_eq] at hp
      simp (disch := omega) only [Bool.not_false, cond_true, cpos, cneg, wrap_in]
      exact ih
  · refine Ev.step (fun k => by rw [spec_l4Key.l0]) ?_
    simp (disch := omega) only [cneg]
    exact Ev.pure _
theorem isKey_l0 (s : ByteArray) (hs : s.size ≤ 10) : Ev (fun k => impl_isKey.l0 k s ((0 : Nat) : Int)) (if (List.range' 0 s.size).all (kb s) = true then .inr () else .inl false) := by
  refine loop_all (f := fun k i => impl_isKey.l0 k s i) (n := s.size) (fun i hi hp => ?_) (fun i r hi hp ih => ?_) ?_ s.size 0 (by omega)
  · refine Ev.step (fun k => by rw [impl_isKey.l0]) ?_
    unfold kb at hp
    rw [Bool.or_eq_false_iff] at hp
    simp (disch := omega) only [cpos, Int.toNat_natCast]
    refine Ev.bind0 (iLower _) ?_
    rw [hp.1]
    simp (disch := omega) only [Bool.not_false, cond_true, cpos]
    refine Ev.bind0 (iDigit _) ?_
    rw [hp.2]
    exact Ev.pure _
  · refine Ev.step (fun k => by rw [impl_isKey.l0]) ?_
    simp (disch := omega) only [cpos, Int.toNat_natCast]
    refine Ev.bind0 (iLower _) ?_
    cases hl : lowc (bt s i) with
    | true =>
      simp (disch := omega) only [Bool.not_true, cond_false, wrap_in]
      exact ih
    | false =>
      unfold kb at hp
      rw [hl, Bool.false_or] at hp
      simp (disch := omega) only [Bool.not_false, cond_true, cpos]
      refine Ev.bind0 (iDigit _) ?_
      rw [hp]
      simp (disch := omega) only [Bool.not_true, cond_false, wrap_in]
      exact ih
  · refine Ev.step (fun k => by rw [impl_isKey.l0]) ?_
    simp (disch := omega) only [cneg]
    exact Ev.pure _
theorem specKey_ev (s : ByteArray) : Ev (fun k => spec_l4Key.F k s) (keyB s) := by
  unfold spec_l4Key.F keyB
  refine Ev.bind0 (in_ev _ _ _) (and_step fun h => ?_)
  obtain ⟨h1, h2⟩ := ins_le h
  simp (disch := omega) only [cpos, show (0 : Int).toNat = 0 from rfl]
  refine Ev.bind0 (sLower _) (and_step fun _ => ?_)
  have := specKey_l0 s (by omega)
  cases ha : (List.range' 0 s.size).all (kb s) with
  | true => rw [ha] at this; exact Ev.bind this (Ev.pure _)
  | false => rw [ha] at this; exact Ev.bind this (Ev.pure _)
theorem isKey_ev (s : ByteArray) : Ev (fun k => impl_isKey.F k s) (keyB s) := by
  unfold impl_isKey.F keyB
  refine Ev.bind0 (inside_ev _ _ _) (and_step fun h => ?_)
  obtain ⟨h1, h2⟩ := ins_le h
  simp (disch := omega) only [cpos, show (0 : Int).toNat = 0 from rfl]
  refine Ev.bind0 (iLower _) (and_step fun _ => ?_)
  have := isKey_l0 s (by omega)
  cases ha : (List.range' 0 s.size).all (kb s) with
  | true => rw [ha] at this; exact Ev.bind this (Ev.pure _)
  | false => rw [ha] at this; exact Ev.bind this (Ev.pure _)

/-! ### Words of names -/
def wp (s : ByteArray) (i : Nat) : Bool := ltr (bt s i) || ((bt s i == 45 || bt s i == 39) && ltr (bt s (i - 1)))
def wordB (s : ByteArray) : Bool := ins s.size 1 12 && (ltr (bt s 0) && (ltr (bt s (s.size - 1)) && (List.range' 1 (s.size - 1)).all (wp s)))
theorem wcase {s : ByteArray} {i : Nat} (h : ltr (bt s i) = false) (h1 : bt s i ≠ 45) (h2 : bt s i ≠ 39) : wp s i = false := by
  unfold wp
  rw [h, show (bt s i == 45) = false by simpa using h1, show (bt s i == 39) = false by simpa using h2]; rfl
theorem wcase' {s : ByteArray} {i : Nat} (h : ltr (bt s i) = false) (h1 : bt s i = 45 ∨ bt s i = 39) : wp s i = ltr (bt s (i - 1)) := by
  unfold wp
  rw [h]
  rcases h1 with h1 | h1 <;> rw [h1] <;> simp
theorem specWord_l0 (s : ByteArray) (hs : s.size ≤ 12) : ∀ m i : Nat, i + m = s.size → 1 ≤ i → Ev (fun k => spec_l2Word.l0 k s i) (if (List.range' i m).all (wp s) = true then .inr () else .inl false)
  | 0, i, h, h1 => by
    refine Ev.step (fun k => by rw [spec_l2Word.l0]) ?_
    simp (disch := omega) only [cneg]
    exact Ev.pure _
  | m + 1, i, h, h1 => by
    have ih := specWord_l0 s hs m (i + 1) (by omega) (by omega)
    have et : ((i : Int) - 1).toNat = i - 1 := by omega
    refine Ev.step (fun k => by rw [spec_l2Word.l0]) ?_
    rw [List.range'_succ, List.all_cons]
    simp (disch := omega) only [cpos, Int.toNat_natCast]
    refine Ev.bind0 (sLetter _) ?_
    cases hl : ltr (bt s i) with
    | true =>
      have : wp s i = true := by unfold wp; rw [hl]; rfl
      rw [this]
      simp (disch := omega) only [Bool.not_true, cond_false, Bool.true_and, wrap_in]
      exact ih
    | false =>
      have fin : (bt s i = 45 ∨ bt s i = 39) → Ev (fun k => (spec_l2Letter.F (bt s (i - 1))).bind fun r5 => bif (!r5) then (some (.inl false)) else (spec_l2Word.l0 k s ((i : Int) + 1))) (if (wp s i && (List.range' (i + 1) m).all (wp s)) = true then .inr () else .inl false) := fun hh => by
        refine Ev.bind0 (sLetter _) ?_
        rw [wcase' hl hh]
        cases ltr (bt s (i - 1)) with
        | true => exact ih
        | false => exact Ev.pure _
      by_cases c1 : bt s i = 45
      · simp (disch := first | exact c1 | omega) only [Bool.not_false, cond_true, cpos, cbeq, wrap_in, et]
        exact fin (.inl c1)
      · by_cases c2 : bt s i = 39
        · simp (disch := first | exact c1 | exact c2 | omega) only [Bool.not_false, cond_true, cpos, cbne, cbeq, wrap_in, et]
          exact fin (.inr c2)
        · rw [wcase hl c1 c2]
          simp (disch := first | exact c1 | exact c2 | omega) only [Bool.not_false, cond_true, cpos, cbne]
          exact Ev.pure _
theorem isWord_l0 (s : ByteArray) (hs : s.size ≤ 12) : ∀ m i : Nat, i + m = s.size → 1 ≤ i → Ev (fun k => impl_isNameWord.l0 k s i) (if (List.range' i m).all (wp s) = true then .inr () else .inl false)
  | 0, i, h, h1 => by
    refine Ev.step (fun k => by rw [impl_isNameWord.l0]) ?_
    simp (disch := omega) only [cneg]
    exact Ev.pure _
  | m + 1, i, h, h1 => by
    have ih := isWord_l0 s hs m (i + 1) (by omega) (by omega)
    have et : ((i : Int) - 1).toNat = i - 1 := by omega
    refine Ev.step (fun k => by rw [impl_isNameWord.l0]) ?_
    rw [List.range'_succ, List.all_cons]
    simp (disch := omega) only [cpos, Int.toNat_natCast]
    refine Ev.bind0 (iLetter _) ?_
    cases hl : ltr (bt s i) with
    | true =>
      have : wp s i = true := by unfold wp; rw [hl]; rfl
      rw [this]
      simp (disch := omega) only [Bool.not_true, cond_false, Bool.true_and, wrap_in]
      exact ih
    | false =>
      have fin : (bt s i = 45 ∨ bt s i = 39) → Ev (fun k => (impl_isLetter.F (bt s (i - 1))).bind fun r5 => bif (!r5) then (some (.inl false)) else (impl_isNameWord.l0 k s ((i : Int) + 1))) (if (wp s i && (List.range' (i + 1) m).all (wp s)) = true then .inr () else .inl false) := fun hh => by
        refine Ev.bind0 (iLetter _) ?_
        rw [wcase' hl hh]
        cases ltr (bt s (i - 1)) with
        | true => exact ih
        | false => exact Ev.pure _
      by_cases c1 : bt s i = 45
      · simp (disch := first | exact c1 | omega) only [Bool.not_false, cond_true, cpos, cbeq, wrap_in, et]
        exact fin (.inl c1)
      · by_cases c2 : bt s i = 39
        · simp (disch := first | exact c1 | exact c2 | omega) only [Bool.not_false, cond_true, cpos, cbne, cbeq, wrap_in, et]
          exact fin (.inr c2)
        · rw [wcase hl c1 c2]
          simp (disch := first | exact c1 | exact c2 | omega) only [Bool.not_false, cond_true, cpos, cbne]
          exact Ev.pure _
theorem specWord_ev (s : ByteArray) : Ev (fun k => spec_l2Word.F k s) (wordB s) := by
  unfold spec_l2Word.F wordB
  refine Ev.bind0 (in_ev _ _ _) (and_step fun h => ?_)
  obtain ⟨h1, h2⟩ := ins_le h
  have et : ((s.size : Int) - 1).toNat = s.size - 1 := by omega
  simp (disch := omega) only [cpos, show (0 : Int).toNat = 0 from rfl, wrap_in, et]
  refine Ev.bind0 (sLetter _) (and_step fun _ => ?_)
  refine Ev.bind0 (sLetter _) (and_step fun _ => ?_)
  have := specWord_l0 s (by omega) (s.size - 1) 1 (by omega) (Nat.le_refl _)
  cases ha : (List.range' 1 (s.size - 1)).all (wp s) with
  | true => rw [ha] at this; exact Ev.bind this (Ev.pure _)
  | false => rw [ha] at this; exact Ev.bind this (Ev.pure _)
theorem isWord_ev (s : ByteArray) : Ev (fun k => impl_isNameWord.F k s) (wordB s) := by
  unfold impl_isNameWord.F wordB
  refine Ev.bind0 (inside_ev _ _ _) (and_step fun h => ?_)
  obtain ⟨h1, h2⟩ := ins_le h
  have et : ((s.size : Int) - 1).toNat = s.size - 1 := by omega
  simp (disch := omega) only [cpos, show (0 : Int).toNat = 0 from rfl, wrap_in, et]
  refine (Ev.bind0 (iLetter _) (and_step (c := ltr (bt s 0) && (List.range' 1 (s.size - 1)).all (wp s)) fun _ => ?_)).eq (Bool.and_left_comm _ _ _)
  refine Ev.bind0 (iLetter _) (and_step fun h0 => ?_)
  have := isWord_l0 s (by omega) (s.size - 1) 1 (by omega) (Nat.le_refl _)
  refine Ev.bind (a := if (List.range' 1 (s.size - 1)).all (wp s) = true then .inr () else .inl false) ?_ ?_
  · refine Ev.step (fun k => by rw [impl_isNameWord.l0]) ?_
    simp (disch := omega) only [cpos, show (0 : Int).toNat = 0 from rfl]
    refine Ev.bind0 (iLetter _) ?_
    rw [h0]
    simp (disch := omega) only [Bool.not_true, cond_false, wrap_in]
    exact this
  · cases (List.range' 1 (s.size - 1)).all (wp s) <;> exact Ev.pure _

/-! ### Particles -/
def lowA (s : ByteArray) : Bool := (List.range' 0 s.size).all fun i => lowc (bt s i)
theorem lowA_word {s : ByteArray} (h : lowA s = true) : wordB s = ins s.size 1 12 := by
  unfold lowA at h
  rw [List.all_eq_true] at h
  have hl : ∀ i, i < s.size → ltr (bt s i) = true := fun i hi => by
    unfold ltr
    rw [h i (by rw [List.mem_range'_1]; omega), Bool.or_true]
  unfold wordB
  cases hi : ins s.size 1 12 with
  | false => rfl
  | true =>
    obtain ⟨h1, h2⟩ := ins_le hi
    rw [hl 0 (by omega), hl (s.size - 1) (by omega)]
    have : (List.range' 1 (s.size - 1)).all (wp s) = true := by
      rw [List.all_eq_true]
      intro i hi
      rw [List.mem_range'_1] at hi
      unfold wp
      rw [hl i (by omega)]; rfl
    rw [this]; rfl
def pw (s : ByteArray) : Bool := ins s.size 1 12 && lowA s
theorem pw_eq (s : ByteArray) : (wordB s && lowA s) = pw s := by
  unfold pw
  cases h : lowA s with
  | false => rw [Bool.and_false, Bool.and_false]
  | true => rw [lowA_word h]
def particleB (s : ByteArray) : Bool := decide (s.size = 0) || ((words s).all pw && decide ((words s).length ≤ 2))
theorem empty_eq (s : ByteArray) : beqS s ⟨#[]⟩ = decide (s.size = 0) := by
  rw [← Bool.not_not (b := beqS s ⟨#[]⟩), size_pos]
  by_cases hz : s.size = 0
  · simp [hz]
  · rw [decide_eq_true (by omega : 0 < s.size), decide_eq_false hz]; rfl
theorem specPart_l2 (W : List ByteArray) (i : Nat) (hi : i < W.length) (hs : W[i].size ≤ 1048576) : Ev (fun k => spec_l2Particle.l2 k W i ((0 : Nat) : Int)) (if lowA W[i] = true then .inr (W, (i : Int)) else .inl false) := by
  refine loop_all (f := fun k j => spec_l2Particle.l2 k W i j) (n := W[i].size) (p := fun j => lowc (bt W[i] j)) (fun j hj hp => ?_) (fun j r hj hp ih => ?_) ?_ W[i].size 0 (by omega)
  · refine Ev.step (fun k => by rw [spec_l2Particle.l2]) ?_
    simp (disch := omega) only [cpos, Int.toNat_natCast, getD_at hi]
    refine Ev.bind0 (sLower _) ?_
    rw [hp]
    exact Ev.pure _
  · refine Ev.step (fun k => by rw [spec_l2Particle.l2]) ?_
    simp (disch := omega) only [cpos, Int.toNat_natCast, getD_at hi]
    refine Ev.bind0 (sLower _) ?_
    rw [hp]
    simp (disch := omega) only [Bool.not_true, cond_false, wrap_in]
    exact ih
  · refine Ev.step (fun k => by rw [spec_l2Particle.l2]) ?_
    simp (disch := omega) only [cpos, cneg, Int.toNat_natCast, getD_at hi]
    exact Ev.pure _
theorem isPart_l2 (W : List ByteArray) (w : ByteArray) (n i : Int) (hs : w.size ≤ 1048576) : Ev (fun k => impl_isParticle.l2 k W w ((0 : Nat) : Int) n i) (if lowA w = true then .inr (W, n, i) else .inl false) := by
  refine loop_all (f := fun k j => impl_isParticle.l2 k W w j n i) (n := w.size) (p := fun j => lowc (bt w j)) (fun j hj hp => ?_) (fun j r hj hp ih => ?_) ?_ w.size 0 (by omega)
  · refine Ev.step (fun k => by rw [impl_isParticle.l2]) ?_
    simp (disch := omega) only [cpos, Int.toNat_natCast]
    refine Ev.bind0 (iLower _) ?_
    rw [hp]
    exact Ev.pure _
  · refine Ev.step (fun k => by rw [impl_isParticle.l2]) ?_
    simp (disch := omega) only [cpos, Int.toNat_natCast]
    refine Ev.bind0 (iLower _) ?_
    rw [hp]
    simp (disch := omega) only [Bool.not_true, cond_false, wrap_in]
    exact ih
  · refine Ev.step (fun k => by rw [impl_isParticle.l2]) ?_
    simp (disch := omega) only [cneg]
    exact Ev.pure _
theorem specPart_l0 (W : List ByteArray) (hl : W.length ≤ 1048577) (hW : ∀ x ∈ W, x.size ≤ 1048576) : Ev (fun k => spec_l2Particle.l0 k W ((0 : Nat) : Int)) (if (List.range' 0 W.length).all (fun i => pw (W.getD i ⟨#[]⟩)) = true then .inr W else .inl false) := by
  refine loop_all (f := fun k j => spec_l2Particle.l0 k W j) (n := W.length) (p := fun i => pw (W.getD i ⟨#[]⟩)) (fun j hj hp => ?_) (fun j r hj hp ih => ?_) ?_ W.length 0 (by omega)
  · rw [getD_at hj, ← pw_eq] at hp
    refine Ev.step (fun k => by rw [spec_l2Particle.l0]) ?_
    simp (disch := omega) only [cpos, Int.toNat_natCast, getD_at hj]
    refine Ev.bind (specWord_ev _) ?_
    cases hw : wordB W[j] with
    | false => exact Ev.pure _
    | true =>
      rw [hw, Bool.true_and] at hp
      have := specPart_l2 W j hj (hW _ (List.getElem_mem hj))
      rw [hp] at this
      exact Ev.bind this (Ev.pure _)
  · rw [getD_at hj, ← pw_eq, Bool.and_eq_true] at hp
    refine Ev.step (fun k => by rw [spec_l2Particle.l0]) ?_
    simp (disch := omega) only [cpos, Int.toNat_natCast, getD_at hj]
    refine Ev.bind (specWord_ev _) ?_
    rw [hp.1]
    have := specPart_l2 W j hj (hW _ (List.getElem_mem hj))
    rw [hp.2] at this
    refine Ev.bind (a := .inr (W, (j : Int))) this ?_
    simp (disch := omega) only [wrap_in]
    exact ih
  · refine Ev.step (fun k => by rw [spec_l2Particle.l0]) ?_
    simp (disch := omega) only [cneg]
    exact Ev.pure _
theorem isPart_l0 (W : List ByteArray) (hl : W.length ≤ 1048577) (hW : ∀ x ∈ W, x.size ≤ 1048576) : Ev (fun k => impl_isParticle.l0 k W W.length ((0 : Nat) : Int)) (if (List.range' 0 W.length).all (fun i => pw (W.getD i ⟨#[]⟩)) = true then .inr W else .inl false) := by
  refine loop_all (f := fun k j => impl_isParticle.l0 k W W.length j) (n := W.length) (p := fun i => pw (W.getD i ⟨#[]⟩)) (fun j hj hp => ?_) (fun j r hj hp ih => ?_) ?_ W.length 0 (by omega)
  · rw [getD_at hj] at hp
    unfold pw at hp
    refine Ev.step (fun k => by rw [impl_isParticle.l0]) ?_
    simp (disch := omega) only [cpos, Int.toNat_natCast, getD_at hj]
    refine Ev.bind0 (inside_ev _ _ _) ?_
    cases hw : ins W[j].size 1 12 with
    | false =>
      unfold ins at hw
      rw [hw]
      exact Ev.pure _
    | true =>
      rw [hw, Bool.true_and] at hp
      unfold ins at hw
      rw [hw]
      have := isPart_l2 W W[j] W.length j (hW _ (List.getElem_mem hj))
      rw [hp] at this
      exact Ev.bind this (Ev.pure _)
  · rw [getD_at hj] at hp
    unfold pw at hp
    rw [Bool.and_eq_true] at hp
    obtain ⟨hp1, hp2⟩ := hp
    unfold ins at hp1
    refine Ev.step (fun k => by rw [impl_isParticle.l0]) ?_
    simp (disch := omega) only [cpos, Int.toNat_natCast, getD_at hj]
    refine Ev.bind0 (inside_ev _ _ _) ?_
    rw [hp1]
    have := isPart_l2 W W[j] W.length j (hW _ (List.getElem_mem hj))
    rw [hp2] at this
    refine Ev.bind (a := .inr (W, (W.length : Int), (j : Int))) this ?_
    simp (disch := omega) only [wrap_in]
    exact ih
  · refine Ev.step (fun k => by rw [impl_isParticle.l0]) ?_
    simp (disch := omega) only [cneg]
    exact Ev.pure _
theorem specPart_ev (s : ByteArray) (hs : s.size ≤ 1048576) : Ev (fun k => spec_l2Particle.F k s) (particleB s) := by
  unfold spec_l2Particle.F particleB
  rw [empty_eq]
  cases decide (s.size = 0) with
  | true => exact Ev.pure _
  | false =>
    refine Ev.bind (specSplit_ev s hs) ?_
    have := specPart_l0 (words s) (by have := (words_len s).2; omega) (fun x hx => by have := words_small _ _ x hx; omega)
    rw [range_all (words s) ⟨#[]⟩ pw] at this
    rw [Bool.false_or]
    cases ha : (words s).all pw with
    | true =>
      rw [ha] at this
      refine Ev.bind this ((Ev.pure _).eq ?_)
      rw [Bool.true_and]; exact decide_eq_decide.2 (by omega)
    | false => rw [ha] at this; exact Ev.bind this (Ev.pure _)
theorem isPart_ev (s : ByteArray) (hs : s.size ≤ 1048576) : Ev (fun k => impl_isParticle.F k s) (particleB s) := by
  unfold impl_isParticle.F particleB
  rw [empty_eq]
  cases decide (s.size = 0) with
  | true => exact Ev.pure _
  | false =>
    refine Ev.bind0 (split_ev s hs) ?_
    have := isPart_l0 (words s) (by have := (words_len s).2; omega) (fun x hx => by have := words_small _ _ x hx; omega)
    rw [range_all (words s) ⟨#[]⟩ pw] at this
    rw [Bool.false_or]
    cases ha : (words s).all pw with
    | true =>
      rw [ha] at this
      refine Ev.bind this ((Ev.pure _).eq ?_)
      rw [Bool.true_and]; exact decide_eq_decide.2 (by omega)
    | false => rw [ha] at this; exact Ev.bind this (Ev.pure _)

/-! ### Names -/
def gw (s : ByteArray) : Bool := wordB s && upc (bt s 0)
theorem word_size {s : ByteArray} (h : wordB s = true) : 1 ≤ s.size := by
  unfold wordB at h
  rw [Bool.and_eq_true] at h
  have := (ins_le h.1).1
  omega
theorem isGreat_ev (s : ByteArray) : Ev (fun k => impl_isGreatWord.F k s) (gw s) := by
  unfold impl_isGreatWord.F gw
  refine Ev.bind (isWord_ev s) (and_step' fun h => ?_)
  have := word_size h
  simp (disch := omega) only [cpos, show (0 : Int).toNat = 0 from rfl]
  exact Ev.bind0 (iUpper _) (Ev.pure _)
def suffB (s : ByteArray) : Bool := decide (s.size = 0) || wordB s
def nameB (n : Name) : Bool := n.given.all gw && (decide (n.given.length ≤ 3) && (particleB n.particle && (gw n.family && suffB n.suffix)))
theorem specGood_l0 (n : Name) (hn : n.given.length ≤ 1048576) : Ev (fun k => spec_l2Good.l0 k n ((0 : Nat) : Int)) (if (List.range' 0 n.given.length).all (fun i => gw (n.given.getD i ⟨#[]⟩)) = true then .inr n else .inl false) := by
  refine loop_all (f := fun k j => spec_l2Good.l0 k n j) (n := n.given.length) (p := fun i => gw (n.given.getD i ⟨#[]⟩)) (fun j hj hp => ?_) (fun j r hj hp ih => ?_) ?_ n.given.length 0 (by omega)
  · rw [getD_at hj] at hp
    unfold gw at hp
    refine Ev.step (fun k => by rw [spec_l2Good.l0]) ?_
    simp (disch := omega) only [cpos, Int.toNat_natCast, getD_at hj]
    refine Ev.bind (specWord_ev _) ?_
    cases hw : wordB n.given[j] with
    | false => exact Ev.pure _
    | true =>
      rw [hw, Bool.true_and] at hp
      have := word_size hw
      simp (disch := omega) only [cpos, show (0 : Int).toNat = 0 from rfl, Bool.not_true, cond_false]
      refine Ev.bind0 (sUpper _) ?_
      rw [hp]
      exact Ev.pure _
  · rw [getD_at hj] at hp
    unfold gw at hp
    rw [Bool.and_eq_true] at hp
    have := word_size hp.1
    refine Ev.step (fun k => by rw [spec_l2Good.l0]) ?_
    simp (disch := omega) only [cpos, Int.toNat_natCast, getD_at hj]
    refine Ev.bind (specWord_ev _) ?_
    rw [hp.1]
    simp (disch := omega) only [cpos, show (0 : Int).toNat = 0 from rfl, Bool.not_true, cond_false]
    refine Ev.bind0 (sUpper _) ?_
    rw [hp.2]
    simp (disch := omega) only [Bool.not_true, cond_false, wrap_in]
    exact ih
  · refine Ev.step (fun k => by rw [spec_l2Good.l0]) ?_
    simp (disch := omega) only [cneg]
    exact Ev.pure _
theorem specName_ev (n : Name) (hs : smallN n) : Ev (fun k => spec_l2Good.F k n) (nameB n) := by
  have hg : n.given.length ≤ 1048576 := by unfold smallN totN at hs; omega
  have hp : n.particle.size ≤ 1048576 := by unfold smallN totN at hs; omega
  unfold spec_l2Good.F nameB
  have := specGood_l0 n hg
  rw [range_all n.given ⟨#[]⟩ gw] at this
  cases ha : n.given.all gw with
  | false => rw [ha] at this; exact Ev.bind this (Ev.pure _)
  | true =>
    rw [ha] at this
    refine Ev.bind (a := .inr n) this ?_
    dsimp only
    rw [Bool.true_and, show decide (n.given.length ≤ 3) = decide ((n.given.length : Int) ≤ 3) from decide_eq_decide.2 (by omega)]
    refine and_step' fun _ => ?_
    refine Ev.bind (specPart_ev _ hp) (and_step' fun _ => ?_)
    unfold gw
    rw [Bool.and_assoc]
    refine Ev.bind (specWord_ev _) (and_step' fun h => ?_)
    have := word_size h
    simp (disch := omega) only [cpos, show (0 : Int).toNat = 0 from rfl]
    refine Ev.bind0 (sUpper _) (and_step' fun _ => ?_)
    unfold suffB
    rw [empty_eq]
    cases decide (n.suffix.size = 0) with
    | true => exact Ev.pure _
    | false => exact Ev.bind (specWord_ev _) (Ev.pure _)
theorem isName_ev (n : Name) (hs : smallN n) : Ev (fun k => impl_IsValidName.F k n) (nameB n) := by
  have hg : n.given.length ≤ 1048576 := by unfold smallN totN at hs; omega
  have hp : n.particle.size ≤ 1048576 := by unfold smallN totN at hs; omega
  unfold impl_IsValidName.F nameB
  by_cases c : n.given.length ≤ 3
  · simp (disch := omega) only [cneg, dpos, Bool.true_and]
    have hq : ∀ x, x ∈ n.given → Ev (fun k => impl_IsValidName_1.F k x) (!gw x) := fun x _ => by
      unfold impl_IsValidName_1.F
      exact Ev.bind (isGreat_ev x) (Ev.pure _)
    obtain ⟨r, h1, h2⟩ := idx_ev (d := (⟨#[]⟩ : ByteArray)) (p := fun x => !gw x) (q := impl_IsValidName_1.F) (xs := n.given) (l0 := slices_IndexFunc_string_f146.l0) (fun k x0 x7 x8 => by rw [slices_IndexFunc_string_f146.l0]) hq (by omega) (F := slices_IndexFunc_string_f146.F) (fun k a0 => rfl)
    refine Ev.bind (a := !n.given.all gw) ?_ ?_
    · unfold slices_ContainsFunc_string_f146.F
      refine Ev.bind h1 ((Ev.pure _).eq ?_)
      rcases h2 with ⟨rfl, h2⟩ | ⟨j, rfl, hj, hp, _⟩
      · have : n.given.all gw = true := List.all_eq_true.2 fun x hx => by have := h2 x hx; simpa using this
        rw [this]; rfl
      · have : n.given.all gw = false := by
          rw [List.all_eq_false]
          refine ⟨n.given[j], List.getElem_mem hj, ?_⟩
          rw [getD_at hj] at hp
          simpa using hp
        rw [this, decide_eq_true (by omega)]; rfl
    · cases n.given.all gw with
      | false => exact Ev.pure _
      | true =>
        rw [Bool.true_and]
        refine Ev.bind (isPart_ev _ hp) (and_step' fun _ => ?_)
        refine Ev.bind (isGreat_ev _) (and_step' fun _ => ?_)
        unfold suffB
        rw [empty_eq]
        cases decide (n.suffix.size = 0) with
        | true => exact Ev.pure _
        | false => exact Ev.bind (isWord_ev _) (Ev.pure _)
  · simp (disch := omega) only [cpos, dneg, Bool.false_and, Bool.and_false]
    exact Ev.pure _
def namesB (l : List Name) : Bool := l.all nameB && decide (l.length ≤ 4)
theorem specList_l0 (l : List Name) (hl : l.length ≤ 1048576) (hs : ∀ n ∈ l, smallN n) : ∀ m i : Nat, i + m = l.length → ∃ r, Ev (fun k => spec_l2List.l0 k l i) r ∧ (r = .inl false ∨ r = .inr l) ∧ (l.length ≤ 4 → r = if (l.drop i).all nameB = true then .inr l else .inl false)
  | 0, i, h => by
    refine ⟨.inr l, Ev.step (fun k => by rw [spec_l2List.l0]) ?_, .inr rfl, fun _ => by rw [List.drop_eq_nil_of_le (by omega)]; rfl⟩
    simp (disch := omega) only [cneg]
    exact Ev.pure _
  | m + 1, i, h => by
    have hi : i < l.length := by omega
    by_cases c4 : (i : Int) ≤ 4
    · cases hn : nameB l[i] with
      | false =>
        refine ⟨.inl false, Ev.step (fun k => by rw [spec_l2List.l0]) ?_, .inl rfl, fun _ => by rw [List.drop_eq_getElem_cons hi, List.all_cons, hn]; rfl⟩
        simp (disch := omega) only [cpos, Int.toNat_natCast, getD_at hi]
        refine Ev.bind (specName_ev _ (hs _ (List.getElem_mem hi))) ?_
        rw [hn]
        exact Ev.pure _
      | true =>
        obtain ⟨r, h1, h2, h3⟩ := specList_l0 l hl hs m (i + 1) (by omega)
        refine ⟨r, Ev.step (fun k => by rw [spec_l2List.l0]) ?_, h2, fun h4 => by rw [h3 h4, List.drop_eq_getElem_cons hi, List.all_cons, hn, Bool.true_and]⟩
        simp (disch := omega) only [cpos, Int.toNat_natCast, getD_at hi]
        refine Ev.bind (specName_ev _ (hs _ (List.getElem_mem hi))) ?_
        rw [hn]
        simp (disch := omega) only [Bool.not_true, cond_false, wrap_in]
        exact h1
    · refine ⟨.inr l, Ev.step (fun k => by rw [spec_l2List.l0]) ?_, .inr rfl, fun h4 => by omega⟩
      simp (disch := omega) only [cpos, cneg]
      exact Ev.pure _
theorem specNames_ev (l : List Name) (hl : totNs l ≤ 1048576) : Ev (fun k => spec_l2List.F k l) (namesB l) := by
  unfold spec_l2List.F namesB
  obtain ⟨r, h1, h2, h3⟩ := specList_l0 l (smallNs_len hl) (fun n hn => smallNs_at hl hn) l.length 0 (by omega)
  rw [List.drop_zero] at h3
  have e : decide (l.length ≤ 4) = decide ((l.length : Int) ≤ 4) := decide_eq_decide.2 (by omega)
  rw [e]
  by_cases c : l.length ≤ 4
  · rw [h3 c] at h1
    cases ha : l.all nameB with
    | true => rw [ha] at h1; exact Ev.bind h1 (Ev.pure _)
    | false => rw [ha] at h1; exact Ev.bind h1 (Ev.pure _)
  · rw [decide_eq_false (show ¬ (l.length : Int) ≤ 4 by omega), Bool.and_false]
    rcases h2 with rfl | rfl
    · exact Ev.bind h1 (Ev.pure _)
    · exact Ev.bind h1 ((Ev.pure _).eq (decide_eq_false (by omega)))
theorem areNames_ev (l : List Name) (hl : totNs l ≤ 1048576) : Ev (fun k => impl_areNames.F k l) (namesB l) := by
  have hlen := smallNs_len hl
  unfold impl_areNames.F namesB
  by_cases c : l.length ≤ 4
  · simp (disch := omega) only [cpos, dpos, Bool.and_true]
    have hq : ∀ x, x ∈ l → Ev (fun k => impl_areNames_1.F k x) (!nameB x) := fun x hx => by
      unfold impl_areNames_1.F
      exact Ev.bind (isName_ev x (smallNs_at hl hx)) (Ev.pure _)
    obtain ⟨r, h1, h2⟩ := idx_ev (d := (dflt .name : Name)) (p := fun x => !nameB x) (q := impl_areNames_1.F) (xs := l) (l0 := slices_IndexFunc_Name_f126.l0) (fun k x0 x7 x8 => by rw [slices_IndexFunc_Name_f126.l0]) hq (by omega) (F := slices_IndexFunc_Name_f126.F) (fun k a0 => rfl)
    refine Ev.bind (a := !l.all nameB) ?_ ?_
    · unfold slices_ContainsFunc_Name_f126.F
      refine Ev.bind h1 ((Ev.pure _).eq ?_)
      rcases h2 with ⟨rfl, h2⟩ | ⟨j, rfl, hj, hp, _⟩
      · have : l.all nameB = true := List.all_eq_true.2 fun x hx => by have := h2 x hx; simpa using this
        rw [this]; rfl
      · have : l.all nameB = false := by
          rw [List.all_eq_false]
          refine ⟨l[j], List.getElem_mem hj, ?_⟩
          rw [getD_at hj] at hp
          simpa using hp
        rw [this, decide_eq_true (by omega)]; rfl
    · rw [Bool.not_not]; exact Ev.pure _
  · simp (disch := omega) only [cneg, dneg, Bool.and_false]
    exact Ev.pure _

/-! ### Dates -/
theorem days_eq (y m : Int) (hy : 0 ≤ y) : ∃ r, spec_l3Days.F y m = some r ∧ impl_daysInMonth.F y m = some r := by
  have e1 : Int.tmod y 4 = y % 4 := Int.tmod_eq_emod_of_nonneg hy
  have e2 : Int.tmod y 100 = y % 100 := Int.tmod_eq_emod_of_nonneg hy
  have e3 : Int.tmod y 400 = y % 400 := Int.tmod_eq_emod_of_nonneg hy
  have z1 : ((4 : Nat) == 0) = false := rfl
  have z2 : ((100 : Nat) == 0) = false := rfl
  have z3 : ((400 : Nat) == 0) = false := rfl
  unfold spec_l3Days.F impl_daysInMonth.F
  rw [e1, e2, e3]
  by_cases c2 : m = 2
  · by_cases d1 : y % 4 = 0
    · by_cases d2 : y % 100 = 0
      · by_cases d3 : y % 400 = 0
        · exact ⟨29, by simp (disch := first | assumption | omega) only [ceq, cbeq, z1, z2, z3, cond_false], by simp (disch := first | assumption | omega) only [ceq, cbeq, z1, z2, z3, cond_false]⟩
        · exact ⟨28, by simp (disch := first | assumption | omega) only [ceq, cne, cbeq, z1, z2, z3, cond_false], by simp (disch := first | assumption | omega) only [ceq, cne, cbeq, z1, z2, z3, cond_false]⟩
      · exact ⟨29, by simp (disch := first | assumption | omega) only [ceq, cbne, z1, z2, z3, cond_false], by simp (disch := first | assumption | omega) only [ceq, cbne, z1, z2, z3, cond_false]⟩
    · have d3 : y % 400 ≠ 0 := by omega
      exact ⟨28, by simp (disch := first | assumption | omega) only [ceq, cne, z1, z2, z3, cond_false], by simp (disch := first | assumption | omega) only [ceq, cne, z1, z2, z3, cond_false]⟩
  · by_cases a : m = 4
    · exact ⟨30, by simp (disch := first | assumption | omega) only [ceq, cne], by simp (disch := first | assumption | omega) only [ceq, cne]⟩
    · by_cases b : m = 6
      · exact ⟨30, by simp (disch := first | assumption | omega) only [ceq, cne], by simp (disch := first | assumption | omega) only [ceq, cne]⟩
      · by_cases c : m = 9
        · exact ⟨30, by simp (disch := first | assumption | omega) only [ceq, cne], by simp (disch := first | assumption | omega) only [ceq, cne]⟩
        · by_cases d : m = 11
          · exact ⟨30, by simp (disch := first | assumption | omega) only [ceq, cne], by simp (disch := first | assumption | omega) only [ceq, cne]⟩
          · exact ⟨31, by simp (disch := first | assumption | omega) only [cne], by simp (disch := first | assumption | omega) only [cne]⟩
theorem date_eq2 (d : Date) : ∃ b, spec_l3Good.F d = some b ∧ impl_IsValidDate.F d = some b := by
  unfold spec_l3Good.F impl_IsValidDate.F
  cases (d.y == 0 && (d.m == 0 && (d.d == 0 && d.c == false))) with
  | true => exact ⟨true, rfl, rfl⟩
  | false =>
    rw [in_ev, inside_ev]
    simp only [Option.bind_some, cond_false]
    cases h1 : (decide (d.y ≥ 1) && decide (d.y ≤ 2999)) with
    | false => exact ⟨false, rfl, rfl⟩
    | true =>
      have hy : 0 ≤ d.y := by
        simp only [Bool.and_eq_true, decide_eq_true_eq] at h1; omega
      rw [in_ev, inside_ev]
      simp only [Option.bind_some, Bool.not_true, cond_false]
      cases h2 : (decide (d.m ≥ 0) && decide (d.m ≤ 12)) with
      | false => exact ⟨false, rfl, rfl⟩
      | true =>
        obtain ⟨r, r1, r2⟩ := days_eq d.y d.m hy
        rw [r1, r2]
        simp only [Option.bind_some, Bool.not_true, cond_false, in_ev, inside_ev]
        cases d.c with
        | true =>
          by_cases c : d.m = 0
          · exact ⟨d.d == 0, by simp (disch := first | assumption | omega) only [cond_true, ceq], by simp (disch := first | assumption | omega) only [cond_true, ceq, cbeq]⟩
          · exact ⟨false, by simp (disch := first | assumption | omega) only [cond_true, cne], by simp (disch := first | assumption | omega) only [cond_true, cbne]⟩
        | false => exact ⟨bif d.m == 0 then (d.d == 0) else (decide (d.d ≥ 0) && decide (d.d ≤ r)), by cases (d.m == 0) <;> rfl, by cases (d.m == 0) <;> rfl⟩
open Classical in
noncomputable def dateB (d : Date) : Bool := (date_eq2 d).choose
theorem specDate_ev (d : Date) : spec_l3Good.F d = some (dateB d) := (date_eq2 d).choose_spec.1
theorem isDate_ev (d : Date) : impl_IsValidDate.F d = some (dateB d) := (date_eq2 d).choose_spec.2

/-! ### Entries -/
def insI (n lo hi : Int) : Bool := decide (n ≥ lo) && decide (n ≤ hi)
def crossB (e : Entry) : Bool := decide (e.cross.size = 0) || (keyB e.cross && !beqS e.cross e.key)
noncomputable def entryB (e : Entry) : Bool := keyB e.key && (insI e.kind 1 4 && (namesB e.authors && (namesB e.editors && (textB e.title && (textB e.container && (textB e.publisher && (textB e.pages && (dateB e.date && (insI e.volume 0 9999 && crossB e)))))))))
theorem specEntry_ev (e : Entry) (hs : smallE e) : Ev (fun k => spec_l4Entry.F k e) (entryB e) := by
  unfold spec_l4Entry.F entryB
  refine Ev.bind (specKey_ev _) (and_step fun _ => ?_)
  refine Ev.bind0 (in_ev _ _ _) (and_step fun _ => ?_)
  refine Ev.bind (specNames_ev _ (smallE_a hs)) (and_step fun _ => ?_)
  refine Ev.bind (specNames_ev _ (smallE_e hs)) (and_step fun _ => ?_)
  refine Ev.bind (specText_ev _) (and_step fun _ => ?_)
  refine Ev.bind (specText_ev _) (and_step fun _ => ?_)
  refine Ev.bind (specText_ev _) (and_step fun _ => ?_)
  refine Ev.bind (specText_ev _) (and_step fun _ => ?_)
  refine Ev.bind0 (specDate_ev _) (and_step' fun _ => ?_)
  refine Ev.bind0 (in_ev _ _ _) (and_step' fun _ => ?_)
  unfold crossB
  rw [empty_eq]
  cases decide (e.cross.size = 0) with
  | true => exact Ev.pure _
  | false =>
    refine (Ev.bind (specKey_ev _) (and_step' fun _ => ?_)).eq (Bool.false_or _).symm
    exact Ev.pure _
theorem isEntry_ev (e : Entry) (hs : smallE e) : Ev (fun k => impl_IsValidEntry.F k e) (entryB e) := by
  have key : Ev (fun k => impl_IsValidEntry.F k e) (keyB e.key && (insI e.kind 1 4 && (namesB e.authors && (namesB e.editors && (dateB e.date && (insI e.volume 0 9999 && (textB e.title && (textB e.container && (textB e.publisher && (textB e.pages && crossB e)))))))))) := by
    unfold impl_IsValidEntry.F
    refine Ev.bind (isKey_ev _) (and_step fun _ => ?_)
    refine Ev.bind0 (a := insI e.kind 1 4) ?_ (and_step fun _ => ?_)
    · unfold impl_isKind.F; rw [inside_ev]; rfl
    refine Ev.bind (areNames_ev _ (smallE_a hs)) (and_step fun _ => ?_)
    refine Ev.bind (areNames_ev _ (smallE_e hs)) (and_step fun _ => ?_)
    refine Ev.bind0 (isDate_ev _) (and_step fun _ => ?_)
    refine Ev.bind0 (inside_ev _ _ _) (and_step fun _ => ?_)
    refine Ev.bind (isText_ev _) (and_step' fun _ => ?_)
    refine Ev.bind (isText_ev _) (and_step' fun _ => ?_)
    refine Ev.bind (isText_ev _) (and_step' fun _ => ?_)
    refine Ev.bind (isText_ev _) (and_step' fun _ => ?_)
    unfold crossB
    rw [empty_eq]
    cases decide (e.cross.size = 0) with
    | true => exact Ev.pure _
    | false =>
      refine (Ev.bind (isKey_ev _) (and_step' fun _ => ?_)).eq (Bool.false_or _).symm
      exact Ev.pure _
  refine key.eq ?_
  unfold entryB
  ac_rfl

/-! ### Libraries -/
noncomputable def okL (l : Library) (i : Nat) : Bool := entryB (l.entries.getD i (dflt .entry)) && (decide (i = 0) || ltS (l.entries.getD (i - 1) (dflt .entry)).key (l.entries.getD i (dflt .entry)).key)
noncomputable def libB (l : Library) : Bool := (List.range' 0 l.entries.length).all (okL l) && decide (l.entries.length ≤ 8)
theorem specGoodL_l0 (l : Library) (hs : smallL l) : Ev (fun k => spec_l4Good.l0 k l ((0 : Nat) : Int)) (if (List.range' 0 l.entries.length).all (okL l) = true then .inr () else .inl false) := by
  have hlen := smallL_len hs
  refine loop_all (f := fun k i => spec_l4Good.l0 k l i) (n := l.entries.length) (fun i hi hp => ?_) (fun i r hi hp ih => ?_) ?_ l.entries.length 0 (by omega)
  · unfold okL at hp
    refine Ev.step (fun k => by rw [spec_l4Good.l0]) ?_
    have hsm : smallE (l.entries.getD i (dflt .entry)) := by rw [getD_at hi]; exact smallL_at hs (List.getElem_mem hi)
    simp (disch := omega) only [cpos, Int.toNat_natCast]
    refine Ev.bind (specEntry_ev _ hsm) ?_
    cases he : entryB (l.entries.getD i (dflt .entry)) with
    | false => exact Ev.pure _
    | true =>
      rw [he, Bool.true_and, Bool.or_eq_false_iff, decide_eq_false_iff_not] at hp
      have et : ((i : Int) - 1).toNat = i - 1 := by omega
      simp (disch := omega) only [Bool.not_true, cond_false, cpos, wrap_in, et, hp.2, Bool.not_false, cond_true]
      exact Ev.pure _
  · unfold okL at hp
    rw [Bool.and_eq_true] at hp
    refine Ev.step (fun k => by rw [spec_l4Good.l0]) ?_
    have hsm : smallE (l.entries.getD i (dflt .entry)) := by rw [getD_at hi]; exact smallL_at hs (List.getElem_mem hi)
    simp (disch := omega) only [cpos, Int.toNat_natCast]
    refine Ev.bind (specEntry_ev _ hsm) ?_
    rw [hp.1]
    by_cases c : i = 0
    · simp (disch := omega) only [Bool.not_true, cond_false, cneg, wrap_in]
      exact ih
    · have et : ((i : Int) - 1).toNat = i - 1 := by omega
      have h2 := hp.2
      rw [decide_eq_false c, Bool.false_or] at h2
      simp (disch := omega) only [Bool.not_true, cond_false, cpos, wrap_in, et, h2]
      exact ih
  · refine Ev.step (fun k => by rw [spec_l4Good.l0]) ?_
    simp (disch := omega) only [cneg]
    exact Ev.pure _
theorem isLib_l0 (l : Library) (hs : smallL l) : Ev (fun k => impl_IsValidLibrary.l0 k l l.entries l.entries.length ((0 : Nat) : Int)) (if (List.range' 0 l.entries.length).all (okL l) = true then .inr l else .inl false) := by
  have hlen := smallL_len hs
  refine loop_all (f := fun k i => impl_IsValidLibrary.l0 k l l.entries l.entries.length i) (n := l.entries.length) (fun i hi hp => ?_) (fun i r hi hp ih => ?_) ?_ l.entries.length 0 (by omega)
  · unfold okL at hp
    refine Ev.step (fun k => by rw [impl_IsValidLibrary.l0]) ?_
    have hsm : smallE (l.entries.getD i (dflt .entry)) := by rw [getD_at hi]; exact smallL_at hs (List.getElem_mem hi)
    simp (disch := omega) only [cpos, Int.toNat_natCast]
    refine Ev.bind (isEntry_ev _ hsm) ?_
    cases he : entryB (l.entries.getD i (dflt .entry)) with
    | false => exact Ev.pure _
    | true =>
      rw [he, Bool.true_and, Bool.or_eq_false_iff, decide_eq_false_iff_not] at hp
      have et : ((i : Int) - 1).toNat = i - 1 := by omega
      simp (disch := omega) only [Bool.not_true, cond_false, cpos, wrap_in, et, hp.2, Bool.not_false, cond_true]
      exact Ev.pure _
  · unfold okL at hp
    rw [Bool.and_eq_true] at hp
    refine Ev.step (fun k => by rw [impl_IsValidLibrary.l0]) ?_
    have hsm : smallE (l.entries.getD i (dflt .entry)) := by rw [getD_at hi]; exact smallL_at hs (List.getElem_mem hi)
    simp (disch := omega) only [cpos, Int.toNat_natCast]
    refine Ev.bind (isEntry_ev _ hsm) ?_
    rw [hp.1]
    by_cases c : i = 0
    · simp (disch := omega) only [Bool.not_true, cond_false, cneg, wrap_in]
      exact ih
    · have et : ((i : Int) - 1).toNat = i - 1 := by omega
      have h2 := hp.2
      rw [decide_eq_false c, Bool.false_or] at h2
      simp (disch := omega) only [Bool.not_true, cond_false, cpos, wrap_in, et, h2]
      exact ih
  · refine Ev.step (fun k => by rw [impl_IsValidLibrary.l0]) ?_
    simp (disch := omega) only [cneg]
    exact Ev.pure _
theorem specLib_ev (l : Library) (hs : smallL l) : Ev (fun k => spec_l4Good.F k l) (libB l) := by
  unfold spec_l4Good.F libB
  by_cases c : l.entries.length ≤ 8
  · simp (disch := omega) only [cneg, dpos, Bool.and_true]
    have := specGoodL_l0 l hs
    cases ha : (List.range' 0 l.entries.length).all (okL l) with
    | true => rw [ha] at this; exact Ev.bind this (Ev.pure _)
    | false => rw [ha] at this; exact Ev.bind this (Ev.pure _)
  · simp (disch := omega) only [cpos, dneg, Bool.and_false]
    exact Ev.pure _
theorem isLib_ev (l : Library) (hs : smallL l) : Ev (fun k => impl_IsValidLibrary.F k l) (libB l) := by
  unfold impl_IsValidLibrary.F libB
  have := isLib_l0 l hs
  cases ha : (List.range' 0 l.entries.length).all (okL l) with
  | true =>
    rw [ha] at this
    refine Ev.bind this ((Ev.pure _).eq ?_)
    rw [Bool.true_and]; exact decide_eq_decide.2 (by omega)
  | false => rw [ha] at this; exact Ev.bind this (Ev.pure _)
theorem libB_len {l : Library} (h : libB l = true) : l.entries.length ≤ 8 := by
  unfold libB at h
  rw [Bool.and_eq_true, decide_eq_true_eq] at h
  exact h.2
end Go.Proofs.YtgihehbpbjejlaaGreatDoor
end
section
/- Plain laws: an entry found by its key; its parent. -/
namespace Go.Proofs.YtgihehbpbjejlaaGreatDoor
open Go.Gx
set_option linter.unusedVariables false
set_option linter.unusedSimpArgs false

theorem find_l (l : Library) (key : ByteArray) (hl : l.entries.length ≤ 1048576) : ∀ n i : Nat, i + n = l.entries.length →
    ∃ r : Sum Int Unit, Ev (fun k => spec_l4Find.l0 k key l i) r ∧ Ev (fun k => slices_IndexFunc_Entry_f73.l0 k l.entries key l.entries.length i) r ∧ ∀ z, r = .inl z → 0 ≤ z ∧ z < l.entries.length
  | 0, i, h => by
    refine ⟨.inr (), Ev.step (fun k => by rw [spec_l4Find.l0]) ?_, Ev.step (fun k => by rw [slices_IndexFunc_Entry_f73.l0]) ?_, fun z hz => by cases hz⟩
    · simp (disch := omega) only [cneg]; exact Ev.pure _
    · simp (disch := omega) only [cneg]; exact Ev.pure _
  | n + 1, i, h => by
    have hi : i < l.entries.length := by omega
    have e1 : impl_entryIndex_1.F l.entries[i] key = some (beqS l.entries[i].key key) := rfl
    cases hb : beqS l.entries[i].key key with
    | true =>
      refine ⟨.inl i, Ev.step (fun k => by rw [spec_l4Find.l0]) ?_, Ev.step (fun k => by rw [slices_IndexFunc_Entry_f73.l0]) ?_, fun z hz => by cases hz; omega⟩
      · simp (disch := omega) only [cpos, Int.toNat_natCast, getD_at hi, hb, cond_true]
        exact Ev.pure _
      · simp (disch := omega) only [cpos, Int.toNat_natCast, getD_at hi]
        refine Ev.bind0 e1 ?_
        rw [hb]
        exact Ev.pure _
    | false =>
      obtain ⟨r, r1, r2, r3⟩ := find_l l key hl n (i + 1) (by omega)
      refine ⟨r, Ev.step (fun k => by rw [spec_l4Find.l0]) ?_, Ev.step (fun k => by rw [slices_IndexFunc_Entry_f73.l0]) ?_, r3⟩
      · simp (disch := omega) only [cpos, Int.toNat_natCast, getD_at hi, hb, cond_false, wrap_in]
        exact r1
      · simp (disch := omega) only [cpos, Int.toNat_natCast, getD_at hi]
        refine Ev.bind0 e1 ?_
        rw [hb]
        simp (disch := omega) only [cond_false, wrap_in]
        exact r2
theorem find_ev (l : Library) (key : ByteArray) (hl : l.entries.length ≤ 1048576) : ∃ r : Int, Ev (fun k => spec_l4Find.F k l key) r ∧ Ev (fun k => impl_entryIndex.F k l key) r ∧ -1 ≤ r ∧ r < l.entries.length := by
  obtain ⟨r, r1, r2, r3⟩ := find_l l key hl l.entries.length 0 (by omega)
  unfold spec_l4Find.F impl_entryIndex.F slices_IndexFunc_Entry_f73.F
  cases r with
  | inl z => exact ⟨z, Ev.bind r1 (Ev.pure _), Ev.bind (Ev.bind r2 (Ev.pure _)) (Ev.pure _), by have := r3 z rfl; omega, (r3 z rfl).2⟩
  | inr u => exact ⟨-1, Ev.bind r1 (Ev.pure _), Ev.bind (Ev.bind r2 (Ev.pure _)) (Ev.pure _), by omega, by omega⟩
theorem parent_ev (l : Library) (hl : l.entries.length ≤ 1048576) (i : Int) (h0 : 0 ≤ i) (h1 : i < l.entries.length) : ∃ r : Int, Ev (fun k => spec_l21Parent.F k l i) r ∧ Ev (fun k => impl_parentIndex.F k l i) r ∧ -1 ≤ r ∧ r < l.entries.length := by
  unfold spec_l21Parent.F impl_parentIndex.F
  cases hb : beqS (l.entries.getD i.toNat (dflt .entry)).cross ⟨#[]⟩ with
  | true =>
    refine ⟨-1, ?_, ?_, by omega, by omega⟩
    · simp (disch := omega) only [cpos, cond_true]; exact Ev.pure _
    · simp (disch := omega) only [cpos, cond_true]; exact Ev.pure _
  | false =>
    obtain ⟨r, r1, r2, r3⟩ := find_ev l (l.entries.getD i.toNat (dflt .entry)).cross hl
    refine ⟨r, ?_, ?_, r3⟩
    · simp (disch := omega) only [cpos, cond_false]; exact Ev.bind r1 (Ev.pure _)
    · simp (disch := omega) only [cpos, cond_false]; exact Ev.bind r2 (Ev.pure _)
end Go.Proofs.YtgihehbpbjejlaaGreatDoor
end
section
/- Plain laws: the chain of an entry, keys, entries found by their keys. -/
namespace Go.Proofs.YtgihehbpbjejlaaGreatDoor
open Go.Gx
set_option linter.unusedVariables false
set_option linter.unusedSimpArgs false

theorem bl_irr : ∀ x : List UInt8, Op.bytesLess x x = false
  | [] => rfl
  | a :: x => by
    have : ¬ a < a := by simp
    simp [Op.bytesLess, bl_irr x]
theorem bl_trans : ∀ {x y z : List UInt8}, Op.bytesLess x y = true → Op.bytesLess y z = true → Op.bytesLess x z = true
  | x, y, [], _, h => by cases y <;> simp [Op.bytesLess] at h
  | x, [], c :: z, h, _ => by cases x <;> simp [Op.bytesLess] at h
  | [], b :: y, c :: z, _, _ => rfl
  | a :: x, b :: y, c :: z, h, k => by
    simp only [Op.bytesLess, Bool.or_eq_true, decide_eq_true_eq, Bool.and_eq_true, beq_iff_eq] at h k ⊢
    rcases h with h | ⟨rfl, h⟩
    · rcases k with k | ⟨rfl, k⟩
      · exact .inl (UInt8.lt_trans h k)
      · exact .inl h
    · rcases k with k | ⟨rfl, k⟩
      · exact .inl k
      · exact .inr ⟨rfl, bl_trans h k⟩
def kAt (l : Library) (x : Int) : ByteArray := (l.entries.getD x.toNat (dflt .entry)).key
theorem keys_lt {l : Library} (h : libB l = true) : ∀ (d i : Nat), i + d + 1 < l.entries.length → ltS (l.entries.getD i (dflt .entry)).key (l.entries.getD (i + d + 1) (dflt .entry)).key = true := by
  have hok : ∀ j, j < l.entries.length → okL l j = true := by
    intro j hj
    unfold libB at h
    simp only [Bool.and_eq_true, List.all_eq_true] at h
    exact h.1 j (by simp; omega)
  have step : ∀ j, j + 1 < l.entries.length → ltS (l.entries.getD j (dflt .entry)).key (l.entries.getD (j + 1) (dflt .entry)).key = true := by
    intro j hj
    have := hok (j + 1) hj
    unfold okL at this
    simp only [Bool.and_eq_true, Bool.or_eq_true, decide_eq_true_eq] at this
    rcases this.2 with h0 | h0
    · omega
    · exact h0
  intro d
  induction d with
  | zero => intro i hi; exact step i hi
  | succ d ih =>
    intro i hi
    exact bl_trans (ih i (by omega)) (step (i + d + 1) (by omega))
theorem keys_ne {l : Library} (h : libB l = true) {i j : Nat} (hi : i < l.entries.length) (hj : j < l.entries.length) (he : (l.entries.getD i (dflt .entry)).key = (l.entries.getD j (dflt .entry)).key) : i = j := by
  apply Classical.byContradiction
  intro hne
  rcases Nat.lt_or_gt_of_ne hne with hlt | hlt
  · obtain ⟨d, rfl⟩ : ∃ d, j = i + d + 1 := ⟨j - i - 1, by omega⟩
    have := keys_lt h d i hj
    rw [he] at this
    unfold ltS at this
    rw [bl_irr] at this
    cases this
  · obtain ⟨d, rfl⟩ : ∃ d, i = j + d + 1 := ⟨i - j - 1, by omega⟩
    have := keys_lt h d j hi
    rw [he] at this
    unfold ltS at this
    rw [bl_irr] at this
    cases this
theorem findK_l (l : Library) (key : ByteArray) (hl : l.entries.length ≤ 1048576) : ∀ n i : Nat, i + n = l.entries.length →
    ∃ r : Sum Int Unit, Ev (fun k => spec_l4Find.l0 k key l i) r ∧ (∀ z, r = .inl z → ∃ j : Nat, z = j ∧ i ≤ j ∧ j < l.entries.length ∧ (l.entries.getD j (dflt .entry)).key = key) ∧ (∀ u, r = .inr u → ∀ j, i ≤ j → j < l.entries.length → (l.entries.getD j (dflt .entry)).key ≠ key)
  | 0, i, h => by
    refine ⟨.inr (), Ev.step (fun k => by rw [spec_l4Find.l0]) ?_, (fun z hz => by cases hz), fun u _ j h1 h2 => by omega⟩
    simp (disch := omega) only [cneg]; exact Ev.pure _
  | n + 1, i, h => by
    have hi : i < l.entries.length := by omega
    cases hb : beqS l.entries[i].key key with
    | true =>
      refine ⟨.inl i, Ev.step (fun k => by rw [spec_l4Find.l0]) ?_, fun z hz => ?_, (fun u hu => by cases hu)⟩
      · simp (disch := omega) only [cpos, Int.toNat_natCast, getD_at hi, hb, cond_true]
        exact Ev.pure _
      · cases hz
        exact ⟨i, rfl, Nat.le_refl _, hi, by rw [getD_at hi]; exact beqS_iff.1 hb⟩
    | false =>
      obtain ⟨r, r1, r2, r3⟩ := findK_l l key hl n (i + 1) (by omega)
      refine ⟨r, Ev.step (fun k => by rw [spec_l4Find.l0]) ?_, fun z hz => ?_, fun u hu j h1 h2 => ?_⟩
      · simp (disch := omega) only [cpos, Int.toNat_natCast, getD_at hi, hb, cond_false, wrap_in]
        exact r1
      · obtain ⟨j, e, h1, h2⟩ := r2 z hz
        exact ⟨j, e, by omega, h2⟩
      · by_cases e : j = i
        · subst e
          rw [getD_at hi]
          intro he
          rw [he, beqS_self] at hb
          cases hb
        · exact r3 u hu j (by omega) h2
/-- The entry with a key. -/
theorem findK_ev (l : Library) (key : ByteArray) (hl : l.entries.length ≤ 1048576) : ∃ r : Int, Ev (fun k => spec_l4Find.F k l key) r ∧ Ev (fun k => impl_entryIndex.F k l key) r ∧ -1 ≤ r ∧ r < l.entries.length ∧ (0 ≤ r → kAt l r = key) ∧ (r < 0 → ∀ j, j < l.entries.length → (l.entries.getD j (dflt .entry)).key ≠ key) := by
  obtain ⟨r, r1, r2, r3, r4⟩ := find_ev l key hl
  obtain ⟨q, q1, q2, q3⟩ := findK_l l key hl l.entries.length 0 (by omega)
  refine ⟨r, r1, r2, r3, r4, ?_⟩
  have hF : Ev (fun k => spec_l4Find.F k l key) (match q with | .inl z => z | .inr _ => -1) := by
    unfold spec_l4Find.F
    cases q with
    | inl z => exact Ev.bind q1 (Ev.pure _)
    | inr u => exact Ev.bind q1 (Ev.pure _)
  have e := Ev.uniq r1 hF
  cases q with
  | inl z =>
    obtain ⟨j, rfl, _, _, h⟩ := q2 z rfl
    have e : r = (j : Int) := e
    exact ⟨fun _ => by rw [e]; unfold kAt; rw [Int.toNat_natCast]; exact h, fun h0 => by omega⟩
  | inr u =>
    have e : r = -1 := e
    exact ⟨fun h0 => by omega, fun _ j hj => q3 u rfl j (Nat.zero_le _) hj⟩

/-! ### A number in a list -/
theorem has_l (xs : List Int) (v : Int) (hl : xs.length ≤ 1048576) : ∀ n i : Nat, i + n = xs.length → Ev (fun k => spec_l1Has.l0 k xs v i) (if v ∈ xs.drop i then .inl true else .inr ()) ∧
    ∃ r : Sum Int Unit, Ev (fun k => slices_Index_int.l0 k xs v xs.length i) r ∧ (v ∈ xs.drop i → ∃ z : Int, r = .inl z ∧ 0 ≤ z) ∧ (v ∉ xs.drop i → r = .inr ())
  | 0, i, h => by
    have hd : xs.drop i = [] := List.drop_eq_nil_of_le (by omega)
    rw [hd]
    refine ⟨Ev.step (fun k => by rw [spec_l1Has.l0]) ?_, .inr (), Ev.step (fun k => by rw [slices_Index_int.l0]) ?_, (fun h => by cases h), fun _ => rfl⟩
    · simp (disch := omega) only [cneg]
      exact (Ev.pure _).eq (by simp)
    · simp (disch := omega) only [cneg]; exact Ev.pure _
  | n + 1, i, h => by
    have hi : i < xs.length := by omega
    have hd : xs.drop i = xs[i] :: xs.drop (i + 1) := List.drop_eq_getElem_cons hi
    obtain ⟨h1, r, h2, h3, h4⟩ := has_l xs v hl n (i + 1) (by omega)
    by_cases hv : xs[i] = v
    · have hm : v ∈ xs.drop i := by rw [hd, hv]; exact List.mem_cons_self
      refine ⟨Ev.step (fun k => by rw [spec_l1Has.l0]) ?_, .inl i, Ev.step (fun k => by rw [slices_Index_int.l0]) ?_, fun _ => ⟨i, rfl, by omega⟩, fun hn => absurd hm hn⟩
      · rw [if_pos hm]
        simp (disch := omega) only [cpos, Int.toNat_natCast, getD_at hi, ceq]
        exact Ev.pure _
      · simp (disch := omega) only [cpos, Int.toNat_natCast, getD_at hi, ceq]
        exact Ev.pure _
    · have hm : v ∈ xs.drop i ↔ v ∈ xs.drop (i + 1) := by
        rw [hd, List.mem_cons]
        exact ⟨fun h => h.resolve_left fun e => hv e.symm, .inr⟩
      refine ⟨Ev.step (fun k => by rw [spec_l1Has.l0]) ?_, r, Ev.step (fun k => by rw [slices_Index_int.l0]) ?_, fun h => h3 (hm.1 h), fun h => h4 fun h' => h (hm.2 h')⟩
      · simp (disch := omega) only [cpos, Int.toNat_natCast, getD_at hi, cne, wrap_in]
        exact h1.eq (by simp only [hm])
      · simp (disch := omega) only [cpos, Int.toNat_natCast, getD_at hi, cne, wrap_in]
        exact h2
theorem has_ev (xs : List Int) (v : Int) (hl : xs.length ≤ 1048576) : Ev (fun k => spec_l1Has.F k xs v) (decide (v ∈ xs)) ∧ Ev (fun k => slices_Contains_int.F k xs v) (decide (v ∈ xs)) := by
  obtain ⟨h1, r, h2, h3, h4⟩ := has_l xs v hl xs.length 0 (by omega)
  rw [List.drop_zero] at h1 h3 h4
  unfold spec_l1Has.F slices_Contains_int.F slices_Index_int.F
  by_cases hv : v ∈ xs
  · rw [if_pos hv] at h1
    obtain ⟨z, rfl, hz⟩ := h3 hv
    rw [decide_eq_true hv]
    refine ⟨Ev.bind h1 (Ev.pure _), Ev.bind (a := z) (Ev.bind h2 (Ev.pure _)) ((Ev.pure _).eq ?_)⟩
    rw [decide_eq_true (by omega)]
  · rw [if_neg hv] at h1
    obtain rfl := h4 hv
    rw [decide_eq_false hv]
    exact ⟨Ev.bind h1 (Ev.pure _), Ev.bind (a := -1) (Ev.bind h2 (Ev.pure _)) (Ev.pure _)⟩

/-! ### Chains -/
theorem pigeon : ∀ (n : Nat) (l : List Int), l.Nodup → (∀ x ∈ l, 0 ≤ x ∧ x < n) → l.length ≤ n
  | 0, l, _, h => by
    cases l with
    | nil => simp
    | cons a l => have := h a List.mem_cons_self; omega
  | n + 1, l, hn, h => by
    by_cases hm : (n : Int) ∈ l
    · have h1 := pigeon n (l.erase n) (hn.erase _) fun x hx => by
        rw [hn.mem_erase_iff] at hx
        have := h x hx.2
        have := hx.1
        omega
      rw [List.length_erase_of_mem hm] at h1
      omega
    · have h1 := pigeon n l hn fun x hx => by
        have := h x hx
        have : x ≠ n := fun e => hm (e ▸ hx)
        omega
      omega
theorem room_i8 {n : Nat} (h : n ≤ 8192) : room n (.int .i64) = true := by
  show Nat.ble (n * 8) 140737488355328 = true
  exact Nat.ble_eq_true_of_le (by omega)
def chR (l : Library) : Sum (List Int × Bool) (List Int) → Prop
  | .inl p => p.2 = true ∧ p.1.Nodup ∧ ∀ x ∈ p.1, 0 ≤ x ∧ x < l.entries.length
  | .inr c => c.Nodup ∧ ∀ x ∈ c, 0 ≤ x ∧ x < l.entries.length
def chL : Sum (List Int × Bool) (List Int) → List Int
  | .inl p => p.1
  | .inr c => c
theorem chain_l (l : Library) (hl : l.entries.length ≤ 8) : ∀ (d : Nat) (acc : List Int) (i : Int), acc.length + d = l.entries.length + 1 → -1 ≤ i → i < l.entries.length → acc.Nodup → (∀ x ∈ acc, 0 ≤ x ∧ x < l.entries.length) →
    ∃ r, Ev (fun k => spec_l21Chain.l0 k i l acc) r ∧ Ev (fun k => impl_chainOf.l0 k i l acc) r ∧ chR l r ∧ ∃ t, chL r = acc ++ t ∧ (0 ≤ i → i ∉ acc → t ≠ [])
  | 0, acc, i, hd, _, _, hn, ha => by have := pigeon _ _ hn ha; omega
  | d + 1, acc, i, hd, h0, h1, hn, ha => by
    have hlen := pigeon _ _ hn ha
    by_cases hi : i < 0
    · refine ⟨.inr acc, Ev.step (fun k => by rw [spec_l21Chain.l0]) ?_, Ev.step (fun k => by rw [impl_chainOf.l0]) ?_, ⟨hn, ha⟩, [], by simp [chL], fun h => absurd hi (by omega)⟩
      · simp (disch := omega) only [cneg]; exact Ev.pure _
      · simp (disch := omega) only [cneg]; exact Ev.pure _
    · obtain ⟨e1, e2⟩ := has_ev acc i (by omega)
      by_cases hm : i ∈ acc
      · rw [decide_eq_true hm] at e1 e2
        refine ⟨.inl (acc, true), Ev.step (fun k => by rw [spec_l21Chain.l0]) ?_, Ev.step (fun k => by rw [impl_chainOf.l0]) ?_, ⟨rfl, hn, ha⟩, [], by simp [chL], fun _ h => absurd hm h⟩
        · simp (disch := omega) only [cpos]; exact Ev.bind e1 (Ev.pure _)
        · simp (disch := omega) only [cpos]; exact Ev.bind e2 (Ev.pure _)
      · rw [decide_eq_false hm] at e1 e2
        obtain ⟨p, p1, p2, p3, p4⟩ := parent_ev l (by omega) i (by omega) h1
        obtain ⟨r, r1, r2, r3, t, r4, _⟩ := chain_l l hl d (acc ++ [i]) p (by simp; omega) p3 p4 (List.nodup_append.2 ⟨hn, by simp, fun a ha' b hb => by simp at hb; subst hb; exact fun e => hm (e ▸ ha')⟩) (fun x hx => by
          rcases List.mem_append.1 hx with hx | hx
          · exact ha x hx
          · simp at hx; subst hx; omega)
        have hr : room (acc.length + ([i] : List Int).length) (.int .i64) = true := room_i8 (by simp; omega)
        refine ⟨r, Ev.step (fun k => by rw [spec_l21Chain.l0]) ?_, Ev.step (fun k => by rw [impl_chainOf.l0]) ?_, r3, i :: t, by rw [r4]; simp, fun _ _ h => by cases h⟩
        · simp (disch := omega) only [cpos]
          refine Ev.bind e1 ?_
          simp only [cond_false, hr, cond_true]
          exact Ev.bind p1 r1
        · simp (disch := omega) only [cpos]
          refine Ev.bind e2 ?_
          simp only [cond_false, hr, cond_true]
          exact Ev.bind p2 r2
theorem chain_ev1 (l : Library) (hl : l.entries.length ≤ 8) (i : Int) (h0 : 0 ≤ i) (h1 : i < l.entries.length) :
    ∃ c b, Ev (fun k => spec_l21Chain.F k l i) (c, b) ∧ Ev (fun k => impl_chainOf.F k l i) (c, b) ∧ c.Nodup ∧ (∀ x ∈ c, 0 ≤ x ∧ x < l.entries.length) ∧ c.length ≤ l.entries.length ∧ 1 ≤ c.length := by
  obtain ⟨r, r1, r2, r3, t, r4, r5⟩ := chain_l l hl (l.entries.length + 1) [] i (by simp) (by omega) h1 List.nodup_nil (fun x hx => by cases hx)
  have hpos : 1 ≤ (chL r).length := by
    rw [r4]
    cases t with
    | nil => exact absurd rfl (r5 h0 (by simp))
    | cons x t => simp
  unfold spec_l21Chain.F impl_chainOf.F
  cases r with
  | inl p =>
    obtain ⟨c, b⟩ := p
    exact ⟨c, b, Ev.bind r1 (Ev.pure _), Ev.bind r2 (Ev.pure _), r3.2.1, r3.2.2, pigeon _ _ r3.2.1 r3.2.2, hpos⟩
  | inr c => exact ⟨c, false, Ev.bind r1 (Ev.pure _), Ev.bind r2 (Ev.pure _), r3.1, r3.2, pigeon _ _ r3.1 r3.2, hpos⟩
theorem chain_ev (l : Library) (hl : l.entries.length ≤ 8) (i : Int) (h0 : 0 ≤ i) (h1 : i < l.entries.length) :
    ∃ c b, Ev (fun k => spec_l21Chain.F k l i) (c, b) ∧ Ev (fun k => impl_chainOf.F k l i) (c, b) ∧ c.Nodup ∧ (∀ x ∈ c, 0 ≤ x ∧ x < l.entries.length) ∧ c.length ≤ l.entries.length := by
  obtain ⟨c, b, h1, h2, h3, h4, h5, _⟩ := chain_ev1 l hl i h0 h1
  exact ⟨c, b, h1, h2, h3, h4, h5⟩
end Go.Proofs.YtgihehbpbjejlaaGreatDoor
end
