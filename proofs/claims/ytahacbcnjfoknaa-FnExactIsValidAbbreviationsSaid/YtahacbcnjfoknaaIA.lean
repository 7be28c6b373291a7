import Derived.Test.YtahacbcnjfoknaaProg
import Derived.Test.YtahacbcnjfoknaaGxTab
import Derived.Test.YtahacbcnjfoknaaGxEq
import Derived.KernelRfl
namespace Go.Proofs.Ytahacbcnjfoknaa
open Go.Gx
set_option linter.unusedVariables false
def tyT (t : Nat) : Option Ty := match t with
  | 2 => some (.int .i64)
  | 3 => some (.int .i64)
  | 4 => some .bool
  | 5 => some (.int .u8)
  | 9 => some .str
  | 10 => some .str
  | 11 => some .str
  | 23 => some .date
  | 26 => some .date
  | 29 => some (.sl .abbr)
  | 32 => some (.sl .abbr)
  | 37 => some .abbr
  | 41 => some .abbr
  | 67 => some (.sl (.int .u8))
  | 76 => some (.int .u64)
  | 77 => some (.int .u32)
  | 88 => some (.int .u8)
  | _ => none
def elT (t : Nat) : Nat := match t with
  | 29 => 37
  | 32 => 41
  | 67 => 5
  | _ => 0
def envX : Env := ⟨tyT, elT, fun _ => none⟩
theorem env_ty : ∀ T τ, envX.ty T = some τ → TyOk Try.prog envX T τ := fun T τ h => by
  dsimp only [envX, tyT] at h
  split at h <;> first
    | (cases h; done)
    | (cases h; exact tyOk_of (by kernel_rfl) (by kernel_rfl))
theorem envOk : EnvOk Try.prog envX := ⟨env_ty, by kernel_rfl, fun T h => by
  dsimp only [envX, tyT] at h
  split at h <;> first
    | (cases h; done)
    | exact date_eq env_ty rfl (by kernel_rfl) (by kernel_rfl) (by kernel_rfl), fun T h => by
  dsimp only [envX, tyT] at h
  split at h <;> first
    | (cases h; done)
    | exact abbr_eq env_ty rfl (by kernel_rfl) (by kernel_rfl) (by kernel_rfl)⟩
/-! ### 15 loop.example/g00896/laws.szAbbreviation -/
def laws_szAbbreviation.F (a0 : Abbr) (a1 : Int) : Option (Int) := bif (decide ((IntKind.wrap .i64 (a1 - (a0.word.size : Int))) < 0)) then (some (-1)) else (bif (decide ((IntKind.wrap .i64 ((IntKind.wrap .i64 (a1 - (a0.word.size : Int))) - (a0.short.size : Int))) < 0)) then (some (-1)) else (some (IntKind.wrap .i64 ((IntKind.wrap .i64 (a1 - (a0.word.size : Int))) - (a0.short.size : Int)))))
def laws_szAbbreviation.C : Cal → Option CArm := fun c => match c with
  | _ => none
theorem laws_szAbbreviation.run (a0 : Abbr) (a1 : Int) : runF envX (tabC laws_szAbbreviation.C) (tabL 20 0 (fun _ => none)) Try.f15 [.t .abbr a0, .t (.int .i64) a1] (viewR1 (.t (.int .i64))) = laws_szAbbreviation.F a0 a1 := by kernel_rfl
theorem laws_szAbbreviation.G (hE : EnvOk Try.prog envX) (pv : Nat → Value) : ∀ cal A, laws_szAbbreviation.C cal = some A → ArmOk Try.prog envX pv cal A := by
  intro cal A h
  unfold laws_szAbbreviation.C at h
  cases h
theorem laws_szAbbreviation.good (hE : EnvOk Try.prog envX) (pv : Nat → Value) (a0 : Abbr) (a1 : Int) {y : _} (h : laws_szAbbreviation.F a0 a1 = some y) : Meets Try.prog envX pv (.f 15) (tvals [.abbr, (.int .i64)] (a0, a1, ())) (.t (.int .i64) y) :=
  fun_plain hE (laws_szAbbreviation.G hE pv) (f := 15) (fn := Try.f15) (by kernel_rfl) rfl (by kernel_rfl) (by kernel_rfl) ((laws_szAbbreviation.run a0 a1).trans h) fun r hr => wk_view1 hr
/-! ### 10 loop.example/g00896/laws.szAbbreviationS -/
def laws_szAbbreviationS.l0 : Nat → (List Abbr) → Int → Int → Option (Sum Int Int)
  | 0, _, _, _ => none
  | k + 1, x0, x1, x5 => bif (decide (x5 < (x0.length : Int))) then (bif decide (0 ≤ x5) then (bif decide (x5 < (x0.length : Int)) then ((laws_szAbbreviation.F (x0.getD (x5 : Int).toNat (dflt .abbr)) x1).bind fun r1 => bif (decide (r1 < 0)) then (some (.inl (-1))) else (laws_szAbbreviationS.l0 k x0 r1 (IntKind.wrap .i64 (x5 + 1)))) else none) else none) else (some (.inr x1))
def laws_szAbbreviationS.F (k : Nat) (a0 : List Abbr) (a1 : Int) : Option (Int) := bif (decide ((IntKind.wrap .i64 (a1 - (a0.length : Int))) < 0)) then (some (-1)) else ((laws_szAbbreviationS.l0 k a0 (IntKind.wrap .i64 (a1 - (a0.length : Int))) 0).bind fun y2 => match y2 with | .inl z3 => some z3 | .inr z3 => some z3)
def laws_szAbbreviationS.C (k : Nat) : Cal → Option CArm := fun c => match c with
  | .f 15 => some ⟨[.abbr, (.int .i64)], _, fun x => laws_szAbbreviation.F x.1 x.2.1, fun r => (.t (.int .i64) r)⟩
  | _ => none
def laws_szAbbreviationS.sp0 : List Sp := [.t 0 (.sl .abbr), .t 1 (.int .i64), .t 5 (.int .i64)]
def laws_szAbbreviationS.sp0_0 : List Sp := [.t 4 (.int .i64)]
def laws_szAbbreviationS.sp0_1 : List Sp := [.t 1 (.int .i64)]
def laws_szAbbreviationS.A0 : LArm := .two laws_szAbbreviationS.sp0 laws_szAbbreviationS.sp0_0 laws_szAbbreviationS.sp0_1 (Int) (Int) (fun k x => laws_szAbbreviationS.l0 k x.1 x.2.1 x.2.2.1) .ret (.exit 0) (fun y => (y, ())) (fun x => x.1) (fun y => (y, ())) (fun x => x.1)
def laws_szAbbreviationS.L : Nat → Option LArm := fun b => match b with
  | 0 => some laws_szAbbreviationS.A0
  | _ => none
theorem laws_szAbbreviationS.run (k : Nat) (a0 : List Abbr) (a1 : Int) : runF envX (tabC (laws_szAbbreviationS.C k)) (tabL 27 k laws_szAbbreviationS.L) Try.f10 [.t (.sl .abbr) a0, .t (.int .i64) a1] (viewR1 (.t (.int .i64))) = laws_szAbbreviationS.F k a0 a1 := by kernel_rfl
theorem laws_szAbbreviationS.step0 (k : Nat) (x0 : List Abbr) (x1 : Int) (x5 : Int) : runC envX (tabC (laws_szAbbreviationS.C k)) (tabL 27 k laws_szAbbreviationS.L) 0 (loopAt Try.f10 0) (stOf 27 laws_szAbbreviationS.sp0 (x0, x1, x5, ())) (laws_szAbbreviationS.A0.cont 27 k) = laws_szAbbreviationS.l0 (k + 1) x0 x1 x5 := by kernel_rfl
theorem laws_szAbbreviationS.G (hE : EnvOk Try.prog envX) (pv : Nat → Value) (k : Nat) : ∀ cal A, laws_szAbbreviationS.C k cal = some A → ArmOk Try.prog envX pv cal A := by
  intro cal A h
  unfold laws_szAbbreviationS.C at h
  split at h
  · cases h; exact fun x y hy => laws_szAbbreviation.good hE pv x.1 x.2.1 hy
  · cases h
theorem laws_szAbbreviationS.good (hE : EnvOk Try.prog envX) (pv : Nat → Value) (k : Nat) (a0 : List Abbr) (a1 : Int) {y : _} (h : laws_szAbbreviationS.F k a0 a1 = some y) : Meets Try.prog envX pv (.f 10) (tvals [(.sl .abbr), (.int .i64)] (a0, a1, ())) (.t (.int .i64) y) :=
  fun_loops hE (t := laws_szAbbreviationS.C) (fun k => laws_szAbbreviationS.G hE pv k) (f := 10) (fn := Try.f10) (by kernel_rfl) rfl (by kernel_rfl) (by kernel_rfl) (lt := laws_szAbbreviationS.L) (by kernel_rfl) (fun b A h => by
    unfold laws_szAbbreviationS.L at h; split at h
    · cases h; exact ⟨by kernel_rfl, by kernel_rfl, by kernel_rfl, fun _ => rfl, fun _ => rfl, fun _ => rfl⟩
    · cases h) (fun b A h => by
    unfold laws_szAbbreviationS.L at h; split at h
    · cases h; exact fun k x => laws_szAbbreviationS.step0 k x.1 x.2.1 x.2.2.1
    · cases h) k ((laws_szAbbreviationS.run k a0 a1).trans h) fun r hr => wk_view1 hr
/-! ### 39 loop.example/g00896/spec.l1In -/
def spec_l1In.F (a0 : Int) (a1 : Int) (a2 : Int) : Option (Bool) := bif (decide (a0 ≥ a1)) then (some (decide (a0 ≤ a2))) else (some false)
def spec_l1In.C : Cal → Option CArm := fun c => match c with
  | _ => none
theorem spec_l1In.run (a0 : Int) (a1 : Int) (a2 : Int) : runF envX (tabC spec_l1In.C) (tabL 15 0 (fun _ => none)) Try.f39 [.t (.int .i64) a0, .t (.int .i64) a1, .t (.int .i64) a2] (viewR1 (.t .bool)) = spec_l1In.F a0 a1 a2 := by kernel_rfl
theorem spec_l1In.G (hE : EnvOk Try.prog envX) (pv : Nat → Value) : ∀ cal A, spec_l1In.C cal = some A → ArmOk Try.prog envX pv cal A := by
  intro cal A h
  unfold spec_l1In.C at h
  cases h
theorem spec_l1In.good (hE : EnvOk Try.prog envX) (pv : Nat → Value) (a0 : Int) (a1 : Int) (a2 : Int) {y : _} (h : spec_l1In.F a0 a1 a2 = some y) : Meets Try.prog envX pv (.f 39) (tvals [(.int .i64), (.int .i64), (.int .i64)] (a0, a1, a2, ())) (.t .bool y) :=
  fun_plain hE (spec_l1In.G hE pv) (f := 39) (fn := Try.f39) (by kernel_rfl) rfl (by kernel_rfl) (by kernel_rfl) ((spec_l1In.run a0 a1 a2).trans h) fun r hr => wk_view1 hr
/-! ### 45 loop.example/g00896/spec.l19Letters -/
def spec_l19Letters.l0 : Nat → ByteArray → Int → Int → Int → Option (Sum Bool (ByteArray × Int × Int))
  | 0, _, _, _, _ => none
  | k + 1, x0, x1, x2, x7 => bif (decide (x7 < (x0.size : Int))) then (bif decide (0 ≤ x7) then (bif decide (x7 < (x0.size : Int)) then (bif (decide ((bt x0 (x7 : Int).toNat) < 97)) then (some (.inl false)) else (bif decide (0 ≤ x7) then (bif decide (x7 < (x0.size : Int)) then (bif (decide ((bt x0 (x7 : Int).toNat) > 122)) then (some (.inl false)) else (spec_l19Letters.l0 k x0 x1 x2 (IntKind.wrap .i64 (x7 + 1)))) else none) else none)) else none) else none) else (some (.inr (x0, x1, x2)))
def spec_l19Letters.F (k : Nat) (a0 : ByteArray) (a1 : Int) (a2 : Int) : Option (Bool) := (spec_l19Letters.l0 k a0 a1 a2 0).bind fun y1 => match y1 with | .inl z2 => some z2 | .inr z2 => (spec_l1In.F (z2.1.size : Int) z2.2.1 z2.2.2).bind fun r3 => some r3
def spec_l19Letters.C (k : Nat) : Cal → Option CArm := fun c => match c with
  | .f 39 => some ⟨[(.int .i64), (.int .i64), (.int .i64)], _, fun x => spec_l1In.F x.1 x.2.1 x.2.2.1, fun r => (.t .bool r)⟩
  | _ => none
def spec_l19Letters.sp0 : List Sp := [.t 0 .str, .t 1 (.int .i64), .t 2 (.int .i64), .t 7 (.int .i64)]
def spec_l19Letters.sp0_0 : List Sp := [.t 6 .bool]
def spec_l19Letters.sp0_1 : List Sp := [.t 0 .str, .t 1 (.int .i64), .t 2 (.int .i64)]
def spec_l19Letters.A0 : LArm := .two spec_l19Letters.sp0 spec_l19Letters.sp0_0 spec_l19Letters.sp0_1 (Bool) (ByteArray × Int × Int) (fun k x => spec_l19Letters.l0 k x.1 x.2.1 x.2.2.1 x.2.2.2.1) .ret (.exit 0) (fun y => (y, ())) (fun x => x.1) (fun y => (y.1, y.2.1, y.2.2, ())) (fun x => (x.1, x.2.1, x.2.2.1))
def spec_l19Letters.L : Nat → Option LArm := fun b => match b with
  | 0 => some spec_l19Letters.A0
  | _ => none
theorem spec_l19Letters.run (k : Nat) (a0 : ByteArray) (a1 : Int) (a2 : Int) : runF envX (tabC (spec_l19Letters.C k)) (tabL 29 k spec_l19Letters.L) Try.f45 [.t .str a0, .t (.int .i64) a1, .t (.int .i64) a2] (viewR1 (.t .bool)) = spec_l19Letters.F k a0 a1 a2 := by kernel_rfl
theorem spec_l19Letters.step0 (k : Nat) (x0 : ByteArray) (x1 : Int) (x2 : Int) (x7 : Int) : runC envX (tabC (spec_l19Letters.C k)) (tabL 29 k spec_l19Letters.L) 0 (loopAt Try.f45 0) (stOf 29 spec_l19Letters.sp0 (x0, x1, x2, x7, ())) (spec_l19Letters.A0.cont 29 k) = spec_l19Letters.l0 (k + 1) x0 x1 x2 x7 := by kernel_rfl
theorem spec_l19Letters.G (hE : EnvOk Try.prog envX) (pv : Nat → Value) (k : Nat) : ∀ cal A, spec_l19Letters.C k cal = some A → ArmOk Try.prog envX pv cal A := by
  intro cal A h
  unfold spec_l19Letters.C at h
  split at h
  · cases h; exact fun x y hy => spec_l1In.good hE pv x.1 x.2.1 x.2.2.1 hy
  · cases h
theorem spec_l19Letters.good (hE : EnvOk Try.prog envX) (pv : Nat → Value) (k : Nat) (a0 : ByteArray) (a1 : Int) (a2 : Int) {y : _} (h : spec_l19Letters.F k a0 a1 a2 = some y) : Meets Try.prog envX pv (.f 45) (tvals [.str, (.int .i64), (.int .i64)] (a0, a1, a2, ())) (.t .bool y) :=
  fun_loops hE (t := spec_l19Letters.C) (fun k => spec_l19Letters.G hE pv k) (f := 45) (fn := Try.f45) (by kernel_rfl) rfl (by kernel_rfl) (by kernel_rfl) (lt := spec_l19Letters.L) (by kernel_rfl) (fun b A h => by
    unfold spec_l19Letters.L at h; split at h
    · cases h; exact ⟨by kernel_rfl, by kernel_rfl, by kernel_rfl, fun _ => rfl, fun _ => rfl, fun _ => rfl⟩
    · cases h) (fun b A h => by
    unfold spec_l19Letters.L at h; split at h
    · cases h; exact fun k x => spec_l19Letters.step0 k x.1 x.2.1 x.2.2.1 x.2.2.2.1
    · cases h) k ((spec_l19Letters.run k a0 a1 a2).trans h) fun r hr => wk_view1 hr
/-! ### 46 loop.example/g00896/spec.l19Cut -/
def spec_l19Cut.F (a0 : ByteArray) (a1 : Int) : Option (ByteArray) := bif (!beqS a0 (⟨#[]⟩ : ByteArray)) then (bif decide (0 ≤ (IntKind.wrap .i64 ((a0.size : Int) - 1))) then (bif decide ((IntKind.wrap .i64 ((a0.size : Int) - 1)) < (a0.size : Int)) then (bif ((bt a0 ((IntKind.wrap .i64 ((a0.size : Int) - 1)) : Int).toNat) == a1) then (bif decide (0 ≤ (IntKind.wrap .i64 ((a0.size : Int) - 1))) then (bif decide ((IntKind.wrap .i64 ((a0.size : Int) - 1)) ≤ (a0.size : Int)) then (some (a0.extract 0 ((IntKind.wrap .i64 ((a0.size : Int) - 1)) : Int).toNat)) else none) else none) else (some a0)) else none) else none) else (some a0)
def spec_l19Cut.C : Cal → Option CArm := fun c => match c with
  | _ => none
theorem spec_l19Cut.run (a0 : ByteArray) (a1 : Int) : runF envX (tabC spec_l19Cut.C) (tabL 22 0 (fun _ => none)) Try.f46 [.t .str a0, .t (.int .u8) a1] (viewR1 (.t .str)) = spec_l19Cut.F a0 a1 := by kernel_rfl
theorem spec_l19Cut.G (hE : EnvOk Try.prog envX) (pv : Nat → Value) : ∀ cal A, spec_l19Cut.C cal = some A → ArmOk Try.prog envX pv cal A := by
  intro cal A h
  unfold spec_l19Cut.C at h
  cases h
theorem spec_l19Cut.good (hE : EnvOk Try.prog envX) (pv : Nat → Value) (a0 : ByteArray) (a1 : Int) {y : _} (h : spec_l19Cut.F a0 a1 = some y) : Meets Try.prog envX pv (.f 46) (tvals [.str, (.int .u8)] (a0, a1, ())) (.t .str y) :=
  fun_plain hE (spec_l19Cut.G hE pv) (f := 46) (fn := Try.f46) (by kernel_rfl) rfl (by kernel_rfl) (by kernel_rfl) ((spec_l19Cut.run a0 a1).trans h) fun r hr => wk_view1 hr
/-! ### 30 loop.example/g00896/spec.l19One -/
def spec_l19One.F (k : Nat) (a0 : Abbr) : Option (Bool) := (spec_l19Cut.F a0.word 45).bind fun r1 => (spec_l19Letters.F k r1 2 15).bind fun r2 => bif r2 then ((spec_l19Cut.F a0.short 46).bind fun r3 => (spec_l19Letters.F k r3 1 12).bind fun r4 => some r4) else (some false)
def spec_l19One.C (k : Nat) : Cal → Option CArm := fun c => match c with
  | .f 46 => some ⟨[.str, (.int .u8)], _, fun x => spec_l19Cut.F x.1 x.2.1, fun r => (.t .str r)⟩
  | .f 45 => some ⟨[.str, (.int .i64), (.int .i64)], _, fun x => spec_l19Letters.F k x.1 x.2.1 x.2.2.1, fun r => (.t .bool r)⟩
  | _ => none
theorem spec_l19One.run (k : Nat) (a0 : Abbr) : runF envX (tabC (spec_l19One.C k)) (tabL 13 0 (fun _ => none)) Try.f30 [.t .abbr a0] (viewR1 (.t .bool)) = spec_l19One.F k a0 := by kernel_rfl
theorem spec_l19One.G (hE : EnvOk Try.prog envX) (pv : Nat → Value) (k : Nat) : ∀ cal A, spec_l19One.C k cal = some A → ArmOk Try.prog envX pv cal A := by
  intro cal A h
  unfold spec_l19One.C at h
  split at h
  · cases h; exact fun x y hy => spec_l19Cut.good hE pv x.1 x.2.1 hy
  · cases h; exact fun x y hy => spec_l19Letters.good hE pv k x.1 x.2.1 x.2.2.1 hy
  · cases h
theorem spec_l19One.good (hE : EnvOk Try.prog envX) (pv : Nat → Value) (k : Nat) (a0 : Abbr) {y : _} (h : spec_l19One.F k a0 = some y) : Meets Try.prog envX pv (.f 30) (tvals [.abbr] (a0, ())) (.t .bool y) :=
  fun_plain hE (spec_l19One.G hE pv k) (f := 30) (fn := Try.f30) (by kernel_rfl) rfl (by kernel_rfl) (by kernel_rfl) ((spec_l19One.run k a0).trans h) fun r hr => wk_view1 hr
/-! ### 27 loop.example/g00896/spec.l19Good -/
def spec_l19Good.l0 : Nat → (List Abbr) → Int → Option (Sum Bool (List Abbr))
  | 0, _, _ => none
  | k + 1, x0, x3 => bif (decide (x3 < (x0.length : Int))) then (bif (decide (x3 ≤ 15)) then (bif decide (0 ≤ x3) then (bif decide (x3 < (x0.length : Int)) then ((spec_l19One.F k (x0.getD (x3 : Int).toNat (dflt .abbr))).bind fun r1 => bif (!r1) then (some (.inl false)) else (bif (decide (x3 > 0)) then (bif decide (0 ≤ (IntKind.wrap .i64 (x3 - 1))) then (bif decide ((IntKind.wrap .i64 (x3 - 1)) < (x0.length : Int)) then (bif decide (0 ≤ x3) then (bif decide (x3 < (x0.length : Int)) then (bif (!ltS ((x0.getD ((IntKind.wrap .i64 (x3 - 1)) : Int).toNat (dflt .abbr)).word) ((x0.getD (x3 : Int).toNat (dflt .abbr)).word)) then (some (.inl false)) else (spec_l19Good.l0 k x0 (IntKind.wrap .i64 (x3 + 1)))) else none) else none) else none) else none) else (spec_l19Good.l0 k x0 (IntKind.wrap .i64 (x3 + 1))))) else none) else none) else (some (.inr x0))) else (some (.inr x0))
def spec_l19Good.F (k : Nat) (a0 : List Abbr) : Option (Bool) := (spec_l19Good.l0 k a0 0).bind fun y2 => match y2 with | .inl z3 => some z3 | .inr z3 => some (decide ((z3.length : Int) ≤ 15))
def spec_l19Good.C (k : Nat) : Cal → Option CArm := fun c => match c with
  | .f 30 => some ⟨[.abbr], _, fun x => spec_l19One.F k x.1, fun r => (.t .bool r)⟩
  | _ => none
def spec_l19Good.sp0 : List Sp := [.t 0 (.sl .abbr), .t 3 (.int .i64)]
def spec_l19Good.sp0_0 : List Sp := [.t 2 .bool]
def spec_l19Good.sp0_1 : List Sp := [.t 0 (.sl .abbr)]
def spec_l19Good.A0 : LArm := .two spec_l19Good.sp0 spec_l19Good.sp0_0 spec_l19Good.sp0_1 (Bool) ((List Abbr)) (fun k x => spec_l19Good.l0 k x.1 x.2.1) .ret (.exit 0) (fun y => (y, ())) (fun x => x.1) (fun y => (y, ())) (fun x => x.1)
def spec_l19Good.L : Nat → Option LArm := fun b => match b with
  | 0 => some spec_l19Good.A0
  | _ => none
theorem spec_l19Good.run (k : Nat) (a0 : List Abbr) : runF envX (tabC (spec_l19Good.C k)) (tabL 41 k spec_l19Good.L) Try.f27 [.t (.sl .abbr) a0] (viewR1 (.t .bool)) = spec_l19Good.F k a0 := by kernel_rfl
theorem spec_l19Good.step0 (k : Nat) (x0 : List Abbr) (x3 : Int) : runC envX (tabC (spec_l19Good.C k)) (tabL 41 k spec_l19Good.L) 0 (loopAt Try.f27 0) (stOf 41 spec_l19Good.sp0 (x0, x3, ())) (spec_l19Good.A0.cont 41 k) = spec_l19Good.l0 (k + 1) x0 x3 := by kernel_rfl
theorem spec_l19Good.G (hE : EnvOk Try.prog envX) (pv : Nat → Value) (k : Nat) : ∀ cal A, spec_l19Good.C k cal = some A → ArmOk Try.prog envX pv cal A := by
  intro cal A h
  unfold spec_l19Good.C at h
  split at h
  · cases h; exact fun x y hy => spec_l19One.good hE pv k x.1 hy
  · cases h
theorem spec_l19Good.good (hE : EnvOk Try.prog envX) (pv : Nat → Value) (k : Nat) (a0 : List Abbr) {y : _} (h : spec_l19Good.F k a0 = some y) : Meets Try.prog envX pv (.f 27) (tvals [(.sl .abbr)] (a0, ())) (.t .bool y) :=
  fun_loops hE (t := spec_l19Good.C) (fun k => spec_l19Good.G hE pv k) (f := 27) (fn := Try.f27) (by kernel_rfl) rfl (by kernel_rfl) (by kernel_rfl) (lt := spec_l19Good.L) (by kernel_rfl) (fun b A h => by
    unfold spec_l19Good.L at h; split at h
    · cases h; exact ⟨by kernel_rfl, by kernel_rfl, by kernel_rfl, fun _ => rfl, fun _ => rfl, fun _ => rfl⟩
    · cases h) (fun b A h => by
    unfold spec_l19Good.L at h; split at h
    · cases h; exact fun k x => spec_l19Good.step0 k x.1 x.2.1
    · cases h) k ((spec_l19Good.run k a0).trans h) fun r hr => wk_view1 hr
/-! ### 11 loop.example/g00896/spec.IsValidAbbreviations -/
def spec_IsValidAbbreviations.F (k : Nat) (a0 : List Abbr) : Option (Bool) := (spec_l19Good.F k a0).bind fun r1 => some r1
def spec_IsValidAbbreviations.C (k : Nat) : Cal → Option CArm := fun c => match c with
  | .f 27 => some ⟨[(.sl .abbr)], _, fun x => spec_l19Good.F k x.1, fun r => (.t .bool r)⟩
  | _ => none
theorem spec_IsValidAbbreviations.run (k : Nat) (a0 : List Abbr) : runF envX (tabC (spec_IsValidAbbreviations.C k)) (tabL 5 0 (fun _ => none)) Try.f11 [.t (.sl .abbr) a0] (viewR1 (.t .bool)) = spec_IsValidAbbreviations.F k a0 := by kernel_rfl
theorem spec_IsValidAbbreviations.G (hE : EnvOk Try.prog envX) (pv : Nat → Value) (k : Nat) : ∀ cal A, spec_IsValidAbbreviations.C k cal = some A → ArmOk Try.prog envX pv cal A := by
  intro cal A h
  unfold spec_IsValidAbbreviations.C at h
  split at h
  · cases h; exact fun x y hy => spec_l19Good.good hE pv k x.1 hy
  · cases h
theorem spec_IsValidAbbreviations.good (hE : EnvOk Try.prog envX) (pv : Nat → Value) (k : Nat) (a0 : List Abbr) {y : _} (h : spec_IsValidAbbreviations.F k a0 = some y) : Meets Try.prog envX pv (.f 11) (tvals [(.sl .abbr)] (a0, ())) (.t .bool y) :=
  fun_plain hE (spec_IsValidAbbreviations.G hE pv k) (f := 11) (fn := Try.f11) (by kernel_rfl) rfl (by kernel_rfl) (by kernel_rfl) ((spec_IsValidAbbreviations.run k a0).trans h) fun r hr => wk_view1 hr
/-! ### 17 loop.example/g00896/laws.toAbbreviation -/
def laws_toAbbreviation.F (a0 : Abbr) : Option (Abbr) := some (⟨a0.word, a0.short⟩ : Abbr)
def laws_toAbbreviation.C : Cal → Option CArm := fun c => match c with
  | _ => none
theorem laws_toAbbreviation.run (a0 : Abbr) : runF envX (tabC laws_toAbbreviation.C) (tabL 11 0 (fun _ => none)) Try.f17 [.t .abbr a0] (viewR1 (.t .abbr)) = laws_toAbbreviation.F a0 := by kernel_rfl
theorem laws_toAbbreviation.G (hE : EnvOk Try.prog envX) (pv : Nat → Value) : ∀ cal A, laws_toAbbreviation.C cal = some A → ArmOk Try.prog envX pv cal A := by
  intro cal A h
  unfold laws_toAbbreviation.C at h
  cases h
theorem laws_toAbbreviation.good (hE : EnvOk Try.prog envX) (pv : Nat → Value) (a0 : Abbr) {y : _} (h : laws_toAbbreviation.F a0 = some y) : Meets Try.prog envX pv (.f 17) (tvals [.abbr] (a0, ())) (.t .abbr y) :=
  fun_plain hE (laws_toAbbreviation.G hE pv) (f := 17) (fn := Try.f17) (by kernel_rfl) rfl (by kernel_rfl) (by kernel_rfl) ((laws_toAbbreviation.run a0).trans h) fun r hr => wk_view1 hr
/-! ### 12 loop.example/g00896/laws.toAbbreviationS -/
def laws_toAbbreviationS.l0 : Nat → (List Abbr) → (List Abbr) → Int → Option ((List Abbr))
  | 0, _, _, _ => none
  | k + 1, x0, x3, x4 => bif (decide (x4 < (x0.length : Int))) then (bif decide (0 ≤ x4) then (bif decide (x4 < (x0.length : Int)) then ((laws_toAbbreviation.F (x0.getD (x4 : Int).toNat (dflt .abbr))).bind fun r1 => bif decide (0 ≤ x4) then (bif decide (x4 < (x3.length : Int)) then (laws_toAbbreviationS.l0 k x0 (x3.set ((x4 : Int).toNat) r1) (IntKind.wrap .i64 (x4 + 1))) else none) else none) else none) else none) else (some x3)
def laws_toAbbreviationS.F (k : Nat) (a0 : List Abbr) : Option (List Abbr) := bif ((a0.length : Int) == (a0.length : Int)) then (bif decide (0 ≤ (a0.length : Int)) then (bif Nat.ble (((a0.length : Int) : Int).toNat * nb .abbr) 140737488355328 then ((laws_toAbbreviationS.l0 k a0 (List.replicate ((a0.length : Int) : Int).toNat (dflt .abbr)) 0).bind fun y2 => some y2) else none) else none) else none
def laws_toAbbreviationS.C (k : Nat) : Cal → Option CArm := fun c => match c with
  | .f 17 => some ⟨[.abbr], _, fun x => laws_toAbbreviation.F x.1, fun r => (.t .abbr r)⟩
  | _ => none
def laws_toAbbreviationS.sp0 : List Sp := [.t 0 (.sl .abbr), .own 3 1032 41 .abbr false true, .t 4 (.int .i64)]
def laws_toAbbreviationS.sp0_0 : List Sp := [.own 3 1032 41 .abbr false true]
def laws_toAbbreviationS.A0 : LArm := .one laws_toAbbreviationS.sp0 laws_toAbbreviationS.sp0_0 ((List Abbr)) (fun k x => laws_toAbbreviationS.l0 k x.1 x.2.1 x.2.2.1) (.exit 0) (fun y => (y, ())) (fun x => x.1)
def laws_toAbbreviationS.L : Nat → Option LArm := fun b => match b with
  | 0 => some laws_toAbbreviationS.A0
  | _ => none
theorem laws_toAbbreviationS.run (k : Nat) (a0 : List Abbr) : runF envX (tabC (laws_toAbbreviationS.C k)) (tabL 23 k laws_toAbbreviationS.L) Try.f12 [.t (.sl .abbr) a0] (viewR1 (.fr 41 .abbr)) = laws_toAbbreviationS.F k a0 := by kernel_rfl
theorem laws_toAbbreviationS.step0 (k : Nat) (x0 : List Abbr) (x3 : List Abbr) (x4 : Int) : runC envX (tabC (laws_toAbbreviationS.C k)) (tabL 23 k laws_toAbbreviationS.L) 0 (loopAt Try.f12 0) (stOf 23 laws_toAbbreviationS.sp0 (x0, x3, x4, ())) (laws_toAbbreviationS.A0.cont 23 k) = laws_toAbbreviationS.l0 (k + 1) x0 x3 x4 := by kernel_rfl
theorem laws_toAbbreviationS.G (hE : EnvOk Try.prog envX) (pv : Nat → Value) (k : Nat) : ∀ cal A, laws_toAbbreviationS.C k cal = some A → ArmOk Try.prog envX pv cal A := by
  intro cal A h
  unfold laws_toAbbreviationS.C at h
  split at h
  · cases h; exact fun x y hy => laws_toAbbreviation.good hE pv x.1 hy
  · cases h
theorem laws_toAbbreviationS.good (hE : EnvOk Try.prog envX) (pv : Nat → Value) (k : Nat) (a0 : List Abbr) {y : _} (h : laws_toAbbreviationS.F k a0 = some y) : Meets Try.prog envX pv (.f 12) (tvals [(.sl .abbr)] (a0, ())) (.fr 41 .abbr y) :=
  fun_loops hE (t := laws_toAbbreviationS.C) (fun k => laws_toAbbreviationS.G hE pv k) (f := 12) (fn := Try.f12) (by kernel_rfl) rfl (by kernel_rfl) (by kernel_rfl) (lt := laws_toAbbreviationS.L) (by kernel_rfl) (fun b A h => by
    unfold laws_toAbbreviationS.L at h; split at h
    · cases h; exact ⟨by kernel_rfl, by kernel_rfl, fun _ => rfl, fun _ => rfl⟩
    · cases h) (fun b A h => by
    unfold laws_toAbbreviationS.L at h; split at h
    · cases h; exact fun k x => laws_toAbbreviationS.step0 k x.1 x.2.1 x.2.2.1
    · cases h) k ((laws_toAbbreviationS.run k a0).trans h) fun r hr => wk_view1 hr
/-! ### 35 loop.example/g00896/impl.inside -/
def impl_inside.F (a0 : Int) (a1 : Int) (a2 : Int) : Option (Bool) := bif (decide (a0 ≥ a1)) then (some (decide (a0 ≤ a2))) else (some false)
def impl_inside.C : Cal → Option CArm := fun c => match c with
  | _ => none
theorem impl_inside.run (a0 : Int) (a1 : Int) (a2 : Int) : runF envX (tabC impl_inside.C) (tabL 15 0 (fun _ => none)) Try.f35 [.t (.int .i64) a0, .t (.int .i64) a1, .t (.int .i64) a2] (viewR1 (.t .bool)) = impl_inside.F a0 a1 a2 := by kernel_rfl
theorem impl_inside.G (hE : EnvOk Try.prog envX) (pv : Nat → Value) : ∀ cal A, impl_inside.C cal = some A → ArmOk Try.prog envX pv cal A := by
  intro cal A h
  unfold impl_inside.C at h
  cases h
theorem impl_inside.good (hE : EnvOk Try.prog envX) (pv : Nat → Value) (a0 : Int) (a1 : Int) (a2 : Int) {y : _} (h : impl_inside.F a0 a1 a2 = some y) : Meets Try.prog envX pv (.f 35) (tvals [(.int .i64), (.int .i64), (.int .i64)] (a0, a1, a2, ())) (.t .bool y) :=
  fun_plain hE (impl_inside.G hE pv) (f := 35) (fn := Try.f35) (by kernel_rfl) rfl (by kernel_rfl) (by kernel_rfl) ((impl_inside.run a0 a1 a2).trans h) fun r hr => wk_view1 hr
/-! ### 67 internal/stringslite.HasSuffix -/
def stringslite_HasSuffix.F (a0 : ByteArray) (a1 : ByteArray) : Option (Bool) := bif (decide ((a0.size : Int) ≥ (a1.size : Int))) then (bif decide (0 ≤ (IntKind.wrap .i64 ((a0.size : Int) - (a1.size : Int)))) then (bif decide ((IntKind.wrap .i64 ((a0.size : Int) - (a1.size : Int))) ≤ (a0.size : Int)) then (some (beqS (a0.extract ((IntKind.wrap .i64 ((a0.size : Int) - (a1.size : Int))) : Int).toNat a0.size) a1)) else none) else none) else (some false)
def stringslite_HasSuffix.C : Cal → Option CArm := fun c => match c with
  | _ => none
theorem stringslite_HasSuffix.run (a0 : ByteArray) (a1 : ByteArray) : runF envX (tabC stringslite_HasSuffix.C) (tabL 21 0 (fun _ => none)) Try.f67 [.t .str a0, .t .str a1] (viewR1 (.t .bool)) = stringslite_HasSuffix.F a0 a1 := by kernel_rfl
theorem stringslite_HasSuffix.G (hE : EnvOk Try.prog envX) (pv : Nat → Value) : ∀ cal A, stringslite_HasSuffix.C cal = some A → ArmOk Try.prog envX pv cal A := by
  intro cal A h
  unfold stringslite_HasSuffix.C at h
  cases h
theorem stringslite_HasSuffix.good (hE : EnvOk Try.prog envX) (pv : Nat → Value) (a0 : ByteArray) (a1 : ByteArray) {y : _} (h : stringslite_HasSuffix.F a0 a1 = some y) : Meets Try.prog envX pv (.f 67) (tvals [.str, .str] (a0, a1, ())) (.t .bool y) :=
  fun_plain hE (stringslite_HasSuffix.G hE pv) (f := 67) (fn := Try.f67) (by kernel_rfl) rfl (by kernel_rfl) (by kernel_rfl) ((stringslite_HasSuffix.run a0 a1).trans h) fun r hr => wk_view1 hr
/-! ### 55 internal/stringslite.TrimSuffix -/
def stringslite_TrimSuffix.F (a0 : ByteArray) (a1 : ByteArray) : Option (ByteArray) := (stringslite_HasSuffix.F a0 a1).bind fun r1 => bif r1 then (bif decide (0 ≤ (IntKind.wrap .i64 ((a0.size : Int) - (a1.size : Int)))) then (bif decide ((IntKind.wrap .i64 ((a0.size : Int) - (a1.size : Int))) ≤ (a0.size : Int)) then (some (a0.extract 0 ((IntKind.wrap .i64 ((a0.size : Int) - (a1.size : Int))) : Int).toNat)) else none) else none) else (some a0)
def stringslite_TrimSuffix.C : Cal → Option CArm := fun c => match c with
  | .f 67 => some ⟨[.str, .str], _, fun x => stringslite_HasSuffix.F x.1 x.2.1, fun r => (.t .bool r)⟩
  | _ => none
theorem stringslite_TrimSuffix.run (a0 : ByteArray) (a1 : ByteArray) : runF envX (tabC stringslite_TrimSuffix.C) (tabL 16 0 (fun _ => none)) Try.f55 [.t .str a0, .t .str a1] (viewR1 (.t .str)) = stringslite_TrimSuffix.F a0 a1 := by kernel_rfl
theorem stringslite_TrimSuffix.G (hE : EnvOk Try.prog envX) (pv : Nat → Value) : ∀ cal A, stringslite_TrimSuffix.C cal = some A → ArmOk Try.prog envX pv cal A := by
  intro cal A h
  unfold stringslite_TrimSuffix.C at h
  split at h
  · cases h; exact fun x y hy => stringslite_HasSuffix.good hE pv x.1 x.2.1 hy
  · cases h
theorem stringslite_TrimSuffix.good (hE : EnvOk Try.prog envX) (pv : Nat → Value) (a0 : ByteArray) (a1 : ByteArray) {y : _} (h : stringslite_TrimSuffix.F a0 a1 = some y) : Meets Try.prog envX pv (.f 55) (tvals [.str, .str] (a0, a1, ())) (.t .str y) :=
  fun_plain hE (stringslite_TrimSuffix.G hE pv) (f := 55) (fn := Try.f55) (by kernel_rfl) rfl (by kernel_rfl) (by kernel_rfl) ((stringslite_TrimSuffix.run a0 a1).trans h) fun r hr => wk_view1 hr
/-! ### 43 strings.TrimSuffix -/
def strings_TrimSuffix.F (a0 : ByteArray) (a1 : ByteArray) : Option (ByteArray) := (stringslite_TrimSuffix.F a0 a1).bind fun r1 => some r1
def strings_TrimSuffix.C : Cal → Option CArm := fun c => match c with
  | .f 55 => some ⟨[.str, .str], _, fun x => stringslite_TrimSuffix.F x.1 x.2.1, fun r => (.t .str r)⟩
  | _ => none
theorem strings_TrimSuffix.run (a0 : ByteArray) (a1 : ByteArray) : runF envX (tabC strings_TrimSuffix.C) (tabL 8 0 (fun _ => none)) Try.f43 [.t .str a0, .t .str a1] (viewR1 (.t .str)) = strings_TrimSuffix.F a0 a1 := by kernel_rfl
theorem strings_TrimSuffix.G (hE : EnvOk Try.prog envX) (pv : Nat → Value) : ∀ cal A, strings_TrimSuffix.C cal = some A → ArmOk Try.prog envX pv cal A := by
  intro cal A h
  unfold strings_TrimSuffix.C at h
  split at h
  · cases h; exact fun x y hy => stringslite_TrimSuffix.good hE pv x.1 x.2.1 hy
  · cases h
theorem strings_TrimSuffix.good (hE : EnvOk Try.prog envX) (pv : Nat → Value) (a0 : ByteArray) (a1 : ByteArray) {y : _} (h : strings_TrimSuffix.F a0 a1 = some y) : Meets Try.prog envX pv (.f 43) (tvals [.str, .str] (a0, a1, ())) (.t .str y) :=
  fun_plain hE (strings_TrimSuffix.G hE pv) (f := 43) (fn := Try.f43) (by kernel_rfl) rfl (by kernel_rfl) (by kernel_rfl) ((strings_TrimSuffix.run a0 a1).trans h) fun r hr => wk_view1 hr
/-! ### 44 loop.example/g00896/impl.isLower -/
def impl_isLower.F (a0 : Int) : Option (Bool) := bif (decide (a0 ≥ 97)) then (some (decide (a0 ≤ 122))) else (some false)
def impl_isLower.C : Cal → Option CArm := fun c => match c with
  | _ => none
theorem impl_isLower.run (a0 : Int) : runF envX (tabC impl_isLower.C) (tabL 9 0 (fun _ => none)) Try.f44 [.t (.int .u8) a0] (viewR1 (.t .bool)) = impl_isLower.F a0 := by kernel_rfl
theorem impl_isLower.G (hE : EnvOk Try.prog envX) (pv : Nat → Value) : ∀ cal A, impl_isLower.C cal = some A → ArmOk Try.prog envX pv cal A := by
  intro cal A h
  unfold impl_isLower.C at h
  cases h
theorem impl_isLower.good (hE : EnvOk Try.prog envX) (pv : Nat → Value) (a0 : Int) {y : _} (h : impl_isLower.F a0 = some y) : Meets Try.prog envX pv (.f 44) (tvals [(.int .u8)] (a0, ())) (.t .bool y) :=
  fun_plain hE (impl_isLower.G hE pv) (f := 44) (fn := Try.f44) (by kernel_rfl) rfl (by kernel_rfl) (by kernel_rfl) ((impl_isLower.run a0).trans h) fun r hr => wk_view1 hr
/-! ### 28 loop.example/g00896/impl.isSmall -/
def impl_isSmall.l0 : Nat → ByteArray → Int → Int → Int → Option (Sum Bool (ByteArray × Int × Int))
  | 0, _, _, _, _ => none
  | k + 1, x0, x1, x2, x9 => bif (decide (x9 < (x0.size : Int))) then (bif decide (0 ≤ x9) then (bif decide (x9 < (x0.size : Int)) then ((impl_isLower.F (bt x0 (x9 : Int).toNat)).bind fun r2 => bif (!r2) then (some (.inl false)) else (impl_isSmall.l0 k x0 x1 x2 (IntKind.wrap .i64 (x9 + 1)))) else none) else none) else (some (.inr (x0, x1, x2)))
def impl_isSmall.F (k : Nat) (a0 : ByteArray) (a1 : Int) (a2 : Int) (a3 : ByteArray) : Option (Bool) := (strings_TrimSuffix.F a0 a3).bind fun r1 => (impl_isSmall.l0 k r1 a1 a2 0).bind fun y3 => match y3 with | .inl z4 => some z4 | .inr z4 => (impl_inside.F (z4.1.size : Int) z4.2.1 z4.2.2).bind fun r5 => some r5
def impl_isSmall.C (k : Nat) : Cal → Option CArm := fun c => match c with
  | .f 43 => some ⟨[.str, .str], _, fun x => strings_TrimSuffix.F x.1 x.2.1, fun r => (.t .str r)⟩
  | .f 44 => some ⟨[(.int .u8)], _, fun x => impl_isLower.F x.1, fun r => (.t .bool r)⟩
  | .f 35 => some ⟨[(.int .i64), (.int .i64), (.int .i64)], _, fun x => impl_inside.F x.1 x.2.1 x.2.2.1, fun r => (.t .bool r)⟩
  | _ => none
def impl_isSmall.sp0 : List Sp := [.t 0 .str, .t 1 (.int .i64), .t 2 (.int .i64), .t 9 (.int .i64)]
def impl_isSmall.sp0_0 : List Sp := [.t 8 .bool]
def impl_isSmall.sp0_1 : List Sp := [.t 0 .str, .t 1 (.int .i64), .t 2 (.int .i64)]
def impl_isSmall.A0 : LArm := .two impl_isSmall.sp0 impl_isSmall.sp0_0 impl_isSmall.sp0_1 (Bool) (ByteArray × Int × Int) (fun k x => impl_isSmall.l0 k x.1 x.2.1 x.2.2.1 x.2.2.2.1) .ret (.exit 0) (fun y => (y, ())) (fun x => x.1) (fun y => (y.1, y.2.1, y.2.2, ())) (fun x => (x.1, x.2.1, x.2.2.1))
def impl_isSmall.L : Nat → Option LArm := fun b => match b with
  | 0 => some impl_isSmall.A0
  | _ => none
theorem impl_isSmall.run (k : Nat) (a0 : ByteArray) (a1 : Int) (a2 : Int) (a3 : ByteArray) : runF envX (tabC (impl_isSmall.C k)) (tabL 29 k impl_isSmall.L) Try.f28 [.t .str a0, .t (.int .i64) a1, .t (.int .i64) a2, .t .str a3] (viewR1 (.t .bool)) = impl_isSmall.F k a0 a1 a2 a3 := by kernel_rfl
theorem impl_isSmall.step0 (k : Nat) (x0 : ByteArray) (x1 : Int) (x2 : Int) (x9 : Int) : runC envX (tabC (impl_isSmall.C k)) (tabL 29 k impl_isSmall.L) 0 (loopAt Try.f28 0) (stOf 29 impl_isSmall.sp0 (x0, x1, x2, x9, ())) (impl_isSmall.A0.cont 29 k) = impl_isSmall.l0 (k + 1) x0 x1 x2 x9 := by kernel_rfl
theorem impl_isSmall.G (hE : EnvOk Try.prog envX) (pv : Nat → Value) (k : Nat) : ∀ cal A, impl_isSmall.C k cal = some A → ArmOk Try.prog envX pv cal A := by
  intro cal A h
  unfold impl_isSmall.C at h
  split at h
  · cases h; exact fun x y hy => strings_TrimSuffix.good hE pv x.1 x.2.1 hy
  · cases h; exact fun x y hy => impl_isLower.good hE pv x.1 hy
  · cases h; exact fun x y hy => impl_inside.good hE pv x.1 x.2.1 x.2.2.1 hy
  · cases h
theorem impl_isSmall.good (hE : EnvOk Try.prog envX) (pv : Nat → Value) (k : Nat) (a0 : ByteArray) (a1 : Int) (a2 : Int) (a3 : ByteArray) {y : _} (h : impl_isSmall.F k a0 a1 a2 a3 = some y) : Meets Try.prog envX pv (.f 28) (tvals [.str, (.int .i64), (.int .i64), .str] (a0, a1, a2, a3, ())) (.t .bool y) :=
  fun_loops hE (t := impl_isSmall.C) (fun k => impl_isSmall.G hE pv k) (f := 28) (fn := Try.f28) (by kernel_rfl) rfl (by kernel_rfl) (by kernel_rfl) (lt := impl_isSmall.L) (by kernel_rfl) (fun b A h => by
    unfold impl_isSmall.L at h; split at h
    · cases h; exact ⟨by kernel_rfl, by kernel_rfl, by kernel_rfl, fun _ => rfl, fun _ => rfl, fun _ => rfl⟩
    · cases h) (fun b A h => by
    unfold impl_isSmall.L at h; split at h
    · cases h; exact fun k x => impl_isSmall.step0 k x.1 x.2.1 x.2.2.1 x.2.2.2.1
    · cases h) k ((impl_isSmall.run k a0 a1 a2 a3).trans h) fun r hr => wk_view1 hr
/-! ### 13 loop.example/g00896/impl.IsValidAbbreviations -/
def impl_IsValidAbbreviations.l0 : Nat → (List Abbr) → (List Abbr) → Int → Int → Option (Sum Bool (List Abbr))
  | 0, _, _, _, _ => none
  | k + 1, x0, x5, x6, x7 => bif (decide (x7 < x6)) then (bif decide (0 ≤ x7) then (bif decide (x7 < (x5.length : Int)) then ((impl_isSmall.F k ((x5.getD (x7 : Int).toNat (dflt .abbr)).word) 2 15 (⟨#[45]⟩ : ByteArray)).bind fun r1 => bif (!r1) then (some (.inl false)) else ((impl_isSmall.F k ((x5.getD (x7 : Int).toNat (dflt .abbr)).short) 1 12 (⟨#[46]⟩ : ByteArray)).bind fun r2 => bif (!r2) then (some (.inl false)) else (bif (decide (x7 > 0)) then (bif decide (0 ≤ (IntKind.wrap .i64 (x7 - 1))) then (bif decide ((IntKind.wrap .i64 (x7 - 1)) < (x0.length : Int)) then (bif (!ltS ((x0.getD ((IntKind.wrap .i64 (x7 - 1)) : Int).toNat (dflt .abbr)).word) ((x5.getD (x7 : Int).toNat (dflt .abbr)).word)) then (some (.inl false)) else (impl_IsValidAbbreviations.l0 k x0 x5 x6 (IntKind.wrap .i64 (x7 + 1)))) else none) else none) else (impl_IsValidAbbreviations.l0 k x0 x5 x6 (IntKind.wrap .i64 (x7 + 1)))))) else none) else none) else (some (.inr x0))
def impl_IsValidAbbreviations.F (k : Nat) (a0 : List Abbr) : Option (Bool) := (impl_IsValidAbbreviations.l0 k a0 a0 (a0.length : Int) 0).bind fun y3 => match y3 with | .inl z4 => some z4 | .inr z4 => some (decide ((z4.length : Int) ≤ 15))
def impl_IsValidAbbreviations.C (k : Nat) : Cal → Option CArm := fun c => match c with
  | .f 28 => some ⟨[.str, (.int .i64), (.int .i64), .str], _, fun x => impl_isSmall.F k x.1 x.2.1 x.2.2.1 x.2.2.2.1, fun r => (.t .bool r)⟩
  | _ => none
def impl_IsValidAbbreviations.sp0 : List Sp := [.t 0 (.sl .abbr), .t 5 (.sl .abbr), .t 6 (.int .i64), .t 7 (.int .i64)]
def impl_IsValidAbbreviations.sp0_0 : List Sp := [.t 2 .bool]
def impl_IsValidAbbreviations.sp0_1 : List Sp := [.t 0 (.sl .abbr)]
def impl_IsValidAbbreviations.A0 : LArm := .two impl_IsValidAbbreviations.sp0 impl_IsValidAbbreviations.sp0_0 impl_IsValidAbbreviations.sp0_1 (Bool) ((List Abbr)) (fun k x => impl_IsValidAbbreviations.l0 k x.1 x.2.1 x.2.2.1 x.2.2.2.1) .ret (.exit 0) (fun y => (y, ())) (fun x => x.1) (fun y => (y, ())) (fun x => x.1)
def impl_IsValidAbbreviations.L : Nat → Option LArm := fun b => match b with
  | 0 => some impl_IsValidAbbreviations.A0
  | _ => none
theorem impl_IsValidAbbreviations.run (k : Nat) (a0 : List Abbr) : runF envX (tabC (impl_IsValidAbbreviations.C k)) (tabL 41 k impl_IsValidAbbreviations.L) Try.f13 [.t (.sl .abbr) a0] (viewR1 (.t .bool)) = impl_IsValidAbbreviations.F k a0 := by kernel_rfl
theorem impl_IsValidAbbreviations.step0 (k : Nat) (x0 : List Abbr) (x5 : List Abbr) (x6 : Int) (x7 : Int) : runC envX (tabC (impl_IsValidAbbreviations.C k)) (tabL 41 k impl_IsValidAbbreviations.L) 0 (loopAt Try.f13 0) (stOf 41 impl_IsValidAbbreviations.sp0 (x0, x5, x6, x7, ())) (impl_IsValidAbbreviations.A0.cont 41 k) = impl_IsValidAbbreviations.l0 (k + 1) x0 x5 x6 x7 := by kernel_rfl
theorem impl_IsValidAbbreviations.G (hE : EnvOk Try.prog envX) (pv : Nat → Value) (k : Nat) : ∀ cal A, impl_IsValidAbbreviations.C k cal = some A → ArmOk Try.prog envX pv cal A := by
  intro cal A h
  unfold impl_IsValidAbbreviations.C at h
  split at h
  · cases h; exact fun x y hy => impl_isSmall.good hE pv k x.1 x.2.1 x.2.2.1 x.2.2.2.1 hy
  · cases h
theorem impl_IsValidAbbreviations.good (hE : EnvOk Try.prog envX) (pv : Nat → Value) (k : Nat) (a0 : List Abbr) {y : _} (h : impl_IsValidAbbreviations.F k a0 = some y) : Meets Try.prog envX pv (.f 13) (tvals [(.sl .abbr)] (a0, ())) (.t .bool y) :=
  fun_loops hE (t := impl_IsValidAbbreviations.C) (fun k => impl_IsValidAbbreviations.G hE pv k) (f := 13) (fn := Try.f13) (by kernel_rfl) rfl (by kernel_rfl) (by kernel_rfl) (lt := impl_IsValidAbbreviations.L) (by kernel_rfl) (fun b A h => by
    unfold impl_IsValidAbbreviations.L at h; split at h
    · cases h; exact ⟨by kernel_rfl, by kernel_rfl, by kernel_rfl, fun _ => rfl, fun _ => rfl, fun _ => rfl⟩
    · cases h) (fun b A h => by
    unfold impl_IsValidAbbreviations.L at h; split at h
    · cases h; exact fun k x => impl_IsValidAbbreviations.step0 k x.1 x.2.1 x.2.2.1 x.2.2.2.1
    · cases h) k ((impl_IsValidAbbreviations.run k a0).trans h) fun r hr => wk_view1 hr
/-! ### 29 loop.example/g00896/laws.eqAbbreviation -/
def laws_eqAbbreviation.F (a0 : Abbr) (a1 : Abbr) : Option (Bool) := bif (!beqS a0.word a1.word) then (some false) else (bif (!beqS a0.short a1.short) then (some false) else (some true))
def laws_eqAbbreviation.C : Cal → Option CArm := fun c => match c with
  | _ => none
theorem laws_eqAbbreviation.run (a0 : Abbr) (a1 : Abbr) : runF envX (tabC laws_eqAbbreviation.C) (tabL 15 0 (fun _ => none)) Try.f29 [.t .abbr a0, .t .abbr a1] (viewR1 (.t .bool)) = laws_eqAbbreviation.F a0 a1 := by kernel_rfl
theorem laws_eqAbbreviation.G (hE : EnvOk Try.prog envX) (pv : Nat → Value) : ∀ cal A, laws_eqAbbreviation.C cal = some A → ArmOk Try.prog envX pv cal A := by
  intro cal A h
  unfold laws_eqAbbreviation.C at h
  cases h
theorem laws_eqAbbreviation.good (hE : EnvOk Try.prog envX) (pv : Nat → Value) (a0 : Abbr) (a1 : Abbr) {y : _} (h : laws_eqAbbreviation.F a0 a1 = some y) : Meets Try.prog envX pv (.f 29) (tvals [.abbr, .abbr] (a0, a1, ())) (.t .bool y) :=
  fun_plain hE (laws_eqAbbreviation.G hE pv) (f := 29) (fn := Try.f29) (by kernel_rfl) rfl (by kernel_rfl) (by kernel_rfl) ((laws_eqAbbreviation.run a0 a1).trans h) fun r hr => wk_view1 hr
/-! ### 14 loop.example/g00896/laws.eqAbbreviationS -/
def laws_eqAbbreviationS.l0 : Nat → (List Abbr) → (List Abbr) → Int → Option (Sum Bool Unit)
  | 0, _, _, _ => none
  | k + 1, x0, x1, x5 => bif (decide (x5 < (x0.length : Int))) then (bif decide (0 ≤ x5) then (bif decide (x5 < (x0.length : Int)) then (bif decide (0 ≤ x5) then (bif decide (x5 < (x1.length : Int)) then ((laws_eqAbbreviation.F (x0.getD (x5 : Int).toNat (dflt .abbr)) (x1.getD (x5 : Int).toNat (dflt .abbr))).bind fun r1 => bif (!r1) then (some (.inl false)) else (laws_eqAbbreviationS.l0 k x0 x1 (IntKind.wrap .i64 (x5 + 1)))) else none) else none) else none) else none) else (some (.inr ()))
def laws_eqAbbreviationS.F (k : Nat) (a0 : List Abbr) (a1 : List Abbr) : Option (Bool) := bif ((a0.length : Int) != (a1.length : Int)) then (some false) else ((laws_eqAbbreviationS.l0 k a0 a1 0).bind fun y2 => match y2 with | .inl z3 => some z3 | .inr z3 => some true)
def laws_eqAbbreviationS.C (k : Nat) : Cal → Option CArm := fun c => match c with
  | .f 29 => some ⟨[.abbr, .abbr], _, fun x => laws_eqAbbreviation.F x.1 x.2.1, fun r => (.t .bool r)⟩
  | _ => none
def laws_eqAbbreviationS.sp0 : List Sp := [.t 0 (.sl .abbr), .t 1 (.sl .abbr), .t 5 (.int .i64)]
def laws_eqAbbreviationS.sp0_0 : List Sp := [.t 4 .bool]
def laws_eqAbbreviationS.sp0_1 : List Sp := []
def laws_eqAbbreviationS.A0 : LArm := .two laws_eqAbbreviationS.sp0 laws_eqAbbreviationS.sp0_0 laws_eqAbbreviationS.sp0_1 (Bool) (Unit) (fun k x => laws_eqAbbreviationS.l0 k x.1 x.2.1 x.2.2.1) .ret (.exit 0) (fun y => (y, ())) (fun x => x.1) (fun y => ()) (fun x => ())
def laws_eqAbbreviationS.L : Nat → Option LArm := fun b => match b with
  | 0 => some laws_eqAbbreviationS.A0
  | _ => none
theorem laws_eqAbbreviationS.run (k : Nat) (a0 : List Abbr) (a1 : List Abbr) : runF envX (tabC (laws_eqAbbreviationS.C k)) (tabL 27 k laws_eqAbbreviationS.L) Try.f14 [.t (.sl .abbr) a0, .t (.sl .abbr) a1] (viewR1 (.t .bool)) = laws_eqAbbreviationS.F k a0 a1 := by kernel_rfl
theorem laws_eqAbbreviationS.step0 (k : Nat) (x0 : List Abbr) (x1 : List Abbr) (x5 : Int) : runC envX (tabC (laws_eqAbbreviationS.C k)) (tabL 27 k laws_eqAbbreviationS.L) 0 (loopAt Try.f14 0) (stOf 27 laws_eqAbbreviationS.sp0 (x0, x1, x5, ())) (laws_eqAbbreviationS.A0.cont 27 k) = laws_eqAbbreviationS.l0 (k + 1) x0 x1 x5 := by kernel_rfl
theorem laws_eqAbbreviationS.G (hE : EnvOk Try.prog envX) (pv : Nat → Value) (k : Nat) : ∀ cal A, laws_eqAbbreviationS.C k cal = some A → ArmOk Try.prog envX pv cal A := by
  intro cal A h
  unfold laws_eqAbbreviationS.C at h
  split at h
  · cases h; exact fun x y hy => laws_eqAbbreviation.good hE pv x.1 x.2.1 hy
  · cases h
theorem laws_eqAbbreviationS.good (hE : EnvOk Try.prog envX) (pv : Nat → Value) (k : Nat) (a0 : List Abbr) (a1 : List Abbr) {y : _} (h : laws_eqAbbreviationS.F k a0 a1 = some y) : Meets Try.prog envX pv (.f 14) (tvals [(.sl .abbr), (.sl .abbr)] (a0, a1, ())) (.t .bool y) :=
  fun_loops hE (t := laws_eqAbbreviationS.C) (fun k => laws_eqAbbreviationS.G hE pv k) (f := 14) (fn := Try.f14) (by kernel_rfl) rfl (by kernel_rfl) (by kernel_rfl) (lt := laws_eqAbbreviationS.L) (by kernel_rfl) (fun b A h => by
    unfold laws_eqAbbreviationS.L at h; split at h
    · cases h; exact ⟨by kernel_rfl, by kernel_rfl, by kernel_rfl, fun _ => rfl, fun _ => rfl, fun _ => rfl⟩
    · cases h) (fun b A h => by
    unfold laws_eqAbbreviationS.L at h; split at h
    · cases h; exact fun k x => laws_eqAbbreviationS.step0 k x.1 x.2.1 x.2.2.1
    · cases h) k ((laws_eqAbbreviationS.run k a0 a1).trans h) fun r hr => wk_view1 hr
/-! ### 4 loop.example/g00896/laws.FnExactIsValidAbbreviations -/
def laws_FnExactIsValidAbbreviations.F (k : Nat) (a0 : List Abbr) : Option (Bool) := (laws_szAbbreviationS.F k a0 1048576).bind fun r1 => bif (decide (r1 < 0)) then (some true) else ((laws_toAbbreviationS.F k a0).bind fun r2 => (spec_IsValidAbbreviations.F k r2).bind fun r3 => (laws_toAbbreviationS.F k a0).bind fun r4 => (impl_IsValidAbbreviations.F k r4).bind fun r5 => bif (!(r5 == r3)) then (some false) else ((laws_toAbbreviationS.F k a0).bind fun r6 => (laws_eqAbbreviationS.F k r4 r6).bind fun r7 => bif (!r7) then (some false) else (some true)))
def laws_FnExactIsValidAbbreviations.C (k : Nat) : Cal → Option CArm := fun c => match c with
  | .f 10 => some ⟨[(.sl .abbr), (.int .i64)], _, fun x => laws_szAbbreviationS.F k x.1 x.2.1, fun r => (.t (.int .i64) r)⟩
  | .f 12 => some ⟨[(.sl .abbr)], _, fun x => laws_toAbbreviationS.F k x.1, fun r => (.fr 41 .abbr r)⟩
  | .f 11 => some ⟨[(.sl .abbr)], _, fun x => spec_IsValidAbbreviations.F k x.1, fun r => (.t .bool r)⟩
  | .f 13 => some ⟨[(.sl .abbr)], _, fun x => impl_IsValidAbbreviations.F k x.1, fun r => (.t .bool r)⟩
  | .f 14 => some ⟨[(.sl .abbr), (.sl .abbr)], _, fun x => laws_eqAbbreviationS.F k x.1 x.2.1, fun r => (.t .bool r)⟩
  | _ => none
theorem laws_FnExactIsValidAbbreviations.run (k : Nat) (a0 : List Abbr) : runF envX (tabC (laws_FnExactIsValidAbbreviations.C k)) (tabL 27 0 (fun _ => none)) Try.f4 [.t (.sl .abbr) a0] (viewR1 (.t .bool)) = laws_FnExactIsValidAbbreviations.F k a0 := by kernel_rfl
theorem laws_FnExactIsValidAbbreviations.G (hE : EnvOk Try.prog envX) (pv : Nat → Value) (k : Nat) : ∀ cal A, laws_FnExactIsValidAbbreviations.C k cal = some A → ArmOk Try.prog envX pv cal A := by
  intro cal A h
  unfold laws_FnExactIsValidAbbreviations.C at h
  split at h
  · cases h; exact fun x y hy => laws_szAbbreviationS.good hE pv k x.1 x.2.1 hy
  · cases h; exact fun x y hy => laws_toAbbreviationS.good hE pv k x.1 hy
  · cases h; exact fun x y hy => spec_IsValidAbbreviations.good hE pv k x.1 hy
  · cases h; exact fun x y hy => impl_IsValidAbbreviations.good hE pv k x.1 hy
  · cases h; exact fun x y hy => laws_eqAbbreviationS.good hE pv k x.1 x.2.1 hy
  · cases h
theorem laws_FnExactIsValidAbbreviations.good (hE : EnvOk Try.prog envX) (pv : Nat → Value) (k : Nat) (a0 : List Abbr) {y : _} (h : laws_FnExactIsValidAbbreviations.F k a0 = some y) : Meets Try.prog envX pv (.f 4) (tvals [(.sl .abbr)] (a0, ())) (.t .bool y) :=
  fun_plain hE (laws_FnExactIsValidAbbreviations.G hE pv k) (f := 4) (fn := Try.f4) (by kernel_rfl) rfl (by kernel_rfl) (by kernel_rfl) ((laws_FnExactIsValidAbbreviations.run k a0).trans h) fun r hr => wk_view1 hr
end Go.Proofs.Ytahacbcnjfoknaa
