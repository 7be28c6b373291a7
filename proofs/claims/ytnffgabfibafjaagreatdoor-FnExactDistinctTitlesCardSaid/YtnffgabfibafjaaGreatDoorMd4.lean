/- What a printed function answers with rounds enough; plain lemmas. -/
import Derived.Test.YtnffgabfibafjaaGreatDoorMd3
import Derived.Test.YtnffgabfibafjaaGreatDoorProg
import Derived.KernelRfl
import Derived.Lib.Strings
import Derived.Lib.IndexBytes
import Derived.Lib.IndexAny
section
namespace Go.Proofs.YtnffgabfibafjaaGreatDoor
open Go.Gx
set_option linter.unusedVariables false
set_option maxRecDepth 100000
def tyT (t : Nat) : Option Ty := match t with
  | 2 => some (.int .i64)
  | 3 => some (.int .i64)
  | 4 => some .bool
  | 5 => some (.int .u8)
  | 6 => some (.int .u8)
  | 9 => some .str
  | 10 => some .str
  | 11 => some .str
  | 12 => some (.int .u64)
  | 21 => some (.int .i32)
  | 22 => some (.sl .abbr)
  | 23 => some (.sl .str)
  | 28 => some (.sl .abbr)
  | 35 => some (.sl (.int .i64))
  | 41 => some (.sl .name)
  | 43 => some .date
  | 45 => some .entry
  | 47 => some (.sl .name)
  | 48 => some .date
  | 50 => some .entry
  | 57 => some (.sl (.int .u8))
  | 63 => some .abbr
  | 66 => some (.sl .entry)
  | 68 => some .lib
  | 71 => some (.sl .entry)
  | 73 => some .lib
  | 81 => some .abbr
  | 100 => some (.int .u64)
  | 124 => some .name
  | 131 => some .name
  | 165 => some (.int .u64)
  | 168 => some (.arr 256 .bool)
  | 185 => some (.arr 256 (.int .u8))
  | 190 => some (.int .u32)
  | 199 => some (.int .u8)
  | _ => none
def elT (t : Nat) : Nat := match t with
  | 22 => 81
  | 23 => 9
  | 28 => 63
  | 35 => 3
  | 41 => 124
  | 47 => 131
  | 57 => 5
  | 66 => 45
  | 71 => 50
  | _ => 0
def mdT (f : Nat) : Bool := match f with
  | 18 => true
  | 19 => true
  | 24 => true
  | 70 => true
  | 72 => true
  | 73 => true
  | 88 => true
  | 123 => true
  | 124 => true
  | 125 => true
  | 126 => true
  | 128 => true
  | 162 => true
  | _ => false
def glT (g : Nat) : Option AV := match g with
  | _ => none
def giT (g : Nat) : Bool := match g with
  | 0 => true
  | _ => false
def envX : Env := ⟨tyT, elT, glT, mdT, giT⟩
theorem env_ty : ∀ T τ, envX.ty T = some τ → TyOk Tryz.prog envX T τ := fun T τ h => by
  dsimp only [envX, tyT] at h
  split at h <;> first
    | (cases h; done)
    | (cases h; exact tyOk_of (by kernel_rfl) (by kernel_rfl))
theorem envOk : EnvOk Tryz.prog envX := ⟨env_ty, by kernel_rfl, fun T h => by
  dsimp only [envX, tyT] at h
  split at h <;> first
    | (cases h; done)
    | exact date_eq env_ty rfl (by kernel_rfl) (by kernel_rfl) (by kernel_rfl), fun T h => by
  dsimp only [envX, tyT] at h
  split at h <;> first
    | (cases h; done)
    | exact abbr_eq env_ty rfl (by kernel_rfl) (by kernel_rfl) (by kernel_rfl)⟩
/-! ### 50 loop.example/g00896/laws.szAbbreviation -/
def laws_szAbbreviation.F (a0 : Abbr) (a1 : Int) : Option (Int) := bif (decide ((IntKind.wrap .i64 (a1 - (a0.word.size : Int))) < 0)) then (some (-1)) else (bif (decide ((IntKind.wrap .i64 ((IntKind.wrap .i64 (a1 - (a0.word.size : Int))) - (a0.short.size : Int))) < 0)) then (some (-1)) else (some (IntKind.wrap .i64 ((IntKind.wrap .i64 (a1 - (a0.word.size : Int))) - (a0.short.size : Int)))))
def laws_szAbbreviation.C : Cal → Option CArm := fun c => match c with
  | _ => none
theorem laws_szAbbreviation.run (a0 : Abbr) (a1 : Int) : runF envX (tabC laws_szAbbreviation.C) (tabL 20 0 (fun _ => none)) Tryz.f50 [.t .abbr a0, .t (.int .i64) a1] (viewR1 (.t (.int .i64))) = laws_szAbbreviation.F a0 a1 := by kernel_rfl
theorem laws_szAbbreviation.G (hE : EnvOk Tryz.prog envX) (pv : Nat → Value) : ∀ cal A, laws_szAbbreviation.C cal = some A → ArmOk Tryz.prog envX pv cal A := by
  intro cal A h
  unfold laws_szAbbreviation.C at h
  cases h
theorem laws_szAbbreviation.good (hE : EnvOk Tryz.prog envX) (pv : Nat → Value) (a0 : Abbr) (a1 : Int) {y : _} (h : laws_szAbbreviation.F a0 a1 = some y) : Meets Tryz.prog envX pv (.f 50) (tvals [.abbr, (.int .i64)] (a0, a1, ())) (.t (.int .i64) y) :=
  fun_plain hE (laws_szAbbreviation.G hE pv) (f := 50) (fn := Tryz.f50) (by kernel_rfl) rfl (by kernel_rfl) (by kernel_rfl) ((laws_szAbbreviation.run a0 a1).trans h) fun r hr => wk_view1 hr
/-! ### 10 loop.example/g00896/laws.szAbbreviationS -/
def laws_szAbbreviationS.l0 : Nat → (List Abbr) → Int → Int → Option (Sum Int Int)
  | 0, _, _, _ => none
  | k + 1, x0, x1, x5 => bif (decide (x5 < (x0.length : Int))) then (bif decide (0 ≤ x5) then (bif decide (x5 < (x0.length : Int)) then ((laws_szAbbreviation.F (x0.getD (x5 : Int).toNat (dflt .abbr)) x1).bind fun r1 => bif (decide (r1 < 0)) then (some (.inl (-1))) else (laws_szAbbreviationS.l0 k x0 r1 (IntKind.wrap .i64 (x5 + 1)))) else none) else none) else (some (.inr x1))
def laws_szAbbreviationS.F (k : Nat) (a0 : List Abbr) (a1 : Int) : Option (Int) := bif (decide ((IntKind.wrap .i64 (a1 - (a0.length : Int))) < 0)) then (some (-1)) else ((laws_szAbbreviationS.l0 k a0 (IntKind.wrap .i64 (a1 - (a0.length : Int))) 0).bind fun y2 => match y2 with | .inl z3 => some z3 | .inr z3 => some z3)
def laws_szAbbreviationS.C (k : Nat) : Cal → Option CArm := fun c => match c with
  | .f 50 => some (.p [.abbr, (.int .i64)] _ (fun x => laws_szAbbreviation.F x.1 x.2.1) (fun r => (.t (.int .i64) r)))
  | _ => none
def laws_szAbbreviationS.sp0 : List Sp := [.t 0 (.sl .abbr), .t 1 (.int .i64), .t 5 (.int .i64)]
def laws_szAbbreviationS.sp0_0 : List Sp := [.t 4 (.int .i64)]
def laws_szAbbreviationS.sp0_1 : List Sp := [.t 1 (.int .i64)]
def laws_szAbbreviationS.A0 : LArm := .two laws_szAbbreviationS.sp0 laws_szAbbreviationS.sp0_0 laws_szAbbreviationS.sp0_1 (Int) (Int) (fun k x => laws_szAbbreviationS.l0 k x.1 x.2.1 x.2.2.1) .ret (.exit 0) (fun y => (y, ())) (fun x => x.1) (fun y => (y, ())) (fun x => x.1)
def laws_szAbbreviationS.L : Nat → Option LArm := fun b => match b with
  | 0 => some laws_szAbbreviationS.A0
  | _ => none
theorem laws_szAbbreviationS.run (k : Nat) (a0 : List Abbr) (a1 : Int) : runF envX (tabC (laws_szAbbreviationS.C k)) (tabL 27 k laws_szAbbreviationS.L) Tryz.f10 [.t (.sl .abbr) a0, .t (.int .i64) a1] (viewR1 (.t (.int .i64))) = laws_szAbbreviationS.F k a0 a1 := by kernel_rfl
theorem laws_szAbbreviationS.step0 (k : Nat) (x0 : List Abbr) (x1 : Int) (x5 : Int) : runC envX (tabC (laws_szAbbreviationS.C k)) (tabL 27 k laws_szAbbreviationS.L) 0 (loopAt Tryz.f10 0) (stOf 27 laws_szAbbreviationS.sp0 (x0, x1, x5, ())) (laws_szAbbreviationS.A0.cont 27 k) = laws_szAbbreviationS.l0 (k + 1) x0 x1 x5 := by kernel_rfl
theorem laws_szAbbreviationS.G (hE : EnvOk Tryz.prog envX) (pv : Nat → Value) (k : Nat) : ∀ cal A, laws_szAbbreviationS.C k cal = some A → ArmOk Tryz.prog envX pv cal A := by
  intro cal A h
  unfold laws_szAbbreviationS.C at h
  split at h
  · cases h; exact fun x y hy => laws_szAbbreviation.good hE pv x.1 x.2.1 hy
  · cases h
theorem laws_szAbbreviationS.good (hE : EnvOk Tryz.prog envX) (pv : Nat → Value) (k : Nat) (a0 : List Abbr) (a1 : Int) {y : _} (h : laws_szAbbreviationS.F k a0 a1 = some y) : Meets Tryz.prog envX pv (.f 10) (tvals [(.sl .abbr), (.int .i64)] (a0, a1, ())) (.t (.int .i64) y) :=
  fun_loops hE (t := laws_szAbbreviationS.C) k (fun k _ => laws_szAbbreviationS.G hE pv k) (f := 10) (fn := Tryz.f10) (by kernel_rfl) rfl (by kernel_rfl) (by kernel_rfl) (lt := laws_szAbbreviationS.L) (by kernel_rfl) (fun b A h => by
    unfold laws_szAbbreviationS.L at h; split at h
    · cases h; exact ⟨by kernel_rfl, by kernel_rfl, by kernel_rfl, fun _ => rfl, fun _ => rfl, fun _ => rfl⟩
    · cases h) (fun b A h => by
    unfold laws_szAbbreviationS.L at h; split at h
    · cases h; exact fun k x => laws_szAbbreviationS.step0 k x.1 x.2.1 x.2.2.1
    · cases h) ((laws_szAbbreviationS.run k a0 a1).trans h) fun r hr => wk_view1 hr
/-! ### 11 loop.example/g00896/laws.szStringS -/
def laws_szStringS.l0 : Nat → (List ByteArray) → Int → Int → Option (Sum Int Int)
  | 0, _, _, _ => none
  | k + 1, x0, x1, x5 => bif (decide (x5 < (x0.length : Int))) then (bif decide (0 ≤ x5) then (bif decide (x5 < (x0.length : Int)) then (bif (decide ((IntKind.wrap .i64 (x1 - ((x0.getD (x5 : Int).toNat (⟨#[]⟩ : ByteArray)).size : Int))) < 0)) then (some (.inl (-1))) else (laws_szStringS.l0 k x0 (IntKind.wrap .i64 (x1 - ((x0.getD (x5 : Int).toNat (⟨#[]⟩ : ByteArray)).size : Int))) (IntKind.wrap .i64 (x5 + 1)))) else none) else none) else (some (.inr x1))
def laws_szStringS.F (k : Nat) (a0 : List ByteArray) (a1 : Int) : Option (Int) := bif (decide ((IntKind.wrap .i64 (a1 - (a0.length : Int))) < 0)) then (some (-1)) else ((laws_szStringS.l0 k a0 (IntKind.wrap .i64 (a1 - (a0.length : Int))) 0).bind fun y1 => match y1 with | .inl z2 => some z2 | .inr z2 => some z2)
def laws_szStringS.C (k : Nat) : Cal → Option CArm := fun c => match c with
  | _ => none
def laws_szStringS.sp0 : List Sp := [.t 0 (.sl .str), .t 1 (.int .i64), .t 5 (.int .i64)]
def laws_szStringS.sp0_0 : List Sp := [.t 4 (.int .i64)]
def laws_szStringS.sp0_1 : List Sp := [.t 1 (.int .i64)]
def laws_szStringS.A0 : LArm := .two laws_szStringS.sp0 laws_szStringS.sp0_0 laws_szStringS.sp0_1 (Int) (Int) (fun k x => laws_szStringS.l0 k x.1 x.2.1 x.2.2.1) .ret (.exit 0) (fun y => (y, ())) (fun x => x.1) (fun y => (y, ())) (fun x => x.1)
def laws_szStringS.L : Nat → Option LArm := fun b => match b with
  | 0 => some laws_szStringS.A0
  | _ => none
theorem laws_szStringS.run (k : Nat) (a0 : List ByteArray) (a1 : Int) : runF envX (tabC (laws_szStringS.C k)) (tabL 28 k laws_szStringS.L) Tryz.f11 [.t (.sl .str) a0, .t (.int .i64) a1] (viewR1 (.t (.int .i64))) = laws_szStringS.F k a0 a1 := by kernel_rfl
theorem laws_szStringS.step0 (k : Nat) (x0 : List ByteArray) (x1 : Int) (x5 : Int) : runC envX (tabC (laws_szStringS.C k)) (tabL 28 k laws_szStringS.L) 0 (loopAt Tryz.f11 0) (stOf 28 laws_szStringS.sp0 (x0, x1, x5, ())) (laws_szStringS.A0.cont 28 k) = laws_szStringS.l0 (k + 1) x0 x1 x5 := by kernel_rfl
theorem laws_szStringS.G (hE : EnvOk Tryz.prog envX) (pv : Nat → Value) (k : Nat) : ∀ cal A, laws_szStringS.C k cal = some A → ArmOk Tryz.prog envX pv cal A := by
  intro cal A h
  unfold laws_szStringS.C at h
  cases h
theorem laws_szStringS.good (hE : EnvOk Tryz.prog envX) (pv : Nat → Value) (k : Nat) (a0 : List ByteArray) (a1 : Int) {y : _} (h : laws_szStringS.F k a0 a1 = some y) : Meets Tryz.prog envX pv (.f 11) (tvals [(.sl .str), (.int .i64)] (a0, a1, ())) (.t (.int .i64) y) :=
  fun_loops hE (t := laws_szStringS.C) k (fun k _ => laws_szStringS.G hE pv k) (f := 11) (fn := Tryz.f11) (by kernel_rfl) rfl (by kernel_rfl) (by kernel_rfl) (lt := laws_szStringS.L) (by kernel_rfl) (fun b A h => by
    unfold laws_szStringS.L at h; split at h
    · cases h; exact ⟨by kernel_rfl, by kernel_rfl, by kernel_rfl, fun _ => rfl, fun _ => rfl, fun _ => rfl⟩
    · cases h) (fun b A h => by
    unfold laws_szStringS.L at h; split at h
    · cases h; exact fun k x => laws_szStringS.step0 k x.1 x.2.1 x.2.2.1
    · cases h) ((laws_szStringS.run k a0 a1).trans h) fun r hr => wk_view1 hr
/-! ### 139 loop.example/g00896/spec.l19Cut -/
def spec_l19Cut.F (a0 : ByteArray) (a1 : Int) : Option (ByteArray) := bif (!beqS a0 (⟨#[]⟩ : ByteArray)) then (bif decide (0 ≤ (IntKind.wrap .i64 ((a0.size : Int) - 1))) then (bif decide ((IntKind.wrap .i64 ((a0.size : Int) - 1)) < (a0.size : Int)) then (bif ((bt a0 ((IntKind.wrap .i64 ((a0.size : Int) - 1)) : Int).toNat) == a1) then (bif decide (0 ≤ (IntKind.wrap .i64 ((a0.size : Int) - 1))) then (bif decide ((IntKind.wrap .i64 ((a0.size : Int) - 1)) ≤ (a0.size : Int)) then (some (a0.extract 0 ((IntKind.wrap .i64 ((a0.size : Int) - 1)) : Int).toNat)) else none) else none) else (some a0)) else none) else none) else (some a0)
def spec_l19Cut.C : Cal → Option CArm := fun c => match c with
  | _ => none
theorem spec_l19Cut.run (a0 : ByteArray) (a1 : Int) : runF envX (tabC spec_l19Cut.C) (tabL 22 0 (fun _ => none)) Tryz.f139 [.t .str a0, .t (.int .u8) a1] (viewR1 (.t .str)) = spec_l19Cut.F a0 a1 := by kernel_rfl
theorem spec_l19Cut.G (hE : EnvOk Tryz.prog envX) (pv : Nat → Value) : ∀ cal A, spec_l19Cut.C cal = some A → ArmOk Tryz.prog envX pv cal A := by
  intro cal A h
  unfold spec_l19Cut.C at h
  cases h
theorem spec_l19Cut.good (hE : EnvOk Tryz.prog envX) (pv : Nat → Value) (a0 : ByteArray) (a1 : Int) {y : _} (h : spec_l19Cut.F a0 a1 = some y) : Meets Tryz.prog envX pv (.f 139) (tvals [.str, (.int .u8)] (a0, a1, ())) (.t .str y) :=
  fun_plain hE (spec_l19Cut.G hE pv) (f := 139) (fn := Tryz.f139) (by kernel_rfl) rfl (by kernel_rfl) (by kernel_rfl) ((spec_l19Cut.run a0 a1).trans h) fun r hr => wk_view1 hr
/-! ### 106 loop.example/g00896/spec.l1In -/
def spec_l1In.F (a0 : Int) (a1 : Int) (a2 : Int) : Option (Bool) := bif (decide (a0 ≥ a1)) then (some (decide (a0 ≤ a2))) else (some false)
def spec_l1In.C : Cal → Option CArm := fun c => match c with
  | _ => none
theorem spec_l1In.run (a0 : Int) (a1 : Int) (a2 : Int) : runF envX (tabC spec_l1In.C) (tabL 15 0 (fun _ => none)) Tryz.f106 [.t (.int .i64) a0, .t (.int .i64) a1, .t (.int .i64) a2] (viewR1 (.t .bool)) = spec_l1In.F a0 a1 a2 := by kernel_rfl
theorem spec_l1In.G (hE : EnvOk Tryz.prog envX) (pv : Nat → Value) : ∀ cal A, spec_l1In.C cal = some A → ArmOk Tryz.prog envX pv cal A := by
  intro cal A h
  unfold spec_l1In.C at h
  cases h
theorem spec_l1In.good (hE : EnvOk Tryz.prog envX) (pv : Nat → Value) (a0 : Int) (a1 : Int) (a2 : Int) {y : _} (h : spec_l1In.F a0 a1 a2 = some y) : Meets Tryz.prog envX pv (.f 106) (tvals [(.int .i64), (.int .i64), (.int .i64)] (a0, a1, a2, ())) (.t .bool y) :=
  fun_plain hE (spec_l1In.G hE pv) (f := 106) (fn := Tryz.f106) (by kernel_rfl) rfl (by kernel_rfl) (by kernel_rfl) ((spec_l1In.run a0 a1 a2).trans h) fun r hr => wk_view1 hr
/-! ### 145 loop.example/g00896/spec.l19Letters -/
def spec_l19Letters.l0 : Nat → ByteArray → Int → Int → Int → Option (Sum Bool (ByteArray × Int × Int))
  | 0, _, _, _, _ => none
  | k + 1, x0, x1, x2, x7 => bif (decide (x7 < (x0.size : Int))) then (bif decide (0 ≤ x7) then (bif decide (x7 < (x0.size : Int)) then (bif (decide ((bt x0 (x7 : Int).toNat) < 97)) then (some (.inl false)) else (bif decide (0 ≤ x7) then (bif decide (x7 < (x0.size : Int)) then (bif (decide ((bt x0 (x7 : Int).toNat) > 122)) then (some (.inl false)) else (spec_l19Letters.l0 k x0 x1 x2 (IntKind.wrap .i64 (x7 + 1)))) else none) else none)) else none) else none) else (some (.inr (x0, x1, x2)))
def spec_l19Letters.F (k : Nat) (a0 : ByteArray) (a1 : Int) (a2 : Int) : Option (Bool) := (spec_l19Letters.l0 k a0 a1 a2 0).bind fun y1 => match y1 with | .inl z2 => some z2 | .inr z2 => (spec_l1In.F (z2.1.size : Int) z2.2.1 z2.2.2).bind fun r3 => some r3
def spec_l19Letters.C (k : Nat) : Cal → Option CArm := fun c => match c with
  | .f 106 => some (.p [(.int .i64), (.int .i64), (.int .i64)] _ (fun x => spec_l1In.F x.1 x.2.1 x.2.2.1) (fun r => (.t .bool r)))
  | _ => none
def spec_l19Letters.sp0 : List Sp := [.t 0 .str, .t 1 (.int .i64), .t 2 (.int .i64), .t 7 (.int .i64)]
def spec_l19Letters.sp0_0 : List Sp := [.t 6 .bool]
def spec_l19Letters.sp0_1 : List Sp := [.t 0 .str, .t 1 (.int .i64), .t 2 (.int .i64)]
def spec_l19Letters.A0 : LArm := .two spec_l19Letters.sp0 spec_l19Letters.sp0_0 spec_l19Letters.sp0_1 (Bool) (ByteArray × Int × Int) (fun k x => spec_l19Letters.l0 k x.1 x.2.1 x.2.2.1 x.2.2.2.1) .ret (.exit 0) (fun y => (y, ())) (fun x => x.1) (fun y => (y.1, y.2.1, y.2.2, ())) (fun x => (x.1, x.2.1, x.2.2.1))
def spec_l19Letters.L : Nat → Option LArm := fun b => match b with
  | 0 => some spec_l19Letters.A0
  | _ => none
theorem spec_l19Letters.run (k : Nat) (a0 : ByteArray) (a1 : Int) (a2 : Int) : runF envX (tabC (spec_l19Letters.C k)) (tabL 29 k spec_l19Letters.L) Tryz.f145 [.t .str a0, .t (.int .i64) a1, .t (.int .i64) a2] (viewR1 (.t .bool)) = spec_l19Letters.F k a0 a1 a2 := by kernel_rfl
theorem spec_l19Letters.step0 (k : Nat) (x0 : ByteArray) (x1 : Int) (x2 : Int) (x7 : Int) : runC envX (tabC (spec_l19Letters.C k)) (tabL 29 k spec_l19Letters.L) 0 (loopAt Tryz.f145 0) (stOf 29 spec_l19Letters.sp0 (x0, x1, x2, x7, ())) (spec_l19Letters.A0.cont 29 k) = spec_l19Letters.l0 (k + 1) x0 x1 x2 x7 := by kernel_rfl
theorem spec_l19Letters.G (hE : EnvOk Tryz.prog envX) (pv : Nat → Value) (k : Nat) : ∀ cal A, spec_l19Letters.C k cal = some A → ArmOk Tryz.prog envX pv cal A := by
  intro cal A h
  unfold spec_l19Letters.C at h
  split at h
  · cases h; exact fun x y hy => spec_l1In.good hE pv x.1 x.2.1 x.2.2.1 hy
  · cases h
theorem spec_l19Letters.good (hE : EnvOk Tryz.prog envX) (pv : Nat → Value) (k : Nat) (a0 : ByteArray) (a1 : Int) (a2 : Int) {y : _} (h : spec_l19Letters.F k a0 a1 a2 = some y) : Meets Tryz.prog envX pv (.f 145) (tvals [.str, (.int .i64), (.int .i64)] (a0, a1, a2, ())) (.t .bool y) :=
  fun_loops hE (t := spec_l19Letters.C) k (fun k _ => spec_l19Letters.G hE pv k) (f := 145) (fn := Tryz.f145) (by kernel_rfl) rfl (by kernel_rfl) (by kernel_rfl) (lt := spec_l19Letters.L) (by kernel_rfl) (fun b A h => by
    unfold spec_l19Letters.L at h; split at h
    · cases h; exact ⟨by kernel_rfl, by kernel_rfl, by kernel_rfl, fun _ => rfl, fun _ => rfl, fun _ => rfl⟩
    · cases h) (fun b A h => by
    unfold spec_l19Letters.L at h; split at h
    · cases h; exact fun k x => spec_l19Letters.step0 k x.1 x.2.1 x.2.2.1 x.2.2.2.1
    · cases h) ((spec_l19Letters.run k a0 a1 a2).trans h) fun r hr => wk_view1 hr
/-! ### 96 loop.example/g00896/spec.l19One -/
def spec_l19One.F (k : Nat) (a0 : Abbr) : Option (Bool) := (spec_l19Cut.F a0.word 45).bind fun r1 => (spec_l19Letters.F k r1 2 15).bind fun r2 => bif r2 then ((spec_l19Cut.F a0.short 46).bind fun r3 => (spec_l19Letters.F k r3 1 12).bind fun r4 => some r4) else (some false)
def spec_l19One.C (k : Nat) : Cal → Option CArm := fun c => match c with
  | .f 139 => some (.p [.str, (.int .u8)] _ (fun x => spec_l19Cut.F x.1 x.2.1) (fun r => (.t .str r)))
  | .f 145 => some (.p [.str, (.int .i64), (.int .i64)] _ (fun x => spec_l19Letters.F k x.1 x.2.1 x.2.2.1) (fun r => (.t .bool r)))
  | _ => none
theorem spec_l19One.run (k : Nat) (a0 : Abbr) : runF envX (tabC (spec_l19One.C k)) (tabL 13 0 (fun _ => none)) Tryz.f96 [.t .abbr a0] (viewR1 (.t .bool)) = spec_l19One.F k a0 := by kernel_rfl
theorem spec_l19One.G (hE : EnvOk Tryz.prog envX) (pv : Nat → Value) (k : Nat) : ∀ cal A, spec_l19One.C k cal = some A → ArmOk Tryz.prog envX pv cal A := by
  intro cal A h
  unfold spec_l19One.C at h
  split at h
  · cases h; exact fun x y hy => spec_l19Cut.good hE pv x.1 x.2.1 hy
  · cases h; exact fun x y hy => spec_l19Letters.good hE pv k x.1 x.2.1 x.2.2.1 hy
  · cases h
theorem spec_l19One.good (hE : EnvOk Tryz.prog envX) (pv : Nat → Value) (k : Nat) (a0 : Abbr) {y : _} (h : spec_l19One.F k a0 = some y) : Meets Tryz.prog envX pv (.f 96) (tvals [.abbr] (a0, ())) (.t .bool y) :=
  fun_plain hE (spec_l19One.G hE pv k) (f := 96) (fn := Tryz.f96) (by kernel_rfl) rfl (by kernel_rfl) (by kernel_rfl) ((spec_l19One.run k a0).trans h) fun r hr => wk_view1 hr
/-! ### 51 loop.example/g00896/spec.l19Good -/
def spec_l19Good.l0 : Nat → (List Abbr) → Int → Option (Sum Bool (List Abbr))
  | 0, _, _ => none
  | k + 1, x0, x3 => bif (decide (x3 < (x0.length : Int))) then (bif (decide (x3 ≤ 15)) then (bif decide (0 ≤ x3) then (bif decide (x3 < (x0.length : Int)) then ((spec_l19One.F k (x0.getD (x3 : Int).toNat (dflt .abbr))).bind fun r1 => bif (!r1) then (some (.inl false)) else (bif (decide (x3 > 0)) then (bif decide (0 ≤ (IntKind.wrap .i64 (x3 - 1))) then (bif decide ((IntKind.wrap .i64 (x3 - 1)) < (x0.length : Int)) then (bif decide (0 ≤ x3) then (bif decide (x3 < (x0.length : Int)) then (bif (!ltS ((x0.getD ((IntKind.wrap .i64 (x3 - 1)) : Int).toNat (dflt .abbr)).word) ((x0.getD (x3 : Int).toNat (dflt .abbr)).word)) then (some (.inl false)) else (spec_l19Good.l0 k x0 (IntKind.wrap .i64 (x3 + 1)))) else none) else none) else none) else none) else (spec_l19Good.l0 k x0 (IntKind.wrap .i64 (x3 + 1))))) else none) else none) else (some (.inr x0))) else (some (.inr x0))
def spec_l19Good.F (k : Nat) (a0 : List Abbr) : Option (Bool) := (spec_l19Good.l0 k a0 0).bind fun y2 => match y2 with | .inl z3 => some z3 | .inr z3 => some (decide ((z3.length : Int) ≤ 15))
def spec_l19Good.C (k : Nat) : Cal → Option CArm := fun c => match c with
  | .f 96 => some (.p [.abbr] _ (fun x => spec_l19One.F k x.1) (fun r => (.t .bool r)))
  | _ => none
def spec_l19Good.sp0 : List Sp := [.t 0 (.sl .abbr), .t 3 (.int .i64)]
def spec_l19Good.sp0_0 : List Sp := [.t 2 .bool]
def spec_l19Good.sp0_1 : List Sp := [.t 0 (.sl .abbr)]
def spec_l19Good.A0 : LArm := .two spec_l19Good.sp0 spec_l19Good.sp0_0 spec_l19Good.sp0_1 (Bool) ((List Abbr)) (fun k x => spec_l19Good.l0 k x.1 x.2.1) .ret (.exit 0) (fun y => (y, ())) (fun x => x.1) (fun y => (y, ())) (fun x => x.1)
def spec_l19Good.L : Nat → Option LArm := fun b => match b with
  | 0 => some spec_l19Good.A0
  | _ => none
theorem spec_l19Good.run (k : Nat) (a0 : List Abbr) : runF envX (tabC (spec_l19Good.C k)) (tabL 41 k spec_l19Good.L) Tryz.f51 [.t (.sl .abbr) a0] (viewR1 (.t .bool)) = spec_l19Good.F k a0 := by kernel_rfl
theorem spec_l19Good.step0 (k : Nat) (x0 : List Abbr) (x3 : Int) : runC envX (tabC (spec_l19Good.C k)) (tabL 41 k spec_l19Good.L) 0 (loopAt Tryz.f51 0) (stOf 41 spec_l19Good.sp0 (x0, x3, ())) (spec_l19Good.A0.cont 41 k) = spec_l19Good.l0 (k + 1) x0 x3 := by kernel_rfl
theorem spec_l19Good.G (hE : EnvOk Tryz.prog envX) (pv : Nat → Value) (k : Nat) : ∀ cal A, spec_l19Good.C k cal = some A → ArmOk Tryz.prog envX pv cal A := by
  intro cal A h
  unfold spec_l19Good.C at h
  split at h
  · cases h; exact fun x y hy => spec_l19One.good hE pv k x.1 hy
  · cases h
theorem spec_l19Good.good (hE : EnvOk Tryz.prog envX) (pv : Nat → Value) (k : Nat) (a0 : List Abbr) {y : _} (h : spec_l19Good.F k a0 = some y) : Meets Tryz.prog envX pv (.f 51) (tvals [(.sl .abbr)] (a0, ())) (.t .bool y) :=
  fun_loops hE (t := spec_l19Good.C) k (fun k _ => spec_l19Good.G hE pv k) (f := 51) (fn := Tryz.f51) (by kernel_rfl) rfl (by kernel_rfl) (by kernel_rfl) (lt := spec_l19Good.L) (by kernel_rfl) (fun b A h => by
    unfold spec_l19Good.L at h; split at h
    · cases h; exact ⟨by kernel_rfl, by kernel_rfl, by kernel_rfl, fun _ => rfl, fun _ => rfl, fun _ => rfl⟩
    · cases h) (fun b A h => by
    unfold spec_l19Good.L at h; split at h
    · cases h; exact fun k x => spec_l19Good.step0 k x.1 x.2.1
    · cases h) ((spec_l19Good.run k a0).trans h) fun r hr => wk_view1 hr
/-! ### 97 loop.example/g00896/spec.l4Text -/
def spec_l4Text.l0 : Nat → ByteArray → Int → Option (Sum Bool ByteArray)
  | 0, _, _ => none
  | k + 1, x0, x3 => bif (decide (x3 < (x0.size : Int))) then (bif decide (0 ≤ x3) then (bif decide (x3 < (x0.size : Int)) then (bif (decide ((bt x0 (x3 : Int).toNat) < 32)) then (some (.inl false)) else (bif decide (0 ≤ x3) then (bif decide (x3 < (x0.size : Int)) then (bif (decide ((bt x0 (x3 : Int).toNat) > 126)) then (some (.inl false)) else (spec_l4Text.l0 k x0 (IntKind.wrap .i64 (x3 + 1)))) else none) else none)) else none) else none) else (some (.inr x0))
def spec_l4Text.F (k : Nat) (a0 : ByteArray) : Option (Bool) := bif (decide ((a0.size : Int) > 40)) then (some false) else ((spec_l4Text.l0 k a0 0).bind fun y1 => match y1 with | .inl z2 => some z2 | .inr z2 => bif (beqS z2 (⟨#[]⟩ : ByteArray)) then (some true) else (bif decide (0 ≤ 0) then (bif decide (0 < (z2.size : Int)) then (bif ((bt z2 (0 : Int).toNat) != 32) then (bif decide (0 ≤ (IntKind.wrap .i64 ((z2.size : Int) - 1))) then (bif decide ((IntKind.wrap .i64 ((z2.size : Int) - 1)) < (z2.size : Int)) then (some ((bt z2 ((IntKind.wrap .i64 ((z2.size : Int) - 1)) : Int).toNat) != 32)) else none) else none) else (some false)) else none) else none))
def spec_l4Text.C (k : Nat) : Cal → Option CArm := fun c => match c with
  | _ => none
def spec_l4Text.sp0 : List Sp := [.t 0 .str, .t 3 (.int .i64)]
def spec_l4Text.sp0_0 : List Sp := [.t 2 .bool]
def spec_l4Text.sp0_1 : List Sp := [.t 0 .str]
def spec_l4Text.A0 : LArm := .two spec_l4Text.sp0 spec_l4Text.sp0_0 spec_l4Text.sp0_1 (Bool) (ByteArray) (fun k x => spec_l4Text.l0 k x.1 x.2.1) .ret (.exit 0) (fun y => (y, ())) (fun x => x.1) (fun y => (y, ())) (fun x => x.1)
def spec_l4Text.L : Nat → Option LArm := fun b => match b with
  | 0 => some spec_l4Text.A0
  | _ => none
theorem spec_l4Text.run (k : Nat) (a0 : ByteArray) : runF envX (tabC (spec_l4Text.C k)) (tabL 38 k spec_l4Text.L) Tryz.f97 [.t .str a0] (viewR1 (.t .bool)) = spec_l4Text.F k a0 := by kernel_rfl
theorem spec_l4Text.step0 (k : Nat) (x0 : ByteArray) (x3 : Int) : runC envX (tabC (spec_l4Text.C k)) (tabL 38 k spec_l4Text.L) 0 (loopAt Tryz.f97 0) (stOf 38 spec_l4Text.sp0 (x0, x3, ())) (spec_l4Text.A0.cont 38 k) = spec_l4Text.l0 (k + 1) x0 x3 := by kernel_rfl
theorem spec_l4Text.G (hE : EnvOk Tryz.prog envX) (pv : Nat → Value) (k : Nat) : ∀ cal A, spec_l4Text.C k cal = some A → ArmOk Tryz.prog envX pv cal A := by
  intro cal A h
  unfold spec_l4Text.C at h
  cases h
theorem spec_l4Text.good (hE : EnvOk Tryz.prog envX) (pv : Nat → Value) (k : Nat) (a0 : ByteArray) {y : _} (h : spec_l4Text.F k a0 = some y) : Meets Tryz.prog envX pv (.f 97) (tvals [.str] (a0, ())) (.t .bool y) :=
  fun_loops hE (t := spec_l4Text.C) k (fun k _ => spec_l4Text.G hE pv k) (f := 97) (fn := Tryz.f97) (by kernel_rfl) rfl (by kernel_rfl) (by kernel_rfl) (lt := spec_l4Text.L) (by kernel_rfl) (fun b A h => by
    unfold spec_l4Text.L at h; split at h
    · cases h; exact ⟨by kernel_rfl, by kernel_rfl, by kernel_rfl, fun _ => rfl, fun _ => rfl, fun _ => rfl⟩
    · cases h) (fun b A h => by
    unfold spec_l4Text.L at h; split at h
    · cases h; exact fun k x => spec_l4Text.step0 k x.1 x.2.1
    · cases h) ((spec_l4Text.run k a0).trans h) fun r hr => wk_view1 hr
/-! ### 52 loop.example/g00896/spec.l19Titles -/
def spec_l19Titles.l0 : Nat → (List ByteArray) → Int → Option (Sum Bool (List ByteArray))
  | 0, _, _ => none
  | k + 1, x0, x3 => bif (decide (x3 < (x0.length : Int))) then (bif decide (0 ≤ x3) then (bif decide (x3 < (x0.length : Int)) then ((spec_l4Text.F k (x0.getD (x3 : Int).toNat (⟨#[]⟩ : ByteArray))).bind fun r1 => bif (!r1) then (some (.inl false)) else (spec_l19Titles.l0 k x0 (IntKind.wrap .i64 (x3 + 1)))) else none) else none) else (some (.inr x0))
def spec_l19Titles.F (k : Nat) (a0 : List ByteArray) : Option (Bool) := (spec_l19Titles.l0 k a0 0).bind fun y2 => match y2 with | .inl z3 => some z3 | .inr z3 => some (decide ((z3.length : Int) ≤ 20))
def spec_l19Titles.C (k : Nat) : Cal → Option CArm := fun c => match c with
  | .f 97 => some (.p [.str] _ (fun x => spec_l4Text.F k x.1) (fun r => (.t .bool r)))
  | _ => none
def spec_l19Titles.sp0 : List Sp := [.t 0 (.sl .str), .t 3 (.int .i64)]
def spec_l19Titles.sp0_0 : List Sp := [.t 2 .bool]
def spec_l19Titles.sp0_1 : List Sp := [.t 0 (.sl .str)]
def spec_l19Titles.A0 : LArm := .two spec_l19Titles.sp0 spec_l19Titles.sp0_0 spec_l19Titles.sp0_1 (Bool) ((List ByteArray)) (fun k x => spec_l19Titles.l0 k x.1 x.2.1) .ret (.exit 0) (fun y => (y, ())) (fun x => x.1) (fun y => (y, ())) (fun x => x.1)
def spec_l19Titles.L : Nat → Option LArm := fun b => match b with
  | 0 => some spec_l19Titles.A0
  | _ => none
theorem spec_l19Titles.run (k : Nat) (a0 : List ByteArray) : runF envX (tabC (spec_l19Titles.C k)) (tabL 19 k spec_l19Titles.L) Tryz.f52 [.t (.sl .str) a0] (viewR1 (.t .bool)) = spec_l19Titles.F k a0 := by kernel_rfl
theorem spec_l19Titles.step0 (k : Nat) (x0 : List ByteArray) (x3 : Int) : runC envX (tabC (spec_l19Titles.C k)) (tabL 19 k spec_l19Titles.L) 0 (loopAt Tryz.f52 0) (stOf 19 spec_l19Titles.sp0 (x0, x3, ())) (spec_l19Titles.A0.cont 19 k) = spec_l19Titles.l0 (k + 1) x0 x3 := by kernel_rfl
theorem spec_l19Titles.G (hE : EnvOk Tryz.prog envX) (pv : Nat → Value) (k : Nat) : ∀ cal A, spec_l19Titles.C k cal = some A → ArmOk Tryz.prog envX pv cal A := by
  intro cal A h
  unfold spec_l19Titles.C at h
  split at h
  · cases h; exact fun x y hy => spec_l4Text.good hE pv k x.1 hy
  · cases h
theorem spec_l19Titles.good (hE : EnvOk Tryz.prog envX) (pv : Nat → Value) (k : Nat) (a0 : List ByteArray) {y : _} (h : spec_l19Titles.F k a0 = some y) : Meets Tryz.prog envX pv (.f 52) (tvals [(.sl .str)] (a0, ())) (.t .bool y) :=
  fun_loops hE (t := spec_l19Titles.C) k (fun k _ => spec_l19Titles.G hE pv k) (f := 52) (fn := Tryz.f52) (by kernel_rfl) rfl (by kernel_rfl) (by kernel_rfl) (lt := spec_l19Titles.L) (by kernel_rfl) (fun b A h => by
    unfold spec_l19Titles.L at h; split at h
    · cases h; exact ⟨by kernel_rfl, by kernel_rfl, by kernel_rfl, fun _ => rfl, fun _ => rfl, fun _ => rfl⟩
    · cases h) (fun b A h => by
    unfold spec_l19Titles.L at h; split at h
    · cases h; exact fun k x => spec_l19Titles.step0 k x.1 x.2.1
    · cases h) ((spec_l19Titles.run k a0).trans h) fun r hr => wk_view1 hr
/-! ### 135 loop.example/g00896/spec.l19Words -/
def spec_l19Words.l0 : Nat → ByteArray → (List ByteArray) → Int → Int → Option ((List ByteArray))
  | 0, _, _, _, _ => none
  | k + 1, x0, x3, x4, x5 => bif (decide (x5 ≤ (x0.size : Int))) then (bif (x5 == (x0.size : Int)) then (bif (decide (x5 > x4)) then (bif decide (0 ≤ x5) then (bif decide (x5 ≤ (x0.size : Int)) then (bif decide (0 ≤ x4) then (bif decide (x4 ≤ x5) then (bif room (x3.length + ([(x0.extract (x4 : Int).toNat (x5 : Int).toNat)] : List ByteArray).length) .str then (spec_l19Words.l0 k x0 (x3 ++ ([(x0.extract (x4 : Int).toNat (x5 : Int).toNat)] : List ByteArray)) (IntKind.wrap .i64 (x5 + 1)) (IntKind.wrap .i64 (x5 + 1))) else none) else none) else none) else none) else none) else (spec_l19Words.l0 k x0 x3 (IntKind.wrap .i64 (x5 + 1)) (IntKind.wrap .i64 (x5 + 1)))) else (bif decide (0 ≤ x5) then (bif decide (x5 < (x0.size : Int)) then (bif ((bt x0 (x5 : Int).toNat) == 32) then (bif (decide (x5 > x4)) then (bif decide (0 ≤ x5) then (bif decide (x5 ≤ (x0.size : Int)) then (bif decide (0 ≤ x4) then (bif decide (x4 ≤ x5) then (bif room (x3.length + ([(x0.extract (x4 : Int).toNat (x5 : Int).toNat)] : List ByteArray).length) .str then (spec_l19Words.l0 k x0 (x3 ++ ([(x0.extract (x4 : Int).toNat (x5 : Int).toNat)] : List ByteArray)) (IntKind.wrap .i64 (x5 + 1)) (IntKind.wrap .i64 (x5 + 1))) else none) else none) else none) else none) else none) else (spec_l19Words.l0 k x0 x3 (IntKind.wrap .i64 (x5 + 1)) (IntKind.wrap .i64 (x5 + 1)))) else (spec_l19Words.l0 k x0 x3 x4 (IntKind.wrap .i64 (x5 + 1)))) else none) else none)) else (some x3)
def spec_l19Words.F (k : Nat) (a0 : ByteArray) : Option (List ByteArray) := (spec_l19Words.l0 k a0 ([] : List ByteArray) 0 0).bind fun y1 => some y1
def spec_l19Words.C (k : Nat) : Cal → Option CArm := fun c => match c with
  | _ => none
def spec_l19Words.sp0 : List Sp := [.t 0 .str, .own 3 1024 9 .str false true, .t 4 (.int .i64), .t 5 (.int .i64)]
def spec_l19Words.sp0_0 : List Sp := [.own 3 1024 9 .str false true]
def spec_l19Words.A0 : LArm := .one spec_l19Words.sp0 spec_l19Words.sp0_0 ((List ByteArray)) (fun k x => spec_l19Words.l0 k x.1 x.2.1 x.2.2.1 x.2.2.2.1) (.exit 0) (fun y => (y, ())) (fun x => x.1)
def spec_l19Words.L : Nat → Option LArm := fun b => match b with
  | 0 => some spec_l19Words.A0
  | _ => none
theorem spec_l19Words.run (k : Nat) (a0 : ByteArray) : runF envX (tabC (spec_l19Words.C k)) (tabL 36 k spec_l19Words.L) Tryz.f135 [.t .str a0] (viewR1 (.fr 9 .str)) = spec_l19Words.F k a0 := by kernel_rfl
theorem spec_l19Words.step0 (k : Nat) (x0 : ByteArray) (x3 : List ByteArray) (x4 : Int) (x5 : Int) : runC envX (tabC (spec_l19Words.C k)) (tabL 36 k spec_l19Words.L) 0 (loopAt Tryz.f135 0) (stOf 36 spec_l19Words.sp0 (x0, x3, x4, x5, ())) (spec_l19Words.A0.cont 36 k) = spec_l19Words.l0 (k + 1) x0 x3 x4 x5 := by kernel_rfl
theorem spec_l19Words.G (hE : EnvOk Tryz.prog envX) (pv : Nat → Value) (k : Nat) : ∀ cal A, spec_l19Words.C k cal = some A → ArmOk Tryz.prog envX pv cal A := by
  intro cal A h
  unfold spec_l19Words.C at h
  cases h
theorem spec_l19Words.good (hE : EnvOk Tryz.prog envX) (pv : Nat → Value) (k : Nat) (a0 : ByteArray) {y : _} (h : spec_l19Words.F k a0 = some y) : Meets Tryz.prog envX pv (.f 135) (tvals [.str] (a0, ())) (.fr 9 .str y) :=
  fun_loops hE (t := spec_l19Words.C) k (fun k _ => spec_l19Words.G hE pv k) (f := 135) (fn := Tryz.f135) (by kernel_rfl) rfl (by kernel_rfl) (by kernel_rfl) (lt := spec_l19Words.L) (by kernel_rfl) (fun b A h => by
    unfold spec_l19Words.L at h; split at h
    · cases h; exact ⟨by kernel_rfl, by kernel_rfl, fun _ => rfl, fun _ => rfl⟩
    · cases h) (fun b A h => by
    unfold spec_l19Words.L at h; split at h
    · cases h; exact fun k x => spec_l19Words.step0 k x.1 x.2.1 x.2.2.1 x.2.2.2.1
    · cases h) ((spec_l19Words.run k a0).trans h) fun r hr => wk_view1 hr
/-! ### 168 loop.example/g00896/spec.l6LowerByte -/
def spec_l6LowerByte.F (a0 : Int) : Option (Int) := bif (decide (a0 ≥ 65)) then (bif (decide (a0 ≤ 90)) then (some (IntKind.wrap .u8 (a0 + 32))) else (some a0)) else (some a0)
def spec_l6LowerByte.C : Cal → Option CArm := fun c => match c with
  | _ => none
theorem spec_l6LowerByte.run (a0 : Int) : runF envX (tabC spec_l6LowerByte.C) (tabL 12 0 (fun _ => none)) Tryz.f168 [.t (.int .u8) a0] (viewR1 (.t (.int .u8))) = spec_l6LowerByte.F a0 := by kernel_rfl
theorem spec_l6LowerByte.G (hE : EnvOk Tryz.prog envX) (pv : Nat → Value) : ∀ cal A, spec_l6LowerByte.C cal = some A → ArmOk Tryz.prog envX pv cal A := by
  intro cal A h
  unfold spec_l6LowerByte.C at h
  cases h
theorem spec_l6LowerByte.good (hE : EnvOk Tryz.prog envX) (pv : Nat → Value) (a0 : Int) {y : _} (h : spec_l6LowerByte.F a0 = some y) : Meets Tryz.prog envX pv (.f 168) (tvals [(.int .u8)] (a0, ())) (.t (.int .u8) y) :=
  fun_plain hE (spec_l6LowerByte.G hE pv) (f := 168) (fn := Tryz.f168) (by kernel_rfl) rfl (by kernel_rfl) (by kernel_rfl) ((spec_l6LowerByte.run a0).trans h) fun r hr => wk_view1 hr
/-! ### 138 loop.example/g00896/spec.l6Lower -/
def spec_l6Lower.l0 : Nat → ByteArray → (List Int) → Int → Option ((List Int))
  | 0, _, _, _ => none
  | k + 1, x0, x3, x4 => bif (decide (x4 < (x0.size : Int))) then (bif decide (0 ≤ x4) then (bif decide (x4 < (x0.size : Int)) then ((spec_l6LowerByte.F (bt x0 (x4 : Int).toNat)).bind fun r1 => bif room (x3.length + ([r1] : List Int).length) (.int .u8) then (spec_l6Lower.l0 k x0 (x3 ++ ([r1] : List Int)) (IntKind.wrap .i64 (x4 + 1))) else none) else none) else none) else (some x3)
def spec_l6Lower.F (k : Nat) (a0 : ByteArray) : Option (ByteArray) := (spec_l6Lower.l0 k a0 ([] : List Int) 0).bind fun y2 => some (strL y2)
def spec_l6Lower.C (k : Nat) : Cal → Option CArm := fun c => match c with
  | .f 168 => some (.p [(.int .u8)] _ (fun x => spec_l6LowerByte.F x.1) (fun r => (.t (.int .u8) r)))
  | _ => none
def spec_l6Lower.sp0 : List Sp := [.t 0 .str, .own 3 1024 5 (.int .u8) false true, .t 4 (.int .i64)]
def spec_l6Lower.sp0_0 : List Sp := [.own 3 1024 5 (.int .u8) false true]
def spec_l6Lower.A0 : LArm := .one spec_l6Lower.sp0 spec_l6Lower.sp0_0 ((List Int)) (fun k x => spec_l6Lower.l0 k x.1 x.2.1 x.2.2.1) (.exit 0) (fun y => (y, ())) (fun x => x.1)
def spec_l6Lower.L : Nat → Option LArm := fun b => match b with
  | 0 => some spec_l6Lower.A0
  | _ => none
theorem spec_l6Lower.run (k : Nat) (a0 : ByteArray) : runF envX (tabC (spec_l6Lower.C k)) (tabL 21 k spec_l6Lower.L) Tryz.f138 [.t .str a0] (viewR1 (.t .str)) = spec_l6Lower.F k a0 := by kernel_rfl
theorem spec_l6Lower.step0 (k : Nat) (x0 : ByteArray) (x3 : List Int) (x4 : Int) : runC envX (tabC (spec_l6Lower.C k)) (tabL 21 k spec_l6Lower.L) 0 (loopAt Tryz.f138 0) (stOf 21 spec_l6Lower.sp0 (x0, x3, x4, ())) (spec_l6Lower.A0.cont 21 k) = spec_l6Lower.l0 (k + 1) x0 x3 x4 := by kernel_rfl
theorem spec_l6Lower.G (hE : EnvOk Tryz.prog envX) (pv : Nat → Value) (k : Nat) : ∀ cal A, spec_l6Lower.C k cal = some A → ArmOk Tryz.prog envX pv cal A := by
  intro cal A h
  unfold spec_l6Lower.C at h
  split at h
  · cases h; exact fun x y hy => spec_l6LowerByte.good hE pv x.1 hy
  · cases h
theorem spec_l6Lower.good (hE : EnvOk Tryz.prog envX) (pv : Nat → Value) (k : Nat) (a0 : ByteArray) {y : _} (h : spec_l6Lower.F k a0 = some y) : Meets Tryz.prog envX pv (.f 138) (tvals [.str] (a0, ())) (.t .str y) :=
  fun_loops hE (t := spec_l6Lower.C) k (fun k _ => spec_l6Lower.G hE pv k) (f := 138) (fn := Tryz.f138) (by kernel_rfl) rfl (by kernel_rfl) (by kernel_rfl) (lt := spec_l6Lower.L) (by kernel_rfl) (fun b A h => by
    unfold spec_l6Lower.L at h; split at h
    · cases h; exact ⟨by kernel_rfl, by kernel_rfl, fun _ => rfl, fun _ => rfl⟩
    · cases h) (fun b A h => by
    unfold spec_l6Lower.L at h; split at h
    · cases h; exact fun k x => spec_l6Lower.step0 k x.1 x.2.1 x.2.2.1
    · cases h) ((spec_l6Lower.run k a0).trans h) fun r hr => wk_view1 hr
/-! ### 136 loop.example/g00896/spec.l19Small -/
def spec_l19Small.F (k : Nat) (a0 : ByteArray) : Option (Bool) := (spec_l6Lower.F k a0).bind fun r1 => bif (beqS r1 (⟨#[97]⟩ : ByteArray)) then (bif (beqS r1 (⟨#[97]⟩ : ByteArray)) then (some true) else (some false)) else (bif (beqS r1 (⟨#[97, 110]⟩ : ByteArray)) then (bif (beqS r1 (⟨#[97, 110]⟩ : ByteArray)) then (some true) else (some false)) else (bif (beqS r1 (⟨#[97, 110, 100]⟩ : ByteArray)) then (bif (beqS r1 (⟨#[97, 110, 100]⟩ : ByteArray)) then (some true) else (some false)) else (bif (beqS r1 (⟨#[102, 111, 114]⟩ : ByteArray)) then (bif (beqS r1 (⟨#[102, 111, 114]⟩ : ByteArray)) then (some true) else (some false)) else (bif (beqS r1 (⟨#[105, 110]⟩ : ByteArray)) then (bif (beqS r1 (⟨#[105, 110]⟩ : ByteArray)) then (some true) else (some false)) else (bif (beqS r1 (⟨#[111, 102]⟩ : ByteArray)) then (bif (beqS r1 (⟨#[111, 102]⟩ : ByteArray)) then (some true) else (some false)) else (bif (beqS r1 (⟨#[111, 110]⟩ : ByteArray)) then (bif (beqS r1 (⟨#[111, 110]⟩ : ByteArray)) then (some true) else (some false)) else (bif (beqS r1 (⟨#[116, 104, 101]⟩ : ByteArray)) then (some true) else (some false))))))))
def spec_l19Small.C (k : Nat) : Cal → Option CArm := fun c => match c with
  | .f 138 => some (.p [.str] _ (fun x => spec_l6Lower.F k x.1) (fun r => (.t .str r)))
  | _ => none
theorem spec_l19Small.run (k : Nat) (a0 : ByteArray) : runF envX (tabC (spec_l19Small.C k)) (tabL 14 0 (fun _ => none)) Tryz.f136 [.t .str a0] (viewR1 (.t .bool)) = spec_l19Small.F k a0 := by kernel_rfl
theorem spec_l19Small.G (hE : EnvOk Tryz.prog envX) (pv : Nat → Value) (k : Nat) : ∀ cal A, spec_l19Small.C k cal = some A → ArmOk Tryz.prog envX pv cal A := by
  intro cal A h
  unfold spec_l19Small.C at h
  split at h
  · cases h; exact fun x y hy => spec_l6Lower.good hE pv k x.1 hy
  · cases h
theorem spec_l19Small.good (hE : EnvOk Tryz.prog envX) (pv : Nat → Value) (k : Nat) (a0 : ByteArray) {y : _} (h : spec_l19Small.F k a0 = some y) : Meets Tryz.prog envX pv (.f 136) (tvals [.str] (a0, ())) (.t .bool y) :=
  fun_plain hE (spec_l19Small.G hE pv k) (f := 136) (fn := Tryz.f136) (by kernel_rfl) rfl (by kernel_rfl) (by kernel_rfl) ((spec_l19Small.run k a0).trans h) fun r hr => wk_view1 hr
/-! ### 76 loop.example/g00896/spec.l19Kept -/
def spec_l19Kept.l0 : Nat → (List ByteArray) → (List ByteArray) → Int → Option ((List ByteArray) × (List ByteArray))
  | 0, _, _, _ => none
  | k + 1, x4, x5, x6 => bif (decide (x6 < (x4.length : Int))) then (bif decide (0 ≤ x6) then (bif decide (x6 < (x4.length : Int)) then ((spec_l19Small.F k (x4.getD ((x6 : Int).toNat) (⟨#[]⟩ : ByteArray))).bind fun r2 => bif (!r2) then (bif decide (0 ≤ x6) then (bif decide (x6 < (x4.length : Int)) then (bif room (x5.length + ([(x4.getD ((x6 : Int).toNat) (⟨#[]⟩ : ByteArray))] : List ByteArray).length) .str then (spec_l19Kept.l0 k x4 (x5 ++ ([(x4.getD ((x6 : Int).toNat) (⟨#[]⟩ : ByteArray))] : List ByteArray)) (IntKind.wrap .i64 (x6 + 1))) else none) else none) else none) else (spec_l19Kept.l0 k x4 x5 (IntKind.wrap .i64 (x6 + 1)))) else none) else none) else (some (x4, x5))
def spec_l19Kept.F (k : Nat) (a0 : ByteArray) : Option ((List ByteArray) × Bool) := (spec_l19Words.F k a0).bind fun r1 => (spec_l19Kept.l0 k r1 ([] : List ByteArray) 0).bind fun y3 => bif ((y3.2.length : Int) == 0) then (bif (decide ((y3.1.length : Int) < 2)) then (some (y3.1, false)) else (some (y3.1, true))) else (bif (decide ((y3.1.length : Int) < 2)) then (some (y3.1, false)) else (some (y3.2, true)))
def spec_l19Kept.C (k : Nat) : Cal → Option CArm := fun c => match c with
  | .f 135 => some (.p [.str] _ (fun x => spec_l19Words.F k x.1) (fun r => (.fr 9 .str r)))
  | .f 136 => some (.p [.str] _ (fun x => spec_l19Small.F k x.1) (fun r => (.t .bool r)))
  | _ => none
def spec_l19Kept.sp0 : List Sp := [.own 4 1028 9 .str false true, .own 5 2048 9 .str false true, .t 6 (.int .i64)]
def spec_l19Kept.sp0_0 : List Sp := [.own 4 1028 9 .str false true, .own 5 2048 9 .str false true]
def spec_l19Kept.A0 : LArm := .one spec_l19Kept.sp0 spec_l19Kept.sp0_0 ((List ByteArray) × (List ByteArray)) (fun k x => spec_l19Kept.l0 k x.1 x.2.1 x.2.2.1) (.exit 0) (fun y => (y.1, y.2, ())) (fun x => (x.1, x.2.1))
def spec_l19Kept.L : Nat → Option LArm := fun b => match b with
  | 0 => some spec_l19Kept.A0
  | _ => none
theorem spec_l19Kept.run (k : Nat) (a0 : ByteArray) : runF envX (tabC (spec_l19Kept.C k)) (tabL 38 k spec_l19Kept.L) Tryz.f76 [.t .str a0] (viewR2 (.fr 9 .str) (.t .bool)) = spec_l19Kept.F k a0 := by kernel_rfl
theorem spec_l19Kept.step0 (k : Nat) (x4 : List ByteArray) (x5 : List ByteArray) (x6 : Int) : runC envX (tabC (spec_l19Kept.C k)) (tabL 38 k spec_l19Kept.L) 0 (loopAt Tryz.f76 0) (stOf 38 spec_l19Kept.sp0 (x4, x5, x6, ())) (spec_l19Kept.A0.cont 38 k) = spec_l19Kept.l0 (k + 1) x4 x5 x6 := by kernel_rfl
theorem spec_l19Kept.G (hE : EnvOk Tryz.prog envX) (pv : Nat → Value) (k : Nat) : ∀ cal A, spec_l19Kept.C k cal = some A → ArmOk Tryz.prog envX pv cal A := by
  intro cal A h
  unfold spec_l19Kept.C at h
  split at h
  · cases h; exact fun x y hy => spec_l19Words.good hE pv k x.1 hy
  · cases h; exact fun x y hy => spec_l19Small.good hE pv k x.1 hy
  · cases h
theorem spec_l19Kept.good (hE : EnvOk Tryz.prog envX) (pv : Nat → Value) (k : Nat) (a0 : ByteArray) {y : _} (h : spec_l19Kept.F k a0 = some y) : Meets Tryz.prog envX pv (.f 76) (tvals [.str] (a0, ())) (.tup [.fr 9 .str y.1, .t .bool y.2]) :=
  fun_loops hE (t := spec_l19Kept.C) k (fun k _ => spec_l19Kept.G hE pv k) (f := 76) (fn := Tryz.f76) (by kernel_rfl) rfl (by kernel_rfl) (by kernel_rfl) (lt := spec_l19Kept.L) (by kernel_rfl) (fun b A h => by
    unfold spec_l19Kept.L at h; split at h
    · cases h; exact ⟨by kernel_rfl, by kernel_rfl, fun _ => rfl, fun _ => rfl⟩
    · cases h) (fun b A h => by
    unfold spec_l19Kept.L at h; split at h
    · cases h; exact fun k x => spec_l19Kept.step0 k x.1 x.2.1 x.2.2.1
    · cases h) ((spec_l19Kept.run k a0).trans h) fun r hr => wk_view2 hr
/-! ### 137 loop.example/g00896/spec.l6Letter -/
def spec_l6Letter.F (a0 : Int) : Option (Bool) := bif (decide (a0 ≥ 65)) then (bif (decide (a0 ≤ 90)) then (some true) else (bif (decide (a0 ≥ 97)) then (some (decide (a0 ≤ 122))) else (some false))) else (bif (decide (a0 ≥ 97)) then (some (decide (a0 ≤ 122))) else (some false))
def spec_l6Letter.C : Cal → Option CArm := fun c => match c with
  | _ => none
theorem spec_l6Letter.run (a0 : Int) : runF envX (tabC spec_l6Letter.C) (tabL 17 0 (fun _ => none)) Tryz.f137 [.t (.int .u8) a0] (viewR1 (.t .bool)) = spec_l6Letter.F a0 := by kernel_rfl
theorem spec_l6Letter.G (hE : EnvOk Tryz.prog envX) (pv : Nat → Value) : ∀ cal A, spec_l6Letter.C cal = some A → ArmOk Tryz.prog envX pv cal A := by
  intro cal A h
  unfold spec_l6Letter.C at h
  cases h
theorem spec_l6Letter.good (hE : EnvOk Tryz.prog envX) (pv : Nat → Value) (a0 : Int) {y : _} (h : spec_l6Letter.F a0 = some y) : Meets Tryz.prog envX pv (.f 137) (tvals [(.int .u8)] (a0, ())) (.t .bool y) :=
  fun_plain hE (spec_l6Letter.G hE pv) (f := 137) (fn := Tryz.f137) (by kernel_rfl) rfl (by kernel_rfl) (by kernel_rfl) ((spec_l6Letter.run a0).trans h) fun r hr => wk_view1 hr
/-! ### 77 loop.example/g00896/spec.l19Find -/
def spec_l19Find.l0 : Nat → (List Abbr) → ByteArray → Int → Option (Sum Int ((List Abbr) × ByteArray))
  | 0, _, _, _ => none
  | k + 1, x0, x1, x5 => bif (decide (x5 < (x1.size : Int))) then (bif decide (0 ≤ x5) then (bif decide (x5 < (x1.size : Int)) then ((spec_l6Letter.F (bt x1 (x5 : Int).toNat)).bind fun r1 => bif (!r1) then (some (.inl (-1))) else (spec_l19Find.l0 k x0 x1 (IntKind.wrap .i64 (x5 + 1)))) else none) else none) else (some (.inr (x0, x1)))
def spec_l19Find.l2 : Nat → (List Abbr) → ByteArray → Int → Int → Option (Sum Int Int)
  | 0, _, _, _, _ => none
  | k + 1, x0, x6, x7, x8 => bif (decide (x8 < (x0.length : Int))) then (bif decide (0 ≤ x8) then (bif decide (x8 < (x0.length : Int)) then (bif (beqS ((x0.getD (x8 : Int).toNat (dflt .abbr)).word) x6) then (some (.inl x8)) else ((spec_l19Cut.F ((x0.getD (x8 : Int).toNat (dflt .abbr)).word) 45).bind fun r5 => bif (!beqS r5 ((x0.getD (x8 : Int).toNat (dflt .abbr)).word)) then (bif (decide ((r5.size : Int) ≤ (x6.size : Int))) then (bif decide (0 ≤ (r5.size : Int)) then (bif decide ((r5.size : Int) ≤ (x6.size : Int)) then (bif (beqS (x6.extract 0 ((r5.size : Int) : Int).toNat) r5) then (bif (decide (x7 < 0)) then (spec_l19Find.l2 k x0 x6 x8 (IntKind.wrap .i64 (x8 + 1))) else (bif decide (0 ≤ x7) then (bif decide (x7 < (x0.length : Int)) then (bif (decide ((((x0.getD (x8 : Int).toNat (dflt .abbr)).word).size : Int) > (((x0.getD (x7 : Int).toNat (dflt .abbr)).word).size : Int))) then (spec_l19Find.l2 k x0 x6 x8 (IntKind.wrap .i64 (x8 + 1))) else (spec_l19Find.l2 k x0 x6 x7 (IntKind.wrap .i64 (x8 + 1)))) else none) else none)) else (spec_l19Find.l2 k x0 x6 x7 (IntKind.wrap .i64 (x8 + 1)))) else none) else none) else (spec_l19Find.l2 k x0 x6 x7 (IntKind.wrap .i64 (x8 + 1)))) else (spec_l19Find.l2 k x0 x6 x7 (IntKind.wrap .i64 (x8 + 1))))) else none) else none) else (some (.inr x7))
def spec_l19Find.F (k : Nat) (a0 : List Abbr) (a1 : ByteArray) : Option (Int) := (spec_l19Find.l0 k a0 a1 0).bind fun y2 => match y2 with | .inl z3 => some z3 | .inr z3 => (spec_l6Lower.F k z3.2).bind fun r4 => (spec_l19Find.l2 k z3.1 r4 (-1) 0).bind fun y6 => match y6 with | .inl z7 => some z7 | .inr z7 => some z7
def spec_l19Find.C (k : Nat) : Cal → Option CArm := fun c => match c with
  | .f 137 => some (.p [(.int .u8)] _ (fun x => spec_l6Letter.F x.1) (fun r => (.t .bool r)))
  | .f 138 => some (.p [.str] _ (fun x => spec_l6Lower.F k x.1) (fun r => (.t .str r)))
  | .f 139 => some (.p [.str, (.int .u8)] _ (fun x => spec_l19Cut.F x.1 x.2.1) (fun r => (.t .str r)))
  | _ => none
def spec_l19Find.sp0 : List Sp := [.t 0 (.sl .abbr), .t 1 .str, .t 5 (.int .i64)]
def spec_l19Find.sp0_0 : List Sp := [.t 4 (.int .i64)]
def spec_l19Find.sp0_1 : List Sp := [.t 0 (.sl .abbr), .t 1 .str]
def spec_l19Find.A0 : LArm := .two spec_l19Find.sp0 spec_l19Find.sp0_0 spec_l19Find.sp0_1 (Int) ((List Abbr) × ByteArray) (fun k x => spec_l19Find.l0 k x.1 x.2.1 x.2.2.1) .ret (.exit 0) (fun y => (y, ())) (fun x => x.1) (fun y => (y.1, y.2, ())) (fun x => (x.1, x.2.1))
def spec_l19Find.sp2 : List Sp := [.t 0 (.sl .abbr), .t 6 .str, .t 7 (.int .i64), .t 8 (.int .i64)]
def spec_l19Find.sp2_0 : List Sp := [.t 4 (.int .i64)]
def spec_l19Find.sp2_1 : List Sp := [.t 7 (.int .i64)]
def spec_l19Find.A2 : LArm := .two spec_l19Find.sp2 spec_l19Find.sp2_0 spec_l19Find.sp2_1 (Int) (Int) (fun k x => spec_l19Find.l2 k x.1 x.2.1 x.2.2.1 x.2.2.2.1) .ret (.exit 2) (fun y => (y, ())) (fun x => x.1) (fun y => (y, ())) (fun x => x.1)
def spec_l19Find.L : Nat → Option LArm := fun b => match b with
  | 0 => some spec_l19Find.A0
  | 2 => some spec_l19Find.A2
  | _ => none
theorem spec_l19Find.run (k : Nat) (a0 : List Abbr) (a1 : ByteArray) : runF envX (tabC (spec_l19Find.C k)) (tabL 76 k spec_l19Find.L) Tryz.f77 [.t (.sl .abbr) a0, .t .str a1] (viewR1 (.t (.int .i64))) = spec_l19Find.F k a0 a1 := by kernel_rfl
theorem spec_l19Find.step0 (k : Nat) (x0 : List Abbr) (x1 : ByteArray) (x5 : Int) : runC envX (tabC (spec_l19Find.C k)) (tabL 76 k spec_l19Find.L) 0 (loopAt Tryz.f77 0) (stOf 76 spec_l19Find.sp0 (x0, x1, x5, ())) (spec_l19Find.A0.cont 76 k) = spec_l19Find.l0 (k + 1) x0 x1 x5 := by kernel_rfl
theorem spec_l19Find.step2 (k : Nat) (x0 : List Abbr) (x6 : ByteArray) (x7 : Int) (x8 : Int) : runC envX (tabC (spec_l19Find.C k)) (tabL 76 k spec_l19Find.L) 2 (loopAt Tryz.f77 2) (stOf 76 spec_l19Find.sp2 (x0, x6, x7, x8, ())) (spec_l19Find.A2.cont 76 k) = spec_l19Find.l2 (k + 1) x0 x6 x7 x8 := by kernel_rfl
theorem spec_l19Find.G (hE : EnvOk Tryz.prog envX) (pv : Nat → Value) (k : Nat) : ∀ cal A, spec_l19Find.C k cal = some A → ArmOk Tryz.prog envX pv cal A := by
  intro cal A h
  unfold spec_l19Find.C at h
  split at h
  · cases h; exact fun x y hy => spec_l6Letter.good hE pv x.1 hy
  · cases h; exact fun x y hy => spec_l6Lower.good hE pv k x.1 hy
  · cases h; exact fun x y hy => spec_l19Cut.good hE pv x.1 x.2.1 hy
  · cases h
theorem spec_l19Find.good (hE : EnvOk Tryz.prog envX) (pv : Nat → Value) (k : Nat) (a0 : List Abbr) (a1 : ByteArray) {y : _} (h : spec_l19Find.F k a0 a1 = some y) : Meets Tryz.prog envX pv (.f 77) (tvals [(.sl .abbr), .str] (a0, a1, ())) (.t (.int .i64) y) :=
  fun_loops hE (t := spec_l19Find.C) k (fun k _ => spec_l19Find.G hE pv k) (f := 77) (fn := Tryz.f77) (by kernel_rfl) rfl (by kernel_rfl) (by kernel_rfl) (lt := spec_l19Find.L) (by kernel_rfl) (fun b A h => by
    unfold spec_l19Find.L at h; split at h
    · cases h; exact ⟨by kernel_rfl, by kernel_rfl, by kernel_rfl, fun _ => rfl, fun _ => rfl, fun _ => rfl⟩
    · cases h; exact ⟨by kernel_rfl, by kernel_rfl, by kernel_rfl, fun _ => rfl, fun _ => rfl, fun _ => rfl⟩
    · cases h) (fun b A h => by
    unfold spec_l19Find.L at h; split at h
    · cases h; exact fun k x => spec_l19Find.step0 k x.1 x.2.1 x.2.2.1
    · cases h; exact fun k x => spec_l19Find.step2 k x.1 x.2.1 x.2.2.1 x.2.2.2.1
    · cases h) ((spec_l19Find.run k a0 a1).trans h) fun r hr => wk_view1 hr
/-! ### 171 loop.example/g00896/spec.l6UpperByte -/
def spec_l6UpperByte.F (a0 : Int) : Option (Int) := bif (decide (a0 ≥ 97)) then (bif (decide (a0 ≤ 122)) then (some (IntKind.wrap .u8 (a0 - 32))) else (some a0)) else (some a0)
def spec_l6UpperByte.C : Cal → Option CArm := fun c => match c with
  | _ => none
theorem spec_l6UpperByte.run (a0 : Int) : runF envX (tabC spec_l6UpperByte.C) (tabL 12 0 (fun _ => none)) Tryz.f171 [.t (.int .u8) a0] (viewR1 (.t (.int .u8))) = spec_l6UpperByte.F a0 := by kernel_rfl
theorem spec_l6UpperByte.G (hE : EnvOk Tryz.prog envX) (pv : Nat → Value) : ∀ cal A, spec_l6UpperByte.C cal = some A → ArmOk Tryz.prog envX pv cal A := by
  intro cal A h
  unfold spec_l6UpperByte.C at h
  cases h
theorem spec_l6UpperByte.good (hE : EnvOk Tryz.prog envX) (pv : Nat → Value) (a0 : Int) {y : _} (h : spec_l6UpperByte.F a0 = some y) : Meets Tryz.prog envX pv (.f 171) (tvals [(.int .u8)] (a0, ())) (.t (.int .u8) y) :=
  fun_plain hE (spec_l6UpperByte.G hE pv) (f := 171) (fn := Tryz.f171) (by kernel_rfl) rfl (by kernel_rfl) (by kernel_rfl) ((spec_l6UpperByte.run a0).trans h) fun r hr => wk_view1 hr
/-! ### 146 loop.example/g00896/spec.l6Raise -/
def spec_l6Raise.l0 : Nat → ByteArray → Int → Option (Sum ByteArray ByteArray)
  | 0, _, _ => none
  | k + 1, x0, x3 => bif (decide (x3 < (x0.size : Int))) then (bif decide (0 ≤ x3) then (bif decide (x3 < (x0.size : Int)) then ((spec_l6Letter.F (bt x0 (x3 : Int).toNat)).bind fun r1 => bif r1 then (bif decide (0 ≤ x3) then (bif decide (x3 ≤ (x0.size : Int)) then (bif decide (0 ≤ x3) then (bif decide (x3 < (x0.size : Int)) then ((spec_l6UpperByte.F (bt x0 (x3 : Int).toNat)).bind fun r2 => bif Nat.ble ((x0.extract 0 (x3 : Int).toNat).size + (strL ([r2] : List Int)).size) 9223372036854775807 then (bif decide (0 ≤ (IntKind.wrap .i64 (x3 + 1))) then (bif decide ((IntKind.wrap .i64 (x3 + 1)) ≤ (x0.size : Int)) then (bif Nat.ble (((x0.extract 0 (x3 : Int).toNat) ++ (strL ([r2] : List Int))).size + (x0.extract ((IntKind.wrap .i64 (x3 + 1)) : Int).toNat x0.size).size) 9223372036854775807 then (some (.inl (((x0.extract 0 (x3 : Int).toNat) ++ (strL ([r2] : List Int))) ++ (x0.extract ((IntKind.wrap .i64 (x3 + 1)) : Int).toNat x0.size)))) else none) else none) else none) else none) else none) else none) else none) else none) else (spec_l6Raise.l0 k x0 (IntKind.wrap .i64 (x3 + 1)))) else none) else none) else (some (.inr x0))
def spec_l6Raise.F (k : Nat) (a0 : ByteArray) : Option (ByteArray) := (spec_l6Raise.l0 k a0 0).bind fun y3 => match y3 with | .inl z4 => some z4 | .inr z4 => some z4
def spec_l6Raise.C (k : Nat) : Cal → Option CArm := fun c => match c with
  | .f 137 => some (.p [(.int .u8)] _ (fun x => spec_l6Letter.F x.1) (fun r => (.t .bool r)))
  | .f 171 => some (.p [(.int .u8)] _ (fun x => spec_l6UpperByte.F x.1) (fun r => (.t (.int .u8) r)))
  | _ => none
def spec_l6Raise.sp0 : List Sp := [.t 0 .str, .t 3 (.int .i64)]
def spec_l6Raise.sp0_0 : List Sp := [.t 2 .str]
def spec_l6Raise.sp0_1 : List Sp := [.t 0 .str]
def spec_l6Raise.A0 : LArm := .two spec_l6Raise.sp0 spec_l6Raise.sp0_0 spec_l6Raise.sp0_1 (ByteArray) (ByteArray) (fun k x => spec_l6Raise.l0 k x.1 x.2.1) .ret (.exit 0) (fun y => (y, ())) (fun x => x.1) (fun y => (y, ())) (fun x => x.1)
def spec_l6Raise.L : Nat → Option LArm := fun b => match b with
  | 0 => some spec_l6Raise.A0
  | _ => none
theorem spec_l6Raise.run (k : Nat) (a0 : ByteArray) : runF envX (tabC (spec_l6Raise.C k)) (tabL 30 k spec_l6Raise.L) Tryz.f146 [.t .str a0] (viewR1 (.t .str)) = spec_l6Raise.F k a0 := by kernel_rfl
theorem spec_l6Raise.step0 (k : Nat) (x0 : ByteArray) (x3 : Int) : runC envX (tabC (spec_l6Raise.C k)) (tabL 30 k spec_l6Raise.L) 0 (loopAt Tryz.f146 0) (stOf 30 spec_l6Raise.sp0 (x0, x3, ())) (spec_l6Raise.A0.cont 30 k) = spec_l6Raise.l0 (k + 1) x0 x3 := by kernel_rfl
theorem spec_l6Raise.G (hE : EnvOk Tryz.prog envX) (pv : Nat → Value) (k : Nat) : ∀ cal A, spec_l6Raise.C k cal = some A → ArmOk Tryz.prog envX pv cal A := by
  intro cal A h
  unfold spec_l6Raise.C at h
  split at h
  · cases h; exact fun x y hy => spec_l6Letter.good hE pv x.1 hy
  · cases h; exact fun x y hy => spec_l6UpperByte.good hE pv x.1 hy
  · cases h
theorem spec_l6Raise.good (hE : EnvOk Tryz.prog envX) (pv : Nat → Value) (k : Nat) (a0 : ByteArray) {y : _} (h : spec_l6Raise.F k a0 = some y) : Meets Tryz.prog envX pv (.f 146) (tvals [.str] (a0, ())) (.t .str y) :=
  fun_loops hE (t := spec_l6Raise.C) k (fun k _ => spec_l6Raise.G hE pv k) (f := 146) (fn := Tryz.f146) (by kernel_rfl) rfl (by kernel_rfl) (by kernel_rfl) (lt := spec_l6Raise.L) (by kernel_rfl) (fun b A h => by
    unfold spec_l6Raise.L at h; split at h
    · cases h; exact ⟨by kernel_rfl, by kernel_rfl, by kernel_rfl, fun _ => rfl, fun _ => rfl, fun _ => rfl⟩
    · cases h) (fun b A h => by
    unfold spec_l6Raise.L at h; split at h
    · cases h; exact fun k x => spec_l6Raise.step0 k x.1 x.2.1
    · cases h) ((spec_l6Raise.run k a0).trans h) fun r hr => wk_view1 hr
/-! ### 98 loop.example/g00896/spec.l19Short -/
def spec_l19Short.F (k : Nat) (a0 : List Abbr) (a1 : ByteArray) : Option (ByteArray) := (spec_l19Find.F k a0 a1).bind fun r1 => bif (decide (r1 < 0)) then (some a1) else (bif decide (0 ≤ 0) then (bif decide (0 < (a1.size : Int)) then (bif (decide ((bt a1 (0 : Int).toNat) ≥ 65)) then (bif decide (0 ≤ 0) then (bif decide (0 < (a1.size : Int)) then (bif (decide ((bt a1 (0 : Int).toNat) ≤ 90)) then (bif decide (0 ≤ r1) then (bif decide (r1 < (a0.length : Int)) then ((spec_l6Raise.F k ((a0.getD (r1 : Int).toNat (dflt .abbr)).short)).bind fun r2 => some r2) else none) else none) else (bif decide (0 ≤ r1) then (bif decide (r1 < (a0.length : Int)) then (some ((a0.getD (r1 : Int).toNat (dflt .abbr)).short)) else none) else none)) else none) else none) else (bif decide (0 ≤ r1) then (bif decide (r1 < (a0.length : Int)) then (some ((a0.getD (r1 : Int).toNat (dflt .abbr)).short)) else none) else none)) else none) else none)
def spec_l19Short.C (k : Nat) : Cal → Option CArm := fun c => match c with
  | .f 77 => some (.p [(.sl .abbr), .str] _ (fun x => spec_l19Find.F k x.1 x.2.1) (fun r => (.t (.int .i64) r)))
  | .f 146 => some (.p [.str] _ (fun x => spec_l6Raise.F k x.1) (fun r => (.t .str r)))
  | _ => none
theorem spec_l19Short.run (k : Nat) (a0 : List Abbr) (a1 : ByteArray) : runF envX (tabC (spec_l19Short.C k)) (tabL 31 0 (fun _ => none)) Tryz.f98 [.t (.sl .abbr) a0, .t .str a1] (viewR1 (.t .str)) = spec_l19Short.F k a0 a1 := by kernel_rfl
theorem spec_l19Short.G (hE : EnvOk Tryz.prog envX) (pv : Nat → Value) (k : Nat) : ∀ cal A, spec_l19Short.C k cal = some A → ArmOk Tryz.prog envX pv cal A := by
  intro cal A h
  unfold spec_l19Short.C at h
  split at h
  · cases h; exact fun x y hy => spec_l19Find.good hE pv k x.1 x.2.1 hy
  · cases h; exact fun x y hy => spec_l6Raise.good hE pv k x.1 hy
  · cases h
theorem spec_l19Short.good (hE : EnvOk Tryz.prog envX) (pv : Nat → Value) (k : Nat) (a0 : List Abbr) (a1 : ByteArray) {y : _} (h : spec_l19Short.F k a0 a1 = some y) : Meets Tryz.prog envX pv (.f 98) (tvals [(.sl .abbr), .str] (a0, a1, ())) (.t .str y) :=
  fun_plain hE (spec_l19Short.G hE pv k) (f := 98) (fn := Tryz.f98) (by kernel_rfl) rfl (by kernel_rfl) (by kernel_rfl) ((spec_l19Short.run k a0 a1).trans h) fun r hr => wk_view1 hr
/-! ### 99 loop.example/g00896/spec.l6Join -/
def spec_l6Join.l0 : Nat → (List ByteArray) → ByteArray → Int → Option (ByteArray)
  | 0, _, _, _ => none
  | k + 1, x0, x3, x4 => bif (decide (x4 < (x0.length : Int))) then (bif (decide (x4 > 0)) then (bif Nat.ble (x3.size + (⟨#[32]⟩ : ByteArray).size) 9223372036854775807 then (bif decide (0 ≤ x4) then (bif decide (x4 < (x0.length : Int)) then (bif Nat.ble ((x3 ++ (⟨#[32]⟩ : ByteArray)).size + (x0.getD (x4 : Int).toNat (⟨#[]⟩ : ByteArray)).size) 9223372036854775807 then (spec_l6Join.l0 k x0 ((x3 ++ (⟨#[32]⟩ : ByteArray)) ++ (x0.getD (x4 : Int).toNat (⟨#[]⟩ : ByteArray))) (IntKind.wrap .i64 (x4 + 1))) else none) else none) else none) else none) else (bif decide (0 ≤ x4) then (bif decide (x4 < (x0.length : Int)) then (bif Nat.ble (x3.size + (x0.getD (x4 : Int).toNat (⟨#[]⟩ : ByteArray)).size) 9223372036854775807 then (spec_l6Join.l0 k x0 (x3 ++ (x0.getD (x4 : Int).toNat (⟨#[]⟩ : ByteArray))) (IntKind.wrap .i64 (x4 + 1))) else none) else none) else none)) else (some x3)
def spec_l6Join.F (k : Nat) (a0 : List ByteArray) : Option (ByteArray) := (spec_l6Join.l0 k a0 (⟨#[]⟩ : ByteArray) 0).bind fun y1 => some y1
def spec_l6Join.C (k : Nat) : Cal → Option CArm := fun c => match c with
  | _ => none
def spec_l6Join.sp0 : List Sp := [.t 0 (.sl .str), .t 3 .str, .t 4 (.int .i64)]
def spec_l6Join.sp0_0 : List Sp := [.t 3 .str]
def spec_l6Join.A0 : LArm := .one spec_l6Join.sp0 spec_l6Join.sp0_0 (ByteArray) (fun k x => spec_l6Join.l0 k x.1 x.2.1 x.2.2.1) (.exit 0) (fun y => (y, ())) (fun x => x.1)
def spec_l6Join.L : Nat → Option LArm := fun b => match b with
  | 0 => some spec_l6Join.A0
  | _ => none
theorem spec_l6Join.run (k : Nat) (a0 : List ByteArray) : runF envX (tabC (spec_l6Join.C k)) (tabL 22 k spec_l6Join.L) Tryz.f99 [.t (.sl .str) a0] (viewR1 (.t .str)) = spec_l6Join.F k a0 := by kernel_rfl
theorem spec_l6Join.step0 (k : Nat) (x0 : List ByteArray) (x3 : ByteArray) (x4 : Int) : runC envX (tabC (spec_l6Join.C k)) (tabL 22 k spec_l6Join.L) 0 (loopAt Tryz.f99 0) (stOf 22 spec_l6Join.sp0 (x0, x3, x4, ())) (spec_l6Join.A0.cont 22 k) = spec_l6Join.l0 (k + 1) x0 x3 x4 := by kernel_rfl
theorem spec_l6Join.G (hE : EnvOk Tryz.prog envX) (pv : Nat → Value) (k : Nat) : ∀ cal A, spec_l6Join.C k cal = some A → ArmOk Tryz.prog envX pv cal A := by
  intro cal A h
  unfold spec_l6Join.C at h
  cases h
theorem spec_l6Join.good (hE : EnvOk Tryz.prog envX) (pv : Nat → Value) (k : Nat) (a0 : List ByteArray) {y : _} (h : spec_l6Join.F k a0 = some y) : Meets Tryz.prog envX pv (.f 99) (tvals [(.sl .str)] (a0, ())) (.t .str y) :=
  fun_loops hE (t := spec_l6Join.C) k (fun k _ => spec_l6Join.G hE pv k) (f := 99) (fn := Tryz.f99) (by kernel_rfl) rfl (by kernel_rfl) (by kernel_rfl) (lt := spec_l6Join.L) (by kernel_rfl) (fun b A h => by
    unfold spec_l6Join.L at h; split at h
    · cases h; exact ⟨by kernel_rfl, by kernel_rfl, fun _ => rfl, fun _ => rfl⟩
    · cases h) (fun b A h => by
    unfold spec_l6Join.L at h; split at h
    · cases h; exact fun k x => spec_l6Join.step0 k x.1 x.2.1 x.2.2.1
    · cases h) ((spec_l6Join.run k a0).trans h) fun r hr => wk_view1 hr
/-! ### 53 loop.example/g00896/spec.l19Title -/
def spec_l19Title.l0 : Nat → (List Abbr) → (List ByteArray) → (List ByteArray) → Int → Option ((List ByteArray))
  | 0, _, _, _, _ => none
  | k + 1, x0, x5, x7, x8 => bif (decide (x8 < (x5.length : Int))) then (bif decide (0 ≤ x8) then (bif decide (x8 < (x5.length : Int)) then ((spec_l19Short.F k x0 (x5.getD ((x8 : Int).toNat) (⟨#[]⟩ : ByteArray))).bind fun r2 => bif room (x7.length + ([r2] : List ByteArray).length) .str then (spec_l19Title.l0 k x0 x5 (x7 ++ ([r2] : List ByteArray)) (IntKind.wrap .i64 (x8 + 1))) else none) else none) else none) else (some x7)
def spec_l19Title.F (k : Nat) (a0 : List Abbr) (a1 : ByteArray) : Option (ByteArray) := (spec_l19Kept.F k a1).bind fun r1 => bif (!r1.2) then (some a1) else ((spec_l19Title.l0 k a0 r1.1 ([] : List ByteArray) 0).bind fun y3 => (spec_l6Join.F k y3).bind fun r4 => some r4)
def spec_l19Title.C (k : Nat) : Cal → Option CArm := fun c => match c with
  | .f 76 => some (.p [.str] _ (fun x => spec_l19Kept.F k x.1) (fun r => (.tup [.fr 9 .str r.1, .t .bool r.2])))
  | .f 98 => some (.p [(.sl .abbr), .str] _ (fun x => spec_l19Short.F k x.1 x.2.1) (fun r => (.t .str r)))
  | .f 99 => some (.p [(.sl .str)] _ (fun x => spec_l6Join.F k x.1) (fun r => (.t .str r)))
  | _ => none
def spec_l19Title.sp0 : List Sp := [.t 0 (.sl .abbr), .own 5 1028 9 .str false true, .own 7 4096 9 .str false true, .t 8 (.int .i64)]
def spec_l19Title.sp0_0 : List Sp := [.own 7 4096 9 .str false true]
def spec_l19Title.A0 : LArm := .one spec_l19Title.sp0 spec_l19Title.sp0_0 ((List ByteArray)) (fun k x => spec_l19Title.l0 k x.1 x.2.1 x.2.2.1 x.2.2.2.1) (.exit 0) (fun y => (y, ())) (fun x => x.1)
def spec_l19Title.L : Nat → Option LArm := fun b => match b with
  | 0 => some spec_l19Title.A0
  | _ => none
theorem spec_l19Title.run (k : Nat) (a0 : List Abbr) (a1 : ByteArray) : runF envX (tabC (spec_l19Title.C k)) (tabL 35 k spec_l19Title.L) Tryz.f53 [.t (.sl .abbr) a0, .t .str a1] (viewR1 (.t .str)) = spec_l19Title.F k a0 a1 := by kernel_rfl
theorem spec_l19Title.step0 (k : Nat) (x0 : List Abbr) (x5 : List ByteArray) (x7 : List ByteArray) (x8 : Int) : runC envX (tabC (spec_l19Title.C k)) (tabL 35 k spec_l19Title.L) 0 (loopAt Tryz.f53 0) (stOf 35 spec_l19Title.sp0 (x0, x5, x7, x8, ())) (spec_l19Title.A0.cont 35 k) = spec_l19Title.l0 (k + 1) x0 x5 x7 x8 := by kernel_rfl
theorem spec_l19Title.G (hE : EnvOk Tryz.prog envX) (pv : Nat → Value) (k : Nat) : ∀ cal A, spec_l19Title.C k cal = some A → ArmOk Tryz.prog envX pv cal A := by
  intro cal A h
  unfold spec_l19Title.C at h
  split at h
  · cases h; exact fun x y hy => spec_l19Kept.good hE pv k x.1 hy
  · cases h; exact fun x y hy => spec_l19Short.good hE pv k x.1 x.2.1 hy
  · cases h; exact fun x y hy => spec_l6Join.good hE pv k x.1 hy
  · cases h
theorem spec_l19Title.good (hE : EnvOk Tryz.prog envX) (pv : Nat → Value) (k : Nat) (a0 : List Abbr) (a1 : ByteArray) {y : _} (h : spec_l19Title.F k a0 a1 = some y) : Meets Tryz.prog envX pv (.f 53) (tvals [(.sl .abbr), .str] (a0, a1, ())) (.t .str y) :=
  fun_loops hE (t := spec_l19Title.C) k (fun k _ => spec_l19Title.G hE pv k) (f := 53) (fn := Tryz.f53) (by kernel_rfl) rfl (by kernel_rfl) (by kernel_rfl) (lt := spec_l19Title.L) (by kernel_rfl) (fun b A h => by
    unfold spec_l19Title.L at h; split at h
    · cases h; exact ⟨by kernel_rfl, by kernel_rfl, fun _ => rfl, fun _ => rfl⟩
    · cases h) (fun b A h => by
    unfold spec_l19Title.L at h; split at h
    · cases h; exact fun k x => spec_l19Title.step0 k x.1 x.2.1 x.2.2.1 x.2.2.2.1
    · cases h) ((spec_l19Title.run k a0 a1).trans h) fun r hr => wk_view1 hr
/-! ### 12 loop.example/g00896/spec.DistinctTitles -/
def spec_DistinctTitles.l2 : Nat → (List Abbr) → (List ByteArray) → (List ByteArray) → Int → ByteArray → Int → Option ((List Abbr) × (List ByteArray) × (List ByteArray) × Int × ByteArray)
  | 0, _, _, _, _, _, _ => none
  | k + 1, x0, x1, x6, x7, x8, x9 => bif (decide (x9 < (x1.length : Int))) then (bif decide (0 ≤ x9) then (bif decide (x9 < (x1.length : Int)) then (bif decide (0 ≤ x7) then (bif decide (x7 < (x1.length : Int)) then (bif (!beqS (x1.getD (x9 : Int).toNat (⟨#[]⟩ : ByteArray)) (x1.getD (x7 : Int).toNat (⟨#[]⟩ : ByteArray))) then (bif decide (0 ≤ x9) then (bif decide (x9 < (x1.length : Int)) then ((spec_l19Title.F k x0 (x1.getD (x9 : Int).toNat (⟨#[]⟩ : ByteArray))).bind fun r4 => bif decide (0 ≤ x7) then (bif decide (x7 < (x1.length : Int)) then ((spec_l19Title.F k x0 (x1.getD (x7 : Int).toNat (⟨#[]⟩ : ByteArray))).bind fun r5 => bif (beqS r4 r5) then (bif decide (0 ≤ x7) then (bif decide (x7 < (x1.length : Int)) then (spec_DistinctTitles.l2 k x0 x1 x6 x7 (x1.getD (x7 : Int).toNat (⟨#[]⟩ : ByteArray)) (IntKind.wrap .i64 (x9 + 1))) else none) else none) else (spec_DistinctTitles.l2 k x0 x1 x6 x7 x8 (IntKind.wrap .i64 (x9 + 1)))) else none) else none) else none) else none) else (spec_DistinctTitles.l2 k x0 x1 x6 x7 x8 (IntKind.wrap .i64 (x9 + 1)))) else none) else none) else none) else none) else (some (x0, x1, x6, x7, x8))
def spec_DistinctTitles.l0 : Nat → (List Abbr) → (List ByteArray) → (List ByteArray) → Int → Option ((List ByteArray))
  | 0, _, _, _, _ => none
  | k + 1, x0, x1, x6, x7 => bif (decide (x7 < (x1.length : Int))) then (bif decide (0 ≤ x7) then (bif decide (x7 < (x1.length : Int)) then ((spec_l19Title.F k x0 (x1.getD (x7 : Int).toNat (⟨#[]⟩ : ByteArray))).bind fun r3 => (spec_DistinctTitles.l2 k x0 x1 x6 x7 r3 0).bind fun y6 => bif room (y6.2.2.1.length + ([y6.2.2.2.2] : List ByteArray).length) .str then (spec_DistinctTitles.l0 k y6.1 y6.2.1 (y6.2.2.1 ++ ([y6.2.2.2.2] : List ByteArray)) (IntKind.wrap .i64 (y6.2.2.2.1 + 1))) else none) else none) else none) else (some x6)
def spec_DistinctTitles.F (k : Nat) (a0 : List Abbr) (a1 : List ByteArray) : Option ((List ByteArray) × Bool) := (spec_l19Good.F k a0).bind fun r1 => bif (!r1) then (some (([] : List ByteArray), false)) else ((spec_l19Titles.F k a1).bind fun r2 => bif (!r2) then (some (([] : List ByteArray), false)) else ((spec_DistinctTitles.l0 k a0 a1 ([] : List ByteArray) 0).bind fun y7 => some (y7, true)))
def spec_DistinctTitles.C (k : Nat) : Cal → Option CArm := fun c => match c with
  | .f 51 => some (.p [(.sl .abbr)] _ (fun x => spec_l19Good.F k x.1) (fun r => (.t .bool r)))
  | .f 52 => some (.p [(.sl .str)] _ (fun x => spec_l19Titles.F k x.1) (fun r => (.t .bool r)))
  | .f 53 => some (.p [(.sl .abbr), .str] _ (fun x => spec_l19Title.F k x.1 x.2.1) (fun r => (.t .str r)))
  | _ => none
def spec_DistinctTitles.sp2 : List Sp := [.t 0 (.sl .abbr), .t 1 (.sl .str), .own 6 1024 9 .str false true, .t 7 (.int .i64), .t 8 .str, .t 9 (.int .i64)]
def spec_DistinctTitles.sp2_0 : List Sp := [.t 0 (.sl .abbr), .t 1 (.sl .str), .own 6 1024 9 .str false true, .t 7 (.int .i64), .t 8 .str]
def spec_DistinctTitles.A2 : LArm := .one spec_DistinctTitles.sp2 spec_DistinctTitles.sp2_0 ((List Abbr) × (List ByteArray) × (List ByteArray) × Int × ByteArray) (fun k x => spec_DistinctTitles.l2 k x.1 x.2.1 x.2.2.1 x.2.2.2.1 x.2.2.2.2.1 x.2.2.2.2.2.1) (.exit 2) (fun y => (y.1, y.2.1, y.2.2.1, y.2.2.2.1, y.2.2.2.2, ())) (fun x => (x.1, x.2.1, x.2.2.1, x.2.2.2.1, x.2.2.2.2.1))
def spec_DistinctTitles.sp0 : List Sp := [.t 0 (.sl .abbr), .t 1 (.sl .str), .own 6 1024 9 .str false true, .t 7 (.int .i64)]
def spec_DistinctTitles.sp0_0 : List Sp := [.own 6 1024 9 .str false true]
def spec_DistinctTitles.A0 : LArm := .one spec_DistinctTitles.sp0 spec_DistinctTitles.sp0_0 ((List ByteArray)) (fun k x => spec_DistinctTitles.l0 k x.1 x.2.1 x.2.2.1 x.2.2.2.1) (.exit 0) (fun y => (y, ())) (fun x => x.1)
def spec_DistinctTitles.L : Nat → Option LArm := fun b => match b with
  | 2 => some spec_DistinctTitles.A2
  | 0 => some spec_DistinctTitles.A0
  | _ => none
theorem spec_DistinctTitles.run (k : Nat) (a0 : List Abbr) (a1 : List ByteArray) : runF envX (tabC (spec_DistinctTitles.C k)) (tabL 71 k spec_DistinctTitles.L) Tryz.f12 [.t (.sl .abbr) a0, .t (.sl .str) a1] (viewR2 (.fr 9 .str) (.t .bool)) = spec_DistinctTitles.F k a0 a1 := by kernel_rfl
theorem spec_DistinctTitles.step2 (k : Nat) (x0 : List Abbr) (x1 : List ByteArray) (x6 : List ByteArray) (x7 : Int) (x8 : ByteArray) (x9 : Int) : runC envX (tabC (spec_DistinctTitles.C k)) (tabL 71 k spec_DistinctTitles.L) 2 (loopAt Tryz.f12 2) (stOf 71 spec_DistinctTitles.sp2 (x0, x1, x6, x7, x8, x9, ())) (spec_DistinctTitles.A2.cont 71 k) = spec_DistinctTitles.l2 (k + 1) x0 x1 x6 x7 x8 x9 := by kernel_rfl
theorem spec_DistinctTitles.step0 (k : Nat) (x0 : List Abbr) (x1 : List ByteArray) (x6 : List ByteArray) (x7 : Int) : runC envX (tabC (spec_DistinctTitles.C k)) (tabL 71 k spec_DistinctTitles.L) 0 (loopAt Tryz.f12 0) (stOf 71 spec_DistinctTitles.sp0 (x0, x1, x6, x7, ())) (spec_DistinctTitles.A0.cont 71 k) = spec_DistinctTitles.l0 (k + 1) x0 x1 x6 x7 := by kernel_rfl
theorem spec_DistinctTitles.G (hE : EnvOk Tryz.prog envX) (pv : Nat → Value) (k : Nat) : ∀ cal A, spec_DistinctTitles.C k cal = some A → ArmOk Tryz.prog envX pv cal A := by
  intro cal A h
  unfold spec_DistinctTitles.C at h
  split at h
  · cases h; exact fun x y hy => spec_l19Good.good hE pv k x.1 hy
  · cases h; exact fun x y hy => spec_l19Titles.good hE pv k x.1 hy
  · cases h; exact fun x y hy => spec_l19Title.good hE pv k x.1 x.2.1 hy
  · cases h
theorem spec_DistinctTitles.good (hE : EnvOk Tryz.prog envX) (pv : Nat → Value) (k : Nat) (a0 : List Abbr) (a1 : List ByteArray) {y : _} (h : spec_DistinctTitles.F k a0 a1 = some y) : Meets Tryz.prog envX pv (.f 12) (tvals [(.sl .abbr), (.sl .str)] (a0, a1, ())) (.tup [.fr 9 .str y.1, .t .bool y.2]) :=
  fun_loops hE (t := spec_DistinctTitles.C) k (fun k _ => spec_DistinctTitles.G hE pv k) (f := 12) (fn := Tryz.f12) (by kernel_rfl) rfl (by kernel_rfl) (by kernel_rfl) (lt := spec_DistinctTitles.L) (by kernel_rfl) (fun b A h => by
    unfold spec_DistinctTitles.L at h; split at h
    · cases h; exact ⟨by kernel_rfl, by kernel_rfl, fun _ => rfl, fun _ => rfl⟩
    · cases h; exact ⟨by kernel_rfl, by kernel_rfl, fun _ => rfl, fun _ => rfl⟩
    · cases h) (fun b A h => by
    unfold spec_DistinctTitles.L at h; split at h
    · cases h; exact fun k x => spec_DistinctTitles.step2 k x.1 x.2.1 x.2.2.1 x.2.2.2.1 x.2.2.2.2.1 x.2.2.2.2.2.1
    · cases h; exact fun k x => spec_DistinctTitles.step0 k x.1 x.2.1 x.2.2.1 x.2.2.2.1
    · cases h) ((spec_DistinctTitles.run k a0 a1).trans h) fun r hr => wk_view2 hr
/-! ### 54 loop.example/g00896/laws.toAbbreviation -/
def laws_toAbbreviation.F (a0 : Abbr) : Option (Abbr) := some (⟨a0.word, a0.short⟩ : Abbr)
def laws_toAbbreviation.C : Cal → Option CArm := fun c => match c with
  | _ => none
theorem laws_toAbbreviation.run (a0 : Abbr) : runF envX (tabC laws_toAbbreviation.C) (tabL 11 0 (fun _ => none)) Tryz.f54 [.t .abbr a0] (viewR1 (.t .abbr)) = laws_toAbbreviation.F a0 := by kernel_rfl
theorem laws_toAbbreviation.G (hE : EnvOk Tryz.prog envX) (pv : Nat → Value) : ∀ cal A, laws_toAbbreviation.C cal = some A → ArmOk Tryz.prog envX pv cal A := by
  intro cal A h
  unfold laws_toAbbreviation.C at h
  cases h
theorem laws_toAbbreviation.good (hE : EnvOk Tryz.prog envX) (pv : Nat → Value) (a0 : Abbr) {y : _} (h : laws_toAbbreviation.F a0 = some y) : Meets Tryz.prog envX pv (.f 54) (tvals [.abbr] (a0, ())) (.t .abbr y) :=
  fun_plain hE (laws_toAbbreviation.G hE pv) (f := 54) (fn := Tryz.f54) (by kernel_rfl) rfl (by kernel_rfl) (by kernel_rfl) ((laws_toAbbreviation.run a0).trans h) fun r hr => wk_view1 hr
/-! ### 13 loop.example/g00896/laws.toAbbreviationS -/
def laws_toAbbreviationS.l0 : Nat → (List Abbr) → (List Abbr) → Int → Option ((List Abbr))
  | 0, _, _, _ => none
  | k + 1, x0, x3, x4 => bif (decide (x4 < (x0.length : Int))) then (bif decide (0 ≤ x4) then (bif decide (x4 < (x0.length : Int)) then ((laws_toAbbreviation.F (x0.getD (x4 : Int).toNat (dflt .abbr))).bind fun r1 => bif decide (0 ≤ x4) then (bif decide (x4 < (x3.length : Int)) then (laws_toAbbreviationS.l0 k x0 (x3.set ((x4 : Int).toNat) r1) (IntKind.wrap .i64 (x4 + 1))) else none) else none) else none) else none) else (some x3)
def laws_toAbbreviationS.F (k : Nat) (a0 : List Abbr) : Option (List Abbr) := bif ((a0.length : Int) == (a0.length : Int)) then (bif decide (0 ≤ (a0.length : Int)) then (bif Nat.ble (((a0.length : Int) : Int).toNat * nb .abbr) 140737488355328 then ((laws_toAbbreviationS.l0 k a0 (List.replicate ((a0.length : Int) : Int).toNat (dflt .abbr)) 0).bind fun y2 => some y2) else none) else none) else none
def laws_toAbbreviationS.C (k : Nat) : Cal → Option CArm := fun c => match c with
  | .f 54 => some (.p [.abbr] _ (fun x => laws_toAbbreviation.F x.1) (fun r => (.t .abbr r)))
  | _ => none
def laws_toAbbreviationS.sp0 : List Sp := [.t 0 (.sl .abbr), .own 3 1032 63 .abbr false true, .t 4 (.int .i64)]
def laws_toAbbreviationS.sp0_0 : List Sp := [.own 3 1032 63 .abbr false true]
def laws_toAbbreviationS.A0 : LArm := .one laws_toAbbreviationS.sp0 laws_toAbbreviationS.sp0_0 ((List Abbr)) (fun k x => laws_toAbbreviationS.l0 k x.1 x.2.1 x.2.2.1) (.exit 0) (fun y => (y, ())) (fun x => x.1)
def laws_toAbbreviationS.L : Nat → Option LArm := fun b => match b with
  | 0 => some laws_toAbbreviationS.A0
  | _ => none
theorem laws_toAbbreviationS.run (k : Nat) (a0 : List Abbr) : runF envX (tabC (laws_toAbbreviationS.C k)) (tabL 23 k laws_toAbbreviationS.L) Tryz.f13 [.t (.sl .abbr) a0] (viewR1 (.fr 63 .abbr)) = laws_toAbbreviationS.F k a0 := by kernel_rfl
theorem laws_toAbbreviationS.step0 (k : Nat) (x0 : List Abbr) (x3 : List Abbr) (x4 : Int) : runC envX (tabC (laws_toAbbreviationS.C k)) (tabL 23 k laws_toAbbreviationS.L) 0 (loopAt Tryz.f13 0) (stOf 23 laws_toAbbreviationS.sp0 (x0, x3, x4, ())) (laws_toAbbreviationS.A0.cont 23 k) = laws_toAbbreviationS.l0 (k + 1) x0 x3 x4 := by kernel_rfl
theorem laws_toAbbreviationS.G (hE : EnvOk Tryz.prog envX) (pv : Nat → Value) (k : Nat) : ∀ cal A, laws_toAbbreviationS.C k cal = some A → ArmOk Tryz.prog envX pv cal A := by
  intro cal A h
  unfold laws_toAbbreviationS.C at h
  split at h
  · cases h; exact fun x y hy => laws_toAbbreviation.good hE pv x.1 hy
  · cases h
theorem laws_toAbbreviationS.good (hE : EnvOk Tryz.prog envX) (pv : Nat → Value) (k : Nat) (a0 : List Abbr) {y : _} (h : laws_toAbbreviationS.F k a0 = some y) : Meets Tryz.prog envX pv (.f 13) (tvals [(.sl .abbr)] (a0, ())) (.fr 63 .abbr y) :=
  fun_loops hE (t := laws_toAbbreviationS.C) k (fun k _ => laws_toAbbreviationS.G hE pv k) (f := 13) (fn := Tryz.f13) (by kernel_rfl) rfl (by kernel_rfl) (by kernel_rfl) (lt := laws_toAbbreviationS.L) (by kernel_rfl) (fun b A h => by
    unfold laws_toAbbreviationS.L at h; split at h
    · cases h; exact ⟨by kernel_rfl, by kernel_rfl, fun _ => rfl, fun _ => rfl⟩
    · cases h) (fun b A h => by
    unfold laws_toAbbreviationS.L at h; split at h
    · cases h; exact fun k x => laws_toAbbreviationS.step0 k x.1 x.2.1 x.2.2.1
    · cases h) ((laws_toAbbreviationS.run k a0).trans h) fun r hr => wk_view1 hr
/-! ### 14 loop.example/g00896/laws.toStringS -/
def laws_toStringS.l0 : Nat → (List ByteArray) → (List ByteArray) → Int → Option ((List ByteArray))
  | 0, _, _, _ => none
  | k + 1, x0, x3, x4 => bif (decide (x4 < (x0.length : Int))) then (bif decide (0 ≤ x4) then (bif decide (x4 < (x0.length : Int)) then (bif decide (0 ≤ x4) then (bif decide (x4 < (x3.length : Int)) then (laws_toStringS.l0 k x0 (x3.set ((x4 : Int).toNat) (x0.getD (x4 : Int).toNat (⟨#[]⟩ : ByteArray))) (IntKind.wrap .i64 (x4 + 1))) else none) else none) else none) else none) else (some x3)
def laws_toStringS.F (k : Nat) (a0 : List ByteArray) : Option (List ByteArray) := bif ((a0.length : Int) == (a0.length : Int)) then (bif decide (0 ≤ (a0.length : Int)) then (bif Nat.ble (((a0.length : Int) : Int).toNat * nb .str) 140737488355328 then ((laws_toStringS.l0 k a0 (List.replicate ((a0.length : Int) : Int).toNat (⟨#[]⟩ : ByteArray)) 0).bind fun y1 => some y1) else none) else none) else none
def laws_toStringS.C (k : Nat) : Cal → Option CArm := fun c => match c with
  | _ => none
def laws_toStringS.sp0 : List Sp := [.t 0 (.sl .str), .own 3 1032 9 .str false true, .t 4 (.int .i64)]
def laws_toStringS.sp0_0 : List Sp := [.own 3 1032 9 .str false true]
def laws_toStringS.A0 : LArm := .one laws_toStringS.sp0 laws_toStringS.sp0_0 ((List ByteArray)) (fun k x => laws_toStringS.l0 k x.1 x.2.1 x.2.2.1) (.exit 0) (fun y => (y, ())) (fun x => x.1)
def laws_toStringS.L : Nat → Option LArm := fun b => match b with
  | 0 => some laws_toStringS.A0
  | _ => none
theorem laws_toStringS.run (k : Nat) (a0 : List ByteArray) : runF envX (tabC (laws_toStringS.C k)) (tabL 22 k laws_toStringS.L) Tryz.f14 [.t (.sl .str) a0] (viewR1 (.fr 9 .str)) = laws_toStringS.F k a0 := by kernel_rfl
theorem laws_toStringS.step0 (k : Nat) (x0 : List ByteArray) (x3 : List ByteArray) (x4 : Int) : runC envX (tabC (laws_toStringS.C k)) (tabL 22 k laws_toStringS.L) 0 (loopAt Tryz.f14 0) (stOf 22 laws_toStringS.sp0 (x0, x3, x4, ())) (laws_toStringS.A0.cont 22 k) = laws_toStringS.l0 (k + 1) x0 x3 x4 := by kernel_rfl
theorem laws_toStringS.G (hE : EnvOk Tryz.prog envX) (pv : Nat → Value) (k : Nat) : ∀ cal A, laws_toStringS.C k cal = some A → ArmOk Tryz.prog envX pv cal A := by
  intro cal A h
  unfold laws_toStringS.C at h
  cases h
theorem laws_toStringS.good (hE : EnvOk Tryz.prog envX) (pv : Nat → Value) (k : Nat) (a0 : List ByteArray) {y : _} (h : laws_toStringS.F k a0 = some y) : Meets Tryz.prog envX pv (.f 14) (tvals [(.sl .str)] (a0, ())) (.fr 9 .str y) :=
  fun_loops hE (t := laws_toStringS.C) k (fun k _ => laws_toStringS.G hE pv k) (f := 14) (fn := Tryz.f14) (by kernel_rfl) rfl (by kernel_rfl) (by kernel_rfl) (lt := laws_toStringS.L) (by kernel_rfl) (fun b A h => by
    unfold laws_toStringS.L at h; split at h
    · cases h; exact ⟨by kernel_rfl, by kernel_rfl, fun _ => rfl, fun _ => rfl⟩
    · cases h) (fun b A h => by
    unfold laws_toStringS.L at h; split at h
    · cases h; exact fun k x => laws_toStringS.step0 k x.1 x.2.1 x.2.2.1
    · cases h) ((laws_toStringS.run k a0).trans h) fun r hr => wk_view1 hr
-- NO 103 slices.IndexFunc[[]string,string]: a parameter's type
-- NO 57 slices.ContainsFunc[[]string,string]: a parameter's type
/-! ### 117 loop.example/g00896/impl.inside -/
def impl_inside.F (a0 : Int) (a1 : Int) (a2 : Int) : Option (Bool) := bif (decide (a0 ≥ a1)) then (some (decide (a0 ≤ a2))) else (some false)
def impl_inside.C : Cal → Option CArm := fun c => match c with
  | _ => none
theorem impl_inside.run (a0 : Int) (a1 : Int) (a2 : Int) : runF envX (tabC impl_inside.C) (tabL 15 0 (fun _ => none)) Tryz.f117 [.t (.int .i64) a0, .t (.int .i64) a1, .t (.int .i64) a2] (viewR1 (.t .bool)) = impl_inside.F a0 a1 a2 := by kernel_rfl
theorem impl_inside.G (hE : EnvOk Tryz.prog envX) (pv : Nat → Value) : ∀ cal A, impl_inside.C cal = some A → ArmOk Tryz.prog envX pv cal A := by
  intro cal A h
  unfold impl_inside.C at h
  cases h
theorem impl_inside.good (hE : EnvOk Tryz.prog envX) (pv : Nat → Value) (a0 : Int) (a1 : Int) (a2 : Int) {y : _} (h : impl_inside.F a0 a1 a2 = some y) : Meets Tryz.prog envX pv (.f 117) (tvals [(.int .i64), (.int .i64), (.int .i64)] (a0, a1, a2, ())) (.t .bool y) :=
  fun_plain hE (impl_inside.G hE pv) (f := 117) (fn := Tryz.f117) (by kernel_rfl) rfl (by kernel_rfl) (by kernel_rfl) ((impl_inside.run a0 a1 a2).trans h) fun r hr => wk_view1 hr
/-! ### 155 loop.example/g00896/impl.isLower -/
def impl_isLower.F (a0 : Int) : Option (Bool) := bif (decide (a0 ≥ 97)) then (some (decide (a0 ≤ 122))) else (some false)
def impl_isLower.C : Cal → Option CArm := fun c => match c with
  | _ => none
theorem impl_isLower.run (a0 : Int) : runF envX (tabC impl_isLower.C) (tabL 9 0 (fun _ => none)) Tryz.f155 [.t (.int .u8) a0] (viewR1 (.t .bool)) = impl_isLower.F a0 := by kernel_rfl
theorem impl_isLower.G (hE : EnvOk Tryz.prog envX) (pv : Nat → Value) : ∀ cal A, impl_isLower.C cal = some A → ArmOk Tryz.prog envX pv cal A := by
  intro cal A h
  unfold impl_isLower.C at h
  cases h
theorem impl_isLower.good (hE : EnvOk Tryz.prog envX) (pv : Nat → Value) (a0 : Int) {y : _} (h : impl_isLower.F a0 = some y) : Meets Tryz.prog envX pv (.f 155) (tvals [(.int .u8)] (a0, ())) (.t .bool y) :=
  fun_plain hE (impl_isLower.G hE pv) (f := 155) (fn := Tryz.f155) (by kernel_rfl) rfl (by kernel_rfl) (by kernel_rfl) ((impl_isLower.run a0).trans h) fun r hr => wk_view1 hr
/-! ### 184 internal/stringslite.HasSuffix -/
def stringslite_HasSuffix.F (a0 : ByteArray) (a1 : ByteArray) : Option (Bool) := bif (decide ((a0.size : Int) ≥ (a1.size : Int))) then (bif decide (0 ≤ (IntKind.wrap .i64 ((a0.size : Int) - (a1.size : Int)))) then (bif decide ((IntKind.wrap .i64 ((a0.size : Int) - (a1.size : Int))) ≤ (a0.size : Int)) then (some (beqS (a0.extract ((IntKind.wrap .i64 ((a0.size : Int) - (a1.size : Int))) : Int).toNat a0.size) a1)) else none) else none) else (some false)
def stringslite_HasSuffix.C : Cal → Option CArm := fun c => match c with
  | _ => none
theorem stringslite_HasSuffix.run (a0 : ByteArray) (a1 : ByteArray) : runF envX (tabC stringslite_HasSuffix.C) (tabL 21 0 (fun _ => none)) Tryz.f184 [.t .str a0, .t .str a1] (viewR1 (.t .bool)) = stringslite_HasSuffix.F a0 a1 := by kernel_rfl
theorem stringslite_HasSuffix.G (hE : EnvOk Tryz.prog envX) (pv : Nat → Value) : ∀ cal A, stringslite_HasSuffix.C cal = some A → ArmOk Tryz.prog envX pv cal A := by
  intro cal A h
  unfold stringslite_HasSuffix.C at h
  cases h
theorem stringslite_HasSuffix.good (hE : EnvOk Tryz.prog envX) (pv : Nat → Value) (a0 : ByteArray) (a1 : ByteArray) {y : _} (h : stringslite_HasSuffix.F a0 a1 = some y) : Meets Tryz.prog envX pv (.f 184) (tvals [.str, .str] (a0, a1, ())) (.t .bool y) :=
  fun_plain hE (stringslite_HasSuffix.G hE pv) (f := 184) (fn := Tryz.f184) (by kernel_rfl) rfl (by kernel_rfl) (by kernel_rfl) ((stringslite_HasSuffix.run a0 a1).trans h) fun r hr => wk_view1 hr
/-! ### 185 internal/stringslite.TrimSuffix -/
def stringslite_TrimSuffix.F (a0 : ByteArray) (a1 : ByteArray) : Option (ByteArray) := (stringslite_HasSuffix.F a0 a1).bind fun r1 => bif r1 then (bif decide (0 ≤ (IntKind.wrap .i64 ((a0.size : Int) - (a1.size : Int)))) then (bif decide ((IntKind.wrap .i64 ((a0.size : Int) - (a1.size : Int))) ≤ (a0.size : Int)) then (some (a0.extract 0 ((IntKind.wrap .i64 ((a0.size : Int) - (a1.size : Int))) : Int).toNat)) else none) else none) else (some a0)
def stringslite_TrimSuffix.C : Cal → Option CArm := fun c => match c with
  | .f 184 => some (.p [.str, .str] _ (fun x => stringslite_HasSuffix.F x.1 x.2.1) (fun r => (.t .bool r)))
  | _ => none
theorem stringslite_TrimSuffix.run (a0 : ByteArray) (a1 : ByteArray) : runF envX (tabC stringslite_TrimSuffix.C) (tabL 16 0 (fun _ => none)) Tryz.f185 [.t .str a0, .t .str a1] (viewR1 (.t .str)) = stringslite_TrimSuffix.F a0 a1 := by kernel_rfl
theorem stringslite_TrimSuffix.G (hE : EnvOk Tryz.prog envX) (pv : Nat → Value) : ∀ cal A, stringslite_TrimSuffix.C cal = some A → ArmOk Tryz.prog envX pv cal A := by
  intro cal A h
  unfold stringslite_TrimSuffix.C at h
  split at h
  · cases h; exact fun x y hy => stringslite_HasSuffix.good hE pv x.1 x.2.1 hy
  · cases h
theorem stringslite_TrimSuffix.good (hE : EnvOk Tryz.prog envX) (pv : Nat → Value) (a0 : ByteArray) (a1 : ByteArray) {y : _} (h : stringslite_TrimSuffix.F a0 a1 = some y) : Meets Tryz.prog envX pv (.f 185) (tvals [.str, .str] (a0, a1, ())) (.t .str y) :=
  fun_plain hE (stringslite_TrimSuffix.G hE pv) (f := 185) (fn := Tryz.f185) (by kernel_rfl) rfl (by kernel_rfl) (by kernel_rfl) ((stringslite_TrimSuffix.run a0 a1).trans h) fun r hr => wk_view1 hr
/-! ### 169 strings.TrimSuffix -/
def strings_TrimSuffix.F (a0 : ByteArray) (a1 : ByteArray) : Option (ByteArray) := (stringslite_TrimSuffix.F a0 a1).bind fun r1 => some r1
def strings_TrimSuffix.C : Cal → Option CArm := fun c => match c with
  | .f 185 => some (.p [.str, .str] _ (fun x => stringslite_TrimSuffix.F x.1 x.2.1) (fun r => (.t .str r)))
  | _ => none
theorem strings_TrimSuffix.run (a0 : ByteArray) (a1 : ByteArray) : runF envX (tabC strings_TrimSuffix.C) (tabL 8 0 (fun _ => none)) Tryz.f169 [.t .str a0, .t .str a1] (viewR1 (.t .str)) = strings_TrimSuffix.F a0 a1 := by kernel_rfl
theorem strings_TrimSuffix.G (hE : EnvOk Tryz.prog envX) (pv : Nat → Value) : ∀ cal A, strings_TrimSuffix.C cal = some A → ArmOk Tryz.prog envX pv cal A := by
  intro cal A h
  unfold strings_TrimSuffix.C at h
  split at h
  · cases h; exact fun x y hy => stringslite_TrimSuffix.good hE pv x.1 x.2.1 hy
  · cases h
theorem strings_TrimSuffix.good (hE : EnvOk Tryz.prog envX) (pv : Nat → Value) (a0 : ByteArray) (a1 : ByteArray) {y : _} (h : strings_TrimSuffix.F a0 a1 = some y) : Meets Tryz.prog envX pv (.f 169) (tvals [.str, .str] (a0, a1, ())) (.t .str y) :=
  fun_plain hE (strings_TrimSuffix.G hE pv) (f := 169) (fn := Tryz.f169) (by kernel_rfl) rfl (by kernel_rfl) (by kernel_rfl) ((strings_TrimSuffix.run a0 a1).trans h) fun r hr => wk_view1 hr
/-! ### 140 loop.example/g00896/impl.isSmall -/
def impl_isSmall.l0 : Nat → ByteArray → Int → Int → Int → Option (Sum Bool (ByteArray × Int × Int))
  | 0, _, _, _, _ => none
  | k + 1, x0, x1, x2, x9 => bif (decide (x9 < (x0.size : Int))) then (bif decide (0 ≤ x9) then (bif decide (x9 < (x0.size : Int)) then ((impl_isLower.F (bt x0 (x9 : Int).toNat)).bind fun r2 => bif (!r2) then (some (.inl false)) else (impl_isSmall.l0 k x0 x1 x2 (IntKind.wrap .i64 (x9 + 1)))) else none) else none) else (some (.inr (x0, x1, x2)))
def impl_isSmall.F (k : Nat) (a0 : ByteArray) (a1 : Int) (a2 : Int) (a3 : ByteArray) : Option (Bool) := (strings_TrimSuffix.F a0 a3).bind fun r1 => (impl_isSmall.l0 k r1 a1 a2 0).bind fun y3 => match y3 with | .inl z4 => some z4 | .inr z4 => (impl_inside.F (z4.1.size : Int) z4.2.1 z4.2.2).bind fun r5 => some r5
def impl_isSmall.C (k : Nat) : Cal → Option CArm := fun c => match c with
  | .f 169 => some (.p [.str, .str] _ (fun x => strings_TrimSuffix.F x.1 x.2.1) (fun r => (.t .str r)))
  | .f 155 => some (.p [(.int .u8)] _ (fun x => impl_isLower.F x.1) (fun r => (.t .bool r)))
  | .f 117 => some (.p [(.int .i64), (.int .i64), (.int .i64)] _ (fun x => impl_inside.F x.1 x.2.1 x.2.2.1) (fun r => (.t .bool r)))
  | _ => none
def impl_isSmall.sp0 : List Sp := [.t 0 .str, .t 1 (.int .i64), .t 2 (.int .i64), .t 9 (.int .i64)]
def impl_isSmall.sp0_0 : List Sp := [.t 8 .bool]
def impl_isSmall.sp0_1 : List Sp := [.t 0 .str, .t 1 (.int .i64), .t 2 (.int .i64)]
def impl_isSmall.A0 : LArm := .two impl_isSmall.sp0 impl_isSmall.sp0_0 impl_isSmall.sp0_1 (Bool) (ByteArray × Int × Int) (fun k x => impl_isSmall.l0 k x.1 x.2.1 x.2.2.1 x.2.2.2.1) .ret (.exit 0) (fun y => (y, ())) (fun x => x.1) (fun y => (y.1, y.2.1, y.2.2, ())) (fun x => (x.1, x.2.1, x.2.2.1))
def impl_isSmall.L : Nat → Option LArm := fun b => match b with
  | 0 => some impl_isSmall.A0
  | _ => none
theorem impl_isSmall.run (k : Nat) (a0 : ByteArray) (a1 : Int) (a2 : Int) (a3 : ByteArray) : runF envX (tabC (impl_isSmall.C k)) (tabL 29 k impl_isSmall.L) Tryz.f140 [.t .str a0, .t (.int .i64) a1, .t (.int .i64) a2, .t .str a3] (viewR1 (.t .bool)) = impl_isSmall.F k a0 a1 a2 a3 := by kernel_rfl
theorem impl_isSmall.step0 (k : Nat) (x0 : ByteArray) (x1 : Int) (x2 : Int) (x9 : Int) : runC envX (tabC (impl_isSmall.C k)) (tabL 29 k impl_isSmall.L) 0 (loopAt Tryz.f140 0) (stOf 29 impl_isSmall.sp0 (x0, x1, x2, x9, ())) (impl_isSmall.A0.cont 29 k) = impl_isSmall.l0 (k + 1) x0 x1 x2 x9 := by kernel_rfl
theorem impl_isSmall.G (hE : EnvOk Tryz.prog envX) (pv : Nat → Value) (k : Nat) : ∀ cal A, impl_isSmall.C k cal = some A → ArmOk Tryz.prog envX pv cal A := by
  intro cal A h
  unfold impl_isSmall.C at h
  split at h
  · cases h; exact fun x y hy => strings_TrimSuffix.good hE pv x.1 x.2.1 hy
  · cases h; exact fun x y hy => impl_isLower.good hE pv x.1 hy
  · cases h; exact fun x y hy => impl_inside.good hE pv x.1 x.2.1 x.2.2.1 hy
  · cases h
theorem impl_isSmall.good (hE : EnvOk Tryz.prog envX) (pv : Nat → Value) (k : Nat) (a0 : ByteArray) (a1 : Int) (a2 : Int) (a3 : ByteArray) {y : _} (h : impl_isSmall.F k a0 a1 a2 a3 = some y) : Meets Tryz.prog envX pv (.f 140) (tvals [.str, (.int .i64), (.int .i64), .str] (a0, a1, a2, a3, ())) (.t .bool y) :=
  fun_loops hE (t := impl_isSmall.C) k (fun k _ => impl_isSmall.G hE pv k) (f := 140) (fn := Tryz.f140) (by kernel_rfl) rfl (by kernel_rfl) (by kernel_rfl) (lt := impl_isSmall.L) (by kernel_rfl) (fun b A h => by
    unfold impl_isSmall.L at h; split at h
    · cases h; exact ⟨by kernel_rfl, by kernel_rfl, by kernel_rfl, fun _ => rfl, fun _ => rfl, fun _ => rfl⟩
    · cases h) (fun b A h => by
    unfold impl_isSmall.L at h; split at h
    · cases h; exact fun k x => impl_isSmall.step0 k x.1 x.2.1 x.2.2.1 x.2.2.2.1
    · cases h) ((impl_isSmall.run k a0 a1 a2 a3).trans h) fun r hr => wk_view1 hr
/-! ### 80 loop.example/g00896/impl.IsValidAbbreviations -/
def impl_IsValidAbbreviations.l0 : Nat → (List Abbr) → (List Abbr) → Int → Int → Option (Sum Bool (List Abbr))
  | 0, _, _, _, _ => none
  | k + 1, x0, x5, x6, x7 => bif (decide (x7 < x6)) then (bif decide (0 ≤ x7) then (bif decide (x7 < (x5.length : Int)) then ((impl_isSmall.F k ((x5.getD (x7 : Int).toNat (dflt .abbr)).word) 2 15 (⟨#[45]⟩ : ByteArray)).bind fun r1 => bif (!r1) then (some (.inl false)) else ((impl_isSmall.F k ((x5.getD (x7 : Int).toNat (dflt .abbr)).short) 1 12 (⟨#[46]⟩ : ByteArray)).bind fun r2 => bif (!r2) then (some (.inl false)) else (bif (decide (x7 > 0)) then (bif decide (0 ≤ (IntKind.wrap .i64 (x7 - 1))) then (bif decide ((IntKind.wrap .i64 (x7 - 1)) < (x0.length : Int)) then (bif (!ltS ((x0.getD ((IntKind.wrap .i64 (x7 - 1)) : Int).toNat (dflt .abbr)).word) ((x5.getD (x7 : Int).toNat (dflt .abbr)).word)) then (some (.inl false)) else (impl_IsValidAbbreviations.l0 k x0 x5 x6 (IntKind.wrap .i64 (x7 + 1)))) else none) else none) else (impl_IsValidAbbreviations.l0 k x0 x5 x6 (IntKind.wrap .i64 (x7 + 1)))))) else none) else none) else (some (.inr x0))
def impl_IsValidAbbreviations.F (k : Nat) (a0 : List Abbr) : Option (Bool) := (impl_IsValidAbbreviations.l0 k a0 a0 (a0.length : Int) 0).bind fun y3 => match y3 with | .inl z4 => some z4 | .inr z4 => some (decide ((z4.length : Int) ≤ 15))
def impl_IsValidAbbreviations.C (k : Nat) : Cal → Option CArm := fun c => match c with
  | .f 140 => some (.p [.str, (.int .i64), (.int .i64), .str] _ (fun x => impl_isSmall.F k x.1 x.2.1 x.2.2.1 x.2.2.2.1) (fun r => (.t .bool r)))
  | _ => none
def impl_IsValidAbbreviations.sp0 : List Sp := [.t 0 (.sl .abbr), .t 5 (.sl .abbr), .t 6 (.int .i64), .t 7 (.int .i64)]
def impl_IsValidAbbreviations.sp0_0 : List Sp := [.t 2 .bool]
def impl_IsValidAbbreviations.sp0_1 : List Sp := [.t 0 (.sl .abbr)]
def impl_IsValidAbbreviations.A0 : LArm := .two impl_IsValidAbbreviations.sp0 impl_IsValidAbbreviations.sp0_0 impl_IsValidAbbreviations.sp0_1 (Bool) ((List Abbr)) (fun k x => impl_IsValidAbbreviations.l0 k x.1 x.2.1 x.2.2.1 x.2.2.2.1) .ret (.exit 0) (fun y => (y, ())) (fun x => x.1) (fun y => (y, ())) (fun x => x.1)
def impl_IsValidAbbreviations.L : Nat → Option LArm := fun b => match b with
  | 0 => some impl_IsValidAbbreviations.A0
  | _ => none
theorem impl_IsValidAbbreviations.run (k : Nat) (a0 : List Abbr) : runF envX (tabC (impl_IsValidAbbreviations.C k)) (tabL 41 k impl_IsValidAbbreviations.L) Tryz.f80 [.t (.sl .abbr) a0] (viewR1 (.t .bool)) = impl_IsValidAbbreviations.F k a0 := by kernel_rfl
theorem impl_IsValidAbbreviations.step0 (k : Nat) (x0 : List Abbr) (x5 : List Abbr) (x6 : Int) (x7 : Int) : runC envX (tabC (impl_IsValidAbbreviations.C k)) (tabL 41 k impl_IsValidAbbreviations.L) 0 (loopAt Tryz.f80 0) (stOf 41 impl_IsValidAbbreviations.sp0 (x0, x5, x6, x7, ())) (impl_IsValidAbbreviations.A0.cont 41 k) = impl_IsValidAbbreviations.l0 (k + 1) x0 x5 x6 x7 := by kernel_rfl
theorem impl_IsValidAbbreviations.G (hE : EnvOk Tryz.prog envX) (pv : Nat → Value) (k : Nat) : ∀ cal A, impl_IsValidAbbreviations.C k cal = some A → ArmOk Tryz.prog envX pv cal A := by
  intro cal A h
  unfold impl_IsValidAbbreviations.C at h
  split at h
  · cases h; exact fun x y hy => impl_isSmall.good hE pv k x.1 x.2.1 x.2.2.1 x.2.2.2.1 hy
  · cases h
theorem impl_IsValidAbbreviations.good (hE : EnvOk Tryz.prog envX) (pv : Nat → Value) (k : Nat) (a0 : List Abbr) {y : _} (h : impl_IsValidAbbreviations.F k a0 = some y) : Meets Tryz.prog envX pv (.f 80) (tvals [(.sl .abbr)] (a0, ())) (.t .bool y) :=
  fun_loops hE (t := impl_IsValidAbbreviations.C) k (fun k _ => impl_IsValidAbbreviations.G hE pv k) (f := 80) (fn := Tryz.f80) (by kernel_rfl) rfl (by kernel_rfl) (by kernel_rfl) (lt := impl_IsValidAbbreviations.L) (by kernel_rfl) (fun b A h => by
    unfold impl_IsValidAbbreviations.L at h; split at h
    · cases h; exact ⟨by kernel_rfl, by kernel_rfl, by kernel_rfl, fun _ => rfl, fun _ => rfl, fun _ => rfl⟩
    · cases h) (fun b A h => by
    unfold impl_IsValidAbbreviations.L at h; split at h
    · cases h; exact fun k x => impl_IsValidAbbreviations.step0 k x.1 x.2.1 x.2.2.1 x.2.2.2.1
    · cases h) ((impl_IsValidAbbreviations.run k a0).trans h) fun r hr => wk_view1 hr
/-! ### 170 strings.Trim -/
def strings_Trim.F (a0 : ByteArray) (a1 : ByteArray) : Option (ByteArray) := xTrim1 a0 a1
theorem strings_Trim.good (hE : EnvOk Tryz.prog envX) (pv : Nat → Value) (a0 : ByteArray) (a1 : ByteArray) {y : _} (h : strings_Trim.F a0 a1 = some y) : Meets Tryz.prog envX pv (.f 170) (tvals [.str, .str] (a0, a1, ())) (.t .str y) :=
  ext_trim1 (fn := Tryz.f170) (by kernel_rfl) rfl (by kernel_rfl) Tryz.strings_Trim_one h
/-! ### 141 loop.example/g00896/impl.isPrintable -/
def impl_isPrintable.l0 : Nat → ByteArray → Int → Option (Sum Bool ByteArray)
  | 0, _, _ => none
  | k + 1, x0, x3 => bif (decide (x3 < (x0.size : Int))) then (bif decide (0 ≤ x3) then (bif decide (x3 < (x0.size : Int)) then (bif (decide ((bt x0 (x3 : Int).toNat) < 32)) then (some (.inl false)) else (bif decide (0 ≤ x3) then (bif decide (x3 < (x0.size : Int)) then (bif (decide ((bt x0 (x3 : Int).toNat) > 126)) then (some (.inl false)) else (impl_isPrintable.l0 k x0 (IntKind.wrap .i64 (x3 + 1)))) else none) else none)) else none) else none) else (some (.inr x0))
def impl_isPrintable.F (k : Nat) (a0 : ByteArray) : Option (Bool) := (impl_isPrintable.l0 k a0 0).bind fun y1 => match y1 with | .inl z2 => some z2 | .inr z2 => (strings_Trim.F z2 (⟨#[32]⟩ : ByteArray)).bind fun r3 => some (beqS r3 z2)
def impl_isPrintable.C (k : Nat) : Cal → Option CArm := fun c => match c with
  | .f 170 => some (.p [.str, .str] _ (fun x => strings_Trim.F x.1 x.2.1) (fun r => (.t .str r)))
  | _ => none
def impl_isPrintable.sp0 : List Sp := [.t 0 .str, .t 3 (.int .i64)]
def impl_isPrintable.sp0_0 : List Sp := [.t 2 .bool]
def impl_isPrintable.sp0_1 : List Sp := [.t 0 .str]
def impl_isPrintable.A0 : LArm := .two impl_isPrintable.sp0 impl_isPrintable.sp0_0 impl_isPrintable.sp0_1 (Bool) (ByteArray) (fun k x => impl_isPrintable.l0 k x.1 x.2.1) .ret (.exit 0) (fun y => (y, ())) (fun x => x.1) (fun y => (y, ())) (fun x => x.1)
def impl_isPrintable.L : Nat → Option LArm := fun b => match b with
  | 0 => some impl_isPrintable.A0
  | _ => none
theorem impl_isPrintable.run (k : Nat) (a0 : ByteArray) : runF envX (tabC (impl_isPrintable.C k)) (tabL 24 k impl_isPrintable.L) Tryz.f141 [.t .str a0] (viewR1 (.t .bool)) = impl_isPrintable.F k a0 := by kernel_rfl
theorem impl_isPrintable.step0 (k : Nat) (x0 : ByteArray) (x3 : Int) : runC envX (tabC (impl_isPrintable.C k)) (tabL 24 k impl_isPrintable.L) 0 (loopAt Tryz.f141 0) (stOf 24 impl_isPrintable.sp0 (x0, x3, ())) (impl_isPrintable.A0.cont 24 k) = impl_isPrintable.l0 (k + 1) x0 x3 := by kernel_rfl
theorem impl_isPrintable.G (hE : EnvOk Tryz.prog envX) (pv : Nat → Value) (k : Nat) : ∀ cal A, impl_isPrintable.C k cal = some A → ArmOk Tryz.prog envX pv cal A := by
  intro cal A h
  unfold impl_isPrintable.C at h
  split at h
  · cases h; exact fun x y hy => strings_Trim.good hE pv x.1 x.2.1 hy
  · cases h
theorem impl_isPrintable.good (hE : EnvOk Tryz.prog envX) (pv : Nat → Value) (k : Nat) (a0 : ByteArray) {y : _} (h : impl_isPrintable.F k a0 = some y) : Meets Tryz.prog envX pv (.f 141) (tvals [.str] (a0, ())) (.t .bool y) :=
  fun_loops hE (t := impl_isPrintable.C) k (fun k _ => impl_isPrintable.G hE pv k) (f := 141) (fn := Tryz.f141) (by kernel_rfl) rfl (by kernel_rfl) (by kernel_rfl) (lt := impl_isPrintable.L) (by kernel_rfl) (fun b A h => by
    unfold impl_isPrintable.L at h; split at h
    · cases h; exact ⟨by kernel_rfl, by kernel_rfl, by kernel_rfl, fun _ => rfl, fun _ => rfl, fun _ => rfl⟩
    · cases h) (fun b A h => by
    unfold impl_isPrintable.L at h; split at h
    · cases h; exact fun k x => impl_isPrintable.step0 k x.1 x.2.1
    · cases h) ((impl_isPrintable.run k a0).trans h) fun r hr => wk_view1 hr
/-! ### 81 loop.example/g00896/impl.isText -/
def impl_isText.F (k : Nat) (a0 : ByteArray) : Option (Bool) := bif (decide ((a0.size : Int) ≤ 40)) then ((impl_isPrintable.F k a0).bind fun r1 => some r1) else (some false)
def impl_isText.C (k : Nat) : Cal → Option CArm := fun c => match c with
  | .f 141 => some (.p [.str] _ (fun x => impl_isPrintable.F k x.1) (fun r => (.t .bool r)))
  | _ => none
theorem impl_isText.run (k : Nat) (a0 : ByteArray) : runF envX (tabC (impl_isText.C k)) (tabL 10 0 (fun _ => none)) Tryz.f81 [.t .str a0] (viewR1 (.t .bool)) = impl_isText.F k a0 := by kernel_rfl
theorem impl_isText.G (hE : EnvOk Tryz.prog envX) (pv : Nat → Value) (k : Nat) : ∀ cal A, impl_isText.C k cal = some A → ArmOk Tryz.prog envX pv cal A := by
  intro cal A h
  unfold impl_isText.C at h
  split at h
  · cases h; exact fun x y hy => impl_isPrintable.good hE pv k x.1 hy
  · cases h
theorem impl_isText.good (hE : EnvOk Tryz.prog envX) (pv : Nat → Value) (k : Nat) (a0 : ByteArray) {y : _} (h : impl_isText.F k a0 = some y) : Meets Tryz.prog envX pv (.f 81) (tvals [.str] (a0, ())) (.t .bool y) :=
  fun_plain hE (impl_isText.G hE pv k) (f := 81) (fn := Tryz.f81) (by kernel_rfl) rfl (by kernel_rfl) (by kernel_rfl) ((impl_isText.run k a0).trans h) fun r hr => wk_view1 hr
/-! ### 100 loop.example/g00896/impl.areTitles$1 -/
def impl_areTitles_1.F (k : Nat) (a0 : ByteArray) : Option (Bool) := (impl_isText.F k a0).bind fun r1 => some (!r1)
def impl_areTitles_1.C (k : Nat) : Cal → Option CArm := fun c => match c with
  | .f 81 => some (.p [.str] _ (fun x => impl_isText.F k x.1) (fun r => (.t .bool r)))
  | _ => none
theorem impl_areTitles_1.run (k : Nat) (a0 : ByteArray) : runF envX (tabC (impl_areTitles_1.C k)) (tabL 6 0 (fun _ => none)) Tryz.f100 [.t .str a0] (viewR1 (.t .bool)) = impl_areTitles_1.F k a0 := by kernel_rfl
theorem impl_areTitles_1.G (hE : EnvOk Tryz.prog envX) (pv : Nat → Value) (k : Nat) : ∀ cal A, impl_areTitles_1.C k cal = some A → ArmOk Tryz.prog envX pv cal A := by
  intro cal A h
  unfold impl_areTitles_1.C at h
  split at h
  · cases h; exact fun x y hy => impl_isText.good hE pv k x.1 hy
  · cases h
theorem impl_areTitles_1.good (hE : EnvOk Tryz.prog envX) (pv : Nat → Value) (k : Nat) (a0 : ByteArray) {y : _} (h : impl_areTitles_1.F k a0 = some y) : Meets Tryz.prog envX pv (.f 100) (tvals [.str] (a0, ())) (.t .bool y) :=
  fun_plain hE (impl_areTitles_1.G hE pv k) (f := 100) (fn := Tryz.f100) (by kernel_rfl) rfl (by kernel_rfl) (by kernel_rfl) ((impl_areTitles_1.run k a0).trans h) fun r hr => wk_view1 hr
/-! ### 103 slices.IndexFunc[[]string,string] at loop.example/g00896/impl.areTitles$1 -/
def slices_IndexFunc_string_f100.l0 : Nat → (List ByteArray) → Int → Int → Option (Sum Int Unit)
  | 0, _, _, _ => none
  | k + 1, x0, x7, x8 => bif (decide (x8 < x7)) then (bif decide (0 ≤ x8) then (bif decide (x8 < (x0.length : Int)) then ((impl_areTitles_1.F k (x0.getD (x8 : Int).toNat (⟨#[]⟩ : ByteArray))).bind fun r1 => bif r1 then (some (.inl x8)) else (slices_IndexFunc_string_f100.l0 k x0 x7 (IntKind.wrap .i64 (x8 + 1)))) else none) else none) else (some (.inr ()))
def slices_IndexFunc_string_f100.F (k : Nat) (a0 : List ByteArray) : Option (Int) := (slices_IndexFunc_string_f100.l0 k a0 (a0.length : Int) 0).bind fun y2 => match y2 with | .inl z3 => some z3 | .inr z3 => some (-1)
def slices_IndexFunc_string_f100.C (k : Nat) : Cal → Option CArm := fun c => match c with
  | .f 100 => some (.p [.str] _ (fun x => impl_areTitles_1.F k x.1) (fun r => (.t .bool r)))
  | _ => none
def slices_IndexFunc_string_f100.sp0 : List Sp := [.t 0 (.sl .str), .con 1 (.clo 100), .t 7 (.int .i64), .t 8 (.int .i64)]
def slices_IndexFunc_string_f100.sp0_0 : List Sp := [.t 4 (.int .i64)]
def slices_IndexFunc_string_f100.sp0_1 : List Sp := []
def slices_IndexFunc_string_f100.A0 : LArm := .two slices_IndexFunc_string_f100.sp0 slices_IndexFunc_string_f100.sp0_0 slices_IndexFunc_string_f100.sp0_1 (Int) (Unit) (fun k x => slices_IndexFunc_string_f100.l0 k x.1 x.2.2.1 x.2.2.2.1) .ret (.exit 0) (fun y => (y, ())) (fun x => x.1) (fun y => ()) (fun x => ())
def slices_IndexFunc_string_f100.L : Nat → Option LArm := fun b => match b with
  | 0 => some slices_IndexFunc_string_f100.A0
  | _ => none
theorem slices_IndexFunc_string_f100.run (k : Nat) (a0 : List ByteArray) : runF envX (tabC (slices_IndexFunc_string_f100.C k)) (tabL 19 k slices_IndexFunc_string_f100.L) Tryz.f103 [.t (.sl .str) a0, .clo 100 []] (viewR1 (.t (.int .i64))) = slices_IndexFunc_string_f100.F k a0 := by kernel_rfl
theorem slices_IndexFunc_string_f100.step0 (k : Nat) (x0 : List ByteArray) (x7 : Int) (x8 : Int) : runC envX (tabC (slices_IndexFunc_string_f100.C k)) (tabL 19 k slices_IndexFunc_string_f100.L) 0 (loopAt Tryz.f103 0) (stOf 19 slices_IndexFunc_string_f100.sp0 (x0, (), x7, x8, ())) (slices_IndexFunc_string_f100.A0.cont 19 k) = slices_IndexFunc_string_f100.l0 (k + 1) x0 x7 x8 := by kernel_rfl
theorem slices_IndexFunc_string_f100.G (hE : EnvOk Tryz.prog envX) (pv : Nat → Value) (k : Nat) : ∀ cal A, slices_IndexFunc_string_f100.C k cal = some A → ArmOk Tryz.prog envX pv cal A := by
  intro cal A h
  unfold slices_IndexFunc_string_f100.C at h
  split at h
  · cases h; exact fun x y hy => impl_areTitles_1.good hE pv k x.1 hy
  · cases h
theorem slices_IndexFunc_string_f100.good (hE : EnvOk Tryz.prog envX) (pv : Nat → Value) (k : Nat) (a0 : List ByteArray) {y : _} (h : slices_IndexFunc_string_f100.F k a0 = some y) : Meets Tryz.prog envX pv (.f 103) (pvals [.t (.sl .str), .clo 100 []] (a0, (()), ())) (.t (.int .i64) y) :=
  fun_loops hE (t := slices_IndexFunc_string_f100.C) k (fun k _ => slices_IndexFunc_string_f100.G hE pv k) (f := 103) (fn := Tryz.f103) (by kernel_rfl) rfl (by kernel_rfl) (by kernel_rfl) (lt := slices_IndexFunc_string_f100.L) (by kernel_rfl) (fun b A h => by
    unfold slices_IndexFunc_string_f100.L at h; split at h
    · cases h; exact ⟨by kernel_rfl, by kernel_rfl, by kernel_rfl, fun _ => rfl, fun _ => rfl, fun _ => rfl⟩
    · cases h) (fun b A h => by
    unfold slices_IndexFunc_string_f100.L at h; split at h
    · cases h; exact fun k x => slices_IndexFunc_string_f100.step0 k x.1 x.2.2.1 x.2.2.2.1
    · cases h) ((slices_IndexFunc_string_f100.run k a0).trans h) fun r hr => wk_view1 hr
/-! ### 57 slices.ContainsFunc[[]string,string] at loop.example/g00896/impl.areTitles$1 -/
def slices_ContainsFunc_string_f100.F (k : Nat) (a0 : List ByteArray) : Option (Bool) := (slices_IndexFunc_string_f100.F k a0).bind fun r1 => some (decide (r1 ≥ 0))
def slices_ContainsFunc_string_f100.C (k : Nat) : Cal → Option CArm := fun c => match c with
  | .f 103 => some (.q [.t (.sl .str), .clo 100 []] _ (fun x => slices_IndexFunc_string_f100.F k x.1) (fun r => (.t (.int .i64) r)))
  | _ => none
theorem slices_ContainsFunc_string_f100.run (k : Nat) (a0 : List ByteArray) : runF envX (tabC (slices_ContainsFunc_string_f100.C k)) (tabL 9 0 (fun _ => none)) Tryz.f57 [.t (.sl .str) a0, .clo 100 []] (viewR1 (.t .bool)) = slices_ContainsFunc_string_f100.F k a0 := by kernel_rfl
theorem slices_ContainsFunc_string_f100.G (hE : EnvOk Tryz.prog envX) (pv : Nat → Value) (k : Nat) : ∀ cal A, slices_ContainsFunc_string_f100.C k cal = some A → ArmOk Tryz.prog envX pv cal A := by
  intro cal A h
  unfold slices_ContainsFunc_string_f100.C at h
  split at h
  · cases h; exact fun x y hy => slices_IndexFunc_string_f100.good hE pv k x.1 hy
  · cases h
theorem slices_ContainsFunc_string_f100.good (hE : EnvOk Tryz.prog envX) (pv : Nat → Value) (k : Nat) (a0 : List ByteArray) {y : _} (h : slices_ContainsFunc_string_f100.F k a0 = some y) : Meets Tryz.prog envX pv (.f 57) (pvals [.t (.sl .str), .clo 100 []] (a0, (()), ())) (.t .bool y) :=
  fun_plain hE (slices_ContainsFunc_string_f100.G hE pv k) (f := 57) (fn := Tryz.f57) (by kernel_rfl) rfl (by kernel_rfl) (by kernel_rfl) ((slices_ContainsFunc_string_f100.run k a0).trans h) fun r hr => wk_view1 hr
/-! ### 55 loop.example/g00896/impl.areTitles -/
def impl_areTitles.F (k : Nat) (a0 : List Abbr) (a1 : List ByteArray) : Option (Bool) := (impl_IsValidAbbreviations.F k a0).bind fun r1 => bif r1 then (bif (decide ((a1.length : Int) ≤ 20)) then ((slices_ContainsFunc_string_f100.F k a1).bind fun r2 => some (!r2)) else (some false)) else (some false)
def impl_areTitles.C (k : Nat) : Cal → Option CArm := fun c => match c with
  | .f 80 => some (.p [(.sl .abbr)] _ (fun x => impl_IsValidAbbreviations.F k x.1) (fun r => (.t .bool r)))
  | .f 57 => some (.q [.t (.sl .str), .clo 100 []] _ (fun x => slices_ContainsFunc_string_f100.F k x.1) (fun r => (.t .bool r)))
  | _ => none
theorem impl_areTitles.run (k : Nat) (a0 : List Abbr) (a1 : List ByteArray) : runF envX (tabC (impl_areTitles.C k)) (tabL 17 0 (fun _ => none)) Tryz.f55 [.t (.sl .abbr) a0, .t (.sl .str) a1] (viewR1 (.t .bool)) = impl_areTitles.F k a0 a1 := by kernel_rfl
theorem impl_areTitles.G (hE : EnvOk Tryz.prog envX) (pv : Nat → Value) (k : Nat) : ∀ cal A, impl_areTitles.C k cal = some A → ArmOk Tryz.prog envX pv cal A := by
  intro cal A h
  unfold impl_areTitles.C at h
  split at h
  · cases h; exact fun x y hy => impl_IsValidAbbreviations.good hE pv k x.1 hy
  · cases h; exact fun x y hy => slices_ContainsFunc_string_f100.good hE pv k x.1 hy
  · cases h
theorem impl_areTitles.good (hE : EnvOk Tryz.prog envX) (pv : Nat → Value) (k : Nat) (a0 : List Abbr) (a1 : List ByteArray) {y : _} (h : impl_areTitles.F k a0 a1 = some y) : Meets Tryz.prog envX pv (.f 55) (tvals [(.sl .abbr), (.sl .str)] (a0, a1, ())) (.t .bool y) :=
  fun_plain hE (impl_areTitles.G hE pv k) (f := 55) (fn := Tryz.f55) (by kernel_rfl) rfl (by kernel_rfl) (by kernel_rfl) ((impl_areTitles.run k a0 a1).trans h) fun r hr => wk_view1 hr
-- NO 128 slices.DeleteFunc[[]string,string]: a parameter's type
/-! ### 163 strings.Split -/
def strings_Split.F (a0 : ByteArray) (a1 : ByteArray) : Option (List ByteArray) := xSplit a0 a1
theorem strings_Split.good (hE : EnvOk Tryz.prog envX) (pv : Nat → Value) (a0 : ByteArray) (a1 : ByteArray) {y : _} (h : strings_Split.F a0 a1 = some y) : Meets Tryz.prog envX pv (.f 163) (tvals [.str, .str] (a0, a1, ())) (.fr 9 .str y) :=
  ext_split (fn := Tryz.f163) (by kernel_rfl) rfl (by kernel_rfl) (mx := 0) (by kernel_rfl) Tryz.strings_Split h
/-! ### 164 loop.example/g00896/impl.wordsOf$1 -/
def impl_wordsOf_1.F (a0 : ByteArray) : Option (Bool) := some (beqS a0 (⟨#[]⟩ : ByteArray))
def impl_wordsOf_1.C : Cal → Option CArm := fun c => match c with
  | _ => none
theorem impl_wordsOf_1.run (a0 : ByteArray) : runF envX (tabC impl_wordsOf_1.C) (tabL 5 0 (fun _ => none)) Tryz.f164 [.t .str a0] (viewR1 (.t .bool)) = impl_wordsOf_1.F a0 := by kernel_rfl
theorem impl_wordsOf_1.G (hE : EnvOk Tryz.prog envX) (pv : Nat → Value) : ∀ cal A, impl_wordsOf_1.C cal = some A → ArmOk Tryz.prog envX pv cal A := by
  intro cal A h
  unfold impl_wordsOf_1.C at h
  cases h
theorem impl_wordsOf_1.good (hE : EnvOk Tryz.prog envX) (pv : Nat → Value) (a0 : ByteArray) {y : _} (h : impl_wordsOf_1.F a0 = some y) : Meets Tryz.prog envX pv (.f 164) (tvals [.str] (a0, ())) (.t .bool y) :=
  fun_plain hE (impl_wordsOf_1.G hE pv) (f := 164) (fn := Tryz.f164) (by kernel_rfl) rfl (by kernel_rfl) (by kernel_rfl) ((impl_wordsOf_1.run a0).trans h) fun r hr => wk_view1 hr
/-! ### 103 slices.IndexFunc[[]string,string] at loop.example/g00896/impl.wordsOf$1 -/
def slices_IndexFunc_string_f164.l0 : Nat → (List ByteArray) → Int → Int → Option (Sum Int Unit)
  | 0, _, _, _ => none
  | k + 1, x0, x7, x8 => bif (decide (x8 < x7)) then (bif decide (0 ≤ x8) then (bif decide (x8 < (x0.length : Int)) then ((impl_wordsOf_1.F (x0.getD (x8 : Int).toNat (⟨#[]⟩ : ByteArray))).bind fun r1 => bif r1 then (some (.inl x8)) else (slices_IndexFunc_string_f164.l0 k x0 x7 (IntKind.wrap .i64 (x8 + 1)))) else none) else none) else (some (.inr ()))
def slices_IndexFunc_string_f164.F (k : Nat) (a0 : List ByteArray) : Option (Int) := (slices_IndexFunc_string_f164.l0 k a0 (a0.length : Int) 0).bind fun y2 => match y2 with | .inl z3 => some z3 | .inr z3 => some (-1)
def slices_IndexFunc_string_f164.C (k : Nat) : Cal → Option CArm := fun c => match c with
  | .f 164 => some (.p [.str] _ (fun x => impl_wordsOf_1.F x.1) (fun r => (.t .bool r)))
  | _ => none
def slices_IndexFunc_string_f164.sp0 : List Sp := [.t 0 (.sl .str), .con 1 (.clo 164), .t 7 (.int .i64), .t 8 (.int .i64)]
def slices_IndexFunc_string_f164.sp0_0 : List Sp := [.t 4 (.int .i64)]
def slices_IndexFunc_string_f164.sp0_1 : List Sp := []
def slices_IndexFunc_string_f164.A0 : LArm := .two slices_IndexFunc_string_f164.sp0 slices_IndexFunc_string_f164.sp0_0 slices_IndexFunc_string_f164.sp0_1 (Int) (Unit) (fun k x => slices_IndexFunc_string_f164.l0 k x.1 x.2.2.1 x.2.2.2.1) .ret (.exit 0) (fun y => (y, ())) (fun x => x.1) (fun y => ()) (fun x => ())
def slices_IndexFunc_string_f164.L : Nat → Option LArm := fun b => match b with
  | 0 => some slices_IndexFunc_string_f164.A0
  | _ => none
theorem slices_IndexFunc_string_f164.run (k : Nat) (a0 : List ByteArray) : runF envX (tabC (slices_IndexFunc_string_f164.C k)) (tabL 19 k slices_IndexFunc_string_f164.L) Tryz.f103 [.t (.sl .str) a0, .clo 164 []] (viewR1 (.t (.int .i64))) = slices_IndexFunc_string_f164.F k a0 := by kernel_rfl
theorem slices_IndexFunc_string_f164.step0 (k : Nat) (x0 : List ByteArray) (x7 : Int) (x8 : Int) : runC envX (tabC (slices_IndexFunc_string_f164.C k)) (tabL 19 k slices_IndexFunc_string_f164.L) 0 (loopAt Tryz.f103 0) (stOf 19 slices_IndexFunc_string_f164.sp0 (x0, (), x7, x8, ())) (slices_IndexFunc_string_f164.A0.cont 19 k) = slices_IndexFunc_string_f164.l0 (k + 1) x0 x7 x8 := by kernel_rfl
theorem slices_IndexFunc_string_f164.G (hE : EnvOk Tryz.prog envX) (pv : Nat → Value) (k : Nat) : ∀ cal A, slices_IndexFunc_string_f164.C k cal = some A → ArmOk Tryz.prog envX pv cal A := by
  intro cal A h
  unfold slices_IndexFunc_string_f164.C at h
  split at h
  · cases h; exact fun x y hy => impl_wordsOf_1.good hE pv x.1 hy
  · cases h
theorem slices_IndexFunc_string_f164.good (hE : EnvOk Tryz.prog envX) (pv : Nat → Value) (k : Nat) (a0 : List ByteArray) {y : _} (h : slices_IndexFunc_string_f164.F k a0 = some y) : Meets Tryz.prog envX pv (.f 103) (pvals [.t (.sl .str), .clo 164 []] (a0, (()), ())) (.t (.int .i64) y) :=
  fun_loops hE (t := slices_IndexFunc_string_f164.C) k (fun k _ => slices_IndexFunc_string_f164.G hE pv k) (f := 103) (fn := Tryz.f103) (by kernel_rfl) rfl (by kernel_rfl) (by kernel_rfl) (lt := slices_IndexFunc_string_f164.L) (by kernel_rfl) (fun b A h => by
    unfold slices_IndexFunc_string_f164.L at h; split at h
    · cases h; exact ⟨by kernel_rfl, by kernel_rfl, by kernel_rfl, fun _ => rfl, fun _ => rfl, fun _ => rfl⟩
    · cases h) (fun b A h => by
    unfold slices_IndexFunc_string_f164.L at h; split at h
    · cases h; exact fun k x => slices_IndexFunc_string_f164.step0 k x.1 x.2.2.1 x.2.2.2.1
    · cases h) ((slices_IndexFunc_string_f164.run k a0).trans h) fun r hr => wk_view1 hr
/-! ### 128 slices.DeleteFunc[[]string,string] at loop.example/g00896/impl.wordsOf$1 -/
def slices_DeleteFunc_string_f164.l0 : Nat → (List ByteArray) → Int → Int → Option ((List ByteArray) × Int)
  | 0, _, _, _ => none
  | k + 1, x0, x5, x6 => bif (decide (x6 < (x0.length : Int))) then (bif decide (0 ≤ x6) then (bif decide (x6 < (x0.length : Int)) then ((impl_wordsOf_1.F (x0.getD ((x6 : Int).toNat) (⟨#[]⟩ : ByteArray))).bind fun r2 => bif (!r2) then (bif decide (0 ≤ x5) then (bif decide (x5 < (x0.length : Int)) then (slices_DeleteFunc_string_f164.l0 k (x0.set ((x5 : Int).toNat) (x0.getD ((x6 : Int).toNat) (⟨#[]⟩ : ByteArray))) (IntKind.wrap .i64 (x5 + 1)) (IntKind.wrap .i64 (x6 + 1))) else none) else none) else (slices_DeleteFunc_string_f164.l0 k x0 x5 (IntKind.wrap .i64 (x6 + 1)))) else none) else none) else (some (x0, x5))
def slices_DeleteFunc_string_f164.F (k : Nat) (a0 : List ByteArray) : Option (List ByteArray) := (slices_IndexFunc_string_f164.F k a0).bind fun r1 => bif (r1 == (-1)) then (some a0) else ((slices_DeleteFunc_string_f164.l0 k a0 r1 (IntKind.wrap .i64 (r1 + 1))).bind fun y3 => bif decide (0 ≤ y3.2) then (bif decide (y3.2 ≤ (y3.1.length : Int)) then (bif decide (0 ≤ y3.2) then (bif decide (y3.2 ≤ ((y3.1.take ((y3.2 : Int).toNat) ++ List.replicate (y3.1.length - ((y3.2 : Int).toNat)) (⟨#[]⟩ : ByteArray)).length : Int)) then (some ((y3.1.take ((y3.2 : Int).toNat) ++ List.replicate (y3.1.length - ((y3.2 : Int).toNat)) (⟨#[]⟩ : ByteArray)).take (y3.2 : Int).toNat)) else none) else none) else none) else none)
def slices_DeleteFunc_string_f164.C (k : Nat) : Cal → Option CArm := fun c => match c with
  | .f 103 => some (.q [.t (.sl .str), .clo 164 []] _ (fun x => slices_IndexFunc_string_f164.F k x.1) (fun r => (.t (.int .i64) r)))
  | .f 164 => some (.p [.str] _ (fun x => impl_wordsOf_1.F x.1) (fun r => (.t .bool r)))
  | _ => none
def slices_DeleteFunc_string_f164.sp0 : List Sp := [.own 0 1099511627777 9 .str false true, .con 1 (.clo 164), .t 5 (.int .i64), .t 6 (.int .i64)]
def slices_DeleteFunc_string_f164.sp0_0 : List Sp := [.own 0 1099511627777 9 .str false true, .t 5 (.int .i64)]
def slices_DeleteFunc_string_f164.A0 : LArm := .one slices_DeleteFunc_string_f164.sp0 slices_DeleteFunc_string_f164.sp0_0 ((List ByteArray) × Int) (fun k x => slices_DeleteFunc_string_f164.l0 k x.1 x.2.2.1 x.2.2.2.1) (.exit 0) (fun y => (y.1, y.2, ())) (fun x => (x.1, x.2.1))
def slices_DeleteFunc_string_f164.L : Nat → Option LArm := fun b => match b with
  | 0 => some slices_DeleteFunc_string_f164.A0
  | _ => none
theorem slices_DeleteFunc_string_f164.run (k : Nat) (a0 : List ByteArray) : runM envX (tabC (slices_DeleteFunc_string_f164.C k)) (tabL 42 k slices_DeleteFunc_string_f164.L) Tryz.f128 mmove (.fr 9 .str a0) [.clo 164 []] (viewMov 9 .str) = slices_DeleteFunc_string_f164.F k a0 := by kernel_rfl
theorem slices_DeleteFunc_string_f164.step0 (k : Nat) (x0 : List ByteArray) (x5 : Int) (x6 : Int) : runC envX (tabC (slices_DeleteFunc_string_f164.C k)) (tabL 42 k slices_DeleteFunc_string_f164.L) 0 (loopAt Tryz.f128 0) (stOf 42 slices_DeleteFunc_string_f164.sp0 (x0, (), x5, x6, ())) (slices_DeleteFunc_string_f164.A0.cont 42 k) = slices_DeleteFunc_string_f164.l0 (k + 1) x0 x5 x6 := by kernel_rfl
theorem slices_DeleteFunc_string_f164.G (hE : EnvOk Tryz.prog envX) (pv : Nat → Value) (k : Nat) : ∀ cal A, slices_DeleteFunc_string_f164.C k cal = some A → ArmOk Tryz.prog envX pv cal A := by
  intro cal A h
  unfold slices_DeleteFunc_string_f164.C at h
  split at h
  · cases h; exact fun x y hy => slices_IndexFunc_string_f164.good hE pv k x.1 hy
  · cases h; exact fun x y hy => impl_wordsOf_1.good hE pv x.1 hy
  · cases h
theorem slices_DeleteFunc_string_f164.good (hE : EnvOk Tryz.prog envX) (pv : Nat → Value) (k : Nat) (a0 : List ByteArray) {y : _} (h : slices_DeleteFunc_string_f164.F k a0 = some y) : MeetsM Tryz.prog envX pv 128 (.fr 9 .str a0) (pvals [.clo 164 []] ((()), ())) (.mov 9 .str y) :=
  funM_loops hE (t := slices_DeleteFunc_string_f164.C) k (fun k _ => slices_DeleteFunc_string_f164.G hE pv k) (f := 128) (fn := Tryz.f128) (by kernel_rfl) rfl (by kernel_rfl) (.inr rfl) (by kernel_rfl) (lt := slices_DeleteFunc_string_f164.L) (by kernel_rfl) (fun b A h => by
    unfold slices_DeleteFunc_string_f164.L at h; split at h
    · cases h; exact ⟨by kernel_rfl, by kernel_rfl, fun _ => rfl, fun _ => rfl⟩
    · cases h) (fun b A h => by
    unfold slices_DeleteFunc_string_f164.L at h; split at h
    · cases h; exact fun k x => slices_DeleteFunc_string_f164.step0 k x.1 x.2.2.1 x.2.2.2.1
    · cases h) ((slices_DeleteFunc_string_f164.run k a0).trans h) fun r hr => wk_viewMov hr
/-! ### 127 loop.example/g00896/impl.wordsOf -/
def impl_wordsOf.F (k : Nat) (a0 : ByteArray) : Option (List ByteArray) := (strings_Split.F a0 (⟨#[32]⟩ : ByteArray)).bind fun r1 => (slices_DeleteFunc_string_f164.F k r1).bind fun r2 => some r2
def impl_wordsOf.C (k : Nat) : Cal → Option CArm := fun c => match c with
  | .f 163 => some (.p [.str, .str] _ (fun x => strings_Split.F x.1 x.2.1) (fun r => (.fr 9 .str r)))
  | .f 128 => some (.mq (.fr 9 .str) [.clo 164 []] _ (fun x0 x => slices_DeleteFunc_string_f164.F k x0) (fun r => .mov 9 .str r))
  | _ => none
theorem impl_wordsOf.run (k : Nat) (a0 : ByteArray) : runF envX (tabC (impl_wordsOf.C k)) (tabL 6 0 (fun _ => none)) Tryz.f127 [.t .str a0] (viewR1 (.fr 9 .str)) = impl_wordsOf.F k a0 := by kernel_rfl
theorem impl_wordsOf.G (hE : EnvOk Tryz.prog envX) (pv : Nat → Value) (k : Nat) : ∀ cal A, impl_wordsOf.C k cal = some A → ArmOk Tryz.prog envX pv cal A := by
  intro cal A h
  unfold impl_wordsOf.C at h
  split at h
  · cases h; exact fun x y hy => strings_Split.good hE pv x.1 x.2.1 hy
  · cases h; exact ⟨_, rfl, fun x0 x y hy => slices_DeleteFunc_string_f164.good hE pv k x0 hy⟩
  · cases h
theorem impl_wordsOf.good (hE : EnvOk Tryz.prog envX) (pv : Nat → Value) (k : Nat) (a0 : ByteArray) {y : _} (h : impl_wordsOf.F k a0 = some y) : Meets Tryz.prog envX pv (.f 127) (tvals [.str] (a0, ())) (.fr 9 .str y) :=
  fun_plain hE (impl_wordsOf.G hE pv k) (f := 127) (fn := Tryz.f127) (by kernel_rfl) rfl (by kernel_rfl) (by kernel_rfl) ((impl_wordsOf.run k a0).trans h) fun r hr => wk_view1 hr
/-! ### 129 slices.Clone[[]string,string] -/
def slices_Clone_string.F (a0 : List ByteArray) : Option (List ByteArray) := xClone a0
theorem slices_Clone_string.good (hE : EnvOk Tryz.prog envX) (pv : Nat → Value) (a0 : List ByteArray) {y : _} (h : slices_Clone_string.F a0 = some y) : Meets Tryz.prog envX pv (.f 129) (tvals [(.sl .str)] (a0, ())) (.fr 9 .str y) :=
  ext_clone (fn := Tryz.f129) (by kernel_rfl) rfl (by kernel_rfl) Tryz.slices_Clone_string Tryz.slices_Clone_string_nil Tryz.slices_Clone_string_zero h
/-! ### 147 loop.example/g00896/impl.isUpper -/
def impl_isUpper.F (a0 : Int) : Option (Bool) := bif (decide (a0 ≥ 65)) then (some (decide (a0 ≤ 90))) else (some false)
def impl_isUpper.C : Cal → Option CArm := fun c => match c with
  | _ => none
theorem impl_isUpper.run (a0 : Int) : runF envX (tabC impl_isUpper.C) (tabL 9 0 (fun _ => none)) Tryz.f147 [.t (.int .u8) a0] (viewR1 (.t .bool)) = impl_isUpper.F a0 := by kernel_rfl
theorem impl_isUpper.G (hE : EnvOk Tryz.prog envX) (pv : Nat → Value) : ∀ cal A, impl_isUpper.C cal = some A → ArmOk Tryz.prog envX pv cal A := by
  intro cal A h
  unfold impl_isUpper.C at h
  cases h
theorem impl_isUpper.good (hE : EnvOk Tryz.prog envX) (pv : Nat → Value) (a0 : Int) {y : _} (h : impl_isUpper.F a0 = some y) : Meets Tryz.prog envX pv (.f 147) (tvals [(.int .u8)] (a0, ())) (.t .bool y) :=
  fun_plain hE (impl_isUpper.G hE pv) (f := 147) (fn := Tryz.f147) (by kernel_rfl) rfl (by kernel_rfl) (by kernel_rfl) ((impl_isUpper.run a0).trans h) fun r hr => wk_view1 hr
/-! ### 132 loop.example/g00896/impl.lower -/
def impl_lower.l0 : Nat → (List Int) → Int → Int → Option ((List Int))
  | 0, _, _, _ => none
  | k + 1, x3, x9, x10 => bif (decide (x10 < x9)) then (bif decide (0 ≤ x10) then (bif decide (x10 < (x3.length : Int)) then ((impl_isUpper.F (x3.getD ((x10 : Int).toNat) 0)).bind fun r1 => bif r1 then (bif decide (0 ≤ x10) then (bif decide (x10 < (x3.length : Int)) then (impl_lower.l0 k (x3.set ((x10 : Int).toNat) (IntKind.wrap .u8 ((IntKind.wrap .u8 ((x3.getD ((x10 : Int).toNat) 0) + 97)) - 65))) x9 (IntKind.wrap .i64 (x10 + 1))) else none) else none) else (impl_lower.l0 k x3 x9 (IntKind.wrap .i64 (x10 + 1)))) else none) else none) else (some x3)
def impl_lower.F (k : Nat) (a0 : ByteArray) : Option (ByteArray) := bif Nat.ble a0.size 9223372036854775807 then ((impl_lower.l0 k (bytesL a0) ((bytesL a0).length : Int) 0).bind fun y2 => some (strL y2)) else none
def impl_lower.C (k : Nat) : Cal → Option CArm := fun c => match c with
  | .f 147 => some (.p [(.int .u8)] _ (fun x => impl_isUpper.F x.1) (fun r => (.t .bool r)))
  | _ => none
def impl_lower.sp0 : List Sp := [.own 3 1028 5 (.int .u8) false false, .con 8 (.own 1028), .t 9 (.int .i64), .t 10 (.int .i64)]
def impl_lower.sp0_0 : List Sp := [.own 3 1028 5 (.int .u8) false false]
def impl_lower.A0 : LArm := .one impl_lower.sp0 impl_lower.sp0_0 ((List Int)) (fun k x => impl_lower.l0 k x.1 x.2.2.1 x.2.2.2.1) (.exit 0) (fun y => (y, ())) (fun x => x.1)
def impl_lower.L : Nat → Option LArm := fun b => match b with
  | 0 => some impl_lower.A0
  | _ => none
theorem impl_lower.run (k : Nat) (a0 : ByteArray) : runF envX (tabC (impl_lower.C k)) (tabL 26 k impl_lower.L) Tryz.f132 [.t .str a0] (viewR1 (.t .str)) = impl_lower.F k a0 := by kernel_rfl
theorem impl_lower.step0 (k : Nat) (x3 : List Int) (x9 : Int) (x10 : Int) : runC envX (tabC (impl_lower.C k)) (tabL 26 k impl_lower.L) 0 (loopAt Tryz.f132 0) (stOf 26 impl_lower.sp0 (x3, (), x9, x10, ())) (impl_lower.A0.cont 26 k) = impl_lower.l0 (k + 1) x3 x9 x10 := by kernel_rfl
theorem impl_lower.G (hE : EnvOk Tryz.prog envX) (pv : Nat → Value) (k : Nat) : ∀ cal A, impl_lower.C k cal = some A → ArmOk Tryz.prog envX pv cal A := by
  intro cal A h
  unfold impl_lower.C at h
  split at h
  · cases h; exact fun x y hy => impl_isUpper.good hE pv x.1 hy
  · cases h
theorem impl_lower.good (hE : EnvOk Tryz.prog envX) (pv : Nat → Value) (k : Nat) (a0 : ByteArray) {y : _} (h : impl_lower.F k a0 = some y) : Meets Tryz.prog envX pv (.f 132) (tvals [.str] (a0, ())) (.t .str y) :=
  fun_loops hE (t := impl_lower.C) k (fun k _ => impl_lower.G hE pv k) (f := 132) (fn := Tryz.f132) (by kernel_rfl) rfl (by kernel_rfl) (by kernel_rfl) (lt := impl_lower.L) (by kernel_rfl) (fun b A h => by
    unfold impl_lower.L at h; split at h
    · cases h; exact ⟨by kernel_rfl, by kernel_rfl, fun _ => rfl, fun _ => rfl⟩
    · cases h) (fun b A h => by
    unfold impl_lower.L at h; split at h
    · cases h; exact fun k x => impl_lower.step0 k x.1 x.2.2.1 x.2.2.2.1
    · cases h) ((impl_lower.run k a0).trans h) fun r hr => wk_view1 hr
/-! ### 130 loop.example/g00896/impl.isOmitted -/
def impl_isOmitted.F (k : Nat) (a0 : ByteArray) : Option (Bool) := (impl_lower.F k a0).bind fun r1 => bif (beqS r1 (⟨#[97]⟩ : ByteArray)) then (bif (beqS r1 (⟨#[97]⟩ : ByteArray)) then (some true) else (some false)) else (bif (beqS r1 (⟨#[97, 110]⟩ : ByteArray)) then (bif (beqS r1 (⟨#[97, 110]⟩ : ByteArray)) then (some true) else (some false)) else (bif (beqS r1 (⟨#[97, 110, 100]⟩ : ByteArray)) then (bif (beqS r1 (⟨#[97, 110, 100]⟩ : ByteArray)) then (some true) else (some false)) else (bif (beqS r1 (⟨#[102, 111, 114]⟩ : ByteArray)) then (bif (beqS r1 (⟨#[102, 111, 114]⟩ : ByteArray)) then (some true) else (some false)) else (bif (beqS r1 (⟨#[105, 110]⟩ : ByteArray)) then (bif (beqS r1 (⟨#[105, 110]⟩ : ByteArray)) then (some true) else (some false)) else (bif (beqS r1 (⟨#[111, 102]⟩ : ByteArray)) then (bif (beqS r1 (⟨#[111, 102]⟩ : ByteArray)) then (some true) else (some false)) else (bif (beqS r1 (⟨#[111, 110]⟩ : ByteArray)) then (bif (beqS r1 (⟨#[111, 110]⟩ : ByteArray)) then (some true) else (some false)) else (bif (beqS r1 (⟨#[116, 104, 101]⟩ : ByteArray)) then (some true) else (some false))))))))
def impl_isOmitted.C (k : Nat) : Cal → Option CArm := fun c => match c with
  | .f 132 => some (.p [.str] _ (fun x => impl_lower.F k x.1) (fun r => (.t .str r)))
  | _ => none
theorem impl_isOmitted.run (k : Nat) (a0 : ByteArray) : runF envX (tabC (impl_isOmitted.C k)) (tabL 14 0 (fun _ => none)) Tryz.f130 [.t .str a0] (viewR1 (.t .bool)) = impl_isOmitted.F k a0 := by kernel_rfl
theorem impl_isOmitted.G (hE : EnvOk Tryz.prog envX) (pv : Nat → Value) (k : Nat) : ∀ cal A, impl_isOmitted.C k cal = some A → ArmOk Tryz.prog envX pv cal A := by
  intro cal A h
  unfold impl_isOmitted.C at h
  split at h
  · cases h; exact fun x y hy => impl_lower.good hE pv k x.1 hy
  · cases h
theorem impl_isOmitted.good (hE : EnvOk Tryz.prog envX) (pv : Nat → Value) (k : Nat) (a0 : ByteArray) {y : _} (h : impl_isOmitted.F k a0 = some y) : Meets Tryz.prog envX pv (.f 130) (tvals [.str] (a0, ())) (.t .bool y) :=
  fun_plain hE (impl_isOmitted.G hE pv k) (f := 130) (fn := Tryz.f130) (by kernel_rfl) rfl (by kernel_rfl) (by kernel_rfl) ((impl_isOmitted.run k a0).trans h) fun r hr => wk_view1 hr
/-! ### 103 slices.IndexFunc[[]string,string] at loop.example/g00896/impl.isOmitted -/
def slices_IndexFunc_string_f130.l0 : Nat → (List ByteArray) → Int → Int → Option (Sum Int Unit)
  | 0, _, _, _ => none
  | k + 1, x0, x7, x8 => bif (decide (x8 < x7)) then (bif decide (0 ≤ x8) then (bif decide (x8 < (x0.length : Int)) then ((impl_isOmitted.F k (x0.getD (x8 : Int).toNat (⟨#[]⟩ : ByteArray))).bind fun r1 => bif r1 then (some (.inl x8)) else (slices_IndexFunc_string_f130.l0 k x0 x7 (IntKind.wrap .i64 (x8 + 1)))) else none) else none) else (some (.inr ()))
def slices_IndexFunc_string_f130.F (k : Nat) (a0 : List ByteArray) : Option (Int) := (slices_IndexFunc_string_f130.l0 k a0 (a0.length : Int) 0).bind fun y2 => match y2 with | .inl z3 => some z3 | .inr z3 => some (-1)
def slices_IndexFunc_string_f130.C (k : Nat) : Cal → Option CArm := fun c => match c with
  | .f 130 => some (.p [.str] _ (fun x => impl_isOmitted.F k x.1) (fun r => (.t .bool r)))
  | _ => none
def slices_IndexFunc_string_f130.sp0 : List Sp := [.t 0 (.sl .str), .con 1 (.clo 130), .t 7 (.int .i64), .t 8 (.int .i64)]
def slices_IndexFunc_string_f130.sp0_0 : List Sp := [.t 4 (.int .i64)]
def slices_IndexFunc_string_f130.sp0_1 : List Sp := []
def slices_IndexFunc_string_f130.A0 : LArm := .two slices_IndexFunc_string_f130.sp0 slices_IndexFunc_string_f130.sp0_0 slices_IndexFunc_string_f130.sp0_1 (Int) (Unit) (fun k x => slices_IndexFunc_string_f130.l0 k x.1 x.2.2.1 x.2.2.2.1) .ret (.exit 0) (fun y => (y, ())) (fun x => x.1) (fun y => ()) (fun x => ())
def slices_IndexFunc_string_f130.L : Nat → Option LArm := fun b => match b with
  | 0 => some slices_IndexFunc_string_f130.A0
  | _ => none
theorem slices_IndexFunc_string_f130.run (k : Nat) (a0 : List ByteArray) : runF envX (tabC (slices_IndexFunc_string_f130.C k)) (tabL 19 k slices_IndexFunc_string_f130.L) Tryz.f103 [.t (.sl .str) a0, .clo 130 []] (viewR1 (.t (.int .i64))) = slices_IndexFunc_string_f130.F k a0 := by kernel_rfl
theorem slices_IndexFunc_string_f130.step0 (k : Nat) (x0 : List ByteArray) (x7 : Int) (x8 : Int) : runC envX (tabC (slices_IndexFunc_string_f130.C k)) (tabL 19 k slices_IndexFunc_string_f130.L) 0 (loopAt Tryz.f103 0) (stOf 19 slices_IndexFunc_string_f130.sp0 (x0, (), x7, x8, ())) (slices_IndexFunc_string_f130.A0.cont 19 k) = slices_IndexFunc_string_f130.l0 (k + 1) x0 x7 x8 := by kernel_rfl
theorem slices_IndexFunc_string_f130.G (hE : EnvOk Tryz.prog envX) (pv : Nat → Value) (k : Nat) : ∀ cal A, slices_IndexFunc_string_f130.C k cal = some A → ArmOk Tryz.prog envX pv cal A := by
  intro cal A h
  unfold slices_IndexFunc_string_f130.C at h
  split at h
  · cases h; exact fun x y hy => impl_isOmitted.good hE pv k x.1 hy
  · cases h
theorem slices_IndexFunc_string_f130.good (hE : EnvOk Tryz.prog envX) (pv : Nat → Value) (k : Nat) (a0 : List ByteArray) {y : _} (h : slices_IndexFunc_string_f130.F k a0 = some y) : Meets Tryz.prog envX pv (.f 103) (pvals [.t (.sl .str), .clo 130 []] (a0, (()), ())) (.t (.int .i64) y) :=
  fun_loops hE (t := slices_IndexFunc_string_f130.C) k (fun k _ => slices_IndexFunc_string_f130.G hE pv k) (f := 103) (fn := Tryz.f103) (by kernel_rfl) rfl (by kernel_rfl) (by kernel_rfl) (lt := slices_IndexFunc_string_f130.L) (by kernel_rfl) (fun b A h => by
    unfold slices_IndexFunc_string_f130.L at h; split at h
    · cases h; exact ⟨by kernel_rfl, by kernel_rfl, by kernel_rfl, fun _ => rfl, fun _ => rfl, fun _ => rfl⟩
    · cases h) (fun b A h => by
    unfold slices_IndexFunc_string_f130.L at h; split at h
    · cases h; exact fun k x => slices_IndexFunc_string_f130.step0 k x.1 x.2.2.1 x.2.2.2.1
    · cases h) ((slices_IndexFunc_string_f130.run k a0).trans h) fun r hr => wk_view1 hr
/-! ### 128 slices.DeleteFunc[[]string,string] at loop.example/g00896/impl.isOmitted -/
def slices_DeleteFunc_string_f130.l0 : Nat → (List ByteArray) → Int → Int → Option ((List ByteArray) × Int)
  | 0, _, _, _ => none
  | k + 1, x0, x5, x6 => bif (decide (x6 < (x0.length : Int))) then (bif decide (0 ≤ x6) then (bif decide (x6 < (x0.length : Int)) then ((impl_isOmitted.F k (x0.getD ((x6 : Int).toNat) (⟨#[]⟩ : ByteArray))).bind fun r2 => bif (!r2) then (bif decide (0 ≤ x5) then (bif decide (x5 < (x0.length : Int)) then (slices_DeleteFunc_string_f130.l0 k (x0.set ((x5 : Int).toNat) (x0.getD ((x6 : Int).toNat) (⟨#[]⟩ : ByteArray))) (IntKind.wrap .i64 (x5 + 1)) (IntKind.wrap .i64 (x6 + 1))) else none) else none) else (slices_DeleteFunc_string_f130.l0 k x0 x5 (IntKind.wrap .i64 (x6 + 1)))) else none) else none) else (some (x0, x5))
def slices_DeleteFunc_string_f130.F (k : Nat) (a0 : List ByteArray) : Option (List ByteArray) := (slices_IndexFunc_string_f130.F k a0).bind fun r1 => bif (r1 == (-1)) then (some a0) else ((slices_DeleteFunc_string_f130.l0 k a0 r1 (IntKind.wrap .i64 (r1 + 1))).bind fun y3 => bif decide (0 ≤ y3.2) then (bif decide (y3.2 ≤ (y3.1.length : Int)) then (bif decide (0 ≤ y3.2) then (bif decide (y3.2 ≤ ((y3.1.take ((y3.2 : Int).toNat) ++ List.replicate (y3.1.length - ((y3.2 : Int).toNat)) (⟨#[]⟩ : ByteArray)).length : Int)) then (some ((y3.1.take ((y3.2 : Int).toNat) ++ List.replicate (y3.1.length - ((y3.2 : Int).toNat)) (⟨#[]⟩ : ByteArray)).take (y3.2 : Int).toNat)) else none) else none) else none) else none)
def slices_DeleteFunc_string_f130.C (k : Nat) : Cal → Option CArm := fun c => match c with
  | .f 103 => some (.q [.t (.sl .str), .clo 130 []] _ (fun x => slices_IndexFunc_string_f130.F k x.1) (fun r => (.t (.int .i64) r)))
  | .f 130 => some (.p [.str] _ (fun x => impl_isOmitted.F k x.1) (fun r => (.t .bool r)))
  | _ => none
def slices_DeleteFunc_string_f130.sp0 : List Sp := [.own 0 1099511627777 9 .str false true, .con 1 (.clo 130), .t 5 (.int .i64), .t 6 (.int .i64)]
def slices_DeleteFunc_string_f130.sp0_0 : List Sp := [.own 0 1099511627777 9 .str false true, .t 5 (.int .i64)]
def slices_DeleteFunc_string_f130.A0 : LArm := .one slices_DeleteFunc_string_f130.sp0 slices_DeleteFunc_string_f130.sp0_0 ((List ByteArray) × Int) (fun k x => slices_DeleteFunc_string_f130.l0 k x.1 x.2.2.1 x.2.2.2.1) (.exit 0) (fun y => (y.1, y.2, ())) (fun x => (x.1, x.2.1))
def slices_DeleteFunc_string_f130.L : Nat → Option LArm := fun b => match b with
  | 0 => some slices_DeleteFunc_string_f130.A0
  | _ => none
theorem slices_DeleteFunc_string_f130.run (k : Nat) (a0 : List ByteArray) : runM envX (tabC (slices_DeleteFunc_string_f130.C k)) (tabL 42 k slices_DeleteFunc_string_f130.L) Tryz.f128 mmove (.fr 9 .str a0) [.clo 130 []] (viewMov 9 .str) = slices_DeleteFunc_string_f130.F k a0 := by kernel_rfl
theorem slices_DeleteFunc_string_f130.step0 (k : Nat) (x0 : List ByteArray) (x5 : Int) (x6 : Int) : runC envX (tabC (slices_DeleteFunc_string_f130.C k)) (tabL 42 k slices_DeleteFunc_string_f130.L) 0 (loopAt Tryz.f128 0) (stOf 42 slices_DeleteFunc_string_f130.sp0 (x0, (), x5, x6, ())) (slices_DeleteFunc_string_f130.A0.cont 42 k) = slices_DeleteFunc_string_f130.l0 (k + 1) x0 x5 x6 := by kernel_rfl
theorem slices_DeleteFunc_string_f130.G (hE : EnvOk Tryz.prog envX) (pv : Nat → Value) (k : Nat) : ∀ cal A, slices_DeleteFunc_string_f130.C k cal = some A → ArmOk Tryz.prog envX pv cal A := by
  intro cal A h
  unfold slices_DeleteFunc_string_f130.C at h
  split at h
  · cases h; exact fun x y hy => slices_IndexFunc_string_f130.good hE pv k x.1 hy
  · cases h; exact fun x y hy => impl_isOmitted.good hE pv k x.1 hy
  · cases h
theorem slices_DeleteFunc_string_f130.good (hE : EnvOk Tryz.prog envX) (pv : Nat → Value) (k : Nat) (a0 : List ByteArray) {y : _} (h : slices_DeleteFunc_string_f130.F k a0 = some y) : MeetsM Tryz.prog envX pv 128 (.fr 9 .str a0) (pvals [.clo 130 []] ((()), ())) (.mov 9 .str y) :=
  funM_loops hE (t := slices_DeleteFunc_string_f130.C) k (fun k _ => slices_DeleteFunc_string_f130.G hE pv k) (f := 128) (fn := Tryz.f128) (by kernel_rfl) rfl (by kernel_rfl) (.inr rfl) (by kernel_rfl) (lt := slices_DeleteFunc_string_f130.L) (by kernel_rfl) (fun b A h => by
    unfold slices_DeleteFunc_string_f130.L at h; split at h
    · cases h; exact ⟨by kernel_rfl, by kernel_rfl, fun _ => rfl, fun _ => rfl⟩
    · cases h) (fun b A h => by
    unfold slices_DeleteFunc_string_f130.L at h; split at h
    · cases h; exact fun k x => slices_DeleteFunc_string_f130.step0 k x.1 x.2.2.1 x.2.2.2.1
    · cases h) ((slices_DeleteFunc_string_f130.run k a0).trans h) fun r hr => wk_viewMov hr
/-! ### 74 loop.example/g00896/impl.told -/
def impl_told.F (k : Nat) (a0 : ByteArray) : Option ((List ByteArray) × Bool) := (impl_wordsOf.F k a0).bind fun r1 => bif (decide ((r1.length : Int) ≤ 1)) then (some (r1, false)) else ((slices_Clone_string.F r1).bind fun r2 => (slices_DeleteFunc_string_f130.F k r2).bind fun r3 => bif ((r3.length : Int) == 0) then (some (r1, true)) else (some (r3, true)))
def impl_told.C (k : Nat) : Cal → Option CArm := fun c => match c with
  | .f 127 => some (.p [.str] _ (fun x => impl_wordsOf.F k x.1) (fun r => (.fr 9 .str r)))
  | .f 129 => some (.p [(.sl .str)] _ (fun x => slices_Clone_string.F x.1) (fun r => (.fr 9 .str r)))
  | .f 128 => some (.mq (.fr 9 .str) [.clo 130 []] _ (fun x0 x => slices_DeleteFunc_string_f130.F k x0) (fun r => .mov 9 .str r))
  | _ => none
theorem impl_told.run (k : Nat) (a0 : ByteArray) : runF envX (tabC (impl_told.C k)) (tabL 20 0 (fun _ => none)) Tryz.f74 [.t .str a0] (viewR2 (.fr 9 .str) (.t .bool)) = impl_told.F k a0 := by kernel_rfl
theorem impl_told.G (hE : EnvOk Tryz.prog envX) (pv : Nat → Value) (k : Nat) : ∀ cal A, impl_told.C k cal = some A → ArmOk Tryz.prog envX pv cal A := by
  intro cal A h
  unfold impl_told.C at h
  split at h
  · cases h; exact fun x y hy => impl_wordsOf.good hE pv k x.1 hy
  · cases h; exact fun x y hy => slices_Clone_string.good hE pv x.1 hy
  · cases h; exact ⟨_, rfl, fun x0 x y hy => slices_DeleteFunc_string_f130.good hE pv k x0 hy⟩
  · cases h
theorem impl_told.good (hE : EnvOk Tryz.prog envX) (pv : Nat → Value) (k : Nat) (a0 : ByteArray) {y : _} (h : impl_told.F k a0 = some y) : Meets Tryz.prog envX pv (.f 74) (tvals [.str] (a0, ())) (.tup [.fr 9 .str y.1, .t .bool y.2]) :=
  fun_plain hE (impl_told.G hE pv k) (f := 74) (fn := Tryz.f74) (by kernel_rfl) rfl (by kernel_rfl) (by kernel_rfl) ((impl_told.run k a0).trans h) fun r hr => wk_view2 hr
/-! ### 165 loop.example/g00896/impl.isLetter -/
def impl_isLetter.F (a0 : Int) : Option (Bool) := (impl_isUpper.F a0).bind fun r1 => bif r1 then (some true) else ((impl_isLower.F a0).bind fun r2 => some r2)
def impl_isLetter.C : Cal → Option CArm := fun c => match c with
  | .f 147 => some (.p [(.int .u8)] _ (fun x => impl_isUpper.F x.1) (fun r => (.t .bool r)))
  | .f 155 => some (.p [(.int .u8)] _ (fun x => impl_isLower.F x.1) (fun r => (.t .bool r)))
  | _ => none
theorem impl_isLetter.run (a0 : Int) : runF envX (tabC impl_isLetter.C) (tabL 9 0 (fun _ => none)) Tryz.f165 [.t (.int .u8) a0] (viewR1 (.t .bool)) = impl_isLetter.F a0 := by kernel_rfl
theorem impl_isLetter.G (hE : EnvOk Tryz.prog envX) (pv : Nat → Value) : ∀ cal A, impl_isLetter.C cal = some A → ArmOk Tryz.prog envX pv cal A := by
  intro cal A h
  unfold impl_isLetter.C at h
  split at h
  · cases h; exact fun x y hy => impl_isUpper.good hE pv x.1 hy
  · cases h; exact fun x y hy => impl_isLower.good hE pv x.1 hy
  · cases h
theorem impl_isLetter.good (hE : EnvOk Tryz.prog envX) (pv : Nat → Value) (a0 : Int) {y : _} (h : impl_isLetter.F a0 = some y) : Meets Tryz.prog envX pv (.f 165) (tvals [(.int .u8)] (a0, ())) (.t .bool y) :=
  fun_plain hE (impl_isLetter.G hE pv) (f := 165) (fn := Tryz.f165) (by kernel_rfl) rfl (by kernel_rfl) (by kernel_rfl) ((impl_isLetter.run a0).trans h) fun r hr => wk_view1 hr
/-! ### 131 loop.example/g00896/impl.areLetters -/
def impl_areLetters.l0 : Nat → ByteArray → Int → Option (Sum Bool ByteArray)
  | 0, _, _ => none
  | k + 1, x0, x3 => bif (decide (x3 < (x0.size : Int))) then (bif decide (0 ≤ x3) then (bif decide (x3 < (x0.size : Int)) then ((impl_isLetter.F (bt x0 (x3 : Int).toNat)).bind fun r1 => bif (!r1) then (some (.inl false)) else (impl_areLetters.l0 k x0 (IntKind.wrap .i64 (x3 + 1)))) else none) else none) else (some (.inr x0))
def impl_areLetters.F (k : Nat) (a0 : ByteArray) : Option (Bool) := (impl_areLetters.l0 k a0 0).bind fun y2 => match y2 with | .inl z3 => some z3 | .inr z3 => some (!beqS z3 (⟨#[]⟩ : ByteArray))
def impl_areLetters.C (k : Nat) : Cal → Option CArm := fun c => match c with
  | .f 165 => some (.p [(.int .u8)] _ (fun x => impl_isLetter.F x.1) (fun r => (.t .bool r)))
  | _ => none
def impl_areLetters.sp0 : List Sp := [.t 0 .str, .t 3 (.int .i64)]
def impl_areLetters.sp0_0 : List Sp := [.t 2 .bool]
def impl_areLetters.sp0_1 : List Sp := [.t 0 .str]
def impl_areLetters.A0 : LArm := .two impl_areLetters.sp0 impl_areLetters.sp0_0 impl_areLetters.sp0_1 (Bool) (ByteArray) (fun k x => impl_areLetters.l0 k x.1 x.2.1) .ret (.exit 0) (fun y => (y, ())) (fun x => x.1) (fun y => (y, ())) (fun x => x.1)
def impl_areLetters.L : Nat → Option LArm := fun b => match b with
  | 0 => some impl_areLetters.A0
  | _ => none
theorem impl_areLetters.run (k : Nat) (a0 : ByteArray) : runF envX (tabC (impl_areLetters.C k)) (tabL 17 k impl_areLetters.L) Tryz.f131 [.t .str a0] (viewR1 (.t .bool)) = impl_areLetters.F k a0 := by kernel_rfl
theorem impl_areLetters.step0 (k : Nat) (x0 : ByteArray) (x3 : Int) : runC envX (tabC (impl_areLetters.C k)) (tabL 17 k impl_areLetters.L) 0 (loopAt Tryz.f131 0) (stOf 17 impl_areLetters.sp0 (x0, x3, ())) (impl_areLetters.A0.cont 17 k) = impl_areLetters.l0 (k + 1) x0 x3 := by kernel_rfl
theorem impl_areLetters.G (hE : EnvOk Tryz.prog envX) (pv : Nat → Value) (k : Nat) : ∀ cal A, impl_areLetters.C k cal = some A → ArmOk Tryz.prog envX pv cal A := by
  intro cal A h
  unfold impl_areLetters.C at h
  split at h
  · cases h; exact fun x y hy => impl_isLetter.good hE pv x.1 hy
  · cases h
theorem impl_areLetters.good (hE : EnvOk Tryz.prog envX) (pv : Nat → Value) (k : Nat) (a0 : ByteArray) {y : _} (h : impl_areLetters.F k a0 = some y) : Meets Tryz.prog envX pv (.f 131) (tvals [.str] (a0, ())) (.t .bool y) :=
  fun_loops hE (t := impl_areLetters.C) k (fun k _ => impl_areLetters.G hE pv k) (f := 131) (fn := Tryz.f131) (by kernel_rfl) rfl (by kernel_rfl) (by kernel_rfl) (lt := impl_areLetters.L) (by kernel_rfl) (fun b A h => by
    unfold impl_areLetters.L at h; split at h
    · cases h; exact ⟨by kernel_rfl, by kernel_rfl, by kernel_rfl, fun _ => rfl, fun _ => rfl, fun _ => rfl⟩
    · cases h) (fun b A h => by
    unfold impl_areLetters.L at h; split at h
    · cases h; exact fun k x => impl_areLetters.step0 k x.1 x.2.1
    · cases h) ((impl_areLetters.run k a0).trans h) fun r hr => wk_view1 hr
/-! ### 166 internal/stringslite.CutSuffix -/
def stringslite_CutSuffix.F (a0 : ByteArray) (a1 : ByteArray) : Option (ByteArray × Bool) := (stringslite_HasSuffix.F a0 a1).bind fun r1 => bif (!r1) then (some (a0, false)) else (bif decide (0 ≤ (IntKind.wrap .i64 ((a0.size : Int) - (a1.size : Int)))) then (bif decide ((IntKind.wrap .i64 ((a0.size : Int) - (a1.size : Int))) ≤ (a0.size : Int)) then (some ((a0.extract 0 ((IntKind.wrap .i64 ((a0.size : Int) - (a1.size : Int))) : Int).toNat), true)) else none) else none)
def stringslite_CutSuffix.C : Cal → Option CArm := fun c => match c with
  | .f 184 => some (.p [.str, .str] _ (fun x => stringslite_HasSuffix.F x.1 x.2.1) (fun r => (.t .bool r)))
  | _ => none
theorem stringslite_CutSuffix.run (a0 : ByteArray) (a1 : ByteArray) : runF envX (tabC stringslite_CutSuffix.C) (tabL 18 0 (fun _ => none)) Tryz.f166 [.t .str a0, .t .str a1] (viewR2 (.t .str) (.t .bool)) = stringslite_CutSuffix.F a0 a1 := by kernel_rfl
theorem stringslite_CutSuffix.G (hE : EnvOk Tryz.prog envX) (pv : Nat → Value) : ∀ cal A, stringslite_CutSuffix.C cal = some A → ArmOk Tryz.prog envX pv cal A := by
  intro cal A h
  unfold stringslite_CutSuffix.C at h
  split at h
  · cases h; exact fun x y hy => stringslite_HasSuffix.good hE pv x.1 x.2.1 hy
  · cases h
theorem stringslite_CutSuffix.good (hE : EnvOk Tryz.prog envX) (pv : Nat → Value) (a0 : ByteArray) (a1 : ByteArray) {y : _} (h : stringslite_CutSuffix.F a0 a1 = some y) : Meets Tryz.prog envX pv (.f 166) (tvals [.str, .str] (a0, a1, ())) (.tup [.t .str y.1, .t .bool y.2]) :=
  fun_plain hE (stringslite_CutSuffix.G hE pv) (f := 166) (fn := Tryz.f166) (by kernel_rfl) rfl (by kernel_rfl) (by kernel_rfl) ((stringslite_CutSuffix.run a0 a1).trans h) fun r hr => wk_view2 hr
/-! ### 133 strings.CutSuffix -/
def strings_CutSuffix.F (a0 : ByteArray) (a1 : ByteArray) : Option (ByteArray × Bool) := (stringslite_CutSuffix.F a0 a1).bind fun r1 => some (r1.1, r1.2)
def strings_CutSuffix.C : Cal → Option CArm := fun c => match c with
  | .f 166 => some (.p [.str, .str] _ (fun x => stringslite_CutSuffix.F x.1 x.2.1) (fun r => (.tup [.t .str r.1, .t .bool r.2])))
  | _ => none
theorem strings_CutSuffix.run (a0 : ByteArray) (a1 : ByteArray) : runF envX (tabC strings_CutSuffix.C) (tabL 11 0 (fun _ => none)) Tryz.f133 [.t .str a0, .t .str a1] (viewR2 (.t .str) (.t .bool)) = strings_CutSuffix.F a0 a1 := by kernel_rfl
theorem strings_CutSuffix.G (hE : EnvOk Tryz.prog envX) (pv : Nat → Value) : ∀ cal A, strings_CutSuffix.C cal = some A → ArmOk Tryz.prog envX pv cal A := by
  intro cal A h
  unfold strings_CutSuffix.C at h
  split at h
  · cases h; exact fun x y hy => stringslite_CutSuffix.good hE pv x.1 x.2.1 hy
  · cases h
theorem strings_CutSuffix.good (hE : EnvOk Tryz.prog envX) (pv : Nat → Value) (a0 : ByteArray) (a1 : ByteArray) {y : _} (h : strings_CutSuffix.F a0 a1 = some y) : Meets Tryz.prog envX pv (.f 133) (tvals [.str, .str] (a0, a1, ())) (.tup [.t .str y.1, .t .bool y.2]) :=
  fun_plain hE (strings_CutSuffix.G hE pv) (f := 133) (fn := Tryz.f133) (by kernel_rfl) rfl (by kernel_rfl) (by kernel_rfl) ((strings_CutSuffix.run a0 a1).trans h) fun r hr => wk_view2 hr
/-! ### 167 internal/stringslite.HasPrefix -/
def stringslite_HasPrefix.F (a0 : ByteArray) (a1 : ByteArray) : Option (Bool) := bif (decide ((a0.size : Int) ≥ (a1.size : Int))) then (bif decide (0 ≤ (a1.size : Int)) then (bif decide ((a1.size : Int) ≤ (a0.size : Int)) then (some (beqS (a0.extract 0 ((a1.size : Int) : Int).toNat) a1)) else none) else none) else (some false)
def stringslite_HasPrefix.C : Cal → Option CArm := fun c => match c with
  | _ => none
theorem stringslite_HasPrefix.run (a0 : ByteArray) (a1 : ByteArray) : runF envX (tabC stringslite_HasPrefix.C) (tabL 18 0 (fun _ => none)) Tryz.f167 [.t .str a0, .t .str a1] (viewR1 (.t .bool)) = stringslite_HasPrefix.F a0 a1 := by kernel_rfl
theorem stringslite_HasPrefix.G (hE : EnvOk Tryz.prog envX) (pv : Nat → Value) : ∀ cal A, stringslite_HasPrefix.C cal = some A → ArmOk Tryz.prog envX pv cal A := by
  intro cal A h
  unfold stringslite_HasPrefix.C at h
  cases h
theorem stringslite_HasPrefix.good (hE : EnvOk Tryz.prog envX) (pv : Nat → Value) (a0 : ByteArray) (a1 : ByteArray) {y : _} (h : stringslite_HasPrefix.F a0 a1 = some y) : Meets Tryz.prog envX pv (.f 167) (tvals [.str, .str] (a0, a1, ())) (.t .bool y) :=
  fun_plain hE (stringslite_HasPrefix.G hE pv) (f := 167) (fn := Tryz.f167) (by kernel_rfl) rfl (by kernel_rfl) (by kernel_rfl) ((stringslite_HasPrefix.run a0 a1).trans h) fun r hr => wk_view1 hr
/-! ### 134 strings.HasPrefix -/
def strings_HasPrefix.F (a0 : ByteArray) (a1 : ByteArray) : Option (Bool) := (stringslite_HasPrefix.F a0 a1).bind fun r1 => some r1
def strings_HasPrefix.C : Cal → Option CArm := fun c => match c with
  | .f 167 => some (.p [.str, .str] _ (fun x => stringslite_HasPrefix.F x.1 x.2.1) (fun r => (.t .bool r)))
  | _ => none
theorem strings_HasPrefix.run (a0 : ByteArray) (a1 : ByteArray) : runF envX (tabC strings_HasPrefix.C) (tabL 8 0 (fun _ => none)) Tryz.f134 [.t .str a0, .t .str a1] (viewR1 (.t .bool)) = strings_HasPrefix.F a0 a1 := by kernel_rfl
theorem strings_HasPrefix.G (hE : EnvOk Tryz.prog envX) (pv : Nat → Value) : ∀ cal A, strings_HasPrefix.C cal = some A → ArmOk Tryz.prog envX pv cal A := by
  intro cal A h
  unfold strings_HasPrefix.C at h
  split at h
  · cases h; exact fun x y hy => stringslite_HasPrefix.good hE pv x.1 x.2.1 hy
  · cases h
theorem strings_HasPrefix.good (hE : EnvOk Tryz.prog envX) (pv : Nat → Value) (a0 : ByteArray) (a1 : ByteArray) {y : _} (h : strings_HasPrefix.F a0 a1 = some y) : Meets Tryz.prog envX pv (.f 134) (tvals [.str, .str] (a0, a1, ())) (.t .bool y) :=
  fun_plain hE (strings_HasPrefix.G hE pv) (f := 134) (fn := Tryz.f134) (by kernel_rfl) rfl (by kernel_rfl) (by kernel_rfl) ((strings_HasPrefix.run a0 a1).trans h) fun r hr => wk_view1 hr
/-! ### 75 loop.example/g00896/impl.abbreviationOf -/
def impl_abbreviationOf.l0 : Nat → (List Abbr) → ByteArray → Int → (List Abbr) → Int → Int → Option (Sum Int Int)
  | 0, _, _, _, _, _, _ => none
  | k + 1, x0, x5, x6, x16, x17, x18 => bif (decide (x18 < x17)) then (bif decide (0 ≤ x18) then (bif decide (x18 < (x16.length : Int)) then (bif (beqS ((x16.getD (x18 : Int).toNat (dflt .abbr)).word) x5) then (some (.inl x18)) else ((strings_CutSuffix.F ((x16.getD (x18 : Int).toNat (dflt .abbr)).word) (⟨#[45]⟩ : ByteArray)).bind fun r3 => bif r3.2 then ((strings_HasPrefix.F x5 r3.1).bind fun r4 => bif r4 then (bif (decide (x6 < 0)) then (impl_abbreviationOf.l0 k x0 x5 x18 x16 x17 (IntKind.wrap .i64 (x18 + 1))) else (bif decide (0 ≤ x6) then (bif decide (x6 < (x0.length : Int)) then (bif (decide ((((x16.getD (x18 : Int).toNat (dflt .abbr)).word).size : Int) > (((x0.getD (x6 : Int).toNat (dflt .abbr)).word).size : Int))) then (impl_abbreviationOf.l0 k x0 x5 x18 x16 x17 (IntKind.wrap .i64 (x18 + 1))) else (impl_abbreviationOf.l0 k x0 x5 x6 x16 x17 (IntKind.wrap .i64 (x18 + 1)))) else none) else none)) else (impl_abbreviationOf.l0 k x0 x5 x6 x16 x17 (IntKind.wrap .i64 (x18 + 1)))) else (impl_abbreviationOf.l0 k x0 x5 x6 x16 x17 (IntKind.wrap .i64 (x18 + 1))))) else none) else none) else (some (.inr x6))
def impl_abbreviationOf.F (k : Nat) (a0 : List Abbr) (a1 : ByteArray) : Option (Int) := (impl_areLetters.F k a1).bind fun r1 => bif (!r1) then (some (-1)) else ((impl_lower.F k a1).bind fun r2 => (impl_abbreviationOf.l0 k a0 r2 (-1) a0 (a0.length : Int) 0).bind fun y5 => match y5 with | .inl z6 => some z6 | .inr z6 => some z6)
def impl_abbreviationOf.C (k : Nat) : Cal → Option CArm := fun c => match c with
  | .f 131 => some (.p [.str] _ (fun x => impl_areLetters.F k x.1) (fun r => (.t .bool r)))
  | .f 132 => some (.p [.str] _ (fun x => impl_lower.F k x.1) (fun r => (.t .str r)))
  | .f 133 => some (.p [.str, .str] _ (fun x => strings_CutSuffix.F x.1 x.2.1) (fun r => (.tup [.t .str r.1, .t .bool r.2])))
  | .f 134 => some (.p [.str, .str] _ (fun x => strings_HasPrefix.F x.1 x.2.1) (fun r => (.t .bool r)))
  | _ => none
def impl_abbreviationOf.sp0 : List Sp := [.t 0 (.sl .abbr), .t 5 .str, .t 6 (.int .i64), .t 16 (.sl .abbr), .t 17 (.int .i64), .t 18 (.int .i64)]
def impl_abbreviationOf.sp0_0 : List Sp := [.t 4 (.int .i64)]
def impl_abbreviationOf.sp0_1 : List Sp := [.t 6 (.int .i64)]
def impl_abbreviationOf.A0 : LArm := .two impl_abbreviationOf.sp0 impl_abbreviationOf.sp0_0 impl_abbreviationOf.sp0_1 (Int) (Int) (fun k x => impl_abbreviationOf.l0 k x.1 x.2.1 x.2.2.1 x.2.2.2.1 x.2.2.2.2.1 x.2.2.2.2.2.1) .ret (.exit 0) (fun y => (y, ())) (fun x => x.1) (fun y => (y, ())) (fun x => x.1)
def impl_abbreviationOf.L : Nat → Option LArm := fun b => match b with
  | 0 => some impl_abbreviationOf.A0
  | _ => none
theorem impl_abbreviationOf.run (k : Nat) (a0 : List Abbr) (a1 : ByteArray) : runF envX (tabC (impl_abbreviationOf.C k)) (tabL 59 k impl_abbreviationOf.L) Tryz.f75 [.t (.sl .abbr) a0, .t .str a1] (viewR1 (.t (.int .i64))) = impl_abbreviationOf.F k a0 a1 := by kernel_rfl
theorem impl_abbreviationOf.step0 (k : Nat) (x0 : List Abbr) (x5 : ByteArray) (x6 : Int) (x16 : List Abbr) (x17 : Int) (x18 : Int) : runC envX (tabC (impl_abbreviationOf.C k)) (tabL 59 k impl_abbreviationOf.L) 0 (loopAt Tryz.f75 0) (stOf 59 impl_abbreviationOf.sp0 (x0, x5, x6, x16, x17, x18, ())) (impl_abbreviationOf.A0.cont 59 k) = impl_abbreviationOf.l0 (k + 1) x0 x5 x6 x16 x17 x18 := by kernel_rfl
theorem impl_abbreviationOf.G (hE : EnvOk Tryz.prog envX) (pv : Nat → Value) (k : Nat) : ∀ cal A, impl_abbreviationOf.C k cal = some A → ArmOk Tryz.prog envX pv cal A := by
  intro cal A h
  unfold impl_abbreviationOf.C at h
  split at h
  · cases h; exact fun x y hy => impl_areLetters.good hE pv k x.1 hy
  · cases h; exact fun x y hy => impl_lower.good hE pv k x.1 hy
  · cases h; exact fun x y hy => strings_CutSuffix.good hE pv x.1 x.2.1 hy
  · cases h; exact fun x y hy => strings_HasPrefix.good hE pv x.1 x.2.1 hy
  · cases h
theorem impl_abbreviationOf.good (hE : EnvOk Tryz.prog envX) (pv : Nat → Value) (k : Nat) (a0 : List Abbr) (a1 : ByteArray) {y : _} (h : impl_abbreviationOf.F k a0 a1 = some y) : Meets Tryz.prog envX pv (.f 75) (tvals [(.sl .abbr), .str] (a0, a1, ())) (.t (.int .i64) y) :=
  fun_loops hE (t := impl_abbreviationOf.C) k (fun k _ => impl_abbreviationOf.G hE pv k) (f := 75) (fn := Tryz.f75) (by kernel_rfl) rfl (by kernel_rfl) (by kernel_rfl) (lt := impl_abbreviationOf.L) (by kernel_rfl) (fun b A h => by
    unfold impl_abbreviationOf.L at h; split at h
    · cases h; exact ⟨by kernel_rfl, by kernel_rfl, by kernel_rfl, fun _ => rfl, fun _ => rfl, fun _ => rfl⟩
    · cases h) (fun b A h => by
    unfold impl_abbreviationOf.L at h; split at h
    · cases h; exact fun k x => impl_abbreviationOf.step0 k x.1 x.2.1 x.2.2.1 x.2.2.2.1 x.2.2.2.2.1 x.2.2.2.2.2.1
    · cases h) ((impl_abbreviationOf.run k a0 a1).trans h) fun r hr => wk_view1 hr
/-! ### 172 loop.example/g00896/impl.upperByte -/
def impl_upperByte.F (a0 : Int) : Option (Int) := (impl_isLower.F a0).bind fun r1 => bif r1 then (some (IntKind.wrap .u8 (a0 - 32))) else (some a0)
def impl_upperByte.C : Cal → Option CArm := fun c => match c with
  | .f 155 => some (.p [(.int .u8)] _ (fun x => impl_isLower.F x.1) (fun r => (.t .bool r)))
  | _ => none
theorem impl_upperByte.run (a0 : Int) : runF envX (tabC impl_upperByte.C) (tabL 8 0 (fun _ => none)) Tryz.f172 [.t (.int .u8) a0] (viewR1 (.t (.int .u8))) = impl_upperByte.F a0 := by kernel_rfl
theorem impl_upperByte.G (hE : EnvOk Tryz.prog envX) (pv : Nat → Value) : ∀ cal A, impl_upperByte.C cal = some A → ArmOk Tryz.prog envX pv cal A := by
  intro cal A h
  unfold impl_upperByte.C at h
  split at h
  · cases h; exact fun x y hy => impl_isLower.good hE pv x.1 hy
  · cases h
theorem impl_upperByte.good (hE : EnvOk Tryz.prog envX) (pv : Nat → Value) (a0 : Int) {y : _} (h : impl_upperByte.F a0 = some y) : Meets Tryz.prog envX pv (.f 172) (tvals [(.int .u8)] (a0, ())) (.t (.int .u8) y) :=
  fun_plain hE (impl_upperByte.G hE pv) (f := 172) (fn := Tryz.f172) (by kernel_rfl) rfl (by kernel_rfl) (by kernel_rfl) ((impl_upperByte.run a0).trans h) fun r hr => wk_view1 hr
/-! ### 148 loop.example/g00896/impl.raised -/
def impl_raised.l0 : Nat → (List Int) → Int → Int → Option ((List Int))
  | 0, _, _, _ => none
  | k + 1, x3, x9, x10 => bif (decide (x10 < x9)) then (bif decide (0 ≤ x10) then (bif decide (x10 < (x3.length : Int)) then ((impl_isLetter.F (x3.getD ((x10 : Int).toNat) 0)).bind fun r1 => bif r1 then ((impl_upperByte.F (x3.getD ((x10 : Int).toNat) 0)).bind fun r2 => bif decide (0 ≤ x10) then (bif decide (x10 < (x3.length : Int)) then (some (x3.set ((x10 : Int).toNat) r2)) else none) else none) else (impl_raised.l0 k x3 x9 (IntKind.wrap .i64 (x10 + 1)))) else none) else none) else (some x3)
def impl_raised.F (k : Nat) (a0 : ByteArray) : Option (ByteArray) := bif Nat.ble a0.size 9223372036854775807 then ((impl_raised.l0 k (bytesL a0) ((bytesL a0).length : Int) 0).bind fun y3 => some (strL y3)) else none
def impl_raised.C (k : Nat) : Cal → Option CArm := fun c => match c with
  | .f 165 => some (.p [(.int .u8)] _ (fun x => impl_isLetter.F x.1) (fun r => (.t .bool r)))
  | .f 172 => some (.p [(.int .u8)] _ (fun x => impl_upperByte.F x.1) (fun r => (.t (.int .u8) r)))
  | _ => none
def impl_raised.sp0 : List Sp := [.own 3 1028 5 (.int .u8) false false, .con 8 (.own 1028), .t 9 (.int .i64), .t 10 (.int .i64)]
def impl_raised.sp0_0 : List Sp := [.own 3 1028 5 (.int .u8) false false]
def impl_raised.A0 : LArm := .one impl_raised.sp0 impl_raised.sp0_0 ((List Int)) (fun k x => impl_raised.l0 k x.1 x.2.2.1 x.2.2.2.1) (.exit 0) (fun y => (y, ())) (fun x => x.1)
def impl_raised.L : Nat → Option LArm := fun b => match b with
  | 0 => some impl_raised.A0
  | _ => none
theorem impl_raised.run (k : Nat) (a0 : ByteArray) : runF envX (tabC (impl_raised.C k)) (tabL 25 k impl_raised.L) Tryz.f148 [.t .str a0] (viewR1 (.t .str)) = impl_raised.F k a0 := by kernel_rfl
theorem impl_raised.step0 (k : Nat) (x3 : List Int) (x9 : Int) (x10 : Int) : runC envX (tabC (impl_raised.C k)) (tabL 25 k impl_raised.L) 0 (loopAt Tryz.f148 0) (stOf 25 impl_raised.sp0 (x3, (), x9, x10, ())) (impl_raised.A0.cont 25 k) = impl_raised.l0 (k + 1) x3 x9 x10 := by kernel_rfl
theorem impl_raised.G (hE : EnvOk Tryz.prog envX) (pv : Nat → Value) (k : Nat) : ∀ cal A, impl_raised.C k cal = some A → ArmOk Tryz.prog envX pv cal A := by
  intro cal A h
  unfold impl_raised.C at h
  split at h
  · cases h; exact fun x y hy => impl_isLetter.good hE pv x.1 hy
  · cases h; exact fun x y hy => impl_upperByte.good hE pv x.1 hy
  · cases h
theorem impl_raised.good (hE : EnvOk Tryz.prog envX) (pv : Nat → Value) (k : Nat) (a0 : ByteArray) {y : _} (h : impl_raised.F k a0 = some y) : Meets Tryz.prog envX pv (.f 148) (tvals [.str] (a0, ())) (.t .str y) :=
  fun_loops hE (t := impl_raised.C) k (fun k _ => impl_raised.G hE pv k) (f := 148) (fn := Tryz.f148) (by kernel_rfl) rfl (by kernel_rfl) (by kernel_rfl) (lt := impl_raised.L) (by kernel_rfl) (fun b A h => by
    unfold impl_raised.L at h; split at h
    · cases h; exact ⟨by kernel_rfl, by kernel_rfl, fun _ => rfl, fun _ => rfl⟩
    · cases h) (fun b A h => by
    unfold impl_raised.L at h; split at h
    · cases h; exact fun k x => impl_raised.step0 k x.1 x.2.2.1 x.2.2.2.1
    · cases h) ((impl_raised.run k a0).trans h) fun r hr => wk_view1 hr
/-! ### 101 loop.example/g00896/impl.shortWord -/
def impl_shortWord.F (k : Nat) (a0 : List Abbr) (a1 : ByteArray) : Option (ByteArray) := (impl_abbreviationOf.F k a0 a1).bind fun r1 => bif (decide (r1 < 0)) then (some a1) else (bif decide (0 ≤ 0) then (bif decide (0 < (a1.size : Int)) then ((impl_isUpper.F (bt a1 (0 : Int).toNat)).bind fun r2 => bif r2 then (bif decide (0 ≤ r1) then (bif decide (r1 < (a0.length : Int)) then ((impl_raised.F k ((a0.getD (r1 : Int).toNat (dflt .abbr)).short)).bind fun r3 => some r3) else none) else none) else (bif decide (0 ≤ r1) then (bif decide (r1 < (a0.length : Int)) then (some ((a0.getD (r1 : Int).toNat (dflt .abbr)).short)) else none) else none)) else none) else none)
def impl_shortWord.C (k : Nat) : Cal → Option CArm := fun c => match c with
  | .f 75 => some (.p [(.sl .abbr), .str] _ (fun x => impl_abbreviationOf.F k x.1 x.2.1) (fun r => (.t (.int .i64) r)))
  | .f 147 => some (.p [(.int .u8)] _ (fun x => impl_isUpper.F x.1) (fun r => (.t .bool r)))
  | .f 148 => some (.p [.str] _ (fun x => impl_raised.F k x.1) (fun r => (.t .str r)))
  | _ => none
theorem impl_shortWord.run (k : Nat) (a0 : List Abbr) (a1 : ByteArray) : runF envX (tabC (impl_shortWord.C k)) (tabL 28 0 (fun _ => none)) Tryz.f101 [.t (.sl .abbr) a0, .t .str a1] (viewR1 (.t .str)) = impl_shortWord.F k a0 a1 := by kernel_rfl
theorem impl_shortWord.G (hE : EnvOk Tryz.prog envX) (pv : Nat → Value) (k : Nat) : ∀ cal A, impl_shortWord.C k cal = some A → ArmOk Tryz.prog envX pv cal A := by
  intro cal A h
  unfold impl_shortWord.C at h
  split at h
  · cases h; exact fun x y hy => impl_abbreviationOf.good hE pv k x.1 x.2.1 hy
  · cases h; exact fun x y hy => impl_isUpper.good hE pv x.1 hy
  · cases h; exact fun x y hy => impl_raised.good hE pv k x.1 hy
  · cases h
theorem impl_shortWord.good (hE : EnvOk Tryz.prog envX) (pv : Nat → Value) (k : Nat) (a0 : List Abbr) (a1 : ByteArray) {y : _} (h : impl_shortWord.F k a0 a1 = some y) : Meets Tryz.prog envX pv (.f 101) (tvals [(.sl .abbr), .str] (a0, a1, ())) (.t .str y) :=
  fun_plain hE (impl_shortWord.G hE pv k) (f := 101) (fn := Tryz.f101) (by kernel_rfl) rfl (by kernel_rfl) (by kernel_rfl) ((impl_shortWord.run k a0 a1).trans h) fun r hr => wk_view1 hr
/-! ### 102 strings.Join -/
def strings_Join.F (a0 : List ByteArray) (a1 : ByteArray) : Option (ByteArray) := xJoin a0 a1
theorem strings_Join.good (hE : EnvOk Tryz.prog envX) (pv : Nat → Value) (a0 : List ByteArray) (a1 : ByteArray) {y : _} (h : strings_Join.F a0 a1 = some y) : Meets Tryz.prog envX pv (.f 102) (tvals [(.sl .str), .str] (a0, a1, ())) (.t .str y) :=
  ext_join (fn := Tryz.f102) (by kernel_rfl) rfl (by kernel_rfl) Tryz.strings_Join_none Tryz.strings_Join h
/-! ### 56 loop.example/g00896/impl.abbreviateTitle -/
def impl_abbreviateTitle.l0 : Nat → (List Abbr) → (List ByteArray) → Int → Int → Option ((List ByteArray))
  | 0, _, _, _, _ => none
  | k + 1, x0, x5, x15, x16 => bif (decide (x16 < x15)) then (bif decide (0 ≤ x16) then (bif decide (x16 < (x5.length : Int)) then ((impl_shortWord.F k x0 (x5.getD ((x16 : Int).toNat) (⟨#[]⟩ : ByteArray))).bind fun r2 => bif decide (0 ≤ x16) then (bif decide (x16 < (x5.length : Int)) then (impl_abbreviateTitle.l0 k x0 (x5.set ((x16 : Int).toNat) r2) x15 (IntKind.wrap .i64 (x16 + 1))) else none) else none) else none) else none) else (some x5)
def impl_abbreviateTitle.F (k : Nat) (a0 : List Abbr) (a1 : ByteArray) : Option (ByteArray) := (impl_told.F k a1).bind fun r1 => bif r1.2 then ((impl_abbreviateTitle.l0 k a0 r1.1 (r1.1.length : Int) 0).bind fun y3 => (strings_Join.F y3 (⟨#[32]⟩ : ByteArray)).bind fun r4 => some r4) else ((strings_Join.F r1.1 (⟨#[32]⟩ : ByteArray)).bind fun r5 => some r5)
def impl_abbreviateTitle.C (k : Nat) : Cal → Option CArm := fun c => match c with
  | .f 74 => some (.p [.str] _ (fun x => impl_told.F k x.1) (fun r => (.tup [.fr 9 .str r.1, .t .bool r.2])))
  | .f 101 => some (.p [(.sl .abbr), .str] _ (fun x => impl_shortWord.F k x.1 x.2.1) (fun r => (.t .str r)))
  | .f 102 => some (.p [(.sl .str), .str] _ (fun x => strings_Join.F x.1 x.2.1) (fun r => (.t .str r)))
  | _ => none
def impl_abbreviateTitle.sp0 : List Sp := [.t 0 (.sl .abbr), .own 5 1028 9 .str false true, .t 15 (.int .i64), .t 16 (.int .i64)]
def impl_abbreviateTitle.sp0_0 : List Sp := [.own 5 1028 9 .str false true]
def impl_abbreviateTitle.A0 : LArm := .one impl_abbreviateTitle.sp0 impl_abbreviateTitle.sp0_0 ((List ByteArray)) (fun k x => impl_abbreviateTitle.l0 k x.1 x.2.1 x.2.2.1 x.2.2.2.1) (.exit 0) (fun y => (y, ())) (fun x => x.1)
def impl_abbreviateTitle.L : Nat → Option LArm := fun b => match b with
  | 0 => some impl_abbreviateTitle.A0
  | _ => none
theorem impl_abbreviateTitle.run (k : Nat) (a0 : List Abbr) (a1 : ByteArray) : runF envX (tabC (impl_abbreviateTitle.C k)) (tabL 31 k impl_abbreviateTitle.L) Tryz.f56 [.t (.sl .abbr) a0, .t .str a1] (viewR1 (.t .str)) = impl_abbreviateTitle.F k a0 a1 := by kernel_rfl
theorem impl_abbreviateTitle.step0 (k : Nat) (x0 : List Abbr) (x5 : List ByteArray) (x15 : Int) (x16 : Int) : runC envX (tabC (impl_abbreviateTitle.C k)) (tabL 31 k impl_abbreviateTitle.L) 0 (loopAt Tryz.f56 0) (stOf 31 impl_abbreviateTitle.sp0 (x0, x5, x15, x16, ())) (impl_abbreviateTitle.A0.cont 31 k) = impl_abbreviateTitle.l0 (k + 1) x0 x5 x15 x16 := by kernel_rfl
theorem impl_abbreviateTitle.G (hE : EnvOk Tryz.prog envX) (pv : Nat → Value) (k : Nat) : ∀ cal A, impl_abbreviateTitle.C k cal = some A → ArmOk Tryz.prog envX pv cal A := by
  intro cal A h
  unfold impl_abbreviateTitle.C at h
  split at h
  · cases h; exact fun x y hy => impl_told.good hE pv k x.1 hy
  · cases h; exact fun x y hy => impl_shortWord.good hE pv k x.1 x.2.1 hy
  · cases h; exact fun x y hy => strings_Join.good hE pv x.1 x.2.1 hy
  · cases h
theorem impl_abbreviateTitle.good (hE : EnvOk Tryz.prog envX) (pv : Nat → Value) (k : Nat) (a0 : List Abbr) (a1 : ByteArray) {y : _} (h : impl_abbreviateTitle.F k a0 a1 = some y) : Meets Tryz.prog envX pv (.f 56) (tvals [(.sl .abbr), .str] (a0, a1, ())) (.t .str y) :=
  fun_loops hE (t := impl_abbreviateTitle.C) k (fun k _ => impl_abbreviateTitle.G hE pv k) (f := 56) (fn := Tryz.f56) (by kernel_rfl) rfl (by kernel_rfl) (by kernel_rfl) (lt := impl_abbreviateTitle.L) (by kernel_rfl) (fun b A h => by
    unfold impl_abbreviateTitle.L at h; split at h
    · cases h; exact ⟨by kernel_rfl, by kernel_rfl, fun _ => rfl, fun _ => rfl⟩
    · cases h) (fun b A h => by
    unfold impl_abbreviateTitle.L at h; split at h
    · cases h; exact fun k x => impl_abbreviateTitle.step0 k x.1 x.2.1 x.2.2.1 x.2.2.2.1
    · cases h) ((impl_abbreviateTitle.run k a0 a1).trans h) fun r hr => wk_view1 hr
-- NO 58 loop.example/g00896/impl.DistinctTitles$1: load from tup
/-! ### 58 loop.example/g00896/impl.DistinctTitles$1 at what it captured -/
def impl_DistinctTitles_1.F (k : Nat) (a0 : ByteArray) (a1 : ByteArray) (a2 : List Abbr) (a3 : ByteArray) : Option (Bool) := bif (!beqS a0 a1) then ((impl_abbreviateTitle.F k a2 a0).bind fun r1 => some (beqS r1 a3)) else (some false)
def impl_DistinctTitles_1.C (k : Nat) : Cal → Option CArm := fun c => match c with
  | .f 56 => some (.p [(.sl .abbr), .str] _ (fun x => impl_abbreviateTitle.F k x.1 x.2.1) (fun r => (.t .str r)))
  | _ => none
theorem impl_DistinctTitles_1.run (k : Nat) (a0 : ByteArray) (a1 : ByteArray) (a2 : List Abbr) (a3 : ByteArray) : runF envX (tabC (impl_DistinctTitles_1.C k)) (tabL 16 0 (fun _ => none)) Tryz.f58 [.t .str a0, .tp (.t .str a1), .tp (.t (.sl .abbr) a2), .tp (.t .str a3)] (viewR1 (.t .bool)) = impl_DistinctTitles_1.F k a0 a1 a2 a3 := by kernel_rfl
theorem impl_DistinctTitles_1.G (hE : EnvOk Tryz.prog envX) (pv : Nat → Value) (k : Nat) : ∀ cal A, impl_DistinctTitles_1.C k cal = some A → ArmOk Tryz.prog envX pv cal A := by
  intro cal A h
  unfold impl_DistinctTitles_1.C at h
  split at h
  · cases h; exact fun x y hy => impl_abbreviateTitle.good hE pv k x.1 x.2.1 hy
  · cases h
theorem impl_DistinctTitles_1.good (hE : EnvOk Tryz.prog envX) (pv : Nat → Value) (k : Nat) (a0 : ByteArray) (a1 : ByteArray) (a2 : List Abbr) (a3 : ByteArray) {y : _} (h : impl_DistinctTitles_1.F k a0 a1 a2 a3 = some y) : Meets Tryz.prog envX pv (.f 58) (pvals [.t .str, .tp .str, .tp (.sl .abbr), .tp .str] (a0, a1, a2, a3, ())) (.t .bool y) :=
  fun_plain hE (impl_DistinctTitles_1.G hE pv k) (f := 58) (fn := Tryz.f58) (by kernel_rfl) rfl (by kernel_rfl) (by kernel_rfl) ((impl_DistinctTitles_1.run k a0 a1 a2 a3).trans h) fun r hr => wk_view1 hr
/-! ### 103 slices.IndexFunc[[]string,string] at loop.example/g00896/impl.DistinctTitles$1 -/
def slices_IndexFunc_string_f58.l0 : Nat → (List ByteArray) → ByteArray → (List Abbr) → ByteArray → Int → Int → Option (Sum Int Unit)
  | 0, _, _, _, _, _, _ => none
  | k + 1, x0, x1_0, x1_1, x1_2, x7, x8 => bif (decide (x8 < x7)) then (bif decide (0 ≤ x8) then (bif decide (x8 < (x0.length : Int)) then ((impl_DistinctTitles_1.F k (x0.getD (x8 : Int).toNat (⟨#[]⟩ : ByteArray)) x1_0 x1_1 x1_2).bind fun r1 => bif r1 then (some (.inl x8)) else (slices_IndexFunc_string_f58.l0 k x0 x1_0 x1_1 x1_2 x7 (IntKind.wrap .i64 (x8 + 1)))) else none) else none) else (some (.inr ()))
def slices_IndexFunc_string_f58.F (k : Nat) (a0 : List ByteArray) (a1c0 : ByteArray) (a1c1 : List Abbr) (a1c2 : ByteArray) : Option (Int) := (slices_IndexFunc_string_f58.l0 k a0 a1c0 a1c1 a1c2 (a0.length : Int) 0).bind fun y2 => match y2 with | .inl z3 => some z3 | .inr z3 => some (-1)
def slices_IndexFunc_string_f58.C (k : Nat) : Cal → Option CArm := fun c => match c with
  | .f 58 => some (.q [.t .str, .tp .str, .tp (.sl .abbr), .tp .str] _ (fun x => impl_DistinctTitles_1.F k x.1 x.2.1 x.2.2.1 x.2.2.2.1) (fun r => (.t .bool r)))
  | _ => none
def slices_IndexFunc_string_f58.sp0 : List Sp := [.t 0 (.sl .str), .cl 1 58 [.tp .str, .tp (.sl .abbr), .tp .str], .t 7 (.int .i64), .t 8 (.int .i64)]
def slices_IndexFunc_string_f58.sp0_0 : List Sp := [.t 4 (.int .i64)]
def slices_IndexFunc_string_f58.sp0_1 : List Sp := []
def slices_IndexFunc_string_f58.A0 : LArm := .two slices_IndexFunc_string_f58.sp0 slices_IndexFunc_string_f58.sp0_0 slices_IndexFunc_string_f58.sp0_1 (Int) (Unit) (fun k x => slices_IndexFunc_string_f58.l0 k x.1 x.2.1.1 x.2.1.2.1 x.2.1.2.2.1 x.2.2.1 x.2.2.2.1) .ret (.exit 0) (fun y => (y, ())) (fun x => x.1) (fun y => ()) (fun x => ())
def slices_IndexFunc_string_f58.L : Nat → Option LArm := fun b => match b with
  | 0 => some slices_IndexFunc_string_f58.A0
  | _ => none
theorem slices_IndexFunc_string_f58.run (k : Nat) (a0 : List ByteArray) (a1c0 : ByteArray) (a1c1 : List Abbr) (a1c2 : ByteArray) : runF envX (tabC (slices_IndexFunc_string_f58.C k)) (tabL 19 k slices_IndexFunc_string_f58.L) Tryz.f103 [.t (.sl .str) a0, .clo 58 [.tp (.t .str a1c0), .tp (.t (.sl .abbr) a1c1), .tp (.t .str a1c2)]] (viewR1 (.t (.int .i64))) = slices_IndexFunc_string_f58.F k a0 a1c0 a1c1 a1c2 := by kernel_rfl
theorem slices_IndexFunc_string_f58.step0 (k : Nat) (x0 : List ByteArray) (x1_0 : ByteArray) (x1_1 : List Abbr) (x1_2 : ByteArray) (x7 : Int) (x8 : Int) : runC envX (tabC (slices_IndexFunc_string_f58.C k)) (tabL 19 k slices_IndexFunc_string_f58.L) 0 (loopAt Tryz.f103 0) (stOf 19 slices_IndexFunc_string_f58.sp0 (x0, (x1_0, x1_1, x1_2, ()), x7, x8, ())) (slices_IndexFunc_string_f58.A0.cont 19 k) = slices_IndexFunc_string_f58.l0 (k + 1) x0 x1_0 x1_1 x1_2 x7 x8 := by kernel_rfl
theorem slices_IndexFunc_string_f58.G (hE : EnvOk Tryz.prog envX) (pv : Nat → Value) (k : Nat) : ∀ cal A, slices_IndexFunc_string_f58.C k cal = some A → ArmOk Tryz.prog envX pv cal A := by
  intro cal A h
  unfold slices_IndexFunc_string_f58.C at h
  split at h
  · cases h; exact fun x y hy => impl_DistinctTitles_1.good hE pv k x.1 x.2.1 x.2.2.1 x.2.2.2.1 hy
  · cases h
theorem slices_IndexFunc_string_f58.good (hE : EnvOk Tryz.prog envX) (pv : Nat → Value) (k : Nat) (a0 : List ByteArray) (a1c0 : ByteArray) (a1c1 : List Abbr) (a1c2 : ByteArray) {y : _} (h : slices_IndexFunc_string_f58.F k a0 a1c0 a1c1 a1c2 = some y) : Meets Tryz.prog envX pv (.f 103) (pvals [.t (.sl .str), .clo 58 [.tp .str, .tp (.sl .abbr), .tp .str]] (a0, (a1c0, a1c1, a1c2, ()), ())) (.t (.int .i64) y) :=
  fun_loops hE (t := slices_IndexFunc_string_f58.C) k (fun k _ => slices_IndexFunc_string_f58.G hE pv k) (f := 103) (fn := Tryz.f103) (by kernel_rfl) rfl (by kernel_rfl) (by kernel_rfl) (lt := slices_IndexFunc_string_f58.L) (by kernel_rfl) (fun b A h => by
    unfold slices_IndexFunc_string_f58.L at h; split at h
    · cases h; exact ⟨by kernel_rfl, by kernel_rfl, by kernel_rfl, fun _ => rfl, fun _ => rfl, fun _ => rfl⟩
    · cases h) (fun b A h => by
    unfold slices_IndexFunc_string_f58.L at h; split at h
    · cases h; exact fun k x => slices_IndexFunc_string_f58.step0 k x.1 x.2.1.1 x.2.1.2.1 x.2.1.2.2.1 x.2.2.1 x.2.2.2.1
    · cases h) ((slices_IndexFunc_string_f58.run k a0 a1c0 a1c1 a1c2).trans h) fun r hr => wk_view1 hr
/-! ### 57 slices.ContainsFunc[[]string,string] at loop.example/g00896/impl.DistinctTitles$1 -/
def slices_ContainsFunc_string_f58.F (k : Nat) (a0 : List ByteArray) (a1c0 : ByteArray) (a1c1 : List Abbr) (a1c2 : ByteArray) : Option (Bool) := (slices_IndexFunc_string_f58.F k a0 a1c0 a1c1 a1c2).bind fun r1 => some (decide (r1 ≥ 0))
def slices_ContainsFunc_string_f58.C (k : Nat) : Cal → Option CArm := fun c => match c with
  | .f 103 => some (.q [.t (.sl .str), .clo 58 [.tp .str, .tp (.sl .abbr), .tp .str]] _ (fun x => slices_IndexFunc_string_f58.F k x.1 x.2.1.1 x.2.1.2.1 x.2.1.2.2.1) (fun r => (.t (.int .i64) r)))
  | _ => none
theorem slices_ContainsFunc_string_f58.run (k : Nat) (a0 : List ByteArray) (a1c0 : ByteArray) (a1c1 : List Abbr) (a1c2 : ByteArray) : runF envX (tabC (slices_ContainsFunc_string_f58.C k)) (tabL 9 0 (fun _ => none)) Tryz.f57 [.t (.sl .str) a0, .clo 58 [.tp (.t .str a1c0), .tp (.t (.sl .abbr) a1c1), .tp (.t .str a1c2)]] (viewR1 (.t .bool)) = slices_ContainsFunc_string_f58.F k a0 a1c0 a1c1 a1c2 := by kernel_rfl
theorem slices_ContainsFunc_string_f58.G (hE : EnvOk Tryz.prog envX) (pv : Nat → Value) (k : Nat) : ∀ cal A, slices_ContainsFunc_string_f58.C k cal = some A → ArmOk Tryz.prog envX pv cal A := by
  intro cal A h
  unfold slices_ContainsFunc_string_f58.C at h
  split at h
  · cases h; exact fun x y hy => slices_IndexFunc_string_f58.good hE pv k x.1 x.2.1.1 x.2.1.2.1 x.2.1.2.2.1 hy
  · cases h
theorem slices_ContainsFunc_string_f58.good (hE : EnvOk Tryz.prog envX) (pv : Nat → Value) (k : Nat) (a0 : List ByteArray) (a1c0 : ByteArray) (a1c1 : List Abbr) (a1c2 : ByteArray) {y : _} (h : slices_ContainsFunc_string_f58.F k a0 a1c0 a1c1 a1c2 = some y) : Meets Tryz.prog envX pv (.f 57) (pvals [.t (.sl .str), .clo 58 [.tp .str, .tp (.sl .abbr), .tp .str]] (a0, (a1c0, a1c1, a1c2, ()), ())) (.t .bool y) :=
  fun_plain hE (slices_ContainsFunc_string_f58.G hE pv k) (f := 57) (fn := Tryz.f57) (by kernel_rfl) rfl (by kernel_rfl) (by kernel_rfl) ((slices_ContainsFunc_string_f58.run k a0 a1c0 a1c1 a1c2).trans h) fun r hr => wk_view1 hr
/-! ### 15 loop.example/g00896/impl.DistinctTitles -/
def impl_DistinctTitles.l0 : Nat → (List ByteArray) → (List Abbr) → (List ByteArray) → (List ByteArray) → Int → Int → Option ((List ByteArray))
  | 0, _, _, _, _, _, _ => none
  | k + 1, x1, x2, x6, x15, x16, x17 => bif (decide (x17 < x16)) then (bif decide (0 ≤ x17) then (bif decide (x17 < (x15.length : Int)) then ((impl_abbreviateTitle.F k x2 (x15.getD (x17 : Int).toNat (⟨#[]⟩ : ByteArray))).bind fun r2 => (slices_ContainsFunc_string_f58.F k x1 (x15.getD (x17 : Int).toNat (⟨#[]⟩ : ByteArray)) x2 r2).bind fun r3 => bif r3 then (bif room (x6.length + ([(x15.getD (x17 : Int).toNat (⟨#[]⟩ : ByteArray))] : List ByteArray).length) .str then (impl_DistinctTitles.l0 k x1 x2 (x6 ++ ([(x15.getD (x17 : Int).toNat (⟨#[]⟩ : ByteArray))] : List ByteArray)) x15 x16 (IntKind.wrap .i64 (x17 + 1))) else none) else (bif room (x6.length + ([r2] : List ByteArray).length) .str then (impl_DistinctTitles.l0 k x1 x2 (x6 ++ ([r2] : List ByteArray)) x15 x16 (IntKind.wrap .i64 (x17 + 1))) else none)) else none) else none) else (some x6)
def impl_DistinctTitles.F (k : Nat) (a0 : List Abbr) (a1 : List ByteArray) : Option ((List ByteArray) × Bool) := (impl_areTitles.F k a0 a1).bind fun r1 => bif (!r1) then (some ([], false)) else ((impl_DistinctTitles.l0 k a1 a0 ([] : List ByteArray) a1 (a1.length : Int) 0).bind fun y4 => some (y4, true))
def impl_DistinctTitles.C (k : Nat) : Cal → Option CArm := fun c => match c with
  | .f 55 => some (.p [(.sl .abbr), (.sl .str)] _ (fun x => impl_areTitles.F k x.1 x.2.1) (fun r => (.t .bool r)))
  | .f 56 => some (.p [(.sl .abbr), .str] _ (fun x => impl_abbreviateTitle.F k x.1 x.2.1) (fun r => (.t .str r)))
  | .f 57 => some (.q [.t (.sl .str), .clo 58 [.tp .str, .tp (.sl .abbr), .tp .str]] _ (fun x => slices_ContainsFunc_string_f58.F k x.1 x.2.1.1 x.2.1.2.1 x.2.1.2.2.1) (fun r => (.t .bool r)))
  | _ => none
def impl_DistinctTitles.sp0 : List Sp := [.t 1 (.sl .str), .boxT 2 0 (.sl .abbr), .own 6 3072 9 .str false true, .t 15 (.sl .str), .t 16 (.int .i64), .t 17 (.int .i64)]
def impl_DistinctTitles.sp0_0 : List Sp := [.own 6 3072 9 .str false true]
def impl_DistinctTitles.A0 : LArm := .one impl_DistinctTitles.sp0 impl_DistinctTitles.sp0_0 ((List ByteArray)) (fun k x => impl_DistinctTitles.l0 k x.1 x.2.1 x.2.2.1 x.2.2.2.1 x.2.2.2.2.1 x.2.2.2.2.2.1) (.exit 0) (fun y => (y, ())) (fun x => x.1)
def impl_DistinctTitles.L : Nat → Option LArm := fun b => match b with
  | 0 => some impl_DistinctTitles.A0
  | _ => none
theorem impl_DistinctTitles.run (k : Nat) (a0 : List Abbr) (a1 : List ByteArray) : runF envX (tabC (impl_DistinctTitles.C k)) (tabL 34 k impl_DistinctTitles.L) Tryz.f15 [.t (.sl .abbr) a0, .t (.sl .str) a1] (viewR2 (.fr 9 .str) (.t .bool)) = impl_DistinctTitles.F k a0 a1 := by kernel_rfl
theorem impl_DistinctTitles.step0 (k : Nat) (x1 : List ByteArray) (x2 : List Abbr) (x6 : List ByteArray) (x15 : List ByteArray) (x16 : Int) (x17 : Int) : runC envX (tabC (impl_DistinctTitles.C k)) (tabL 34 k impl_DistinctTitles.L) 0 (loopAt Tryz.f15 0) (stOf 34 impl_DistinctTitles.sp0 (x1, x2, x6, x15, x16, x17, ())) (impl_DistinctTitles.A0.cont 34 k) = impl_DistinctTitles.l0 (k + 1) x1 x2 x6 x15 x16 x17 := by kernel_rfl
theorem impl_DistinctTitles.G (hE : EnvOk Tryz.prog envX) (pv : Nat → Value) (k : Nat) : ∀ cal A, impl_DistinctTitles.C k cal = some A → ArmOk Tryz.prog envX pv cal A := by
  intro cal A h
  unfold impl_DistinctTitles.C at h
  split at h
  · cases h; exact fun x y hy => impl_areTitles.good hE pv k x.1 x.2.1 hy
  · cases h; exact fun x y hy => impl_abbreviateTitle.good hE pv k x.1 x.2.1 hy
  · cases h; exact fun x y hy => slices_ContainsFunc_string_f58.good hE pv k x.1 x.2.1.1 x.2.1.2.1 x.2.1.2.2.1 hy
  · cases h
theorem impl_DistinctTitles.good (hE : EnvOk Tryz.prog envX) (pv : Nat → Value) (k : Nat) (a0 : List Abbr) (a1 : List ByteArray) {y : _} (h : impl_DistinctTitles.F k a0 a1 = some y) : Meets Tryz.prog envX pv (.f 15) (tvals [(.sl .abbr), (.sl .str)] (a0, a1, ())) (.tup [.fr 9 .str y.1, .t .bool y.2]) :=
  fun_loops hE (t := impl_DistinctTitles.C) k (fun k _ => impl_DistinctTitles.G hE pv k) (f := 15) (fn := Tryz.f15) (by kernel_rfl) rfl (by kernel_rfl) (by kernel_rfl) (lt := impl_DistinctTitles.L) (by kernel_rfl) (fun b A h => by
    unfold impl_DistinctTitles.L at h; split at h
    · cases h; exact ⟨by kernel_rfl, by kernel_rfl, fun _ => rfl, fun _ => rfl⟩
    · cases h) (fun b A h => by
    unfold impl_DistinctTitles.L at h; split at h
    · cases h; exact fun k x => impl_DistinctTitles.step0 k x.1 x.2.1 x.2.2.1 x.2.2.2.1 x.2.2.2.2.1 x.2.2.2.2.2.1
    · cases h) ((impl_DistinctTitles.run k a0 a1).trans h) fun r hr => wk_view2 hr
/-! ### 16 loop.example/g00896/laws.eqStringS -/
def laws_eqStringS.l0 : Nat → (List ByteArray) → (List ByteArray) → Int → Option (Sum Bool Unit)
  | 0, _, _, _ => none
  | k + 1, x0, x1, x5 => bif (decide (x5 < (x0.length : Int))) then (bif decide (0 ≤ x5) then (bif decide (x5 < (x0.length : Int)) then (bif decide (0 ≤ x5) then (bif decide (x5 < (x1.length : Int)) then (bif (!beqS (x0.getD (x5 : Int).toNat (⟨#[]⟩ : ByteArray)) (x1.getD (x5 : Int).toNat (⟨#[]⟩ : ByteArray))) then (some (.inl false)) else (laws_eqStringS.l0 k x0 x1 (IntKind.wrap .i64 (x5 + 1)))) else none) else none) else none) else none) else (some (.inr ()))
def laws_eqStringS.F (k : Nat) (a0 : List ByteArray) (a1 : List ByteArray) : Option (Bool) := bif ((a0.length : Int) != (a1.length : Int)) then (some false) else ((laws_eqStringS.l0 k a0 a1 0).bind fun y1 => match y1 with | .inl z2 => some z2 | .inr z2 => some true)
def laws_eqStringS.C (k : Nat) : Cal → Option CArm := fun c => match c with
  | _ => none
def laws_eqStringS.sp0 : List Sp := [.t 0 (.sl .str), .t 1 (.sl .str), .t 5 (.int .i64)]
def laws_eqStringS.sp0_0 : List Sp := [.t 4 .bool]
def laws_eqStringS.sp0_1 : List Sp := []
def laws_eqStringS.A0 : LArm := .two laws_eqStringS.sp0 laws_eqStringS.sp0_0 laws_eqStringS.sp0_1 (Bool) (Unit) (fun k x => laws_eqStringS.l0 k x.1 x.2.1 x.2.2.1) .ret (.exit 0) (fun y => (y, ())) (fun x => x.1) (fun y => ()) (fun x => ())
def laws_eqStringS.L : Nat → Option LArm := fun b => match b with
  | 0 => some laws_eqStringS.A0
  | _ => none
theorem laws_eqStringS.run (k : Nat) (a0 : List ByteArray) (a1 : List ByteArray) : runF envX (tabC (laws_eqStringS.C k)) (tabL 26 k laws_eqStringS.L) Tryz.f16 [.t (.sl .str) a0, .t (.sl .str) a1] (viewR1 (.t .bool)) = laws_eqStringS.F k a0 a1 := by kernel_rfl
theorem laws_eqStringS.step0 (k : Nat) (x0 : List ByteArray) (x1 : List ByteArray) (x5 : Int) : runC envX (tabC (laws_eqStringS.C k)) (tabL 26 k laws_eqStringS.L) 0 (loopAt Tryz.f16 0) (stOf 26 laws_eqStringS.sp0 (x0, x1, x5, ())) (laws_eqStringS.A0.cont 26 k) = laws_eqStringS.l0 (k + 1) x0 x1 x5 := by kernel_rfl
theorem laws_eqStringS.G (hE : EnvOk Tryz.prog envX) (pv : Nat → Value) (k : Nat) : ∀ cal A, laws_eqStringS.C k cal = some A → ArmOk Tryz.prog envX pv cal A := by
  intro cal A h
  unfold laws_eqStringS.C at h
  cases h
theorem laws_eqStringS.good (hE : EnvOk Tryz.prog envX) (pv : Nat → Value) (k : Nat) (a0 : List ByteArray) (a1 : List ByteArray) {y : _} (h : laws_eqStringS.F k a0 a1 = some y) : Meets Tryz.prog envX pv (.f 16) (tvals [(.sl .str), (.sl .str)] (a0, a1, ())) (.t .bool y) :=
  fun_loops hE (t := laws_eqStringS.C) k (fun k _ => laws_eqStringS.G hE pv k) (f := 16) (fn := Tryz.f16) (by kernel_rfl) rfl (by kernel_rfl) (by kernel_rfl) (lt := laws_eqStringS.L) (by kernel_rfl) (fun b A h => by
    unfold laws_eqStringS.L at h; split at h
    · cases h; exact ⟨by kernel_rfl, by kernel_rfl, by kernel_rfl, fun _ => rfl, fun _ => rfl, fun _ => rfl⟩
    · cases h) (fun b A h => by
    unfold laws_eqStringS.L at h; split at h
    · cases h; exact fun k x => laws_eqStringS.step0 k x.1 x.2.1 x.2.2.1
    · cases h) ((laws_eqStringS.run k a0 a1).trans h) fun r hr => wk_view1 hr
/-! ### 59 loop.example/g00896/laws.eqAbbreviation -/
def laws_eqAbbreviation.F (a0 : Abbr) (a1 : Abbr) : Option (Bool) := bif (!beqS a0.word a1.word) then (some false) else (bif (!beqS a0.short a1.short) then (some false) else (some true))
def laws_eqAbbreviation.C : Cal → Option CArm := fun c => match c with
  | _ => none
theorem laws_eqAbbreviation.run (a0 : Abbr) (a1 : Abbr) : runF envX (tabC laws_eqAbbreviation.C) (tabL 15 0 (fun _ => none)) Tryz.f59 [.t .abbr a0, .t .abbr a1] (viewR1 (.t .bool)) = laws_eqAbbreviation.F a0 a1 := by kernel_rfl
theorem laws_eqAbbreviation.G (hE : EnvOk Tryz.prog envX) (pv : Nat → Value) : ∀ cal A, laws_eqAbbreviation.C cal = some A → ArmOk Tryz.prog envX pv cal A := by
  intro cal A h
  unfold laws_eqAbbreviation.C at h
  cases h
theorem laws_eqAbbreviation.good (hE : EnvOk Tryz.prog envX) (pv : Nat → Value) (a0 : Abbr) (a1 : Abbr) {y : _} (h : laws_eqAbbreviation.F a0 a1 = some y) : Meets Tryz.prog envX pv (.f 59) (tvals [.abbr, .abbr] (a0, a1, ())) (.t .bool y) :=
  fun_plain hE (laws_eqAbbreviation.G hE pv) (f := 59) (fn := Tryz.f59) (by kernel_rfl) rfl (by kernel_rfl) (by kernel_rfl) ((laws_eqAbbreviation.run a0 a1).trans h) fun r hr => wk_view1 hr
/-! ### 17 loop.example/g00896/laws.eqAbbreviationS -/
def laws_eqAbbreviationS.l0 : Nat → (List Abbr) → (List Abbr) → Int → Option (Sum Bool Unit)
  | 0, _, _, _ => none
  | k + 1, x0, x1, x5 => bif (decide (x5 < (x0.length : Int))) then (bif decide (0 ≤ x5) then (bif decide (x5 < (x0.length : Int)) then (bif decide (0 ≤ x5) then (bif decide (x5 < (x1.length : Int)) then ((laws_eqAbbreviation.F (x0.getD (x5 : Int).toNat (dflt .abbr)) (x1.getD (x5 : Int).toNat (dflt .abbr))).bind fun r1 => bif (!r1) then (some (.inl false)) else (laws_eqAbbreviationS.l0 k x0 x1 (IntKind.wrap .i64 (x5 + 1)))) else none) else none) else none) else none) else (some (.inr ()))
def laws_eqAbbreviationS.F (k : Nat) (a0 : List Abbr) (a1 : List Abbr) : Option (Bool) := bif ((a0.length : Int) != (a1.length : Int)) then (some false) else ((laws_eqAbbreviationS.l0 k a0 a1 0).bind fun y2 => match y2 with | .inl z3 => some z3 | .inr z3 => some true)
def laws_eqAbbreviationS.C (k : Nat) : Cal → Option CArm := fun c => match c with
  | .f 59 => some (.p [.abbr, .abbr] _ (fun x => laws_eqAbbreviation.F x.1 x.2.1) (fun r => (.t .bool r)))
  | _ => none
def laws_eqAbbreviationS.sp0 : List Sp := [.t 0 (.sl .abbr), .t 1 (.sl .abbr), .t 5 (.int .i64)]
def laws_eqAbbreviationS.sp0_0 : List Sp := [.t 4 .bool]
def laws_eqAbbreviationS.sp0_1 : List Sp := []
def laws_eqAbbreviationS.A0 : LArm := .two laws_eqAbbreviationS.sp0 laws_eqAbbreviationS.sp0_0 laws_eqAbbreviationS.sp0_1 (Bool) (Unit) (fun k x => laws_eqAbbreviationS.l0 k x.1 x.2.1 x.2.2.1) .ret (.exit 0) (fun y => (y, ())) (fun x => x.1) (fun y => ()) (fun x => ())
def laws_eqAbbreviationS.L : Nat → Option LArm := fun b => match b with
  | 0 => some laws_eqAbbreviationS.A0
  | _ => none
theorem laws_eqAbbreviationS.run (k : Nat) (a0 : List Abbr) (a1 : List Abbr) : runF envX (tabC (laws_eqAbbreviationS.C k)) (tabL 27 k laws_eqAbbreviationS.L) Tryz.f17 [.t (.sl .abbr) a0, .t (.sl .abbr) a1] (viewR1 (.t .bool)) = laws_eqAbbreviationS.F k a0 a1 := by kernel_rfl
theorem laws_eqAbbreviationS.step0 (k : Nat) (x0 : List Abbr) (x1 : List Abbr) (x5 : Int) : runC envX (tabC (laws_eqAbbreviationS.C k)) (tabL 27 k laws_eqAbbreviationS.L) 0 (loopAt Tryz.f17 0) (stOf 27 laws_eqAbbreviationS.sp0 (x0, x1, x5, ())) (laws_eqAbbreviationS.A0.cont 27 k) = laws_eqAbbreviationS.l0 (k + 1) x0 x1 x5 := by kernel_rfl
theorem laws_eqAbbreviationS.G (hE : EnvOk Tryz.prog envX) (pv : Nat → Value) (k : Nat) : ∀ cal A, laws_eqAbbreviationS.C k cal = some A → ArmOk Tryz.prog envX pv cal A := by
  intro cal A h
  unfold laws_eqAbbreviationS.C at h
  split at h
  · cases h; exact fun x y hy => laws_eqAbbreviation.good hE pv x.1 x.2.1 hy
  · cases h
theorem laws_eqAbbreviationS.good (hE : EnvOk Tryz.prog envX) (pv : Nat → Value) (k : Nat) (a0 : List Abbr) (a1 : List Abbr) {y : _} (h : laws_eqAbbreviationS.F k a0 a1 = some y) : Meets Tryz.prog envX pv (.f 17) (tvals [(.sl .abbr), (.sl .abbr)] (a0, a1, ())) (.t .bool y) :=
  fun_loops hE (t := laws_eqAbbreviationS.C) k (fun k _ => laws_eqAbbreviationS.G hE pv k) (f := 17) (fn := Tryz.f17) (by kernel_rfl) rfl (by kernel_rfl) (by kernel_rfl) (lt := laws_eqAbbreviationS.L) (by kernel_rfl) (fun b A h => by
    unfold laws_eqAbbreviationS.L at h; split at h
    · cases h; exact ⟨by kernel_rfl, by kernel_rfl, by kernel_rfl, fun _ => rfl, fun _ => rfl, fun _ => rfl⟩
    · cases h) (fun b A h => by
    unfold laws_eqAbbreviationS.L at h; split at h
    · cases h; exact fun k x => laws_eqAbbreviationS.step0 k x.1 x.2.1 x.2.2.1
    · cases h) ((laws_eqAbbreviationS.run k a0 a1).trans h) fun r hr => wk_view1 hr
/-! ### 60 loop.example/g00896/laws.markText -/
def laws_markText.l0 : Nat → Int → ByteArray → Option (ByteArray)
  | 0, _, _ => none
  | k + 1, x0, x3 => bif (decide (x0 > 0)) then (bif (10 == 0) then (none) else (bif Nat.ble ((strL ([(IntKind.wrap .u8 (IntKind.wrap .i64 (48 + (Int.tmod x0 10))))] : List Int)).size + x3.size) 9223372036854775807 then (bif (10 == 0) then (none) else (laws_markText.l0 k (IntKind.wrap .i64 (Int.tdiv x0 10)) ((strL ([(IntKind.wrap .u8 (IntKind.wrap .i64 (48 + (Int.tmod x0 10))))] : List Int)) ++ x3))) else none)) else (some x3)
def laws_markText.F (k : Nat) (a0 : Int) : Option (ByteArray) := bif (decide (a0 ≤ 0)) then (some (⟨#[109, 48]⟩ : ByteArray)) else ((laws_markText.l0 k a0 (⟨#[]⟩ : ByteArray)).bind fun y1 => bif Nat.ble ((⟨#[109]⟩ : ByteArray).size + y1.size) 9223372036854775807 then (some ((⟨#[109]⟩ : ByteArray) ++ y1)) else none)
def laws_markText.C (k : Nat) : Cal → Option CArm := fun c => match c with
  | _ => none
def laws_markText.sp0 : List Sp := [.t 0 (.int .i64), .t 3 .str]
def laws_markText.sp0_0 : List Sp := [.t 3 .str]
def laws_markText.A0 : LArm := .one laws_markText.sp0 laws_markText.sp0_0 (ByteArray) (fun k x => laws_markText.l0 k x.1 x.2.1) (.exit 0) (fun y => (y, ())) (fun x => x.1)
def laws_markText.L : Nat → Option LArm := fun b => match b with
  | 0 => some laws_markText.A0
  | _ => none
theorem laws_markText.run (k : Nat) (a0 : Int) : runF envX (tabC (laws_markText.C k)) (tabL 20 k laws_markText.L) Tryz.f60 [.t (.int .i64) a0] (viewR1 (.t .str)) = laws_markText.F k a0 := by kernel_rfl
theorem laws_markText.step0 (k : Nat) (x0 : Int) (x3 : ByteArray) : runC envX (tabC (laws_markText.C k)) (tabL 20 k laws_markText.L) 0 (loopAt Tryz.f60 0) (stOf 20 laws_markText.sp0 (x0, x3, ())) (laws_markText.A0.cont 20 k) = laws_markText.l0 (k + 1) x0 x3 := by kernel_rfl
theorem laws_markText.G (hE : EnvOk Tryz.prog envX) (pv : Nat → Value) (k : Nat) : ∀ cal A, laws_markText.C k cal = some A → ArmOk Tryz.prog envX pv cal A := by
  intro cal A h
  unfold laws_markText.C at h
  cases h
theorem laws_markText.good (hE : EnvOk Tryz.prog envX) (pv : Nat → Value) (k : Nat) (a0 : Int) {y : _} (h : laws_markText.F k a0 = some y) : Meets Tryz.prog envX pv (.f 60) (tvals [(.int .i64)] (a0, ())) (.t .str y) :=
  fun_loops hE (t := laws_markText.C) k (fun k _ => laws_markText.G hE pv k) (f := 60) (fn := Tryz.f60) (by kernel_rfl) rfl (by kernel_rfl) (by kernel_rfl) (lt := laws_markText.L) (by kernel_rfl) (fun b A h => by
    unfold laws_markText.L at h; split at h
    · cases h; exact ⟨by kernel_rfl, by kernel_rfl, fun _ => rfl, fun _ => rfl⟩
    · cases h) (fun b A h => by
    unfold laws_markText.L at h; split at h
    · cases h; exact fun k x => laws_markText.step0 k x.1 x.2.1
    · cases h) ((laws_markText.run k a0).trans h) fun r hr => wk_view1 hr
/-! ### 18 loop.example/g00896/laws.markAbbreviationS -/
def laws_markAbbreviationS.l0 : Nat → (List Abbr) → Int → Int → Option ((List Abbr) × Int)
  | 0, _, _, _ => none
  | k + 1, x0, x1, x5 => bif (decide (x5 < (x0.length : Int))) then ((laws_markText.F k x1).bind fun r1 => bif decide (0 ≤ x5) then (bif decide (x5 < (x0.length : Int)) then ((laws_markText.F k (IntKind.wrap .i64 (x1 + 1))).bind fun r2 => bif decide (0 ≤ x5) then (bif decide (x5 < ((x0.set ((x5 : Int).toNat) (⟨r1, (x0.getD ((x5 : Int).toNat) (dflt .abbr)).short⟩ : Abbr)).length : Int)) then (laws_markAbbreviationS.l0 k ((x0.set ((x5 : Int).toNat) (⟨r1, (x0.getD ((x5 : Int).toNat) (dflt .abbr)).short⟩ : Abbr)).set ((x5 : Int).toNat) (⟨((x0.set ((x5 : Int).toNat) (⟨r1, (x0.getD ((x5 : Int).toNat) (dflt .abbr)).short⟩ : Abbr)).getD ((x5 : Int).toNat) (dflt .abbr)).word, r2⟩ : Abbr)) (IntKind.wrap .i64 ((IntKind.wrap .i64 (x1 + 1)) + 1)) (IntKind.wrap .i64 (x5 + 1))) else none) else none) else none) else none) else (some (x0, x1))
def laws_markAbbreviationS.F (k : Nat) (a0 : List Abbr) (a1 : Int) : Option ((List Abbr) × Int) := (laws_markAbbreviationS.l0 k a0 a1 0).bind fun y3 => bif Nat.beq (y3.1).length a0.length then (some (y3.1, y3.2)) else none
def laws_markAbbreviationS.C (k : Nat) : Cal → Option CArm := fun c => match c with
  | .f 60 => some (.p [(.int .i64)] _ (fun x => laws_markText.F k x.1) (fun r => (.t .str r)))
  | _ => none
def laws_markAbbreviationS.sp0 : List Sp := [.own 0 1099511627776 63 .abbr false true, .t 1 (.int .i64), .t 5 (.int .i64)]
def laws_markAbbreviationS.sp0_0 : List Sp := [.own 0 1099511627776 63 .abbr false true, .t 1 (.int .i64)]
def laws_markAbbreviationS.A0 : LArm := .one laws_markAbbreviationS.sp0 laws_markAbbreviationS.sp0_0 ((List Abbr) × Int) (fun k x => laws_markAbbreviationS.l0 k x.1 x.2.1 x.2.2.1) (.exit 0) (fun y => (y.1, y.2, ())) (fun x => (x.1, x.2.1))
def laws_markAbbreviationS.L : Nat → Option LArm := fun b => match b with
  | 0 => some laws_markAbbreviationS.A0
  | _ => none
theorem laws_markAbbreviationS.run (k : Nat) (a0 : List Abbr) (a1 : Int) : runM envX (tabC (laws_markAbbreviationS.C k)) (tabL 29 k laws_markAbbreviationS.L) Tryz.f18 mbase (.fr 63 .abbr a0) [.t (.int .i64) a1] (viewK (.fr 63 .abbr) (viewR1 (.t (.int .i64)))) = laws_markAbbreviationS.F k a0 a1 := by kernel_rfl
theorem laws_markAbbreviationS.step0 (k : Nat) (x0 : List Abbr) (x1 : Int) (x5 : Int) : runC envX (tabC (laws_markAbbreviationS.C k)) (tabL 29 k laws_markAbbreviationS.L) 0 (loopAt Tryz.f18 0) (stOf 29 laws_markAbbreviationS.sp0 (x0, x1, x5, ())) (laws_markAbbreviationS.A0.cont 29 k) = laws_markAbbreviationS.l0 (k + 1) x0 x1 x5 := by kernel_rfl
theorem laws_markAbbreviationS.G (hE : EnvOk Tryz.prog envX) (pv : Nat → Value) (k : Nat) : ∀ cal A, laws_markAbbreviationS.C k cal = some A → ArmOk Tryz.prog envX pv cal A := by
  intro cal A h
  unfold laws_markAbbreviationS.C at h
  split at h
  · cases h; exact fun x y hy => laws_markText.good hE pv k x.1 hy
  · cases h
theorem laws_markAbbreviationS.good (hE : EnvOk Tryz.prog envX) (pv : Nat → Value) (k : Nat) (a0 : List Abbr) (a1 : Int) {y : _} (h : laws_markAbbreviationS.F k a0 a1 = some y) : MeetsM Tryz.prog envX pv 18 (.fr 63 .abbr a0) (tvals [(.int .i64)] (a1, ())) (.kep (.fr 63 .abbr y.1) (.t (.int .i64) y.2)) :=
  funM_loops hE (t := laws_markAbbreviationS.C) k (fun k _ => laws_markAbbreviationS.G hE pv k) (f := 18) (fn := Tryz.f18) (by kernel_rfl) rfl (by kernel_rfl) (.inl rfl) (by kernel_rfl) (lt := laws_markAbbreviationS.L) (by kernel_rfl) (fun b A h => by
    unfold laws_markAbbreviationS.L at h; split at h
    · cases h; exact ⟨by kernel_rfl, by kernel_rfl, fun _ => rfl, fun _ => rfl⟩
    · cases h) (fun b A h => by
    unfold laws_markAbbreviationS.L at h; split at h
    · cases h; exact fun k x => laws_markAbbreviationS.step0 k x.1 x.2.1 x.2.2.1
    · cases h) ((laws_markAbbreviationS.run k a0 a1).trans h) fun r hr => wk_viewK (fun r y h => wk_view1 h) hr
/-! ### 19 loop.example/g00896/laws.markStringS -/
def laws_markStringS.l0 : Nat → (List ByteArray) → Int → Int → Option ((List ByteArray) × Int)
  | 0, _, _, _ => none
  | k + 1, x0, x1, x5 => bif (decide (x5 < (x0.length : Int))) then ((laws_markText.F k x1).bind fun r1 => bif decide (0 ≤ x5) then (bif decide (x5 < (x0.length : Int)) then (laws_markStringS.l0 k (x0.set ((x5 : Int).toNat) r1) (IntKind.wrap .i64 (x1 + 1)) (IntKind.wrap .i64 (x5 + 1))) else none) else none) else (some (x0, x1))
def laws_markStringS.F (k : Nat) (a0 : List ByteArray) (a1 : Int) : Option ((List ByteArray) × Int) := (laws_markStringS.l0 k a0 a1 0).bind fun y2 => bif Nat.beq (y2.1).length a0.length then (some (y2.1, y2.2)) else none
def laws_markStringS.C (k : Nat) : Cal → Option CArm := fun c => match c with
  | .f 60 => some (.p [(.int .i64)] _ (fun x => laws_markText.F k x.1) (fun r => (.t .str r)))
  | _ => none
def laws_markStringS.sp0 : List Sp := [.own 0 1099511627776 9 .str false true, .t 1 (.int .i64), .t 5 (.int .i64)]
def laws_markStringS.sp0_0 : List Sp := [.own 0 1099511627776 9 .str false true, .t 1 (.int .i64)]
def laws_markStringS.A0 : LArm := .one laws_markStringS.sp0 laws_markStringS.sp0_0 ((List ByteArray) × Int) (fun k x => laws_markStringS.l0 k x.1 x.2.1 x.2.2.1) (.exit 0) (fun y => (y.1, y.2, ())) (fun x => (x.1, x.2.1))
def laws_markStringS.L : Nat → Option LArm := fun b => match b with
  | 0 => some laws_markStringS.A0
  | _ => none
theorem laws_markStringS.run (k : Nat) (a0 : List ByteArray) (a1 : Int) : runM envX (tabC (laws_markStringS.C k)) (tabL 20 k laws_markStringS.L) Tryz.f19 mbase (.fr 9 .str a0) [.t (.int .i64) a1] (viewK (.fr 9 .str) (viewR1 (.t (.int .i64)))) = laws_markStringS.F k a0 a1 := by kernel_rfl
theorem laws_markStringS.step0 (k : Nat) (x0 : List ByteArray) (x1 : Int) (x5 : Int) : runC envX (tabC (laws_markStringS.C k)) (tabL 20 k laws_markStringS.L) 0 (loopAt Tryz.f19 0) (stOf 20 laws_markStringS.sp0 (x0, x1, x5, ())) (laws_markStringS.A0.cont 20 k) = laws_markStringS.l0 (k + 1) x0 x1 x5 := by kernel_rfl
theorem laws_markStringS.G (hE : EnvOk Tryz.prog envX) (pv : Nat → Value) (k : Nat) : ∀ cal A, laws_markStringS.C k cal = some A → ArmOk Tryz.prog envX pv cal A := by
  intro cal A h
  unfold laws_markStringS.C at h
  split at h
  · cases h; exact fun x y hy => laws_markText.good hE pv k x.1 hy
  · cases h
theorem laws_markStringS.good (hE : EnvOk Tryz.prog envX) (pv : Nat → Value) (k : Nat) (a0 : List ByteArray) (a1 : Int) {y : _} (h : laws_markStringS.F k a0 a1 = some y) : MeetsM Tryz.prog envX pv 19 (.fr 9 .str a0) (tvals [(.int .i64)] (a1, ())) (.kep (.fr 9 .str y.1) (.t (.int .i64) y.2)) :=
  funM_loops hE (t := laws_markStringS.C) k (fun k _ => laws_markStringS.G hE pv k) (f := 19) (fn := Tryz.f19) (by kernel_rfl) rfl (by kernel_rfl) (.inl rfl) (by kernel_rfl) (lt := laws_markStringS.L) (by kernel_rfl) (fun b A h => by
    unfold laws_markStringS.L at h; split at h
    · cases h; exact ⟨by kernel_rfl, by kernel_rfl, fun _ => rfl, fun _ => rfl⟩
    · cases h) (fun b A h => by
    unfold laws_markStringS.L at h; split at h
    · cases h; exact fun k x => laws_markStringS.step0 k x.1 x.2.1 x.2.2.1
    · cases h) ((laws_markStringS.run k a0 a1).trans h) fun r hr => wk_viewK (fun r y h => wk_view1 h) hr
/-! ### 20 loop.example/g00896/laws.heldStringS -/
def laws_heldStringS.l0 : Nat → (List ByteArray) → Int → Int → Option (Sum Int Int)
  | 0, _, _, _ => none
  | k + 1, x0, x1, x5 => bif (decide (x5 < (x0.length : Int))) then (bif decide (0 ≤ x5) then (bif decide (x5 < (x0.length : Int)) then ((laws_markText.F k x1).bind fun r1 => bif (!beqS (x0.getD (x5 : Int).toNat (⟨#[]⟩ : ByteArray)) r1) then (some (.inl (-1))) else (laws_heldStringS.l0 k x0 (IntKind.wrap .i64 (x1 + 1)) (IntKind.wrap .i64 (x5 + 1)))) else none) else none) else (some (.inr x1))
def laws_heldStringS.F (k : Nat) (a0 : List ByteArray) (a1 : Int) : Option (Int) := (laws_heldStringS.l0 k a0 a1 0).bind fun y2 => match y2 with | .inl z3 => some z3 | .inr z3 => some z3
def laws_heldStringS.C (k : Nat) : Cal → Option CArm := fun c => match c with
  | .f 60 => some (.p [(.int .i64)] _ (fun x => laws_markText.F k x.1) (fun r => (.t .str r)))
  | _ => none
def laws_heldStringS.sp0 : List Sp := [.t 0 (.sl .str), .t 1 (.int .i64), .t 5 (.int .i64)]
def laws_heldStringS.sp0_0 : List Sp := [.t 4 (.int .i64)]
def laws_heldStringS.sp0_1 : List Sp := [.t 1 (.int .i64)]
def laws_heldStringS.A0 : LArm := .two laws_heldStringS.sp0 laws_heldStringS.sp0_0 laws_heldStringS.sp0_1 (Int) (Int) (fun k x => laws_heldStringS.l0 k x.1 x.2.1 x.2.2.1) .ret (.exit 0) (fun y => (y, ())) (fun x => x.1) (fun y => (y, ())) (fun x => x.1)
def laws_heldStringS.L : Nat → Option LArm := fun b => match b with
  | 0 => some laws_heldStringS.A0
  | _ => none
theorem laws_heldStringS.run (k : Nat) (a0 : List ByteArray) (a1 : Int) : runF envX (tabC (laws_heldStringS.C k)) (tabL 22 k laws_heldStringS.L) Tryz.f20 [.t (.sl .str) a0, .t (.int .i64) a1] (viewR1 (.t (.int .i64))) = laws_heldStringS.F k a0 a1 := by kernel_rfl
theorem laws_heldStringS.step0 (k : Nat) (x0 : List ByteArray) (x1 : Int) (x5 : Int) : runC envX (tabC (laws_heldStringS.C k)) (tabL 22 k laws_heldStringS.L) 0 (loopAt Tryz.f20 0) (stOf 22 laws_heldStringS.sp0 (x0, x1, x5, ())) (laws_heldStringS.A0.cont 22 k) = laws_heldStringS.l0 (k + 1) x0 x1 x5 := by kernel_rfl
theorem laws_heldStringS.G (hE : EnvOk Tryz.prog envX) (pv : Nat → Value) (k : Nat) : ∀ cal A, laws_heldStringS.C k cal = some A → ArmOk Tryz.prog envX pv cal A := by
  intro cal A h
  unfold laws_heldStringS.C at h
  split at h
  · cases h; exact fun x y hy => laws_markText.good hE pv k x.1 hy
  · cases h
theorem laws_heldStringS.good (hE : EnvOk Tryz.prog envX) (pv : Nat → Value) (k : Nat) (a0 : List ByteArray) (a1 : Int) {y : _} (h : laws_heldStringS.F k a0 a1 = some y) : Meets Tryz.prog envX pv (.f 20) (tvals [(.sl .str), (.int .i64)] (a0, a1, ())) (.t (.int .i64) y) :=
  fun_loops hE (t := laws_heldStringS.C) k (fun k _ => laws_heldStringS.G hE pv k) (f := 20) (fn := Tryz.f20) (by kernel_rfl) rfl (by kernel_rfl) (by kernel_rfl) (lt := laws_heldStringS.L) (by kernel_rfl) (fun b A h => by
    unfold laws_heldStringS.L at h; split at h
    · cases h; exact ⟨by kernel_rfl, by kernel_rfl, by kernel_rfl, fun _ => rfl, fun _ => rfl, fun _ => rfl⟩
    · cases h) (fun b A h => by
    unfold laws_heldStringS.L at h; split at h
    · cases h; exact fun k x => laws_heldStringS.step0 k x.1 x.2.1 x.2.2.1
    · cases h) ((laws_heldStringS.run k a0 a1).trans h) fun r hr => wk_view1 hr
/-! ### 3 loop.example/g00896/laws.FnExactDistinctTitles -/
def laws_FnExactDistinctTitles.F (k : Nat) (a0 : List Abbr) (a1 : List ByteArray) : Option (Bool) := (laws_szAbbreviationS.F k a0 1048576).bind fun r1 => bif (decide (r1 < 0)) then (some true) else ((laws_szStringS.F k a1 r1).bind fun r2 => bif (decide (r2 < 0)) then (some true) else ((laws_toAbbreviationS.F k a0).bind fun r3 => (laws_toStringS.F k a1).bind fun r4 => (spec_DistinctTitles.F k r3 r4).bind fun r5 => (laws_toAbbreviationS.F k a0).bind fun r6 => (laws_toStringS.F k a1).bind fun r7 => (impl_DistinctTitles.F k r6 r7).bind fun r8 => (laws_eqStringS.F k r8.1 r5.1).bind fun r9 => bif (!r9) then (some false) else (bif (!(r8.2 == r5.2)) then (some false) else ((laws_toAbbreviationS.F k a0).bind fun r10 => (laws_eqAbbreviationS.F k r6 r10).bind fun r11 => bif (!r11) then (some false) else ((laws_toStringS.F k a1).bind fun r12 => (laws_eqStringS.F k r7 r12).bind fun r13 => bif (!r13) then (some false) else ((laws_markAbbreviationS.F k r6 1).bind fun r14 => (laws_markStringS.F k r7 r14.2).bind fun r15 => bif (decide (r15.2 < 0)) then (some false) else ((laws_eqStringS.F k r8.1 r5.1).bind fun r16 => bif (!r16) then (some false) else (bif (!(r8.2 == r5.2)) then (some false) else ((laws_markStringS.F k r8.1 1).bind fun r17 => (laws_heldStringS.F k r17.1 1).bind fun r18 => bif (decide (r18 < 0)) then (some false) else (bif (r18 != r17.2) then (some false) else ((laws_toAbbreviationS.F k a0).bind fun r19 => (laws_toStringS.F k a1).bind fun r20 => (impl_DistinctTitles.F k r19 r20).bind fun r21 => (laws_eqStringS.F k r21.1 r5.1).bind fun r22 => bif (!r22) then (some false) else (bif (!(r21.2 == r5.2)) then (some false) else ((laws_heldStringS.F k r17.1 1).bind fun r23 => bif (decide (r23 < 0)) then (some false) else (bif (r23 != r17.2) then (some false) else (some true)))))))))))))))
def laws_FnExactDistinctTitles.C (k : Nat) : Cal → Option CArm := fun c => match c with
  | .f 10 => some (.p [(.sl .abbr), (.int .i64)] _ (fun x => laws_szAbbreviationS.F k x.1 x.2.1) (fun r => (.t (.int .i64) r)))
  | .f 11 => some (.p [(.sl .str), (.int .i64)] _ (fun x => laws_szStringS.F k x.1 x.2.1) (fun r => (.t (.int .i64) r)))
  | .f 13 => some (.p [(.sl .abbr)] _ (fun x => laws_toAbbreviationS.F k x.1) (fun r => (.fr 63 .abbr r)))
  | .f 14 => some (.p [(.sl .str)] _ (fun x => laws_toStringS.F k x.1) (fun r => (.fr 9 .str r)))
  | .f 12 => some (.p [(.sl .abbr), (.sl .str)] _ (fun x => spec_DistinctTitles.F k x.1 x.2.1) (fun r => (.tup [.fr 9 .str r.1, .t .bool r.2])))
  | .f 15 => some (.p [(.sl .abbr), (.sl .str)] _ (fun x => impl_DistinctTitles.F k x.1 x.2.1) (fun r => (.tup [.fr 9 .str r.1, .t .bool r.2])))
  | .f 16 => some (.p [(.sl .str), (.sl .str)] _ (fun x => laws_eqStringS.F k x.1 x.2.1) (fun r => (.t .bool r)))
  | .f 17 => some (.p [(.sl .abbr), (.sl .abbr)] _ (fun x => laws_eqAbbreviationS.F k x.1 x.2.1) (fun r => (.t .bool r)))
  | .f 18 => some (.m (.fr 63 .abbr) [(.int .i64)] _ (fun x0 x => laws_markAbbreviationS.F k x0 x.1) (fun r => .kep (.fr 63 .abbr r.1) (.t (.int .i64) r.2)))
  | .f 19 => some (.m (.fr 9 .str) [(.int .i64)] _ (fun x0 x => laws_markStringS.F k x0 x.1) (fun r => .kep (.fr 9 .str r.1) (.t (.int .i64) r.2)))
  | .f 20 => some (.p [(.sl .str), (.int .i64)] _ (fun x => laws_heldStringS.F k x.1 x.2.1) (fun r => (.t (.int .i64) r)))
  | _ => none
theorem laws_FnExactDistinctTitles.run (k : Nat) (a0 : List Abbr) (a1 : List ByteArray) : runF envX (tabC (laws_FnExactDistinctTitles.C k)) (tabL 119 0 (fun _ => none)) Tryz.f3 [.t (.sl .abbr) a0, .t (.sl .str) a1] (viewR1 (.t .bool)) = laws_FnExactDistinctTitles.F k a0 a1 := by kernel_rfl
theorem laws_FnExactDistinctTitles.G (hE : EnvOk Tryz.prog envX) (pv : Nat → Value) (k : Nat) : ∀ cal A, laws_FnExactDistinctTitles.C k cal = some A → ArmOk Tryz.prog envX pv cal A := by
  intro cal A h
  unfold laws_FnExactDistinctTitles.C at h
  split at h
  · cases h; exact fun x y hy => laws_szAbbreviationS.good hE pv k x.1 x.2.1 hy
  · cases h; exact fun x y hy => laws_szStringS.good hE pv k x.1 x.2.1 hy
  · cases h; exact fun x y hy => laws_toAbbreviationS.good hE pv k x.1 hy
  · cases h; exact fun x y hy => laws_toStringS.good hE pv k x.1 hy
  · cases h; exact fun x y hy => spec_DistinctTitles.good hE pv k x.1 x.2.1 hy
  · cases h; exact fun x y hy => impl_DistinctTitles.good hE pv k x.1 x.2.1 hy
  · cases h; exact fun x y hy => laws_eqStringS.good hE pv k x.1 x.2.1 hy
  · cases h; exact fun x y hy => laws_eqAbbreviationS.good hE pv k x.1 x.2.1 hy
  · cases h; exact ⟨_, rfl, fun x0 x y hy => laws_markAbbreviationS.good hE pv k x0 x.1 hy⟩
  · cases h; exact ⟨_, rfl, fun x0 x y hy => laws_markStringS.good hE pv k x0 x.1 hy⟩
  · cases h; exact fun x y hy => laws_heldStringS.good hE pv k x.1 x.2.1 hy
  · cases h
theorem laws_FnExactDistinctTitles.good (hE : EnvOk Tryz.prog envX) (pv : Nat → Value) (k : Nat) (a0 : List Abbr) (a1 : List ByteArray) {y : _} (h : laws_FnExactDistinctTitles.F k a0 a1 = some y) : Meets Tryz.prog envX pv (.f 3) (tvals [(.sl .abbr), (.sl .str)] (a0, a1, ())) (.t .bool y) :=
  fun_plain hE (laws_FnExactDistinctTitles.G hE pv k) (f := 3) (fn := Tryz.f3) (by kernel_rfl) rfl (by kernel_rfl) (by kernel_rfl) ((laws_FnExactDistinctTitles.run k a0 a1).trans h) fun r hr => wk_view1 hr
/-! ### 21 loop.example/g00896/spec.FullTitles -/
def spec_FullTitles.l0 : Nat → (List Abbr) → (List ByteArray) → ByteArray → (List Int) → Int → Option ((List Int))
  | 0, _, _, _, _, _ => none
  | k + 1, x0, x1, x2, x8, x9 => bif (decide (x9 < (x1.length : Int))) then (bif decide (0 ≤ x9) then (bif decide (x9 < (x1.length : Int)) then ((spec_l19Title.F k x0 (x1.getD (x9 : Int).toNat (⟨#[]⟩ : ByteArray))).bind fun r3 => bif (beqS r3 x2) then (bif room (x8.length + ([x9] : List Int).length) (.int .i64) then (spec_FullTitles.l0 k x0 x1 x2 (x8 ++ ([x9] : List Int)) (IntKind.wrap .i64 (x9 + 1))) else none) else (spec_FullTitles.l0 k x0 x1 x2 x8 (IntKind.wrap .i64 (x9 + 1)))) else none) else none) else (some x8)
def spec_FullTitles.F (k : Nat) (a0 : List Abbr) (a1 : List ByteArray) (a2 : ByteArray) : Option ((List Int) × Bool) := (spec_l19Good.F k a0).bind fun r1 => bif (!r1) then (some (([] : List Int), false)) else ((spec_l19Titles.F k a1).bind fun r2 => bif (!r2) then (some (([] : List Int), false)) else ((spec_FullTitles.l0 k a0 a1 a2 ([] : List Int) 0).bind fun y4 => some (y4, true)))
def spec_FullTitles.C (k : Nat) : Cal → Option CArm := fun c => match c with
  | .f 51 => some (.p [(.sl .abbr)] _ (fun x => spec_l19Good.F k x.1) (fun r => (.t .bool r)))
  | .f 52 => some (.p [(.sl .str)] _ (fun x => spec_l19Titles.F k x.1) (fun r => (.t .bool r)))
  | .f 53 => some (.p [(.sl .abbr), .str] _ (fun x => spec_l19Title.F k x.1 x.2.1) (fun r => (.t .str r)))
  | _ => none
def spec_FullTitles.sp0 : List Sp := [.t 0 (.sl .abbr), .t 1 (.sl .str), .t 2 .str, .own 8 1024 3 (.int .i64) false true, .t 9 (.int .i64)]
def spec_FullTitles.sp0_0 : List Sp := [.own 8 1024 3 (.int .i64) false true]
def spec_FullTitles.A0 : LArm := .one spec_FullTitles.sp0 spec_FullTitles.sp0_0 ((List Int)) (fun k x => spec_FullTitles.l0 k x.1 x.2.1 x.2.2.1 x.2.2.2.1 x.2.2.2.2.1) (.exit 0) (fun y => (y, ())) (fun x => x.1)
def spec_FullTitles.L : Nat → Option LArm := fun b => match b with
  | 0 => some spec_FullTitles.A0
  | _ => none
theorem spec_FullTitles.run (k : Nat) (a0 : List Abbr) (a1 : List ByteArray) (a2 : ByteArray) : runF envX (tabC (spec_FullTitles.C k)) (tabL 39 k spec_FullTitles.L) Tryz.f21 [.t (.sl .abbr) a0, .t (.sl .str) a1, .t .str a2] (viewR2 (.fr 3 (.int .i64)) (.t .bool)) = spec_FullTitles.F k a0 a1 a2 := by kernel_rfl
theorem spec_FullTitles.step0 (k : Nat) (x0 : List Abbr) (x1 : List ByteArray) (x2 : ByteArray) (x8 : List Int) (x9 : Int) : runC envX (tabC (spec_FullTitles.C k)) (tabL 39 k spec_FullTitles.L) 0 (loopAt Tryz.f21 0) (stOf 39 spec_FullTitles.sp0 (x0, x1, x2, x8, x9, ())) (spec_FullTitles.A0.cont 39 k) = spec_FullTitles.l0 (k + 1) x0 x1 x2 x8 x9 := by kernel_rfl
theorem spec_FullTitles.G (hE : EnvOk Tryz.prog envX) (pv : Nat → Value) (k : Nat) : ∀ cal A, spec_FullTitles.C k cal = some A → ArmOk Tryz.prog envX pv cal A := by
  intro cal A h
  unfold spec_FullTitles.C at h
  split at h
  · cases h; exact fun x y hy => spec_l19Good.good hE pv k x.1 hy
  · cases h; exact fun x y hy => spec_l19Titles.good hE pv k x.1 hy
  · cases h; exact fun x y hy => spec_l19Title.good hE pv k x.1 x.2.1 hy
  · cases h
theorem spec_FullTitles.good (hE : EnvOk Tryz.prog envX) (pv : Nat → Value) (k : Nat) (a0 : List Abbr) (a1 : List ByteArray) (a2 : ByteArray) {y : _} (h : spec_FullTitles.F k a0 a1 a2 = some y) : Meets Tryz.prog envX pv (.f 21) (tvals [(.sl .abbr), (.sl .str), .str] (a0, a1, a2, ())) (.tup [.fr 3 (.int .i64) y.1, .t .bool y.2]) :=
  fun_loops hE (t := spec_FullTitles.C) k (fun k _ => spec_FullTitles.G hE pv k) (f := 21) (fn := Tryz.f21) (by kernel_rfl) rfl (by kernel_rfl) (by kernel_rfl) (lt := spec_FullTitles.L) (by kernel_rfl) (fun b A h => by
    unfold spec_FullTitles.L at h; split at h
    · cases h; exact ⟨by kernel_rfl, by kernel_rfl, fun _ => rfl, fun _ => rfl⟩
    · cases h) (fun b A h => by
    unfold spec_FullTitles.L at h; split at h
    · cases h; exact fun k x => spec_FullTitles.step0 k x.1 x.2.1 x.2.2.1 x.2.2.2.1 x.2.2.2.2.1
    · cases h) ((spec_FullTitles.run k a0 a1 a2).trans h) fun r hr => wk_view2 hr
/-! ### 22 loop.example/g00896/impl.FullTitles -/
def impl_FullTitles.l0 : Nat → (List Abbr) → ByteArray → (List Int) → (List ByteArray) → Int → Int → Option ((List Int))
  | 0, _, _, _, _, _, _ => none
  | k + 1, x0, x2, x8, x16, x17, x18 => bif (decide (x18 < x17)) then (bif decide (0 ≤ x18) then (bif decide (x18 < (x16.length : Int)) then ((impl_abbreviateTitle.F k x0 (x16.getD (x18 : Int).toNat (⟨#[]⟩ : ByteArray))).bind fun r2 => bif (beqS r2 x2) then (bif room (x8.length + ([x18] : List Int).length) (.int .i64) then (impl_FullTitles.l0 k x0 x2 (x8 ++ ([x18] : List Int)) x16 x17 (IntKind.wrap .i64 (x18 + 1))) else none) else (impl_FullTitles.l0 k x0 x2 x8 x16 x17 (IntKind.wrap .i64 (x18 + 1)))) else none) else none) else (some x8)
def impl_FullTitles.F (k : Nat) (a0 : List Abbr) (a1 : List ByteArray) (a2 : ByteArray) : Option ((List Int) × Bool) := (impl_areTitles.F k a0 a1).bind fun r1 => bif (!r1) then (some ([], false)) else ((impl_FullTitles.l0 k a0 a2 ([] : List Int) a1 (a1.length : Int) 0).bind fun y3 => some (y3, true))
def impl_FullTitles.C (k : Nat) : Cal → Option CArm := fun c => match c with
  | .f 55 => some (.p [(.sl .abbr), (.sl .str)] _ (fun x => impl_areTitles.F k x.1 x.2.1) (fun r => (.t .bool r)))
  | .f 56 => some (.p [(.sl .abbr), .str] _ (fun x => impl_abbreviateTitle.F k x.1 x.2.1) (fun r => (.t .str r)))
  | _ => none
def impl_FullTitles.sp0 : List Sp := [.t 0 (.sl .abbr), .t 2 .str, .own 8 3072 3 (.int .i64) false true, .t 16 (.sl .str), .t 17 (.int .i64), .t 18 (.int .i64)]
def impl_FullTitles.sp0_0 : List Sp := [.own 8 3072 3 (.int .i64) false true]
def impl_FullTitles.A0 : LArm := .one impl_FullTitles.sp0 impl_FullTitles.sp0_0 ((List Int)) (fun k x => impl_FullTitles.l0 k x.1 x.2.1 x.2.2.1 x.2.2.2.1 x.2.2.2.2.1 x.2.2.2.2.2.1) (.exit 0) (fun y => (y, ())) (fun x => x.1)
def impl_FullTitles.L : Nat → Option LArm := fun b => match b with
  | 0 => some impl_FullTitles.A0
  | _ => none
theorem impl_FullTitles.run (k : Nat) (a0 : List Abbr) (a1 : List ByteArray) (a2 : ByteArray) : runF envX (tabC (impl_FullTitles.C k)) (tabL 34 k impl_FullTitles.L) Tryz.f22 [.t (.sl .abbr) a0, .t (.sl .str) a1, .t .str a2] (viewR2 (.fr 3 (.int .i64)) (.t .bool)) = impl_FullTitles.F k a0 a1 a2 := by kernel_rfl
theorem impl_FullTitles.step0 (k : Nat) (x0 : List Abbr) (x2 : ByteArray) (x8 : List Int) (x16 : List ByteArray) (x17 : Int) (x18 : Int) : runC envX (tabC (impl_FullTitles.C k)) (tabL 34 k impl_FullTitles.L) 0 (loopAt Tryz.f22 0) (stOf 34 impl_FullTitles.sp0 (x0, x2, x8, x16, x17, x18, ())) (impl_FullTitles.A0.cont 34 k) = impl_FullTitles.l0 (k + 1) x0 x2 x8 x16 x17 x18 := by kernel_rfl
theorem impl_FullTitles.G (hE : EnvOk Tryz.prog envX) (pv : Nat → Value) (k : Nat) : ∀ cal A, impl_FullTitles.C k cal = some A → ArmOk Tryz.prog envX pv cal A := by
  intro cal A h
  unfold impl_FullTitles.C at h
  split at h
  · cases h; exact fun x y hy => impl_areTitles.good hE pv k x.1 x.2.1 hy
  · cases h; exact fun x y hy => impl_abbreviateTitle.good hE pv k x.1 x.2.1 hy
  · cases h
theorem impl_FullTitles.good (hE : EnvOk Tryz.prog envX) (pv : Nat → Value) (k : Nat) (a0 : List Abbr) (a1 : List ByteArray) (a2 : ByteArray) {y : _} (h : impl_FullTitles.F k a0 a1 a2 = some y) : Meets Tryz.prog envX pv (.f 22) (tvals [(.sl .abbr), (.sl .str), .str] (a0, a1, a2, ())) (.tup [.fr 3 (.int .i64) y.1, .t .bool y.2]) :=
  fun_loops hE (t := impl_FullTitles.C) k (fun k _ => impl_FullTitles.G hE pv k) (f := 22) (fn := Tryz.f22) (by kernel_rfl) rfl (by kernel_rfl) (by kernel_rfl) (lt := impl_FullTitles.L) (by kernel_rfl) (fun b A h => by
    unfold impl_FullTitles.L at h; split at h
    · cases h; exact ⟨by kernel_rfl, by kernel_rfl, fun _ => rfl, fun _ => rfl⟩
    · cases h) (fun b A h => by
    unfold impl_FullTitles.L at h; split at h
    · cases h; exact fun k x => impl_FullTitles.step0 k x.1 x.2.1 x.2.2.1 x.2.2.2.1 x.2.2.2.2.1 x.2.2.2.2.2.1
    · cases h) ((impl_FullTitles.run k a0 a1 a2).trans h) fun r hr => wk_view2 hr
/-! ### 23 loop.example/g00896/laws.eqIntS -/
def laws_eqIntS.l0 : Nat → (List Int) → (List Int) → Int → Option (Sum Bool Unit)
  | 0, _, _, _ => none
  | k + 1, x0, x1, x5 => bif (decide (x5 < (x0.length : Int))) then (bif decide (0 ≤ x5) then (bif decide (x5 < (x0.length : Int)) then (bif decide (0 ≤ x5) then (bif decide (x5 < (x1.length : Int)) then (bif ((x0.getD (x5 : Int).toNat 0) != (x1.getD (x5 : Int).toNat 0)) then (some (.inl false)) else (laws_eqIntS.l0 k x0 x1 (IntKind.wrap .i64 (x5 + 1)))) else none) else none) else none) else none) else (some (.inr ()))
def laws_eqIntS.F (k : Nat) (a0 : List Int) (a1 : List Int) : Option (Bool) := bif ((a0.length : Int) != (a1.length : Int)) then (some false) else ((laws_eqIntS.l0 k a0 a1 0).bind fun y1 => match y1 with | .inl z2 => some z2 | .inr z2 => some true)
def laws_eqIntS.C (k : Nat) : Cal → Option CArm := fun c => match c with
  | _ => none
def laws_eqIntS.sp0 : List Sp := [.t 0 (.sl (.int .i64)), .t 1 (.sl (.int .i64)), .t 5 (.int .i64)]
def laws_eqIntS.sp0_0 : List Sp := [.t 4 .bool]
def laws_eqIntS.sp0_1 : List Sp := []
def laws_eqIntS.A0 : LArm := .two laws_eqIntS.sp0 laws_eqIntS.sp0_0 laws_eqIntS.sp0_1 (Bool) (Unit) (fun k x => laws_eqIntS.l0 k x.1 x.2.1 x.2.2.1) .ret (.exit 0) (fun y => (y, ())) (fun x => x.1) (fun y => ()) (fun x => ())
def laws_eqIntS.L : Nat → Option LArm := fun b => match b with
  | 0 => some laws_eqIntS.A0
  | _ => none
theorem laws_eqIntS.run (k : Nat) (a0 : List Int) (a1 : List Int) : runF envX (tabC (laws_eqIntS.C k)) (tabL 26 k laws_eqIntS.L) Tryz.f23 [.t (.sl (.int .i64)) a0, .t (.sl (.int .i64)) a1] (viewR1 (.t .bool)) = laws_eqIntS.F k a0 a1 := by kernel_rfl
theorem laws_eqIntS.step0 (k : Nat) (x0 : List Int) (x1 : List Int) (x5 : Int) : runC envX (tabC (laws_eqIntS.C k)) (tabL 26 k laws_eqIntS.L) 0 (loopAt Tryz.f23 0) (stOf 26 laws_eqIntS.sp0 (x0, x1, x5, ())) (laws_eqIntS.A0.cont 26 k) = laws_eqIntS.l0 (k + 1) x0 x1 x5 := by kernel_rfl
theorem laws_eqIntS.G (hE : EnvOk Tryz.prog envX) (pv : Nat → Value) (k : Nat) : ∀ cal A, laws_eqIntS.C k cal = some A → ArmOk Tryz.prog envX pv cal A := by
  intro cal A h
  unfold laws_eqIntS.C at h
  cases h
theorem laws_eqIntS.good (hE : EnvOk Tryz.prog envX) (pv : Nat → Value) (k : Nat) (a0 : List Int) (a1 : List Int) {y : _} (h : laws_eqIntS.F k a0 a1 = some y) : Meets Tryz.prog envX pv (.f 23) (tvals [(.sl (.int .i64)), (.sl (.int .i64))] (a0, a1, ())) (.t .bool y) :=
  fun_loops hE (t := laws_eqIntS.C) k (fun k _ => laws_eqIntS.G hE pv k) (f := 23) (fn := Tryz.f23) (by kernel_rfl) rfl (by kernel_rfl) (by kernel_rfl) (lt := laws_eqIntS.L) (by kernel_rfl) (fun b A h => by
    unfold laws_eqIntS.L at h; split at h
    · cases h; exact ⟨by kernel_rfl, by kernel_rfl, by kernel_rfl, fun _ => rfl, fun _ => rfl, fun _ => rfl⟩
    · cases h) (fun b A h => by
    unfold laws_eqIntS.L at h; split at h
    · cases h; exact fun k x => laws_eqIntS.step0 k x.1 x.2.1 x.2.2.1
    · cases h) ((laws_eqIntS.run k a0 a1).trans h) fun r hr => wk_view1 hr
/-! ### 24 loop.example/g00896/laws.markIntS -/
def laws_markIntS.l0 : Nat → (List Int) → Int → Int → Option ((List Int) × Int)
  | 0, _, _, _ => none
  | k + 1, x0, x1, x5 => bif (decide (x5 < (x0.length : Int))) then (bif decide (0 ≤ x5) then (bif decide (x5 < (x0.length : Int)) then (laws_markIntS.l0 k (x0.set ((x5 : Int).toNat) x1) (IntKind.wrap .i64 (x1 + 1)) (IntKind.wrap .i64 (x5 + 1))) else none) else none) else (some (x0, x1))
def laws_markIntS.F (k : Nat) (a0 : List Int) (a1 : Int) : Option ((List Int) × Int) := (laws_markIntS.l0 k a0 a1 0).bind fun y1 => bif Nat.beq (y1.1).length a0.length then (some (y1.1, y1.2)) else none
def laws_markIntS.C (k : Nat) : Cal → Option CArm := fun c => match c with
  | _ => none
def laws_markIntS.sp0 : List Sp := [.own 0 1099511627776 3 (.int .i64) false true, .t 1 (.int .i64), .t 5 (.int .i64)]
def laws_markIntS.sp0_0 : List Sp := [.own 0 1099511627776 3 (.int .i64) false true, .t 1 (.int .i64)]
def laws_markIntS.A0 : LArm := .one laws_markIntS.sp0 laws_markIntS.sp0_0 ((List Int) × Int) (fun k x => laws_markIntS.l0 k x.1 x.2.1 x.2.2.1) (.exit 0) (fun y => (y.1, y.2, ())) (fun x => (x.1, x.2.1))
def laws_markIntS.L : Nat → Option LArm := fun b => match b with
  | 0 => some laws_markIntS.A0
  | _ => none
theorem laws_markIntS.run (k : Nat) (a0 : List Int) (a1 : Int) : runM envX (tabC (laws_markIntS.C k)) (tabL 19 k laws_markIntS.L) Tryz.f24 mbase (.fr 3 (.int .i64) a0) [.t (.int .i64) a1] (viewK (.fr 3 (.int .i64)) (viewR1 (.t (.int .i64)))) = laws_markIntS.F k a0 a1 := by kernel_rfl
theorem laws_markIntS.step0 (k : Nat) (x0 : List Int) (x1 : Int) (x5 : Int) : runC envX (tabC (laws_markIntS.C k)) (tabL 19 k laws_markIntS.L) 0 (loopAt Tryz.f24 0) (stOf 19 laws_markIntS.sp0 (x0, x1, x5, ())) (laws_markIntS.A0.cont 19 k) = laws_markIntS.l0 (k + 1) x0 x1 x5 := by kernel_rfl
theorem laws_markIntS.G (hE : EnvOk Tryz.prog envX) (pv : Nat → Value) (k : Nat) : ∀ cal A, laws_markIntS.C k cal = some A → ArmOk Tryz.prog envX pv cal A := by
  intro cal A h
  unfold laws_markIntS.C at h
  cases h
theorem laws_markIntS.good (hE : EnvOk Tryz.prog envX) (pv : Nat → Value) (k : Nat) (a0 : List Int) (a1 : Int) {y : _} (h : laws_markIntS.F k a0 a1 = some y) : MeetsM Tryz.prog envX pv 24 (.fr 3 (.int .i64) a0) (tvals [(.int .i64)] (a1, ())) (.kep (.fr 3 (.int .i64) y.1) (.t (.int .i64) y.2)) :=
  funM_loops hE (t := laws_markIntS.C) k (fun k _ => laws_markIntS.G hE pv k) (f := 24) (fn := Tryz.f24) (by kernel_rfl) rfl (by kernel_rfl) (.inl rfl) (by kernel_rfl) (lt := laws_markIntS.L) (by kernel_rfl) (fun b A h => by
    unfold laws_markIntS.L at h; split at h
    · cases h; exact ⟨by kernel_rfl, by kernel_rfl, fun _ => rfl, fun _ => rfl⟩
    · cases h) (fun b A h => by
    unfold laws_markIntS.L at h; split at h
    · cases h; exact fun k x => laws_markIntS.step0 k x.1 x.2.1 x.2.2.1
    · cases h) ((laws_markIntS.run k a0 a1).trans h) fun r hr => wk_viewK (fun r y h => wk_view1 h) hr
/-! ### 25 loop.example/g00896/laws.heldIntS -/
def laws_heldIntS.l0 : Nat → (List Int) → Int → Int → Option (Sum Int Int)
  | 0, _, _, _ => none
  | k + 1, x0, x1, x5 => bif (decide (x5 < (x0.length : Int))) then (bif decide (0 ≤ x5) then (bif decide (x5 < (x0.length : Int)) then (bif ((x0.getD (x5 : Int).toNat 0) != x1) then (some (.inl (-1))) else (laws_heldIntS.l0 k x0 (IntKind.wrap .i64 (x1 + 1)) (IntKind.wrap .i64 (x5 + 1)))) else none) else none) else (some (.inr x1))
def laws_heldIntS.F (k : Nat) (a0 : List Int) (a1 : Int) : Option (Int) := (laws_heldIntS.l0 k a0 a1 0).bind fun y1 => match y1 with | .inl z2 => some z2 | .inr z2 => some z2
def laws_heldIntS.C (k : Nat) : Cal → Option CArm := fun c => match c with
  | _ => none
def laws_heldIntS.sp0 : List Sp := [.t 0 (.sl (.int .i64)), .t 1 (.int .i64), .t 5 (.int .i64)]
def laws_heldIntS.sp0_0 : List Sp := [.t 4 (.int .i64)]
def laws_heldIntS.sp0_1 : List Sp := [.t 1 (.int .i64)]
def laws_heldIntS.A0 : LArm := .two laws_heldIntS.sp0 laws_heldIntS.sp0_0 laws_heldIntS.sp0_1 (Int) (Int) (fun k x => laws_heldIntS.l0 k x.1 x.2.1 x.2.2.1) .ret (.exit 0) (fun y => (y, ())) (fun x => x.1) (fun y => (y, ())) (fun x => x.1)
def laws_heldIntS.L : Nat → Option LArm := fun b => match b with
  | 0 => some laws_heldIntS.A0
  | _ => none
theorem laws_heldIntS.run (k : Nat) (a0 : List Int) (a1 : Int) : runF envX (tabC (laws_heldIntS.C k)) (tabL 21 k laws_heldIntS.L) Tryz.f25 [.t (.sl (.int .i64)) a0, .t (.int .i64) a1] (viewR1 (.t (.int .i64))) = laws_heldIntS.F k a0 a1 := by kernel_rfl
theorem laws_heldIntS.step0 (k : Nat) (x0 : List Int) (x1 : Int) (x5 : Int) : runC envX (tabC (laws_heldIntS.C k)) (tabL 21 k laws_heldIntS.L) 0 (loopAt Tryz.f25 0) (stOf 21 laws_heldIntS.sp0 (x0, x1, x5, ())) (laws_heldIntS.A0.cont 21 k) = laws_heldIntS.l0 (k + 1) x0 x1 x5 := by kernel_rfl
theorem laws_heldIntS.G (hE : EnvOk Tryz.prog envX) (pv : Nat → Value) (k : Nat) : ∀ cal A, laws_heldIntS.C k cal = some A → ArmOk Tryz.prog envX pv cal A := by
  intro cal A h
  unfold laws_heldIntS.C at h
  cases h
theorem laws_heldIntS.good (hE : EnvOk Tryz.prog envX) (pv : Nat → Value) (k : Nat) (a0 : List Int) (a1 : Int) {y : _} (h : laws_heldIntS.F k a0 a1 = some y) : Meets Tryz.prog envX pv (.f 25) (tvals [(.sl (.int .i64)), (.int .i64)] (a0, a1, ())) (.t (.int .i64) y) :=
  fun_loops hE (t := laws_heldIntS.C) k (fun k _ => laws_heldIntS.G hE pv k) (f := 25) (fn := Tryz.f25) (by kernel_rfl) rfl (by kernel_rfl) (by kernel_rfl) (lt := laws_heldIntS.L) (by kernel_rfl) (fun b A h => by
    unfold laws_heldIntS.L at h; split at h
    · cases h; exact ⟨by kernel_rfl, by kernel_rfl, by kernel_rfl, fun _ => rfl, fun _ => rfl, fun _ => rfl⟩
    · cases h) (fun b A h => by
    unfold laws_heldIntS.L at h; split at h
    · cases h; exact fun k x => laws_heldIntS.step0 k x.1 x.2.1 x.2.2.1
    · cases h) ((laws_heldIntS.run k a0 a1).trans h) fun r hr => wk_view1 hr
/-! ### 4 loop.example/g00896/laws.FnExactFullTitles -/
def laws_FnExactFullTitles.F (k : Nat) (a0 : List Abbr) (a1 : List ByteArray) (a2 : ByteArray) : Option (Bool) := bif (decide ((a2.size : Int) > 1048576)) then (some true) else ((laws_szAbbreviationS.F k a0 1048576).bind fun r1 => bif (decide (r1 < 0)) then (some true) else ((laws_szStringS.F k a1 r1).bind fun r2 => bif (decide (r2 < 0)) then (some true) else ((laws_toAbbreviationS.F k a0).bind fun r3 => (laws_toStringS.F k a1).bind fun r4 => (spec_FullTitles.F k r3 r4 a2).bind fun r5 => (laws_toAbbreviationS.F k a0).bind fun r6 => (laws_toStringS.F k a1).bind fun r7 => (impl_FullTitles.F k r6 r7 a2).bind fun r8 => (laws_eqIntS.F k r8.1 r5.1).bind fun r9 => bif (!r9) then (some false) else (bif (!(r8.2 == r5.2)) then (some false) else ((laws_toAbbreviationS.F k a0).bind fun r10 => (laws_eqAbbreviationS.F k r6 r10).bind fun r11 => bif (!r11) then (some false) else ((laws_toStringS.F k a1).bind fun r12 => (laws_eqStringS.F k r7 r12).bind fun r13 => bif (!r13) then (some false) else ((laws_markAbbreviationS.F k r6 1).bind fun r14 => (laws_markStringS.F k r7 r14.2).bind fun r15 => bif (decide (r15.2 < 0)) then (some false) else ((laws_eqIntS.F k r8.1 r5.1).bind fun r16 => bif (!r16) then (some false) else (bif (!(r8.2 == r5.2)) then (some false) else ((laws_markIntS.F k r8.1 1).bind fun r17 => (laws_heldIntS.F k r17.1 1).bind fun r18 => bif (decide (r18 < 0)) then (some false) else (bif (r18 != r17.2) then (some false) else ((laws_toAbbreviationS.F k a0).bind fun r19 => (laws_toStringS.F k a1).bind fun r20 => (impl_FullTitles.F k r19 r20 a2).bind fun r21 => (laws_eqIntS.F k r21.1 r5.1).bind fun r22 => bif (!r22) then (some false) else (bif (!(r21.2 == r5.2)) then (some false) else ((laws_heldIntS.F k r17.1 1).bind fun r23 => bif (decide (r23 < 0)) then (some false) else (bif (r23 != r17.2) then (some false) else (some true))))))))))))))))
def laws_FnExactFullTitles.C (k : Nat) : Cal → Option CArm := fun c => match c with
  | .f 10 => some (.p [(.sl .abbr), (.int .i64)] _ (fun x => laws_szAbbreviationS.F k x.1 x.2.1) (fun r => (.t (.int .i64) r)))
  | .f 11 => some (.p [(.sl .str), (.int .i64)] _ (fun x => laws_szStringS.F k x.1 x.2.1) (fun r => (.t (.int .i64) r)))
  | .f 13 => some (.p [(.sl .abbr)] _ (fun x => laws_toAbbreviationS.F k x.1) (fun r => (.fr 63 .abbr r)))
  | .f 14 => some (.p [(.sl .str)] _ (fun x => laws_toStringS.F k x.1) (fun r => (.fr 9 .str r)))
  | .f 21 => some (.p [(.sl .abbr), (.sl .str), .str] _ (fun x => spec_FullTitles.F k x.1 x.2.1 x.2.2.1) (fun r => (.tup [.fr 3 (.int .i64) r.1, .t .bool r.2])))
  | .f 22 => some (.p [(.sl .abbr), (.sl .str), .str] _ (fun x => impl_FullTitles.F k x.1 x.2.1 x.2.2.1) (fun r => (.tup [.fr 3 (.int .i64) r.1, .t .bool r.2])))
  | .f 23 => some (.p [(.sl (.int .i64)), (.sl (.int .i64))] _ (fun x => laws_eqIntS.F k x.1 x.2.1) (fun r => (.t .bool r)))
  | .f 17 => some (.p [(.sl .abbr), (.sl .abbr)] _ (fun x => laws_eqAbbreviationS.F k x.1 x.2.1) (fun r => (.t .bool r)))
  | .f 16 => some (.p [(.sl .str), (.sl .str)] _ (fun x => laws_eqStringS.F k x.1 x.2.1) (fun r => (.t .bool r)))
  | .f 18 => some (.m (.fr 63 .abbr) [(.int .i64)] _ (fun x0 x => laws_markAbbreviationS.F k x0 x.1) (fun r => .kep (.fr 63 .abbr r.1) (.t (.int .i64) r.2)))
  | .f 19 => some (.m (.fr 9 .str) [(.int .i64)] _ (fun x0 x => laws_markStringS.F k x0 x.1) (fun r => .kep (.fr 9 .str r.1) (.t (.int .i64) r.2)))
  | .f 24 => some (.m (.fr 3 (.int .i64)) [(.int .i64)] _ (fun x0 x => laws_markIntS.F k x0 x.1) (fun r => .kep (.fr 3 (.int .i64) r.1) (.t (.int .i64) r.2)))
  | .f 25 => some (.p [(.sl (.int .i64)), (.int .i64)] _ (fun x => laws_heldIntS.F k x.1 x.2.1) (fun r => (.t (.int .i64) r)))
  | _ => none
theorem laws_FnExactFullTitles.run (k : Nat) (a0 : List Abbr) (a1 : List ByteArray) (a2 : ByteArray) : runF envX (tabC (laws_FnExactFullTitles.C k)) (tabL 127 0 (fun _ => none)) Tryz.f4 [.t (.sl .abbr) a0, .t (.sl .str) a1, .t .str a2] (viewR1 (.t .bool)) = laws_FnExactFullTitles.F k a0 a1 a2 := by kernel_rfl
theorem laws_FnExactFullTitles.G (hE : EnvOk Tryz.prog envX) (pv : Nat → Value) (k : Nat) : ∀ cal A, laws_FnExactFullTitles.C k cal = some A → ArmOk Tryz.prog envX pv cal A := by
  intro cal A h
  unfold laws_FnExactFullTitles.C at h
  split at h
  · cases h; exact fun x y hy => laws_szAbbreviationS.good hE pv k x.1 x.2.1 hy
  · cases h; exact fun x y hy => laws_szStringS.good hE pv k x.1 x.2.1 hy
  · cases h; exact fun x y hy => laws_toAbbreviationS.good hE pv k x.1 hy
  · cases h; exact fun x y hy => laws_toStringS.good hE pv k x.1 hy
  · cases h; exact fun x y hy => spec_FullTitles.good hE pv k x.1 x.2.1 x.2.2.1 hy
  · cases h; exact fun x y hy => impl_FullTitles.good hE pv k x.1 x.2.1 x.2.2.1 hy
  · cases h; exact fun x y hy => laws_eqIntS.good hE pv k x.1 x.2.1 hy
  · cases h; exact fun x y hy => laws_eqAbbreviationS.good hE pv k x.1 x.2.1 hy
  · cases h; exact fun x y hy => laws_eqStringS.good hE pv k x.1 x.2.1 hy
  · cases h; exact ⟨_, rfl, fun x0 x y hy => laws_markAbbreviationS.good hE pv k x0 x.1 hy⟩
  · cases h; exact ⟨_, rfl, fun x0 x y hy => laws_markStringS.good hE pv k x0 x.1 hy⟩
  · cases h; exact ⟨_, rfl, fun x0 x y hy => laws_markIntS.good hE pv k x0 x.1 hy⟩
  · cases h; exact fun x y hy => laws_heldIntS.good hE pv k x.1 x.2.1 hy
  · cases h
theorem laws_FnExactFullTitles.good (hE : EnvOk Tryz.prog envX) (pv : Nat → Value) (k : Nat) (a0 : List Abbr) (a1 : List ByteArray) (a2 : ByteArray) {y : _} (h : laws_FnExactFullTitles.F k a0 a1 a2 = some y) : Meets Tryz.prog envX pv (.f 4) (tvals [(.sl .abbr), (.sl .str), .str] (a0, a1, a2, ())) (.t .bool y) :=
  fun_plain hE (laws_FnExactFullTitles.G hE pv k) (f := 4) (fn := Tryz.f4) (by kernel_rfl) rfl (by kernel_rfl) (by kernel_rfl) ((laws_FnExactFullTitles.run k a0 a1 a2).trans h) fun r hr => wk_view1 hr
end Go.Proofs.YtnffgabfibafjaaGreatDoor
end
section
/- What a printed function answers with rounds enough; plain lemmas. -/
namespace Go.Gx
set_option linter.unusedVariables false
set_option linter.unusedSimpArgs false

/-- With rounds enough f answers r. -/
def Ev {α : Type} (f : Nat → Option α) (r : α) : Prop := ∃ K, ∀ k, K ≤ k → f k = some r
theorem Ev.pure {α : Type} (r : α) : Ev (fun _ => some r) r := ⟨0, fun _ _ => rfl⟩
theorem Ev.const {α : Type} {f : Option α} {r : α} (h : f = some r) : Ev (fun _ => f) r := ⟨0, fun _ _ => h⟩
theorem Ev.bind {α β : Type} {f : Nat → Option α} {g : Nat → α → Option β} {a : α} {b : β} (hf : Ev f a) (hg : Ev (fun k => g k a) b) : Ev (fun k => (f k).bind (g k)) b := by
  obtain ⟨K, hK⟩ := hf
  obtain ⟨L, hL⟩ := hg
  exact ⟨max K L, fun k hk => by show (f k).bind (g k) = some b; rw [hK k (by omega), Option.bind_some]; exact hL k (by omega)⟩
/-- .. where what is bound takes no rounds. -/
theorem Ev.bind0 {α β : Type} {f : Option α} {g : Nat → α → Option β} {a : α} {b : β} (hf : f = some a) (hg : Ev (fun k => g k a) b) : Ev (fun k => f.bind (g k)) b := by
  subst hf; exact hg
theorem Ev.step {α : Type} {f g : Nat → Option α} {r : α} (h : ∀ k, f (k + 1) = g k) (hg : Ev g r) : Ev f r := by
  obtain ⟨K, hK⟩ := hg
  exact ⟨K + 1, fun k hk => by obtain ⟨m, rfl⟩ : ∃ m, k = m + 1 := ⟨k - 1, by omega⟩; rw [h]; exact hK m (by omega)⟩
theorem Ev.congr {α : Type} {f g : Nat → Option α} {r : α} (hg : Ev g r) (h : ∀ k, f k = g k) : Ev f r := by
  obtain ⟨K, hK⟩ := hg
  exact ⟨K, fun k hk => by rw [h]; exact hK k hk⟩
theorem Ev.eq {α : Type} {f : Nat → Option α} {r s : α} (h : Ev f r) (e : r = s) : Ev f s := e ▸ h
theorem Ev.get {α : Type} {f : Nat → Option α} {r : α} (h : Ev f r) : ∃ k, f k = some r := by
  obtain ⟨K, hK⟩ := h; exact ⟨K, hK K (Nat.le_refl K)⟩
theorem Ev.uniq {α : Type} {f : Nat → Option α} {r s : α} (h : Ev f r) (h' : Ev f s) : r = s := by
  obtain ⟨K, hK⟩ := h
  obtain ⟨L, hL⟩ := h'
  have := (hK (max K L) (by omega)).symm.trans (hL (max K L) (by omega))
  exact Option.some.inj this
theorem Ev.cond {α : Type} {b : Bool} {f g : Nat → Option α} {r : α} (h1 : b = true → Ev f r) (h2 : b = false → Ev g r) : Ev (fun k => cond b (f k) (g k)) r := by
  cases b with
  | true => exact h1 rfl
  | false => exact h2 rfl
theorem Ev.inl {α β γ : Type} {f : Nat → Option (Sum α β)} {g : Nat → α → Option γ} {h : Nat → β → Option γ} {a : α} {r : γ} (hf : Ev f (.inl a)) (hg : Ev (fun k => g k a) r) : Ev (fun k => (f k).bind fun y => match y with | .inl z => g k z | .inr z => h k z) r := Ev.bind hf hg
theorem Ev.inr {α β γ : Type} {f : Nat → Option (Sum α β)} {g : Nat → α → Option γ} {h : Nat → β → Option γ} {a : β} {r : γ} (hf : Ev f (.inr a)) (hg : Ev (fun k => h k a) r) : Ev (fun k => (f k).bind fun y => match y with | .inl z => g k z | .inr z => h k z) r := Ev.bind hf hg
/-- With rounds enough f answers something of this kind. -/
def EvP {α : Type} (f : Nat → Option α) (P : α → Prop) : Prop := ∃ r, Ev f r ∧ P r
theorem EvP.pure {α : Type} {P : α → Prop} (r : α) (h : P r) : EvP (fun _ => some r) P := ⟨r, Ev.pure r, h⟩
theorem EvP.bind {α β : Type} {f : Nat → Option α} {g : Nat → α → Option β} {P : α → Prop} {Q : β → Prop} (hf : EvP f P) (hg : ∀ a, P a → EvP (fun k => g k a) Q) : EvP (fun k => (f k).bind (g k)) Q := by
  obtain ⟨a, h1, h2⟩ := hf
  obtain ⟨r, h3, h4⟩ := hg a h2
  exact ⟨r, Ev.bind h1 h3, h4⟩
theorem EvP.of {α β : Type} {f : Nat → Option α} {g : Nat → α → Option β} {a : α} {Q : β → Prop} (hf : Ev f a) (hg : EvP (fun k => g k a) Q) : EvP (fun k => (f k).bind (g k)) Q := by
  obtain ⟨r, h3, h4⟩ := hg
  exact ⟨r, Ev.bind hf h3, h4⟩
theorem EvP.of0 {α β : Type} {f : Option α} {g : Nat → α → Option β} {a : α} {Q : β → Prop} (hf : f = some a) (hg : EvP (fun k => g k a) Q) : EvP (fun k => f.bind (g k)) Q := by
  subst hf; exact hg
theorem EvP.step {α : Type} {f g : Nat → Option α} {P : α → Prop} (h : ∀ k, f (k + 1) = g k) (hg : EvP g P) : EvP f P := by
  obtain ⟨r, h1, h2⟩ := hg
  exact ⟨r, Ev.step h h1, h2⟩
theorem EvP.mono {α : Type} {f : Nat → Option α} {P Q : α → Prop} (h : EvP f P) (hq : ∀ r, P r → Q r) : EvP f Q := by
  obtain ⟨r, h1, h2⟩ := h
  exact ⟨r, h1, hq r h2⟩
theorem EvP.ev {α : Type} {f : Nat → Option α} {s : α} (h : EvP f fun r => r = s) : Ev f s := by
  obtain ⟨r, h1, rfl⟩ := h; exact h1
theorem Ev.evp {α : Type} {f : Nat → Option α} {s : α} {P : α → Prop} (h : Ev f s) (hp : P s) : EvP f P := ⟨s, h, hp⟩
/-- Two that answer the same. -/
def EvQ {α : Type} (f g : Nat → Option α) : Prop := ∃ r, Ev f r ∧ Ev g r
theorem EvQ.pure {α : Type} (r : α) : EvQ (fun _ => some r) (fun _ => some r) := ⟨r, Ev.pure r, Ev.pure r⟩
theorem EvQ.bind {α β : Type} {f f' : Nat → Option α} {g g' : Nat → α → Option β} (hf : EvQ f f') (hg : ∀ a, EvQ (fun k => g k a) (fun k => g' k a)) : EvQ (fun k => (f k).bind (g k)) (fun k => (f' k).bind (g' k)) := by
  obtain ⟨a, h1, h2⟩ := hf
  obtain ⟨r, h3, h4⟩ := hg a
  exact ⟨r, Ev.bind h1 h3, Ev.bind h2 h4⟩

/-! ### Tests -/
theorem cpos {α : Type} {p : Prop} [Decidable p] {a b : α} (h : p) : cond (decide p) a b = a := by rw [decide_eq_true h]; rfl
theorem cneg {α : Type} {p : Prop} [Decidable p] {a b : α} (h : ¬ p) : cond (decide p) a b = b := by rw [decide_eq_false h]; rfl
theorem ceq {α : Type} {x y : Int} {a b : α} (h : x = y) : cond (x == y) a b = a := by rw [show (x == y) = true by simpa using h]; rfl
theorem cne {α : Type} {x y : Int} {a b : α} (h : x ≠ y) : cond (x == y) a b = b := by rw [show (x == y) = false by simpa using h]; rfl
theorem cbeq {α : Type} {x y : Int} {a b : α} (h : x = y) : cond (x != y) a b = b := by rw [show (x != y) = false by simpa using h]; rfl
theorem cbne {α : Type} {x y : Int} {a b : α} (h : x ≠ y) : cond (x != y) a b = a := by rw [show (x != y) = true by simpa using h]; rfl
theorem cnb {α : Type} {p : Prop} [Decidable p] {a b : α} : cond (!decide p) a b = cond (decide p) b a := by cases decide p <;> rfl
theorem cnot {α : Type} {c : Bool} {a b : α} : cond (!c) a b = cond c b a := by cases c <;> rfl
theorem cble {α : Type} {n m : Nat} {a b : α} (h : n ≤ m) : cond (Nat.ble n m) a b = a := by rw [Nat.ble_eq_true_of_le h]; rfl
theorem dpos {p : Prop} [Decidable p] (h : p) : decide p = true := decide_eq_true h
theorem dneg {p : Prop} [Decidable p] (h : ¬ p) : decide p = false := decide_eq_false h
theorem wrap_in {x : Int} (h1 : -9223372036854775808 ≤ x) (h2 : x ≤ 9223372036854775807) : IntKind.wrap .i64 x = x := by
  rw [IntKind.wrap_i64]; omega
theorem wf_i64 {n : Int} (h : WF (.int .i64) n) : -9223372036854775808 ≤ n ∧ n ≤ 9223372036854775807 := by
  cases h with
  | int _ _ h =>
    have h1 : IntKind.i64.min = -9223372036854775808 := rfl
    have h2 : IntKind.i64.max = 9223372036854775807 := rfl
    simp only [Lit.wf, Bool.and_eq_true, decide_eq_true_eq] at h
    omega
theorem maxLen_eq : maxLen = 9223372036854775807 := by decide
theorem wf_str {s : ByteArray} (h : WF .str s) : s.size ≤ 9223372036854775807 := by
  cases h with | str _ h => exact maxLen_eq ▸ h

/-! ### Texts -/
def L (s : ByteArray) : List UInt8 := s.data.toList
theorem L_inj {s t : ByteArray} (h : L s = L t) : s = t := by
  cases s; cases t
  simp only [L] at h
  rw [Array.toList_inj.1 h]
theorem L_size (s : ByteArray) : (L s).length = s.size := rfl
theorem toList_eq (s : ByteArray) : s.toList = s.data.toList := ByteArray.toList_eq s
theorem beqS_iff {s t : ByteArray} : beqS s t = true ↔ s = t := by
  unfold beqS
  rw [beq_iff_eq, toList_eq, toList_eq]
  exact ⟨fun h => L_inj h, fun h => by rw [h]⟩
theorem beqS_self (s : ByteArray) : beqS s s = true := beqS_iff.2 rfl
theorem beqS_eq (s t : ByteArray) : beqS s t = (L s == L t) := by
  unfold beqS; rw [toList_eq, toList_eq]; rfl
theorem L_bt (s : ByteArray) (i : Nat) : bt s i = (((L s).getD i 0).toNat : Int) := by
  simp [bt, L, Array.getD_eq_getD_getElem?, List.getD_eq_getElem?_getD]
theorem bt_range (s : ByteArray) (i : Nat) : 0 ≤ bt s i ∧ bt s i ≤ 255 := by
  unfold bt
  have := (s.data.getD i 0).toNat_lt
  omega
theorem L_extract (s : ByteArray) (a b : Nat) : L (s.extract a b) = ((L s).take b).drop a := by
  simp [L, ByteArray.data_extract, List.drop_take]
theorem L_append (s t : ByteArray) : L (s ++ t) = L s ++ L t := by simp [L, ByteArray.data_append]
theorem L_mk (l : List UInt8) : L ⟨l.toArray⟩ = l := by simp [L]
theorem size_mk (l : List UInt8) : (⟨l.toArray⟩ : ByteArray).size = l.length := by simp [ByteArray.size]

/-! ### Loops -/
/-- A loop that stops at the first one that isn't so. -/
theorem loop_all {R : Type} {f : Nat → Int → Option R} {n : Nat} {p : Nat → Bool} {no yes : R} (hno : ∀ i : Nat, i < n → p i = false → Ev (fun k => f k i) no)
    (hyes : ∀ (i : Nat) r, i < n → p i = true → Ev (fun k => f k ((i : Int) + 1)) r → Ev (fun k => f k i) r) (hend : Ev (fun k => f k n) yes) :
    ∀ m i : Nat, i + m = n → Ev (fun k => f k i) (if (List.range' i m).all p = true then yes else no)
  | 0, i, h => by
    rw [show i = n by omega]
    exact hend
  | m + 1, i, h => by
    rw [List.range'_succ, List.all_cons]
    cases hp : p i with
    | false => exact hno i (by omega) hp
    | true =>
      rw [Bool.true_and]
      exact hyes i _ (by omega) hp (loop_all hno hyes hend m (i + 1) (by omega))
theorem range_all {α : Type} (xs : List α) (d : α) (q : α → Bool) : (List.range' 0 xs.length).all (fun i => q (xs.getD i d)) = xs.all q := by
  rw [Bool.eq_iff_iff]
  simp only [List.all_eq_true, List.mem_range'_1, Nat.zero_add, Nat.zero_le, true_and]
  constructor
  · intro h x hx
    obtain ⟨i, hi, rfl⟩ := List.getElem_of_mem hx
    have := h i hi
    simpa [List.getD, hi] using this
  · intro h i hi
    simpa [List.getD, hi] using h _ (List.getElem_mem hi)
end Go.Gx
end
section
/- Plain laws: abbreviations, their check. -/
namespace Go.Proofs.YtnffgabfibafjaaGreatDoor
open Go.Gx
set_option linter.unusedVariables false
set_option linter.unusedSimpArgs false

/-! ### Of the law: sizes, copies, equality -/
def szA (a : Abbr) : Nat := a.word.size + a.short.size
def totA (xs : List Abbr) : Nat := (xs.map szA).sum
theorem szA_ev (a : Abbr) (l : Int) (hl : 0 ≤ l) (hl2 : l ≤ 1048576) (h : WF .abbr a) : laws_szAbbreviation.F a l = some (if l - szA a < 0 then -1 else l - szA a) := by
  cases h with
  | abbr _ h1 h2 =>
    have h1 := wf_str h1
    have h2 := wf_str h2
    unfold laws_szAbbreviation.F szA
    by_cases c : l - (a.word.size : Int) < 0
    · simp (disch := omega) only [wrap_in, cpos]
      rw [if_pos (by omega)]
    · by_cases c2 : l - (a.word.size : Int) - (a.short.size : Int) < 0
      · simp (disch := omega) only [wrap_in, cpos, cneg]
        rw [if_pos (by omega)]
      · simp (disch := omega) only [wrap_in, cpos, cneg]
        rw [if_neg (by omega)]
        congr 1; omega
theorem getD_at {α : Type} {xs : List α} {i : Nat} (h : i < xs.length) (d : α) : xs.getD i d = xs[i] := by simp [List.getD, List.getElem?_eq_getElem h]
theorem szAs_l0 (xs : List Abbr) (hw : WF (.sl .abbr) xs) (hlen : xs.length ≤ 1048576) : ∀ n i : Nat, i + n = xs.length → ∀ l : Int, 0 ≤ l → l ≤ 1048576 →
    Ev (fun k => laws_szAbbreviationS.l0 k xs l i) (if l - totA (xs.drop i) < 0 then .inl (-1) else .inr (l - totA (xs.drop i)))
  | 0, i, h, l, h0, h1 => by
    refine Ev.step (fun k => by rw [laws_szAbbreviationS.l0]) ?_
    simp (disch := omega) only [cneg]
    rw [List.drop_eq_nil_of_le (by omega)]
    simp only [totA, List.map_nil, List.sum_nil]
    rw [if_neg (by omega)]
    exact (Ev.pure _).eq (by congr 1; omega)
  | n + 1, i, h, l, h0, h1 => by
    have hi : i < xs.length := by omega
    have hwi : WF .abbr xs[i] := by cases hw with | sl _ _ _ h => exact h i hi
    have hd : totA (xs.drop i) = szA xs[i] + totA (xs.drop (i + 1)) := by
      rw [List.drop_eq_getElem_cons hi]; unfold totA; rw [List.map_cons, List.sum_cons]
    refine Ev.step (fun k => by rw [laws_szAbbreviationS.l0]) ?_
    simp (disch := omega) only [cpos, Int.toNat_natCast, getD_at hi]
    refine Ev.bind0 (szA_ev _ l h0 h1 hwi) ?_
    by_cases c : l - (szA xs[i] : Int) < 0
    · simp (disch := omega) only [if_pos c, cpos]
      rw [if_pos (by omega)]
      exact Ev.pure _
    · simp (disch := omega) only [if_neg c, cneg, wrap_in]
      have := szAs_l0 xs hw hlen n (i + 1) (by omega) (l - szA xs[i]) (by omega) (by omega)
      refine this.eq ?_
      rw [hd]
      by_cases c2 : l - (szA xs[i] : Int) - (totA (xs.drop (i + 1)) : Int) < 0
      · rw [if_pos c2, if_pos (by omega)]
      · rw [if_neg c2, if_neg (by omega)]; congr 1; omega
theorem wf_len {e : Ty} {xs : List (den e)} (h : WF (.sl e) xs) : xs.length ≤ 9223372036854775807 := by
  cases h with | sl _ _ h _ => exact maxLen_eq ▸ h
theorem szAs_ev (xs : List Abbr) (l : Int) (h0 : 0 ≤ l) (h1 : l ≤ 1048576) (hw : WF (.sl .abbr) xs) : ∃ r, Ev (fun k => laws_szAbbreviationS.F k xs l) r ∧ (0 ≤ r → (xs.length : Int) + totA xs + r = l) := by
  have hl : xs.length ≤ 9223372036854775807 := wf_len hw
  unfold laws_szAbbreviationS.F
  by_cases c : l - (xs.length : Int) < 0
  · simp (disch := omega) only [wrap_in, cpos]
    exact ⟨-1, Ev.pure _, fun h => by omega⟩
  · simp (disch := omega) only [wrap_in, cneg]
    have := szAs_l0 xs hw (by omega) xs.length 0 (by omega) (l - xs.length) (by omega) (by omega)
    simp only [List.drop_zero] at this
    by_cases c2 : l - (xs.length : Int) - (totA xs : Int) < 0
    · rw [if_pos c2] at this
      exact ⟨-1, Ev.bind this (Ev.pure _), fun h => by omega⟩
    · rw [if_neg c2] at this
      exact ⟨l - (xs.length : Int) - (totA xs : Int), Ev.bind this (Ev.pure _), fun h => by omega⟩
theorem toAs_l0 (xs : List Abbr) (hlen : xs.length ≤ 1048576) : ∀ n i : Nat, i + n = xs.length → ∀ ys : List Abbr, ys.length = xs.length → ys.take i = xs.take i → Ev (fun k => laws_toAbbreviationS.l0 k xs ys i) xs
  | 0, i, h, ys, hy, ht => by
    refine Ev.step (fun k => by rw [laws_toAbbreviationS.l0]) ?_
    simp (disch := omega) only [cneg]
    have : ys = xs := by
      rw [List.take_of_length_le (by omega), List.take_of_length_le (by omega)] at ht
      exact ht
    rw [this]; exact Ev.pure _
  | n + 1, i, h, ys, hy, ht => by
    have hi : i < xs.length := by omega
    refine Ev.step (fun k => by rw [laws_toAbbreviationS.l0]) ?_
    simp (disch := omega) only [cpos, Int.toNat_natCast, getD_at hi]
    refine Ev.bind0 (a := xs[i]) rfl ?_
    simp (disch := omega) only [cpos, wrap_in]
    have := toAs_l0 xs hlen n (i + 1) (by omega) (ys.set i xs[i]) (by simpa using hy) (by
      rw [List.take_add_one, List.take_add_one, List.take_set_of_le (Nat.le_refl i), ht]
      simp [show i < ys.length by omega, hi])
    exact this
theorem toAs_ev (xs : List Abbr) (hlen : xs.length ≤ 1048576) : Ev (fun k => laws_toAbbreviationS.F k xs) xs := by
  unfold laws_toAbbreviationS.F
  have hn : nb .abbr = 32 := rfl
  simp (disch := first | omega | (simp only [hn, Int.toNat_natCast]; omega)) only [ceq, cpos, cble]
  refine Ev.bind (a := xs) ?_ (Ev.pure _)
  exact toAs_l0 xs hlen xs.length 0 (by omega) _ (by simp) (by simp)
theorem eqA_ev (a : Abbr) : laws_eqAbbreviation.F a a = some true := by
  unfold laws_eqAbbreviation.F
  simp only [beqS_self, Bool.not_true, cond_false]
theorem eqAs_l0 (xs : List Abbr) (hlen : xs.length ≤ 1048576) : ∀ n i : Nat, i + n = xs.length → Ev (fun k => laws_eqAbbreviationS.l0 k xs xs i) (.inr ())
  | 0, i, h => by
    refine Ev.step (fun k => by rw [laws_eqAbbreviationS.l0]) ?_
    simp (disch := omega) only [cneg]
    exact Ev.pure _
  | n + 1, i, h => by
    have hi : i < xs.length := by omega
    refine Ev.step (fun k => by rw [laws_eqAbbreviationS.l0]) ?_
    simp (disch := omega) only [cpos, Int.toNat_natCast, getD_at hi]
    refine Ev.bind0 (eqA_ev _) ?_
    simp (disch := omega) only [Bool.not_true, cond_false, wrap_in]
    exact eqAs_l0 xs hlen n (i + 1) (by omega)
theorem eqAs_ev (xs : List Abbr) (hlen : xs.length ≤ 1048576) : Ev (fun k => laws_eqAbbreviationS.F k xs xs) true := by
  unfold laws_eqAbbreviationS.F
  simp (disch := omega) only [cbeq]
  exact Ev.bind (eqAs_l0 xs hlen xs.length 0 (by omega)) (Ev.pure _)

/-! ### Small words -/
def low (b : UInt8) : Bool := decide (97 ≤ b.toNat) && decide (b.toNat ≤ 122)
def cutB (s : ByteArray) (b : Nat) : ByteArray := if 0 < s.size ∧ bt s (s.size - 1) = b then s.extract 0 (s.size - 1) else s
theorem cutB_size (s : ByteArray) (b : Nat) : (cutB s b).size ≤ s.size := by
  unfold cutB; split
  · simp [ByteArray.size_extract]
  · exact Nat.le_refl _
theorem size_pos {s : ByteArray} : (!beqS s ⟨#[]⟩) = decide (0 < s.size) := by
  rw [beqS_eq]
  have : L ⟨#[]⟩ = [] := rfl
  rw [this, ← L_size]
  cases L s <;> rfl
theorem specCut_ev (s : ByteArray) (b : Nat) (h : s.size ≤ 9223372036854775807) : spec_l19Cut.F s b = some (cutB s b) := by
  unfold spec_l19Cut.F cutB
  rw [size_pos]
  by_cases c : 0 < s.size
  · simp (disch := omega) only [cpos, wrap_in]
    rw [show ((s.size : Int) - 1).toNat = s.size - 1 by omega]
    by_cases c2 : bt s (s.size - 1) = b
    · simp (disch := first | omega | exact c2) only [ceq]
      rw [if_pos ⟨c, c2⟩]
    · simp (disch := first | omega | exact c2) only [cne]
      rw [if_neg (fun h => c2 h.2)]
  · simp (disch := omega) only [cneg]
    rw [if_neg (fun h => c h.1)]
theorem suffix_ev (s : ByteArray) (c : UInt8) (h : s.size ≤ 9223372036854775807) : stringslite_HasSuffix.F s ⟨#[c]⟩ = some (decide (0 < s.size) && (bt s (s.size - 1) == (c.toNat : Int))) := by
  unfold stringslite_HasSuffix.F
  have h1 : (⟨#[c]⟩ : ByteArray).size = 1 := rfl
  rw [h1]
  by_cases hs : 0 < s.size
  · simp (disch := omega) only [cpos, wrap_in]
    rw [beqS_eq, L_extract, show ((s.size : Int) - ((1 : Nat) : Int)).toNat = s.size - 1 by omega, List.take_of_length_le (by rw [L_size]; omega), L_bt]
    congr 1
    have hl : s.size - 1 < (L s).length := by rw [L_size]; omega
    rw [List.drop_eq_getElem_cons hl, List.drop_eq_nil_of_le (by rw [L_size]; omega), getD_at hl, decide_eq_true hs]
    show ([(L s)[s.size - 1]] == [c]) = _
    rw [Bool.true_and]
    by_cases e : (L s)[s.size - 1] = c
    · rw [e]; simp
    · have : ((L s)[s.size - 1].toNat : Int) ≠ (c.toNat : Int) := fun h => e (UInt8.toNat_inj.1 (by omega))
      rw [show ((((L s)[s.size - 1]).toNat : Int) == (c.toNat : Int)) = false by simpa using this]
      simpa using e
  · simp (disch := omega) only [cneg]
    rw [decide_eq_false hs]; rfl
theorem trim_ev (s : ByteArray) (c : UInt8) (h : s.size ≤ 9223372036854775807) : strings_TrimSuffix.F s ⟨#[c]⟩ = some (cutB s c.toNat) := by
  unfold strings_TrimSuffix.F stringslite_TrimSuffix.F
  rw [suffix_ev s c h]
  have h1 : (⟨#[c]⟩ : ByteArray).size = 1 := rfl
  rw [h1]
  unfold cutB
  simp only [Option.bind_some]
  by_cases hs : 0 < s.size
  · simp (disch := omega) only [cpos, wrap_in, decide_eq_true hs, Bool.true_and]
    rw [show ((s.size : Int) - ((1 : Nat) : Int)).toNat = s.size - 1 by omega]
    by_cases c2 : bt s (s.size - 1) = c.toNat
    · simp (disch := first | omega | exact c2) only [ceq]
      rw [if_pos ⟨hs, c2⟩]; rfl
    · simp (disch := first | omega | exact c2) only [cne]
      rw [if_neg (fun h => c2 h.2)]; rfl
  · rw [decide_eq_false hs, if_neg (fun h => hs h.1)]; rfl
theorem low_int (b : UInt8) : low b = (decide ((b.toNat : Int) ≥ 97) && decide ((b.toNat : Int) ≤ 122)) := by
  unfold low
  congr 1 <;> exact decide_eq_decide.2 (by omega)
theorem isLower_ev (b : UInt8) : impl_isLower.F (b.toNat : Int) = some (low b) := by
  unfold impl_isLower.F
  rw [low_int]
  cases decide ((b.toNat : Int) ≥ 97) <;> rfl
theorem in_ev (a b c : Int) : spec_l1In.F a b c = some (decide (a ≥ b) && decide (a ≤ c)) := by
  unfold spec_l1In.F
  cases decide (a ≥ b) <;> rfl
theorem inside_ev (a b c : Int) : impl_inside.F a b c = some (decide (a ≥ b) && decide (a ≤ c)) := by
  unfold impl_inside.F
  cases decide (a ≥ b) <;> rfl
theorem all_drop {s : ByteArray} {i : Nat} (hi : i < s.size) (p : UInt8 → Bool) : ((L s).drop i).all p = (p ((L s).getD i 0) && ((L s).drop (i + 1)).all p) := by
  have hl : i < (L s).length := by rw [L_size]; exact hi
  rw [List.drop_eq_getElem_cons hl, getD_at hl]; rfl
theorem small_l0 (s : ByteArray) (hs : s.size ≤ 9223372036854775806) (lo hi : Int) : ∀ n i : Nat, i + n = s.size → Ev (fun k => impl_isSmall.l0 k s lo hi i) (if ((L s).drop i).all low = true then .inr (s, lo, hi) else .inl false)
  | 0, i, h => by
    refine Ev.step (fun k => by rw [impl_isSmall.l0]) ?_
    simp (disch := omega) only [cneg]
    rw [List.drop_eq_nil_of_le (by rw [L_size]; omega)]
    exact Ev.pure _
  | n + 1, i, h => by
    refine Ev.step (fun k => by rw [impl_isSmall.l0]) ?_
    simp (disch := omega) only [cpos, Int.toNat_natCast, L_bt]
    refine Ev.bind0 (isLower_ev _) ?_
    rw [all_drop (by omega)]
    cases hlow : low ((L s).getD i 0) with
    | false => simp only [Bool.not_false, cond_true, Bool.false_and]; exact Ev.pure _
    | true =>
      simp (disch := omega) only [Bool.not_true, cond_false, Bool.true_and, wrap_in]
      exact small_l0 s hs lo hi n (i + 1) (by omega)
theorem letters_l0 (s : ByteArray) (hs : s.size ≤ 9223372036854775806) (lo hi : Int) : ∀ n i : Nat, i + n = s.size → Ev (fun k => spec_l19Letters.l0 k s lo hi i) (if ((L s).drop i).all low = true then .inr (s, lo, hi) else .inl false)
  | 0, i, h => by
    refine Ev.step (fun k => by rw [spec_l19Letters.l0]) ?_
    simp (disch := omega) only [cneg]
    rw [List.drop_eq_nil_of_le (by rw [L_size]; omega)]
    exact Ev.pure _
  | n + 1, i, h => by
    refine Ev.step (fun k => by rw [spec_l19Letters.l0]) ?_
    simp (disch := omega) only [cpos, Int.toNat_natCast, L_bt]
    rw [all_drop (by omega), low_int]
    generalize (((L s).getD i 0).toNat : Int) = b
    by_cases c : b < 97
    · simp (disch := omega) only [cpos, dneg, Bool.false_and]; exact Ev.pure _
    · by_cases c2 : b > 122
      · simp (disch := omega) only [cneg, cpos, dpos, dneg, Bool.true_and, Bool.false_and]; exact Ev.pure _
      · simp (disch := omega) only [cneg, dpos, Bool.true_and, wrap_in]
        exact letters_l0 s hs lo hi n (i + 1) (by omega)
def smallB (s : ByteArray) (lo hi : Int) (b : Nat) : Bool := (L (cutB s b)).all low && (decide ((((cutB s b).size : Nat) : Int) ≥ lo) && decide ((((cutB s b).size : Nat) : Int) ≤ hi))
theorem isSmall_ev (s : ByteArray) (lo hi : Int) (c : UInt8) (h : s.size ≤ 9223372036854775806) : Ev (fun k => impl_isSmall.F k s lo hi ⟨#[c]⟩) (smallB s lo hi c.toNat) := by
  unfold impl_isSmall.F smallB
  refine Ev.bind0 (trim_ev s c (by omega)) ?_
  have hc := cutB_size s c.toNat
  have := small_l0 (cutB s c.toNat) (by omega) lo hi (cutB s c.toNat).size 0 (by omega)
  rw [List.drop_zero] at this
  cases hall : (L (cutB s c.toNat)).all low with
  | true => rw [hall] at this; exact Ev.bind this (Ev.bind0 (inside_ev _ _ _) (Ev.pure _))
  | false => rw [hall] at this; exact Ev.bind this (Ev.pure _)
theorem letters_ev (s : ByteArray) (lo hi : Int) (h : s.size ≤ 9223372036854775806) : Ev (fun k => spec_l19Letters.F k s lo hi) ((L s).all low && (decide ((s.size : Int) ≥ lo) && decide ((s.size : Int) ≤ hi))) := by
  unfold spec_l19Letters.F
  have := letters_l0 s h lo hi s.size 0 (by omega)
  rw [List.drop_zero] at this
  cases hall : (L s).all low with
  | true => rw [hall] at this; exact Ev.bind this (Ev.bind0 (in_ev _ _ _) (Ev.pure _))
  | false => rw [hall] at this; exact Ev.bind this (Ev.pure _)
def oneB (a : Abbr) : Bool := smallB a.word 2 15 45 && smallB a.short 1 12 46
theorem one_ev (a : Abbr) (h1 : a.word.size ≤ 9223372036854775806) (h2 : a.short.size ≤ 9223372036854775806) : Ev (fun k => spec_l19One.F k a) (oneB a) := by
  unfold spec_l19One.F oneB
  refine Ev.bind0 (specCut_ev a.word 45 (by omega)) ?_
  have hc := cutB_size a.word 45
  refine Ev.bind (letters_ev _ 2 15 (by omega)) ?_
  refine Ev.cond (fun h => ?_) (fun h => ?_)
  · refine Ev.bind0 (specCut_ev a.short 46 (by omega)) ?_
    have hc := cutB_size a.short 46
    refine (Ev.bind (letters_ev _ 1 12 (by omega)) (Ev.pure _)).eq ?_
    show _ = (smallB a.word 2 15 45 && _)
    rw [show smallB a.word 2 15 45 = true from h, Bool.true_and]; rfl
  · rw [show smallB a.word 2 15 45 = false from h]; exact Ev.pure _

/-! ### Lists -/
def okA (xs : List Abbr) (i : Nat) : Bool := oneB (xs.getD i (dflt .abbr)) && (decide (i = 0) || ltS (xs.getD (i - 1) (dflt .abbr)).word (xs.getD i (dflt .abbr)).word)
def smalls (xs : List Abbr) : Prop := xs.length ≤ 1048576 ∧ ∀ a ∈ xs, a.word.size ≤ 1048576 ∧ a.short.size ≤ 1048576
theorem validImpl_l0 (xs : List Abbr) (hs : smalls xs) : ∀ n i : Nat, i + n = xs.length → Ev (fun k => impl_IsValidAbbreviations.l0 k xs xs xs.length i) (if (List.range' i n).all (okA xs) = true then .inr xs else .inl false)
  | 0, i, h => by
    refine Ev.step (fun k => by rw [impl_IsValidAbbreviations.l0]) ?_
    simp (disch := omega) only [cneg]
    exact Ev.pure _
  | n + 1, i, h => by
    have hi : i < xs.length := by omega
    obtain ⟨hl, hx⟩ := hs
    obtain ⟨h1, h2⟩ := hx _ (List.getElem_mem hi)
    rw [← getD_at hi (dflt .abbr)] at h1 h2
    rw [List.range'_succ, List.all_cons]
    refine Ev.step (fun k => by rw [impl_IsValidAbbreviations.l0]) ?_
    simp (disch := omega) only [cpos, Int.toNat_natCast]
    refine Ev.bind (isSmall_ev _ 2 15 45 (by omega)) ?_
    unfold okA oneB
    cases hw : smallB (xs.getD i (dflt .abbr)).word 2 15 (45 : UInt8).toNat with
    | false =>
      rw [show smallB (xs.getD i (dflt .abbr)).word 2 15 45 = false from hw]
      exact Ev.pure _
    | true =>
      rw [show smallB (xs.getD i (dflt .abbr)).word 2 15 45 = true from hw]
      simp only [Bool.not_true, cond_false, Bool.true_and]
      refine Ev.bind (isSmall_ev _ 1 12 46 (by omega)) ?_
      cases hw2 : smallB (xs.getD i (dflt .abbr)).short 1 12 (46 : UInt8).toNat with
      | false =>
        rw [show smallB (xs.getD i (dflt .abbr)).short 1 12 46 = false from hw2]
        exact Ev.pure _
      | true =>
        rw [show smallB (xs.getD i (dflt .abbr)).short 1 12 46 = true from hw2]
        simp only [Bool.not_true, cond_false, Bool.true_and]
        have ih := validImpl_l0 xs ⟨hl, hx⟩ n (i + 1) (by omega)
        by_cases c : i = 0
        · simp (disch := omega) only [cneg, wrap_in, dpos, Bool.true_or, Bool.true_and]
          exact ih
        · simp (disch := omega) only [cpos, wrap_in, dneg, Bool.false_or]
          rw [show ((i : Int) - 1).toNat = i - 1 by omega]
          cases ltS (xs.getD (i - 1) (dflt .abbr)).word (xs.getD i (dflt .abbr)).word with
          | false => exact Ev.pure _
          | true => exact ih
theorem validSpec_l0 (xs : List Abbr) (hs : smalls xs) : ∀ n i : Nat, i + n = xs.length → ∃ r, Ev (fun k => spec_l19Good.l0 k xs i) r ∧ (r = .inl false ∨ r = .inr xs) ∧ (xs.length ≤ 15 → r = if (List.range' i n).all (okA xs) = true then .inr xs else .inl false)
  | 0, i, h => by
    refine ⟨.inr xs, Ev.step (fun k => by rw [spec_l19Good.l0]) ?_, .inr rfl, fun _ => rfl⟩
    simp (disch := omega) only [cneg]
    exact Ev.pure _
  | n + 1, i, h => by
    have hi : i < xs.length := by omega
    obtain ⟨hl, hx⟩ := hs
    obtain ⟨h1, h2⟩ := hx _ (List.getElem_mem hi)
    rw [← getD_at hi (dflt .abbr)] at h1 h2
    obtain ⟨r, ih1, ih2, ih3⟩ := validSpec_l0 xs ⟨hl, hx⟩ n (i + 1) (by omega)
    rw [List.range'_succ, List.all_cons]
    by_cases c15 : (i : Int) ≤ 15
    · have st : ∀ r, Ev (fun k => spec_l19Good.l0 k xs i) r ↔ Ev (fun k => spec_l19Good.l0 k xs i) r := fun _ => Iff.rfl
      cases ho : oneB (xs.getD i (dflt .abbr)) with
      | false =>
        refine ⟨.inl false, Ev.step (fun k => by rw [spec_l19Good.l0]) ?_, .inl rfl, fun _ => by unfold okA; rw [ho]; rfl⟩
        simp (disch := omega) only [cpos, Int.toNat_natCast]
        exact Ev.bind (one_ev _ (by omega) (by omega)) (by rw [ho]; exact Ev.pure _)
      | true =>
        by_cases c : i = 0
        · refine ⟨r, Ev.step (fun k => by rw [spec_l19Good.l0]) ?_, ih2, fun h15 => by rw [ih3 h15]; unfold okA; rw [ho, decide_eq_true c]; rfl⟩
          simp (disch := omega) only [cpos, Int.toNat_natCast]
          refine Ev.bind (one_ev _ (by omega) (by omega)) ?_
          rw [ho]
          simp (disch := omega) only [Bool.not_true, cond_false, cneg, wrap_in]
          exact ih1
        · cases hlt : ltS (xs.getD (i - 1) (dflt .abbr)).word (xs.getD i (dflt .abbr)).word with
          | false =>
            refine ⟨.inl false, Ev.step (fun k => by rw [spec_l19Good.l0]) ?_, .inl rfl, fun _ => by unfold okA; rw [ho, hlt, decide_eq_false c]; rfl⟩
            simp (disch := omega) only [cpos, Int.toNat_natCast]
            refine Ev.bind (one_ev _ (by omega) (by omega)) ?_
            rw [ho]
            simp (disch := omega) only [Bool.not_true, cond_false, cpos, wrap_in]
            rw [show ((i : Int) - 1).toNat = i - 1 by omega, hlt]
            exact Ev.pure _
          | true =>
            refine ⟨r, Ev.step (fun k => by rw [spec_l19Good.l0]) ?_, ih2, fun h15 => by rw [ih3 h15]; unfold okA; rw [ho, hlt, decide_eq_false c]; rfl⟩
            simp (disch := omega) only [cpos, Int.toNat_natCast]
            refine Ev.bind (one_ev _ (by omega) (by omega)) ?_
            rw [ho]
            simp (disch := omega) only [Bool.not_true, cond_false, cpos, wrap_in]
            rw [show ((i : Int) - 1).toNat = i - 1 by omega, hlt]
            exact ih1
    · refine ⟨.inr xs, Ev.step (fun k => by rw [spec_l19Good.l0]) ?_, .inr rfl, fun h15 => by omega⟩
      simp (disch := omega) only [cpos, cneg]
      exact Ev.pure _
/-- Are the abbreviations valid? -/
def validA (xs : List Abbr) : Bool := (List.range' 0 xs.length).all (okA xs) && decide ((xs.length : Int) ≤ 15)
theorem validImpl_ev (xs : List Abbr) (hs : smalls xs) : Ev (fun k => impl_IsValidAbbreviations.F k xs) (validA xs) := by
  unfold impl_IsValidAbbreviations.F validA
  have := validImpl_l0 xs hs xs.length 0 (by omega)
  cases hall : (List.range' 0 xs.length).all (okA xs) with
  | true => rw [hall] at this; exact Ev.bind this (Ev.pure _)
  | false => rw [hall] at this; exact Ev.bind this (Ev.pure _)
theorem validSpec_ev (xs : List Abbr) (hs : smalls xs) : Ev (fun k => spec_l19Good.F k xs) (validA xs) := by
  unfold spec_l19Good.F validA
  obtain ⟨r, h1, h2, h3⟩ := validSpec_l0 xs hs xs.length 0 (by omega)
  by_cases c : xs.length ≤ 15
  · have := h3 c
    cases hall : (List.range' 0 xs.length).all (okA xs) with
    | true => rw [this, hall] at h1; exact Ev.bind h1 (Ev.pure _)
    | false => rw [this, hall] at h1; exact Ev.bind h1 (Ev.pure _)
  · rw [decide_eq_false (show ¬ (xs.length : Int) ≤ 15 by omega), Bool.and_false]
    rcases h2 with rfl | rfl
    · exact Ev.bind h1 (Ev.pure _)
    · exact Ev.bind h1 ((Ev.pure _).eq (decide_eq_false (by omega)))
theorem smalls_of {xs : List Abbr} {r l : Int} (h : (xs.length : Int) + totA xs + r = l) (hr : 0 ≤ r) (hl : l ≤ 1048576) : smalls xs := by
  refine ⟨by omega, fun a ha => ?_⟩
  have : szA a ≤ totA xs := by
    unfold totA
    clear h
    induction xs with
    | nil => cases ha
    | cons b l ih =>
      simp only [List.map_cons, List.sum_cons]
      rcases List.mem_cons.1 ha with rfl | h
      · omega
      · have := ih h; omega
  unfold szA at this
  omega
end Go.Proofs.YtnffgabfibafjaaGreatDoor
end
section
/- Plain laws: the short form of a word. -/
namespace Go.Proofs.YtnffgabfibafjaaGreatDoor
open Go.Gx
set_option linter.unusedVariables false
set_option linter.unusedSimpArgs false

/-! ### Bytes -/
theorem bytesL_len (s : ByteArray) : (bytesL s).length = s.size := by
  simp only [bytesL, List.length_map, Array.length_toList]; rfl
theorem bytesL_map (s : ByteArray) : bytesL s = (L s).map fun b => (b.toNat : Int) := rfl
theorem bt_bytes (s : ByteArray) (i : Nat) (h : i < (bytesL s).length) : bt s i = (bytesL s)[i] := by
  rw [L_bt]
  have h' : i < (L s).length := by simpa [bytesL_map] using h
  simp [bytesL_map, List.getD, h']
theorem bytes_range (s : ByteArray) (i : Nat) (h : i < (bytesL s).length) : 0 ≤ (bytesL s)[i] ∧ (bytesL s)[i] ≤ 255 := by
  rw [← bt_bytes s i h]; exact bt_range s i
theorem L_strL (ys : List Int) : L (strL ys) = ys.map fun n => UInt8.ofNat n.toNat := L_mk _
theorem strL_bytes (s : ByteArray) : strL (bytesL s) = s := by
  apply L_inj
  rw [L_strL, bytesL_map, List.map_map]
  conv => rhs; rw [← List.map_id (L s)]
  refine List.map_congr_left fun b _ => ?_
  simp
theorem strL_size (ys : List Int) : (strL ys).size = ys.length := by
  rw [← L_size, L_strL, List.length_map]
def ltrI (b : Int) : Bool := (decide (65 ≤ b) && decide (b ≤ 90)) || (decide (97 ≤ b) && decide (b ≤ 122))
theorem specLetter_ev (b : Int) : spec_l6Letter.F b = some (ltrI b) := by
  unfold spec_l6Letter.F ltrI
  simp only [ge_iff_le]
  cases decide (65 ≤ b) <;> cases decide (b ≤ 90) <;> cases decide (97 ≤ b) <;> cases decide (b ≤ 122) <;> rfl
theorem isLetter_ev (b : Int) : impl_isLetter.F b = some (ltrI b) := by
  unfold impl_isLetter.F impl_isUpper.F impl_isLower.F ltrI
  simp only [ge_iff_le]
  cases decide (65 ≤ b) <;> cases decide (b ≤ 90) <;> cases decide (97 ≤ b) <;> cases decide (b ≤ 122) <;> rfl
theorem isUpper_ev (b : Int) : impl_isUpper.F b = some (decide (65 ≤ b) && decide (b ≤ 90)) := by
  unfold impl_isUpper.F
  simp only [ge_iff_le]
  cases decide (65 ≤ b) <;> rfl
def lowI (b : Int) : Int := bif decide (65 ≤ b) && decide (b ≤ 90) then b + 32 else b
theorem specLowerByte_ev (b : Int) : spec_l6LowerByte.F b = some (lowI b) := by
  unfold spec_l6LowerByte.F lowI
  simp only [ge_iff_le]
  by_cases h1 : 65 ≤ b
  · by_cases h2 : b ≤ 90
    · have : IntKind.wrap .u8 (b + 32) = b + 32 := by rw [IntKind.wrap_u8]; omega
      simp only [dpos h1, dpos h2, cond_true, Bool.and_self, this]
    · simp only [dpos h1, dneg h2, cond_true, cond_false, Bool.and_false]
  · simp only [dneg h1, cond_false, Bool.false_and]
def upI (b : Int) : Int := bif decide (97 ≤ b) && decide (b ≤ 122) then IntKind.wrap .u8 (b - 32) else b
theorem specUpperByte_ev (b : Int) : spec_l6UpperByte.F b = some (upI b) := by
  unfold spec_l6UpperByte.F upI
  simp only [ge_iff_le]
  cases decide (97 ≤ b) <;> cases decide (b ≤ 122) <;> rfl
theorem upperByte_ev (b : Int) : impl_upperByte.F b = some (upI b) := by
  unfold impl_upperByte.F impl_isLower.F upI
  simp only [ge_iff_le]
  cases decide (97 ≤ b) <;> cases decide (b ≤ 122) <;> rfl

/-! ### Lower case -/
def mix (s : ByteArray) (i : Nat) : List Int := ((bytesL s).take i).map lowI ++ (bytesL s).drop i
theorem mix_len (s : ByteArray) (i : Nat) : (mix s i).length = (bytesL s).length := by
  unfold mix; simp; omega
theorem mix_at (s : ByteArray) (i : Nat) (h : i < (bytesL s).length) : (mix s i).getD i 0 = (bytesL s)[i] := by
  unfold mix
  rw [List.getD_eq_getElem?_getD, List.getElem?_append_right (by simp; omega)]
  simp [Nat.min_eq_left (Nat.le_of_lt h), h]
theorem mix_set (s : ByteArray) (i : Nat) (h : i < (bytesL s).length) : (mix s i).set i (lowI (bytesL s)[i]) = mix s (i + 1) := by
  unfold mix
  rw [List.set_append_right _ _ (by simp; omega)]
  simp only [List.length_map, List.length_take, Nat.min_eq_left (Nat.le_of_lt h), Nat.sub_self]
  rw [List.drop_eq_getElem_cons h, List.set_cons_zero, List.take_add_one, List.getElem?_eq_getElem h]
  simp only [Option.toList_some, List.map_append, List.map_cons, List.map_nil, List.append_assoc, List.cons_append, List.nil_append]
theorem mix_same (s : ByteArray) (i : Nat) (h : i < (bytesL s).length) (e : lowI (bytesL s)[i] = (bytesL s)[i]) : mix s (i + 1) = mix s i := by
  rw [← mix_set s i h, e]
  apply List.ext_getElem?
  intro j
  by_cases hj : i = j
  · subst hj
    have := mix_at s i h
    rw [List.getD_eq_getElem?_getD] at this
    rw [List.getElem?_set_self (by rw [mix_len]; exact h)]
    rw [List.getElem?_eq_getElem (by rw [mix_len]; exact h)] at this ⊢
    rw [← this]; rfl
  · rw [List.getElem?_set_ne hj]
theorem specLower_l0 (s : ByteArray) (hs : s.size ≤ 1048576) : ∀ n i : Nat, i + n = s.size → Ev (fun k => spec_l6Lower.l0 k s (((bytesL s).take i).map lowI) i) ((bytesL s).map lowI)
  | 0, i, h => by
    refine Ev.step (fun k => by rw [spec_l6Lower.l0]) ?_
    simp (disch := omega) only [cneg]
    rw [List.take_of_length_le (by rw [bytesL_len]; omega)]
    exact Ev.pure _
  | n + 1, i, h => by
    have hl := bytesL_len s
    have hi : i < (bytesL s).length := by omega
    refine Ev.step (fun k => by rw [spec_l6Lower.l0]) ?_
    simp (disch := omega) only [cpos, Int.toNat_natCast, bt_bytes s i hi]
    refine Ev.bind0 (specLowerByte_ev _) ?_
    have hr : room ((((bytesL s).take i).map lowI).length + ([lowI (bytesL s)[i]] : List Int).length) (.int .u8) = true := by
      unfold room
      rw [Nat.ble_eq]
      have : nb (.int .u8) = 1 := rfl
      rw [this]
      simp; omega
    simp (disch := omega) only [hr, cond_true, wrap_in]
    have e : ((bytesL s).take i).map lowI ++ [lowI (bytesL s)[i]] = ((bytesL s).take (i + 1)).map lowI := by
      rw [List.take_add_one, List.getElem?_eq_getElem hi]
      simp only [Option.toList_some, List.map_append, List.map_cons, List.map_nil]
    rw [e]
    exact specLower_l0 s hs n (i + 1) (by omega)
theorem lower_l0 (s : ByteArray) (hs : s.size ≤ 1048576) : ∀ n i : Nat, i + n = s.size → Ev (fun k => impl_lower.l0 k (mix s i) s.size i) ((bytesL s).map lowI)
  | 0, i, h => by
    refine Ev.step (fun k => by rw [impl_lower.l0]) ?_
    simp (disch := omega) only [cneg]
    unfold mix
    rw [List.take_of_length_le (by rw [bytesL_len]; omega), List.drop_eq_nil_of_le (by rw [bytesL_len]; omega), List.append_nil]
    exact Ev.pure _
  | n + 1, i, h => by
    have hl := bytesL_len s
    have hi : i < (bytesL s).length := by omega
    have hm := mix_len s i
    have ih := lower_l0 s hs n (i + 1) (by omega)
    have hb := bytes_range s i hi
    refine Ev.step (fun k => by rw [impl_lower.l0]) ?_
    simp (disch := omega) only [cpos, Int.toNat_natCast, mix_at s i hi]
    refine Ev.bind0 (isUpper_ev _) ?_
    cases hu : decide (65 ≤ (bytesL s)[i]) && decide ((bytesL s)[i] ≤ 90) with
    | true =>
      have hu' := hu
      simp only [Bool.and_eq_true, decide_eq_true_eq] at hu'
      have e : IntKind.wrap .u8 (IntKind.wrap .u8 ((bytesL s)[i] + 97) - 65) = lowI (bytesL s)[i] := by
        unfold lowI
        rw [hu, cond_true, IntKind.wrap_u8, IntKind.wrap_u8]; omega
      simp (disch := omega) only [cond_true, cpos, e, mix_set s i hi, wrap_in]
      exact ih
    | false =>
      have e : lowI (bytesL s)[i] = (bytesL s)[i] := by unfold lowI; rw [hu, cond_false]
      rw [mix_same s i hi e] at ih
      simp (disch := omega) only [cond_false, wrap_in]
      exact ih
def lowS (s : ByteArray) : ByteArray := strL ((bytesL s).map lowI)
theorem lowS_size (s : ByteArray) : (lowS s).size = s.size := by unfold lowS; rw [strL_size, List.length_map, bytesL_len]
theorem specLower_ev (s : ByteArray) (hs : s.size ≤ 1048576) : Ev (fun k => spec_l6Lower.F k s) (lowS s) := by
  unfold spec_l6Lower.F
  exact Ev.bind (specLower_l0 s hs s.size 0 (by omega)) (Ev.pure _)
theorem lower_ev (s : ByteArray) (hs : s.size ≤ 1048576) : Ev (fun k => impl_lower.F k s) (lowS s) := by
  unfold impl_lower.F
  rw [bytesL_len]
  simp (disch := omega) only [cble]
  have := lower_l0 s hs s.size 0 (by omega)
  unfold mix at this
  rw [List.take_zero, List.map_nil, List.nil_append, List.drop_zero] at this
  exact Ev.bind this (Ev.pure _)
end Go.Proofs.YtnffgabfibafjaaGreatDoor
end
