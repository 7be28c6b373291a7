import Derived.Test.YtnffgabfibafjaaDoorSh
import Derived.Test.YtnffgabfibafjaaDoorGxExt
import Derived.Test.YtnffgabfibafjaaDoorProg
import Derived.Test.YtnffgabfibafjaaDoorGxTab
import Derived.Test.YtnffgabfibafjaaDoorGxEq
import Derived.KernelRfl
namespace Go.Proofs.YtnffgabfibafjaaDoor
open Go.Gx
set_option linter.unusedVariables false
set_option maxRecDepth 100000
def tyT (t : Nat) : Option Ty := match t with
  | 2 => some (.int .i64)
  | 3 => some (.int .i64)
  | 4 => some .bool
  | 5 => some (.int .u8)
  | 6 => some (.int .u8)
  | 9 => some .str
  | 10 => some .str
  | 11 => some .str
  | 21 => some (.int .i32)
  | 22 => some (.sl .query)
  | 24 => some .query
  | 26 => some (.sl .str)
  | 29 => some (.sl .query)
  | 31 => some .query
  | 38 => some (.sl .abbr)
  | 41 => some (.sl .abbr)
  | 51 => some (.sl .entry)
  | 53 => some .lib
  | 57 => some (.sl .entry)
  | 59 => some .lib
  | 74 => some .abbr
  | 79 => some .abbr
  | 84 => some (.sl (.int .i64))
  | 94 => some (.sl .name)
  | 96 => some .date
  | 98 => some .entry
  | 108 => some (.int .u64)
  | 109 => some (.sl (.int .u8))
  | 123 => some (.sl .name)
  | 124 => some .date
  | 126 => some .entry
  | 132 => some (.int .i64)
  | 139 => some (.int .u32)
  | 141 => some (.int .u64)
  | 165 => some (.arr 8 .str)
  | 166 => some (.int .u64)
  | 173 => some (.arr 256 .bool)
  | 182 => some .name
  | 183 => some .name
  | 206 => some (.arr 256 (.int .u8))
  | 222 => some (.int .u8)
  | _ => none
def elT (t : Nat) : Nat := match t with
  | 22 => 24
  | 26 => 9
  | 29 => 31
  | 38 => 74
  | 41 => 79
  | 51 => 126
  | 57 => 98
  | 84 => 3
  | 94 => 183
  | 109 => 5
  | 123 => 182
  | _ => 0
def mdT (f : Nat) : Bool := match f with
  | 15 => true
  | 22 => true
  | 41 => true
  | 43 => true
  | 54 => true
  | _ => false
def glT (g : Nat) : Option AV := match g with
  | _ => none
def giT (g : Nat) : Bool := match g with
  | 1 => true
  | _ => false
def envX : Env := ⟨tyT, elT, glT, mdT, giT⟩
theorem env_ty : ∀ T τ, envX.ty T = some τ → TyOk Tryd.prog envX T τ := fun T τ h => by
  dsimp only [envX, tyT] at h
  split at h <;> first
    | (cases h; done)
    | (cases h; exact tyOk_of (by kernel_rfl) (by kernel_rfl))
theorem envOk : EnvOk Tryd.prog envX := ⟨env_ty, by kernel_rfl, fun T h => by
  dsimp only [envX, tyT] at h
  split at h <;> first
    | (cases h; done)
    | exact date_eq env_ty rfl (by kernel_rfl) (by kernel_rfl) (by kernel_rfl), fun T h => by
  dsimp only [envX, tyT] at h
  split at h <;> first
    | (cases h; done)
    | exact abbr_eq env_ty rfl (by kernel_rfl) (by kernel_rfl) (by kernel_rfl)⟩
/-! ### 45 loop.example/g00896/laws.szAbbreviation -/
def laws_szAbbreviation.F (a0 : Abbr) (a1 : Int) : Option (Int) := bif (decide ((IntKind.wrap .i64 (a1 - (a0.word.size : Int))) < 0)) then (some (-1)) else (bif (decide ((IntKind.wrap .i64 ((IntKind.wrap .i64 (a1 - (a0.word.size : Int))) - (a0.short.size : Int))) < 0)) then (some (-1)) else (some (IntKind.wrap .i64 ((IntKind.wrap .i64 (a1 - (a0.word.size : Int))) - (a0.short.size : Int)))))
def laws_szAbbreviation.C : Cal → Option CArm := fun c => match c with
  | _ => none
theorem laws_szAbbreviation.run (a0 : Abbr) (a1 : Int) : runF envX (tabC laws_szAbbreviation.C) (tabL 20 0 (fun _ => none)) Tryd.f45 [.t .abbr a0, .t (.int .i64) a1] (viewR1 (.t (.int .i64))) = laws_szAbbreviation.F a0 a1 := by kernel_rfl
theorem laws_szAbbreviation.G (hE : EnvOk Tryd.prog envX) (pv : Nat → Value) : ∀ cal A, laws_szAbbreviation.C cal = some A → ArmOk Tryd.prog envX pv cal A := by
  intro cal A h
  unfold laws_szAbbreviation.C at h
  cases h
theorem laws_szAbbreviation.good (hE : EnvOk Tryd.prog envX) (pv : Nat → Value) (a0 : Abbr) (a1 : Int) {y : _} (h : laws_szAbbreviation.F a0 a1 = some y) : Meets Tryd.prog envX pv (.f 45) (tvals [.abbr, (.int .i64)] (a0, a1, ())) (.t (.int .i64) y) :=
  fun_plain hE (laws_szAbbreviation.G hE pv) (f := 45) (fn := Tryd.f45) (by kernel_rfl) rfl (by kernel_rfl) (by kernel_rfl) ((laws_szAbbreviation.run a0 a1).trans h) fun r hr => wk_view1 hr
/-! ### 17 loop.example/g00896/laws.szAbbreviationS -/
def laws_szAbbreviationS.l0 : Nat → (List Abbr) → Int → Int → Option (Sum Int Int)
  | 0, _, _, _ => none
  | k + 1, x0, x1, x5 => bif (decide (x5 < (x0.length : Int))) then (bif decide (0 ≤ x5) then (bif decide (x5 < (x0.length : Int)) then ((laws_szAbbreviation.F (x0.getD (x5 : Int).toNat (dflt .abbr)) x1).bind fun r1 => bif (decide (r1 < 0)) then (some (.inl (-1))) else (laws_szAbbreviationS.l0 k x0 r1 (IntKind.wrap .i64 (x5 + 1)))) else none) else none) else (some (.inr x1))
def laws_szAbbreviationS.F (k : Nat) (a0 : List Abbr) (a1 : Int) : Option (Int) := bif (decide ((IntKind.wrap .i64 (a1 - (a0.length : Int))) < 0)) then (some (-1)) else ((laws_szAbbreviationS.l0 k a0 (IntKind.wrap .i64 (a1 - (a0.length : Int))) 0).bind fun y2 => match y2 with | .inl z3 => some z3 | .inr z3 => some z3)
def laws_szAbbreviationS.C (k : Nat) : Cal → Option CArm := fun c => match c with
  | .f 45 => some (.p [.abbr, (.int .i64)] _ (fun x => laws_szAbbreviation.F x.1 x.2.1) (fun r => (.t (.int .i64) r)))
  | _ => none
def laws_szAbbreviationS.sp0 : List Sp := [.t 0 (.sl .abbr), .t 1 (.int .i64), .t 5 (.int .i64)]
def laws_szAbbreviationS.sp0_0 : List Sp := [.t 4 (.int .i64)]
def laws_szAbbreviationS.sp0_1 : List Sp := [.t 1 (.int .i64)]
def laws_szAbbreviationS.A0 : LArm := .two laws_szAbbreviationS.sp0 laws_szAbbreviationS.sp0_0 laws_szAbbreviationS.sp0_1 (Int) (Int) (fun k x => laws_szAbbreviationS.l0 k x.1 x.2.1 x.2.2.1) .ret (.exit 0) (fun y => (y, ())) (fun x => x.1) (fun y => (y, ())) (fun x => x.1)
def laws_szAbbreviationS.L : Nat → Option LArm := fun b => match b with
  | 0 => some laws_szAbbreviationS.A0
  | _ => none
theorem laws_szAbbreviationS.run (k : Nat) (a0 : List Abbr) (a1 : Int) : runF envX (tabC (laws_szAbbreviationS.C k)) (tabL 27 k laws_szAbbreviationS.L) Tryd.f17 [.t (.sl .abbr) a0, .t (.int .i64) a1] (viewR1 (.t (.int .i64))) = laws_szAbbreviationS.F k a0 a1 := by kernel_rfl
theorem laws_szAbbreviationS.step0 (k : Nat) (x0 : List Abbr) (x1 : Int) (x5 : Int) : runC envX (tabC (laws_szAbbreviationS.C k)) (tabL 27 k laws_szAbbreviationS.L) 0 (loopAt Tryd.f17 0) (stOf 27 laws_szAbbreviationS.sp0 (x0, x1, x5, ())) (laws_szAbbreviationS.A0.cont 27 k) = laws_szAbbreviationS.l0 (k + 1) x0 x1 x5 := by kernel_rfl
theorem laws_szAbbreviationS.G (hE : EnvOk Tryd.prog envX) (pv : Nat → Value) (k : Nat) : ∀ cal A, laws_szAbbreviationS.C k cal = some A → ArmOk Tryd.prog envX pv cal A := by
  intro cal A h
  unfold laws_szAbbreviationS.C at h
  split at h
  · cases h; exact fun x y hy => laws_szAbbreviation.good hE pv x.1 x.2.1 hy
  · cases h
theorem laws_szAbbreviationS.good (hE : EnvOk Tryd.prog envX) (pv : Nat → Value) (k : Nat) (a0 : List Abbr) (a1 : Int) {y : _} (h : laws_szAbbreviationS.F k a0 a1 = some y) : Meets Tryd.prog envX pv (.f 17) (tvals [(.sl .abbr), (.int .i64)] (a0, a1, ())) (.t (.int .i64) y) :=
  fun_loops hE (t := laws_szAbbreviationS.C) k (fun k _ => laws_szAbbreviationS.G hE pv k) (f := 17) (fn := Tryd.f17) (by kernel_rfl) rfl (by kernel_rfl) (by kernel_rfl) (lt := laws_szAbbreviationS.L) (by kernel_rfl) (fun b A h => by
    unfold laws_szAbbreviationS.L at h; split at h
    · cases h; exact ⟨by kernel_rfl, by kernel_rfl, by kernel_rfl, fun _ => rfl, fun _ => rfl, fun _ => rfl⟩
    · cases h) (fun b A h => by
    unfold laws_szAbbreviationS.L at h; split at h
    · cases h; exact fun k x => laws_szAbbreviationS.step0 k x.1 x.2.1 x.2.2.1
    · cases h) ((laws_szAbbreviationS.run k a0 a1).trans h) fun r hr => wk_view1 hr
/-! ### 50 loop.example/g00896/laws.toAbbreviation -/
def laws_toAbbreviation.F (a0 : Abbr) : Option (Abbr) := some (⟨a0.word, a0.short⟩ : Abbr)
def laws_toAbbreviation.C : Cal → Option CArm := fun c => match c with
  | _ => none
theorem laws_toAbbreviation.run (a0 : Abbr) : runF envX (tabC laws_toAbbreviation.C) (tabL 11 0 (fun _ => none)) Tryd.f50 [.t .abbr a0] (viewR1 (.t .abbr)) = laws_toAbbreviation.F a0 := by kernel_rfl
theorem laws_toAbbreviation.G (hE : EnvOk Tryd.prog envX) (pv : Nat → Value) : ∀ cal A, laws_toAbbreviation.C cal = some A → ArmOk Tryd.prog envX pv cal A := by
  intro cal A h
  unfold laws_toAbbreviation.C at h
  cases h
theorem laws_toAbbreviation.good (hE : EnvOk Tryd.prog envX) (pv : Nat → Value) (a0 : Abbr) {y : _} (h : laws_toAbbreviation.F a0 = some y) : Meets Tryd.prog envX pv (.f 50) (tvals [.abbr] (a0, ())) (.t .abbr y) :=
  fun_plain hE (laws_toAbbreviation.G hE pv) (f := 50) (fn := Tryd.f50) (by kernel_rfl) rfl (by kernel_rfl) (by kernel_rfl) ((laws_toAbbreviation.run a0).trans h) fun r hr => wk_view1 hr
/-! ### 19 loop.example/g00896/laws.toAbbreviationS -/
def laws_toAbbreviationS.l0 : Nat → (List Abbr) → (List Abbr) → Int → Option ((List Abbr))
  | 0, _, _, _ => none
  | k + 1, x0, x3, x4 => bif (decide (x4 < (x0.length : Int))) then (bif decide (0 ≤ x4) then (bif decide (x4 < (x0.length : Int)) then ((laws_toAbbreviation.F (x0.getD (x4 : Int).toNat (dflt .abbr))).bind fun r1 => bif decide (0 ≤ x4) then (bif decide (x4 < (x3.length : Int)) then (laws_toAbbreviationS.l0 k x0 (x3.set ((x4 : Int).toNat) r1) (IntKind.wrap .i64 (x4 + 1))) else none) else none) else none) else none) else (some x3)
def laws_toAbbreviationS.F (k : Nat) (a0 : List Abbr) : Option (List Abbr) := bif ((a0.length : Int) == (a0.length : Int)) then (bif decide (0 ≤ (a0.length : Int)) then (bif Nat.ble (((a0.length : Int) : Int).toNat * nb .abbr) 140737488355328 then ((laws_toAbbreviationS.l0 k a0 (List.replicate ((a0.length : Int) : Int).toNat (dflt .abbr)) 0).bind fun y2 => some y2) else none) else none) else none
def laws_toAbbreviationS.C (k : Nat) : Cal → Option CArm := fun c => match c with
  | .f 50 => some (.p [.abbr] _ (fun x => laws_toAbbreviation.F x.1) (fun r => (.t .abbr r)))
  | _ => none
def laws_toAbbreviationS.sp0 : List Sp := [.t 0 (.sl .abbr), .own 3 1032 79 .abbr false true, .t 4 (.int .i64)]
def laws_toAbbreviationS.sp0_0 : List Sp := [.own 3 1032 79 .abbr false true]
def laws_toAbbreviationS.A0 : LArm := .one laws_toAbbreviationS.sp0 laws_toAbbreviationS.sp0_0 ((List Abbr)) (fun k x => laws_toAbbreviationS.l0 k x.1 x.2.1 x.2.2.1) (.exit 0) (fun y => (y, ())) (fun x => x.1)
def laws_toAbbreviationS.L : Nat → Option LArm := fun b => match b with
  | 0 => some laws_toAbbreviationS.A0
  | _ => none
theorem laws_toAbbreviationS.run (k : Nat) (a0 : List Abbr) : runF envX (tabC (laws_toAbbreviationS.C k)) (tabL 23 k laws_toAbbreviationS.L) Tryd.f19 [.t (.sl .abbr) a0] (viewR1 (.fr 79 .abbr)) = laws_toAbbreviationS.F k a0 := by kernel_rfl
theorem laws_toAbbreviationS.step0 (k : Nat) (x0 : List Abbr) (x3 : List Abbr) (x4 : Int) : runC envX (tabC (laws_toAbbreviationS.C k)) (tabL 23 k laws_toAbbreviationS.L) 0 (loopAt Tryd.f19 0) (stOf 23 laws_toAbbreviationS.sp0 (x0, x3, x4, ())) (laws_toAbbreviationS.A0.cont 23 k) = laws_toAbbreviationS.l0 (k + 1) x0 x3 x4 := by kernel_rfl
theorem laws_toAbbreviationS.G (hE : EnvOk Tryd.prog envX) (pv : Nat → Value) (k : Nat) : ∀ cal A, laws_toAbbreviationS.C k cal = some A → ArmOk Tryd.prog envX pv cal A := by
  intro cal A h
  unfold laws_toAbbreviationS.C at h
  split at h
  · cases h; exact fun x y hy => laws_toAbbreviation.good hE pv x.1 hy
  · cases h
theorem laws_toAbbreviationS.good (hE : EnvOk Tryd.prog envX) (pv : Nat → Value) (k : Nat) (a0 : List Abbr) {y : _} (h : laws_toAbbreviationS.F k a0 = some y) : Meets Tryd.prog envX pv (.f 19) (tvals [(.sl .abbr)] (a0, ())) (.fr 79 .abbr y) :=
  fun_loops hE (t := laws_toAbbreviationS.C) k (fun k _ => laws_toAbbreviationS.G hE pv k) (f := 19) (fn := Tryd.f19) (by kernel_rfl) rfl (by kernel_rfl) (by kernel_rfl) (lt := laws_toAbbreviationS.L) (by kernel_rfl) (fun b A h => by
    unfold laws_toAbbreviationS.L at h; split at h
    · cases h; exact ⟨by kernel_rfl, by kernel_rfl, fun _ => rfl, fun _ => rfl⟩
    · cases h) (fun b A h => by
    unfold laws_toAbbreviationS.L at h; split at h
    · cases h; exact fun k x => laws_toAbbreviationS.step0 k x.1 x.2.1 x.2.2.1
    · cases h) ((laws_toAbbreviationS.run k a0).trans h) fun r hr => wk_view1 hr
/-! ### 57 loop.example/g00896/laws.eqAbbreviation -/
def laws_eqAbbreviation.F (a0 : Abbr) (a1 : Abbr) : Option (Bool) := bif (!beqS a0.word a1.word) then (some false) else (bif (!beqS a0.short a1.short) then (some false) else (some true))
def laws_eqAbbreviation.C : Cal → Option CArm := fun c => match c with
  | _ => none
theorem laws_eqAbbreviation.run (a0 : Abbr) (a1 : Abbr) : runF envX (tabC laws_eqAbbreviation.C) (tabL 15 0 (fun _ => none)) Tryd.f57 [.t .abbr a0, .t .abbr a1] (viewR1 (.t .bool)) = laws_eqAbbreviation.F a0 a1 := by kernel_rfl
theorem laws_eqAbbreviation.G (hE : EnvOk Tryd.prog envX) (pv : Nat → Value) : ∀ cal A, laws_eqAbbreviation.C cal = some A → ArmOk Tryd.prog envX pv cal A := by
  intro cal A h
  unfold laws_eqAbbreviation.C at h
  cases h
theorem laws_eqAbbreviation.good (hE : EnvOk Tryd.prog envX) (pv : Nat → Value) (a0 : Abbr) (a1 : Abbr) {y : _} (h : laws_eqAbbreviation.F a0 a1 = some y) : Meets Tryd.prog envX pv (.f 57) (tvals [.abbr, .abbr] (a0, a1, ())) (.t .bool y) :=
  fun_plain hE (laws_eqAbbreviation.G hE pv) (f := 57) (fn := Tryd.f57) (by kernel_rfl) rfl (by kernel_rfl) (by kernel_rfl) ((laws_eqAbbreviation.run a0 a1).trans h) fun r hr => wk_view1 hr
/-! ### 21 loop.example/g00896/laws.eqAbbreviationS -/
def laws_eqAbbreviationS.l0 : Nat → (List Abbr) → (List Abbr) → Int → Option (Sum Bool Unit)
  | 0, _, _, _ => none
  | k + 1, x0, x1, x5 => bif (decide (x5 < (x0.length : Int))) then (bif decide (0 ≤ x5) then (bif decide (x5 < (x0.length : Int)) then (bif decide (0 ≤ x5) then (bif decide (x5 < (x1.length : Int)) then ((laws_eqAbbreviation.F (x0.getD (x5 : Int).toNat (dflt .abbr)) (x1.getD (x5 : Int).toNat (dflt .abbr))).bind fun r1 => bif (!r1) then (some (.inl false)) else (laws_eqAbbreviationS.l0 k x0 x1 (IntKind.wrap .i64 (x5 + 1)))) else none) else none) else none) else none) else (some (.inr ()))
def laws_eqAbbreviationS.F (k : Nat) (a0 : List Abbr) (a1 : List Abbr) : Option (Bool) := bif ((a0.length : Int) != (a1.length : Int)) then (some false) else ((laws_eqAbbreviationS.l0 k a0 a1 0).bind fun y2 => match y2 with | .inl z3 => some z3 | .inr z3 => some true)
def laws_eqAbbreviationS.C (k : Nat) : Cal → Option CArm := fun c => match c with
  | .f 57 => some (.p [.abbr, .abbr] _ (fun x => laws_eqAbbreviation.F x.1 x.2.1) (fun r => (.t .bool r)))
  | _ => none
def laws_eqAbbreviationS.sp0 : List Sp := [.t 0 (.sl .abbr), .t 1 (.sl .abbr), .t 5 (.int .i64)]
def laws_eqAbbreviationS.sp0_0 : List Sp := [.t 4 .bool]
def laws_eqAbbreviationS.sp0_1 : List Sp := []
def laws_eqAbbreviationS.A0 : LArm := .two laws_eqAbbreviationS.sp0 laws_eqAbbreviationS.sp0_0 laws_eqAbbreviationS.sp0_1 (Bool) (Unit) (fun k x => laws_eqAbbreviationS.l0 k x.1 x.2.1 x.2.2.1) .ret (.exit 0) (fun y => (y, ())) (fun x => x.1) (fun y => ()) (fun x => ())
def laws_eqAbbreviationS.L : Nat → Option LArm := fun b => match b with
  | 0 => some laws_eqAbbreviationS.A0
  | _ => none
theorem laws_eqAbbreviationS.run (k : Nat) (a0 : List Abbr) (a1 : List Abbr) : runF envX (tabC (laws_eqAbbreviationS.C k)) (tabL 27 k laws_eqAbbreviationS.L) Tryd.f21 [.t (.sl .abbr) a0, .t (.sl .abbr) a1] (viewR1 (.t .bool)) = laws_eqAbbreviationS.F k a0 a1 := by kernel_rfl
theorem laws_eqAbbreviationS.step0 (k : Nat) (x0 : List Abbr) (x1 : List Abbr) (x5 : Int) : runC envX (tabC (laws_eqAbbreviationS.C k)) (tabL 27 k laws_eqAbbreviationS.L) 0 (loopAt Tryd.f21 0) (stOf 27 laws_eqAbbreviationS.sp0 (x0, x1, x5, ())) (laws_eqAbbreviationS.A0.cont 27 k) = laws_eqAbbreviationS.l0 (k + 1) x0 x1 x5 := by kernel_rfl
theorem laws_eqAbbreviationS.G (hE : EnvOk Tryd.prog envX) (pv : Nat → Value) (k : Nat) : ∀ cal A, laws_eqAbbreviationS.C k cal = some A → ArmOk Tryd.prog envX pv cal A := by
  intro cal A h
  unfold laws_eqAbbreviationS.C at h
  split at h
  · cases h; exact fun x y hy => laws_eqAbbreviation.good hE pv x.1 x.2.1 hy
  · cases h
theorem laws_eqAbbreviationS.good (hE : EnvOk Tryd.prog envX) (pv : Nat → Value) (k : Nat) (a0 : List Abbr) (a1 : List Abbr) {y : _} (h : laws_eqAbbreviationS.F k a0 a1 = some y) : Meets Tryd.prog envX pv (.f 21) (tvals [(.sl .abbr), (.sl .abbr)] (a0, a1, ())) (.t .bool y) :=
  fun_loops hE (t := laws_eqAbbreviationS.C) k (fun k _ => laws_eqAbbreviationS.G hE pv k) (f := 21) (fn := Tryd.f21) (by kernel_rfl) rfl (by kernel_rfl) (by kernel_rfl) (lt := laws_eqAbbreviationS.L) (by kernel_rfl) (fun b A h => by
    unfold laws_eqAbbreviationS.L at h; split at h
    · cases h; exact ⟨by kernel_rfl, by kernel_rfl, by kernel_rfl, fun _ => rfl, fun _ => rfl, fun _ => rfl⟩
    · cases h) (fun b A h => by
    unfold laws_eqAbbreviationS.L at h; split at h
    · cases h; exact fun k x => laws_eqAbbreviationS.step0 k x.1 x.2.1 x.2.2.1
    · cases h) ((laws_eqAbbreviationS.run k a0 a1).trans h) fun r hr => wk_view1 hr
/-! ### 95 loop.example/g00896/spec.l19Cut -/
def spec_l19Cut.F (a0 : ByteArray) (a1 : Int) : Option (ByteArray) := bif (!beqS a0 (⟨#[]⟩ : ByteArray)) then (bif decide (0 ≤ (IntKind.wrap .i64 ((a0.size : Int) - 1))) then (bif decide ((IntKind.wrap .i64 ((a0.size : Int) - 1)) < (a0.size : Int)) then (bif ((bt a0 ((IntKind.wrap .i64 ((a0.size : Int) - 1)) : Int).toNat) == a1) then (bif decide (0 ≤ (IntKind.wrap .i64 ((a0.size : Int) - 1))) then (bif decide ((IntKind.wrap .i64 ((a0.size : Int) - 1)) ≤ (a0.size : Int)) then (some (a0.extract 0 ((IntKind.wrap .i64 ((a0.size : Int) - 1)) : Int).toNat)) else none) else none) else (some a0)) else none) else none) else (some a0)
def spec_l19Cut.C : Cal → Option CArm := fun c => match c with
  | _ => none
theorem spec_l19Cut.run (a0 : ByteArray) (a1 : Int) : runF envX (tabC spec_l19Cut.C) (tabL 22 0 (fun _ => none)) Tryd.f95 [.t .str a0, .t (.int .u8) a1] (viewR1 (.t .str)) = spec_l19Cut.F a0 a1 := by kernel_rfl
theorem spec_l19Cut.G (hE : EnvOk Tryd.prog envX) (pv : Nat → Value) : ∀ cal A, spec_l19Cut.C cal = some A → ArmOk Tryd.prog envX pv cal A := by
  intro cal A h
  unfold spec_l19Cut.C at h
  cases h
theorem spec_l19Cut.good (hE : EnvOk Tryd.prog envX) (pv : Nat → Value) (a0 : ByteArray) (a1 : Int) {y : _} (h : spec_l19Cut.F a0 a1 = some y) : Meets Tryd.prog envX pv (.f 95) (tvals [.str, (.int .u8)] (a0, a1, ())) (.t .str y) :=
  fun_plain hE (spec_l19Cut.G hE pv) (f := 95) (fn := Tryd.f95) (by kernel_rfl) rfl (by kernel_rfl) (by kernel_rfl) ((spec_l19Cut.run a0 a1).trans h) fun r hr => wk_view1 hr
/-! ### 161 loop.example/g00896/spec.l1In -/
def spec_l1In.F (a0 : Int) (a1 : Int) (a2 : Int) : Option (Bool) := bif (decide (a0 ≥ a1)) then (some (decide (a0 ≤ a2))) else (some false)
def spec_l1In.C : Cal → Option CArm := fun c => match c with
  | _ => none
theorem spec_l1In.run (a0 : Int) (a1 : Int) (a2 : Int) : runF envX (tabC spec_l1In.C) (tabL 15 0 (fun _ => none)) Tryd.f161 [.t (.int .i64) a0, .t (.int .i64) a1, .t (.int .i64) a2] (viewR1 (.t .bool)) = spec_l1In.F a0 a1 a2 := by kernel_rfl
theorem spec_l1In.G (hE : EnvOk Tryd.prog envX) (pv : Nat → Value) : ∀ cal A, spec_l1In.C cal = some A → ArmOk Tryd.prog envX pv cal A := by
  intro cal A h
  unfold spec_l1In.C at h
  cases h
theorem spec_l1In.good (hE : EnvOk Tryd.prog envX) (pv : Nat → Value) (a0 : Int) (a1 : Int) (a2 : Int) {y : _} (h : spec_l1In.F a0 a1 a2 = some y) : Meets Tryd.prog envX pv (.f 161) (tvals [(.int .i64), (.int .i64), (.int .i64)] (a0, a1, a2, ())) (.t .bool y) :=
  fun_plain hE (spec_l1In.G hE pv) (f := 161) (fn := Tryd.f161) (by kernel_rfl) rfl (by kernel_rfl) (by kernel_rfl) ((spec_l1In.run a0 a1 a2).trans h) fun r hr => wk_view1 hr
/-! ### 125 loop.example/g00896/spec.l19Letters -/
def spec_l19Letters.l0 : Nat → ByteArray → Int → Int → Int → Option (Sum Bool (ByteArray × Int × Int))
  | 0, _, _, _, _ => none
  | k + 1, x0, x1, x2, x7 => bif (decide (x7 < (x0.size : Int))) then (bif decide (0 ≤ x7) then (bif decide (x7 < (x0.size : Int)) then (bif (decide ((bt x0 (x7 : Int).toNat) < 97)) then (some (.inl false)) else (bif decide (0 ≤ x7) then (bif decide (x7 < (x0.size : Int)) then (bif (decide ((bt x0 (x7 : Int).toNat) > 122)) then (some (.inl false)) else (spec_l19Letters.l0 k x0 x1 x2 (IntKind.wrap .i64 (x7 + 1)))) else none) else none)) else none) else none) else (some (.inr (x0, x1, x2)))
def spec_l19Letters.F (k : Nat) (a0 : ByteArray) (a1 : Int) (a2 : Int) : Option (Bool) := (spec_l19Letters.l0 k a0 a1 a2 0).bind fun y1 => match y1 with | .inl z2 => some z2 | .inr z2 => (spec_l1In.F (z2.1.size : Int) z2.2.1 z2.2.2).bind fun r3 => some r3
def spec_l19Letters.C (k : Nat) : Cal → Option CArm := fun c => match c with
  | .f 161 => some (.p [(.int .i64), (.int .i64), (.int .i64)] _ (fun x => spec_l1In.F x.1 x.2.1 x.2.2.1) (fun r => (.t .bool r)))
  | _ => none
def spec_l19Letters.sp0 : List Sp := [.t 0 .str, .t 1 (.int .i64), .t 2 (.int .i64), .t 7 (.int .i64)]
def spec_l19Letters.sp0_0 : List Sp := [.t 6 .bool]
def spec_l19Letters.sp0_1 : List Sp := [.t 0 .str, .t 1 (.int .i64), .t 2 (.int .i64)]
def spec_l19Letters.A0 : LArm := .two spec_l19Letters.sp0 spec_l19Letters.sp0_0 spec_l19Letters.sp0_1 (Bool) (ByteArray × Int × Int) (fun k x => spec_l19Letters.l0 k x.1 x.2.1 x.2.2.1 x.2.2.2.1) .ret (.exit 0) (fun y => (y, ())) (fun x => x.1) (fun y => (y.1, y.2.1, y.2.2, ())) (fun x => (x.1, x.2.1, x.2.2.1))
def spec_l19Letters.L : Nat → Option LArm := fun b => match b with
  | 0 => some spec_l19Letters.A0
  | _ => none
theorem spec_l19Letters.run (k : Nat) (a0 : ByteArray) (a1 : Int) (a2 : Int) : runF envX (tabC (spec_l19Letters.C k)) (tabL 29 k spec_l19Letters.L) Tryd.f125 [.t .str a0, .t (.int .i64) a1, .t (.int .i64) a2] (viewR1 (.t .bool)) = spec_l19Letters.F k a0 a1 a2 := by kernel_rfl
theorem spec_l19Letters.step0 (k : Nat) (x0 : ByteArray) (x1 : Int) (x2 : Int) (x7 : Int) : runC envX (tabC (spec_l19Letters.C k)) (tabL 29 k spec_l19Letters.L) 0 (loopAt Tryd.f125 0) (stOf 29 spec_l19Letters.sp0 (x0, x1, x2, x7, ())) (spec_l19Letters.A0.cont 29 k) = spec_l19Letters.l0 (k + 1) x0 x1 x2 x7 := by kernel_rfl
theorem spec_l19Letters.G (hE : EnvOk Tryd.prog envX) (pv : Nat → Value) (k : Nat) : ∀ cal A, spec_l19Letters.C k cal = some A → ArmOk Tryd.prog envX pv cal A := by
  intro cal A h
  unfold spec_l19Letters.C at h
  split at h
  · cases h; exact fun x y hy => spec_l1In.good hE pv x.1 x.2.1 x.2.2.1 hy
  · cases h
theorem spec_l19Letters.good (hE : EnvOk Tryd.prog envX) (pv : Nat → Value) (k : Nat) (a0 : ByteArray) (a1 : Int) (a2 : Int) {y : _} (h : spec_l19Letters.F k a0 a1 a2 = some y) : Meets Tryd.prog envX pv (.f 125) (tvals [.str, (.int .i64), (.int .i64)] (a0, a1, a2, ())) (.t .bool y) :=
  fun_loops hE (t := spec_l19Letters.C) k (fun k _ => spec_l19Letters.G hE pv k) (f := 125) (fn := Tryd.f125) (by kernel_rfl) rfl (by kernel_rfl) (by kernel_rfl) (lt := spec_l19Letters.L) (by kernel_rfl) (fun b A h => by
    unfold spec_l19Letters.L at h; split at h
    · cases h; exact ⟨by kernel_rfl, by kernel_rfl, by kernel_rfl, fun _ => rfl, fun _ => rfl, fun _ => rfl⟩
    · cases h) (fun b A h => by
    unfold spec_l19Letters.L at h; split at h
    · cases h; exact fun k x => spec_l19Letters.step0 k x.1 x.2.1 x.2.2.1 x.2.2.2.1
    · cases h) ((spec_l19Letters.run k a0 a1 a2).trans h) fun r hr => wk_view1 hr
/-! ### 81 loop.example/g00896/spec.l19One -/
def spec_l19One.F (k : Nat) (a0 : Abbr) : Option (Bool) := (spec_l19Cut.F a0.word 45).bind fun r1 => (spec_l19Letters.F k r1 2 15).bind fun r2 => bif r2 then ((spec_l19Cut.F a0.short 46).bind fun r3 => (spec_l19Letters.F k r3 1 12).bind fun r4 => some r4) else (some false)
def spec_l19One.C (k : Nat) : Cal → Option CArm := fun c => match c with
  | .f 95 => some (.p [.str, (.int .u8)] _ (fun x => spec_l19Cut.F x.1 x.2.1) (fun r => (.t .str r)))
  | .f 125 => some (.p [.str, (.int .i64), (.int .i64)] _ (fun x => spec_l19Letters.F k x.1 x.2.1 x.2.2.1) (fun r => (.t .bool r)))
  | _ => none
theorem spec_l19One.run (k : Nat) (a0 : Abbr) : runF envX (tabC (spec_l19One.C k)) (tabL 13 0 (fun _ => none)) Tryd.f81 [.t .abbr a0] (viewR1 (.t .bool)) = spec_l19One.F k a0 := by kernel_rfl
theorem spec_l19One.G (hE : EnvOk Tryd.prog envX) (pv : Nat → Value) (k : Nat) : ∀ cal A, spec_l19One.C k cal = some A → ArmOk Tryd.prog envX pv cal A := by
  intro cal A h
  unfold spec_l19One.C at h
  split at h
  · cases h; exact fun x y hy => spec_l19Cut.good hE pv x.1 x.2.1 hy
  · cases h; exact fun x y hy => spec_l19Letters.good hE pv k x.1 x.2.1 x.2.2.1 hy
  · cases h
theorem spec_l19One.good (hE : EnvOk Tryd.prog envX) (pv : Nat → Value) (k : Nat) (a0 : Abbr) {y : _} (h : spec_l19One.F k a0 = some y) : Meets Tryd.prog envX pv (.f 81) (tvals [.abbr] (a0, ())) (.t .bool y) :=
  fun_plain hE (spec_l19One.G hE pv k) (f := 81) (fn := Tryd.f81) (by kernel_rfl) rfl (by kernel_rfl) (by kernel_rfl) ((spec_l19One.run k a0).trans h) fun r hr => wk_view1 hr
/-! ### 46 loop.example/g00896/spec.l19Good -/
def spec_l19Good.l0 : Nat → (List Abbr) → Int → Option (Sum Bool (List Abbr))
  | 0, _, _ => none
  | k + 1, x0, x3 => bif (decide (x3 < (x0.length : Int))) then (bif (decide (x3 ≤ 15)) then (bif decide (0 ≤ x3) then (bif decide (x3 < (x0.length : Int)) then ((spec_l19One.F k (x0.getD (x3 : Int).toNat (dflt .abbr))).bind fun r1 => bif (!r1) then (some (.inl false)) else (bif (decide (x3 > 0)) then (bif decide (0 ≤ (IntKind.wrap .i64 (x3 - 1))) then (bif decide ((IntKind.wrap .i64 (x3 - 1)) < (x0.length : Int)) then (bif decide (0 ≤ x3) then (bif decide (x3 < (x0.length : Int)) then (bif (!ltS ((x0.getD ((IntKind.wrap .i64 (x3 - 1)) : Int).toNat (dflt .abbr)).word) ((x0.getD (x3 : Int).toNat (dflt .abbr)).word)) then (some (.inl false)) else (spec_l19Good.l0 k x0 (IntKind.wrap .i64 (x3 + 1)))) else none) else none) else none) else none) else (spec_l19Good.l0 k x0 (IntKind.wrap .i64 (x3 + 1))))) else none) else none) else (some (.inr x0))) else (some (.inr x0))
def spec_l19Good.F (k : Nat) (a0 : List Abbr) : Option (Bool) := (spec_l19Good.l0 k a0 0).bind fun y2 => match y2 with | .inl z3 => some z3 | .inr z3 => some (decide ((z3.length : Int) ≤ 15))
def spec_l19Good.C (k : Nat) : Cal → Option CArm := fun c => match c with
  | .f 81 => some (.p [.abbr] _ (fun x => spec_l19One.F k x.1) (fun r => (.t .bool r)))
  | _ => none
def spec_l19Good.sp0 : List Sp := [.t 0 (.sl .abbr), .t 3 (.int .i64)]
def spec_l19Good.sp0_0 : List Sp := [.t 2 .bool]
def spec_l19Good.sp0_1 : List Sp := [.t 0 (.sl .abbr)]
def spec_l19Good.A0 : LArm := .two spec_l19Good.sp0 spec_l19Good.sp0_0 spec_l19Good.sp0_1 (Bool) ((List Abbr)) (fun k x => spec_l19Good.l0 k x.1 x.2.1) .ret (.exit 0) (fun y => (y, ())) (fun x => x.1) (fun y => (y, ())) (fun x => x.1)
def spec_l19Good.L : Nat → Option LArm := fun b => match b with
  | 0 => some spec_l19Good.A0
  | _ => none
theorem spec_l19Good.run (k : Nat) (a0 : List Abbr) : runF envX (tabC (spec_l19Good.C k)) (tabL 41 k spec_l19Good.L) Tryd.f46 [.t (.sl .abbr) a0] (viewR1 (.t .bool)) = spec_l19Good.F k a0 := by kernel_rfl
theorem spec_l19Good.step0 (k : Nat) (x0 : List Abbr) (x3 : Int) : runC envX (tabC (spec_l19Good.C k)) (tabL 41 k spec_l19Good.L) 0 (loopAt Tryd.f46 0) (stOf 41 spec_l19Good.sp0 (x0, x3, ())) (spec_l19Good.A0.cont 41 k) = spec_l19Good.l0 (k + 1) x0 x3 := by kernel_rfl
theorem spec_l19Good.G (hE : EnvOk Tryd.prog envX) (pv : Nat → Value) (k : Nat) : ∀ cal A, spec_l19Good.C k cal = some A → ArmOk Tryd.prog envX pv cal A := by
  intro cal A h
  unfold spec_l19Good.C at h
  split at h
  · cases h; exact fun x y hy => spec_l19One.good hE pv k x.1 hy
  · cases h
theorem spec_l19Good.good (hE : EnvOk Tryd.prog envX) (pv : Nat → Value) (k : Nat) (a0 : List Abbr) {y : _} (h : spec_l19Good.F k a0 = some y) : Meets Tryd.prog envX pv (.f 46) (tvals [(.sl .abbr)] (a0, ())) (.t .bool y) :=
  fun_loops hE (t := spec_l19Good.C) k (fun k _ => spec_l19Good.G hE pv k) (f := 46) (fn := Tryd.f46) (by kernel_rfl) rfl (by kernel_rfl) (by kernel_rfl) (lt := spec_l19Good.L) (by kernel_rfl) (fun b A h => by
    unfold spec_l19Good.L at h; split at h
    · cases h; exact ⟨by kernel_rfl, by kernel_rfl, by kernel_rfl, fun _ => rfl, fun _ => rfl, fun _ => rfl⟩
    · cases h) (fun b A h => by
    unfold spec_l19Good.L at h; split at h
    · cases h; exact fun k x => spec_l19Good.step0 k x.1 x.2.1
    · cases h) ((spec_l19Good.run k a0).trans h) fun r hr => wk_view1 hr
/-! ### 47 loop.example/g00896/spec.l4Text -/
def spec_l4Text.l0 : Nat → ByteArray → Int → Option (Sum Bool ByteArray)
  | 0, _, _ => none
  | k + 1, x0, x3 => bif (decide (x3 < (x0.size : Int))) then (bif decide (0 ≤ x3) then (bif decide (x3 < (x0.size : Int)) then (bif (decide ((bt x0 (x3 : Int).toNat) < 32)) then (some (.inl false)) else (bif decide (0 ≤ x3) then (bif decide (x3 < (x0.size : Int)) then (bif (decide ((bt x0 (x3 : Int).toNat) > 126)) then (some (.inl false)) else (spec_l4Text.l0 k x0 (IntKind.wrap .i64 (x3 + 1)))) else none) else none)) else none) else none) else (some (.inr x0))
def spec_l4Text.F (k : Nat) (a0 : ByteArray) : Option (Bool) := bif (decide ((a0.size : Int) > 40)) then (some false) else ((spec_l4Text.l0 k a0 0).bind fun y1 => match y1 with | .inl z2 => some z2 | .inr z2 => bif (beqS z2 (⟨#[]⟩ : ByteArray)) then (some true) else (bif decide (0 ≤ 0) then (bif decide (0 < (z2.size : Int)) then (bif ((bt z2 (0 : Int).toNat) != 32) then (bif decide (0 ≤ (IntKind.wrap .i64 ((z2.size : Int) - 1))) then (bif decide ((IntKind.wrap .i64 ((z2.size : Int) - 1)) < (z2.size : Int)) then (some ((bt z2 ((IntKind.wrap .i64 ((z2.size : Int) - 1)) : Int).toNat) != 32)) else none) else none) else (some false)) else none) else none))
def spec_l4Text.C (k : Nat) : Cal → Option CArm := fun c => match c with
  | _ => none
def spec_l4Text.sp0 : List Sp := [.t 0 .str, .t 3 (.int .i64)]
def spec_l4Text.sp0_0 : List Sp := [.t 2 .bool]
def spec_l4Text.sp0_1 : List Sp := [.t 0 .str]
def spec_l4Text.A0 : LArm := .two spec_l4Text.sp0 spec_l4Text.sp0_0 spec_l4Text.sp0_1 (Bool) (ByteArray) (fun k x => spec_l4Text.l0 k x.1 x.2.1) .ret (.exit 0) (fun y => (y, ())) (fun x => x.1) (fun y => (y, ())) (fun x => x.1)
def spec_l4Text.L : Nat → Option LArm := fun b => match b with
  | 0 => some spec_l4Text.A0
  | _ => none
theorem spec_l4Text.run (k : Nat) (a0 : ByteArray) : runF envX (tabC (spec_l4Text.C k)) (tabL 38 k spec_l4Text.L) Tryd.f47 [.t .str a0] (viewR1 (.t .bool)) = spec_l4Text.F k a0 := by kernel_rfl
theorem spec_l4Text.step0 (k : Nat) (x0 : ByteArray) (x3 : Int) : runC envX (tabC (spec_l4Text.C k)) (tabL 38 k spec_l4Text.L) 0 (loopAt Tryd.f47 0) (stOf 38 spec_l4Text.sp0 (x0, x3, ())) (spec_l4Text.A0.cont 38 k) = spec_l4Text.l0 (k + 1) x0 x3 := by kernel_rfl
theorem spec_l4Text.G (hE : EnvOk Tryd.prog envX) (pv : Nat → Value) (k : Nat) : ∀ cal A, spec_l4Text.C k cal = some A → ArmOk Tryd.prog envX pv cal A := by
  intro cal A h
  unfold spec_l4Text.C at h
  cases h
theorem spec_l4Text.good (hE : EnvOk Tryd.prog envX) (pv : Nat → Value) (k : Nat) (a0 : ByteArray) {y : _} (h : spec_l4Text.F k a0 = some y) : Meets Tryd.prog envX pv (.f 47) (tvals [.str] (a0, ())) (.t .bool y) :=
  fun_loops hE (t := spec_l4Text.C) k (fun k _ => spec_l4Text.G hE pv k) (f := 47) (fn := Tryd.f47) (by kernel_rfl) rfl (by kernel_rfl) (by kernel_rfl) (lt := spec_l4Text.L) (by kernel_rfl) (fun b A h => by
    unfold spec_l4Text.L at h; split at h
    · cases h; exact ⟨by kernel_rfl, by kernel_rfl, by kernel_rfl, fun _ => rfl, fun _ => rfl, fun _ => rfl⟩
    · cases h) (fun b A h => by
    unfold spec_l4Text.L at h; split at h
    · cases h; exact fun k x => spec_l4Text.step0 k x.1 x.2.1
    · cases h) ((spec_l4Text.run k a0).trans h) fun r hr => wk_view1 hr
/-! ### 82 loop.example/g00896/spec.l19Words -/
def spec_l19Words.l0 : Nat → ByteArray → (List ByteArray) → Int → Int → Option ((List ByteArray))
  | 0, _, _, _, _ => none
  | k + 1, x0, x3, x4, x5 => bif (decide (x5 ≤ (x0.size : Int))) then (bif (x5 == (x0.size : Int)) then (bif (decide (x5 > x4)) then (bif decide (0 ≤ x5) then (bif decide (x5 ≤ (x0.size : Int)) then (bif decide (0 ≤ x4) then (bif decide (x4 ≤ x5) then (bif room (x3.length + ([(x0.extract (x4 : Int).toNat (x5 : Int).toNat)] : List ByteArray).length) .str then (spec_l19Words.l0 k x0 (x3 ++ ([(x0.extract (x4 : Int).toNat (x5 : Int).toNat)] : List ByteArray)) (IntKind.wrap .i64 (x5 + 1)) (IntKind.wrap .i64 (x5 + 1))) else none) else none) else none) else none) else none) else (spec_l19Words.l0 k x0 x3 (IntKind.wrap .i64 (x5 + 1)) (IntKind.wrap .i64 (x5 + 1)))) else (bif decide (0 ≤ x5) then (bif decide (x5 < (x0.size : Int)) then (bif ((bt x0 (x5 : Int).toNat) == 32) then (bif (decide (x5 > x4)) then (bif decide (0 ≤ x5) then (bif decide (x5 ≤ (x0.size : Int)) then (bif decide (0 ≤ x4) then (bif decide (x4 ≤ x5) then (bif room (x3.length + ([(x0.extract (x4 : Int).toNat (x5 : Int).toNat)] : List ByteArray).length) .str then (spec_l19Words.l0 k x0 (x3 ++ ([(x0.extract (x4 : Int).toNat (x5 : Int).toNat)] : List ByteArray)) (IntKind.wrap .i64 (x5 + 1)) (IntKind.wrap .i64 (x5 + 1))) else none) else none) else none) else none) else none) else (spec_l19Words.l0 k x0 x3 (IntKind.wrap .i64 (x5 + 1)) (IntKind.wrap .i64 (x5 + 1)))) else (spec_l19Words.l0 k x0 x3 x4 (IntKind.wrap .i64 (x5 + 1)))) else none) else none)) else (some x3)
def spec_l19Words.F (k : Nat) (a0 : ByteArray) : Option (List ByteArray) := (spec_l19Words.l0 k a0 ([] : List ByteArray) 0 0).bind fun y1 => some y1
def spec_l19Words.C (k : Nat) : Cal → Option CArm := fun c => match c with
  | _ => none
def spec_l19Words.sp0 : List Sp := [.t 0 .str, .own 3 1024 9 .str false true, .t 4 (.int .i64), .t 5 (.int .i64)]
def spec_l19Words.sp0_0 : List Sp := [.own 3 1024 9 .str false true]
def spec_l19Words.A0 : LArm := .one spec_l19Words.sp0 spec_l19Words.sp0_0 ((List ByteArray)) (fun k x => spec_l19Words.l0 k x.1 x.2.1 x.2.2.1 x.2.2.2.1) (.exit 0) (fun y => (y, ())) (fun x => x.1)
def spec_l19Words.L : Nat → Option LArm := fun b => match b with
  | 0 => some spec_l19Words.A0
  | _ => none
theorem spec_l19Words.run (k : Nat) (a0 : ByteArray) : runF envX (tabC (spec_l19Words.C k)) (tabL 36 k spec_l19Words.L) Tryd.f82 [.t .str a0] (viewR1 (.fr 9 .str)) = spec_l19Words.F k a0 := by kernel_rfl
theorem spec_l19Words.step0 (k : Nat) (x0 : ByteArray) (x3 : List ByteArray) (x4 : Int) (x5 : Int) : runC envX (tabC (spec_l19Words.C k)) (tabL 36 k spec_l19Words.L) 0 (loopAt Tryd.f82 0) (stOf 36 spec_l19Words.sp0 (x0, x3, x4, x5, ())) (spec_l19Words.A0.cont 36 k) = spec_l19Words.l0 (k + 1) x0 x3 x4 x5 := by kernel_rfl
theorem spec_l19Words.G (hE : EnvOk Tryd.prog envX) (pv : Nat → Value) (k : Nat) : ∀ cal A, spec_l19Words.C k cal = some A → ArmOk Tryd.prog envX pv cal A := by
  intro cal A h
  unfold spec_l19Words.C at h
  cases h
theorem spec_l19Words.good (hE : EnvOk Tryd.prog envX) (pv : Nat → Value) (k : Nat) (a0 : ByteArray) {y : _} (h : spec_l19Words.F k a0 = some y) : Meets Tryd.prog envX pv (.f 82) (tvals [.str] (a0, ())) (.fr 9 .str y) :=
  fun_loops hE (t := spec_l19Words.C) k (fun k _ => spec_l19Words.G hE pv k) (f := 82) (fn := Tryd.f82) (by kernel_rfl) rfl (by kernel_rfl) (by kernel_rfl) (lt := spec_l19Words.L) (by kernel_rfl) (fun b A h => by
    unfold spec_l19Words.L at h; split at h
    · cases h; exact ⟨by kernel_rfl, by kernel_rfl, fun _ => rfl, fun _ => rfl⟩
    · cases h) (fun b A h => by
    unfold spec_l19Words.L at h; split at h
    · cases h; exact fun k x => spec_l19Words.step0 k x.1 x.2.1 x.2.2.1 x.2.2.2.1
    · cases h) ((spec_l19Words.run k a0).trans h) fun r hr => wk_view1 hr
/-! ### 135 loop.example/g00896/spec.l6LowerByte -/
def spec_l6LowerByte.F (a0 : Int) : Option (Int) := bif (decide (a0 ≥ 65)) then (bif (decide (a0 ≤ 90)) then (some (IntKind.wrap .u8 (a0 + 32))) else (some a0)) else (some a0)
def spec_l6LowerByte.C : Cal → Option CArm := fun c => match c with
  | _ => none
theorem spec_l6LowerByte.run (a0 : Int) : runF envX (tabC spec_l6LowerByte.C) (tabL 12 0 (fun _ => none)) Tryd.f135 [.t (.int .u8) a0] (viewR1 (.t (.int .u8))) = spec_l6LowerByte.F a0 := by kernel_rfl
theorem spec_l6LowerByte.G (hE : EnvOk Tryd.prog envX) (pv : Nat → Value) : ∀ cal A, spec_l6LowerByte.C cal = some A → ArmOk Tryd.prog envX pv cal A := by
  intro cal A h
  unfold spec_l6LowerByte.C at h
  cases h
theorem spec_l6LowerByte.good (hE : EnvOk Tryd.prog envX) (pv : Nat → Value) (a0 : Int) {y : _} (h : spec_l6LowerByte.F a0 = some y) : Meets Tryd.prog envX pv (.f 135) (tvals [(.int .u8)] (a0, ())) (.t (.int .u8) y) :=
  fun_plain hE (spec_l6LowerByte.G hE pv) (f := 135) (fn := Tryd.f135) (by kernel_rfl) rfl (by kernel_rfl) (by kernel_rfl) ((spec_l6LowerByte.run a0).trans h) fun r hr => wk_view1 hr
/-! ### 94 loop.example/g00896/spec.l6Lower -/
def spec_l6Lower.l0 : Nat → ByteArray → (List Int) → Int → Option ((List Int))
  | 0, _, _, _ => none
  | k + 1, x0, x3, x4 => bif (decide (x4 < (x0.size : Int))) then (bif decide (0 ≤ x4) then (bif decide (x4 < (x0.size : Int)) then ((spec_l6LowerByte.F (bt x0 (x4 : Int).toNat)).bind fun r1 => bif room (x3.length + ([r1] : List Int).length) (.int .u8) then (spec_l6Lower.l0 k x0 (x3 ++ ([r1] : List Int)) (IntKind.wrap .i64 (x4 + 1))) else none) else none) else none) else (some x3)
def spec_l6Lower.F (k : Nat) (a0 : ByteArray) : Option (ByteArray) := (spec_l6Lower.l0 k a0 ([] : List Int) 0).bind fun y2 => some (strL y2)
def spec_l6Lower.C (k : Nat) : Cal → Option CArm := fun c => match c with
  | .f 135 => some (.p [(.int .u8)] _ (fun x => spec_l6LowerByte.F x.1) (fun r => (.t (.int .u8) r)))
  | _ => none
def spec_l6Lower.sp0 : List Sp := [.t 0 .str, .own 3 1024 5 (.int .u8) false true, .t 4 (.int .i64)]
def spec_l6Lower.sp0_0 : List Sp := [.own 3 1024 5 (.int .u8) false true]
def spec_l6Lower.A0 : LArm := .one spec_l6Lower.sp0 spec_l6Lower.sp0_0 ((List Int)) (fun k x => spec_l6Lower.l0 k x.1 x.2.1 x.2.2.1) (.exit 0) (fun y => (y, ())) (fun x => x.1)
def spec_l6Lower.L : Nat → Option LArm := fun b => match b with
  | 0 => some spec_l6Lower.A0
  | _ => none
theorem spec_l6Lower.run (k : Nat) (a0 : ByteArray) : runF envX (tabC (spec_l6Lower.C k)) (tabL 21 k spec_l6Lower.L) Tryd.f94 [.t .str a0] (viewR1 (.t .str)) = spec_l6Lower.F k a0 := by kernel_rfl
theorem spec_l6Lower.step0 (k : Nat) (x0 : ByteArray) (x3 : List Int) (x4 : Int) : runC envX (tabC (spec_l6Lower.C k)) (tabL 21 k spec_l6Lower.L) 0 (loopAt Tryd.f94 0) (stOf 21 spec_l6Lower.sp0 (x0, x3, x4, ())) (spec_l6Lower.A0.cont 21 k) = spec_l6Lower.l0 (k + 1) x0 x3 x4 := by kernel_rfl
theorem spec_l6Lower.G (hE : EnvOk Tryd.prog envX) (pv : Nat → Value) (k : Nat) : ∀ cal A, spec_l6Lower.C k cal = some A → ArmOk Tryd.prog envX pv cal A := by
  intro cal A h
  unfold spec_l6Lower.C at h
  split at h
  · cases h; exact fun x y hy => spec_l6LowerByte.good hE pv x.1 hy
  · cases h
theorem spec_l6Lower.good (hE : EnvOk Tryd.prog envX) (pv : Nat → Value) (k : Nat) (a0 : ByteArray) {y : _} (h : spec_l6Lower.F k a0 = some y) : Meets Tryd.prog envX pv (.f 94) (tvals [.str] (a0, ())) (.t .str y) :=
  fun_loops hE (t := spec_l6Lower.C) k (fun k _ => spec_l6Lower.G hE pv k) (f := 94) (fn := Tryd.f94) (by kernel_rfl) rfl (by kernel_rfl) (by kernel_rfl) (lt := spec_l6Lower.L) (by kernel_rfl) (fun b A h => by
    unfold spec_l6Lower.L at h; split at h
    · cases h; exact ⟨by kernel_rfl, by kernel_rfl, fun _ => rfl, fun _ => rfl⟩
    · cases h) (fun b A h => by
    unfold spec_l6Lower.L at h; split at h
    · cases h; exact fun k x => spec_l6Lower.step0 k x.1 x.2.1 x.2.2.1
    · cases h) ((spec_l6Lower.run k a0).trans h) fun r hr => wk_view1 hr
/-! ### 83 loop.example/g00896/spec.l19Small -/
def spec_l19Small.F (k : Nat) (a0 : ByteArray) : Option (Bool) := (spec_l6Lower.F k a0).bind fun r1 => bif (beqS r1 (⟨#[97]⟩ : ByteArray)) then (bif (beqS r1 (⟨#[97]⟩ : ByteArray)) then (some true) else (some false)) else (bif (beqS r1 (⟨#[97, 110]⟩ : ByteArray)) then (bif (beqS r1 (⟨#[97, 110]⟩ : ByteArray)) then (some true) else (some false)) else (bif (beqS r1 (⟨#[97, 110, 100]⟩ : ByteArray)) then (bif (beqS r1 (⟨#[97, 110, 100]⟩ : ByteArray)) then (some true) else (some false)) else (bif (beqS r1 (⟨#[102, 111, 114]⟩ : ByteArray)) then (bif (beqS r1 (⟨#[102, 111, 114]⟩ : ByteArray)) then (some true) else (some false)) else (bif (beqS r1 (⟨#[105, 110]⟩ : ByteArray)) then (bif (beqS r1 (⟨#[105, 110]⟩ : ByteArray)) then (some true) else (some false)) else (bif (beqS r1 (⟨#[111, 102]⟩ : ByteArray)) then (bif (beqS r1 (⟨#[111, 102]⟩ : ByteArray)) then (some true) else (some false)) else (bif (beqS r1 (⟨#[111, 110]⟩ : ByteArray)) then (bif (beqS r1 (⟨#[111, 110]⟩ : ByteArray)) then (some true) else (some false)) else (bif (beqS r1 (⟨#[116, 104, 101]⟩ : ByteArray)) then (some true) else (some false))))))))
def spec_l19Small.C (k : Nat) : Cal → Option CArm := fun c => match c with
  | .f 94 => some (.p [.str] _ (fun x => spec_l6Lower.F k x.1) (fun r => (.t .str r)))
  | _ => none
theorem spec_l19Small.run (k : Nat) (a0 : ByteArray) : runF envX (tabC (spec_l19Small.C k)) (tabL 14 0 (fun _ => none)) Tryd.f83 [.t .str a0] (viewR1 (.t .bool)) = spec_l19Small.F k a0 := by kernel_rfl
theorem spec_l19Small.G (hE : EnvOk Tryd.prog envX) (pv : Nat → Value) (k : Nat) : ∀ cal A, spec_l19Small.C k cal = some A → ArmOk Tryd.prog envX pv cal A := by
  intro cal A h
  unfold spec_l19Small.C at h
  split at h
  · cases h; exact fun x y hy => spec_l6Lower.good hE pv k x.1 hy
  · cases h
theorem spec_l19Small.good (hE : EnvOk Tryd.prog envX) (pv : Nat → Value) (k : Nat) (a0 : ByteArray) {y : _} (h : spec_l19Small.F k a0 = some y) : Meets Tryd.prog envX pv (.f 83) (tvals [.str] (a0, ())) (.t .bool y) :=
  fun_plain hE (spec_l19Small.G hE pv k) (f := 83) (fn := Tryd.f83) (by kernel_rfl) rfl (by kernel_rfl) (by kernel_rfl) ((spec_l19Small.run k a0).trans h) fun r hr => wk_view1 hr
/-! ### 48 loop.example/g00896/spec.l19Kept -/
def spec_l19Kept.l0 : Nat → (List ByteArray) → (List ByteArray) → Int → Option ((List ByteArray) × (List ByteArray))
  | 0, _, _, _ => none
  | k + 1, x4, x5, x6 => bif (decide (x6 < (x4.length : Int))) then (bif decide (0 ≤ x6) then (bif decide (x6 < (x4.length : Int)) then ((spec_l19Small.F k (x4.getD ((x6 : Int).toNat) (⟨#[]⟩ : ByteArray))).bind fun r2 => bif (!r2) then (bif decide (0 ≤ x6) then (bif decide (x6 < (x4.length : Int)) then (bif room (x5.length + ([(x4.getD ((x6 : Int).toNat) (⟨#[]⟩ : ByteArray))] : List ByteArray).length) .str then (spec_l19Kept.l0 k x4 (x5 ++ ([(x4.getD ((x6 : Int).toNat) (⟨#[]⟩ : ByteArray))] : List ByteArray)) (IntKind.wrap .i64 (x6 + 1))) else none) else none) else none) else (spec_l19Kept.l0 k x4 x5 (IntKind.wrap .i64 (x6 + 1)))) else none) else none) else (some (x4, x5))
def spec_l19Kept.F (k : Nat) (a0 : ByteArray) : Option ((List ByteArray) × Bool) := (spec_l19Words.F k a0).bind fun r1 => (spec_l19Kept.l0 k r1 ([] : List ByteArray) 0).bind fun y3 => bif ((y3.2.length : Int) == 0) then (bif (decide ((y3.1.length : Int) < 2)) then (some (y3.1, false)) else (some (y3.1, true))) else (bif (decide ((y3.1.length : Int) < 2)) then (some (y3.1, false)) else (some (y3.2, true)))
def spec_l19Kept.C (k : Nat) : Cal → Option CArm := fun c => match c with
  | .f 82 => some (.p [.str] _ (fun x => spec_l19Words.F k x.1) (fun r => (.fr 9 .str r)))
  | .f 83 => some (.p [.str] _ (fun x => spec_l19Small.F k x.1) (fun r => (.t .bool r)))
  | _ => none
def spec_l19Kept.sp0 : List Sp := [.own 4 1028 9 .str false true, .own 5 2048 9 .str false true, .t 6 (.int .i64)]
def spec_l19Kept.sp0_0 : List Sp := [.own 4 1028 9 .str false true, .own 5 2048 9 .str false true]
def spec_l19Kept.A0 : LArm := .one spec_l19Kept.sp0 spec_l19Kept.sp0_0 ((List ByteArray) × (List ByteArray)) (fun k x => spec_l19Kept.l0 k x.1 x.2.1 x.2.2.1) (.exit 0) (fun y => (y.1, y.2, ())) (fun x => (x.1, x.2.1))
def spec_l19Kept.L : Nat → Option LArm := fun b => match b with
  | 0 => some spec_l19Kept.A0
  | _ => none
theorem spec_l19Kept.run (k : Nat) (a0 : ByteArray) : runF envX (tabC (spec_l19Kept.C k)) (tabL 38 k spec_l19Kept.L) Tryd.f48 [.t .str a0] (viewR2 (.fr 9 .str) (.t .bool)) = spec_l19Kept.F k a0 := by kernel_rfl
theorem spec_l19Kept.step0 (k : Nat) (x4 : List ByteArray) (x5 : List ByteArray) (x6 : Int) : runC envX (tabC (spec_l19Kept.C k)) (tabL 38 k spec_l19Kept.L) 0 (loopAt Tryd.f48 0) (stOf 38 spec_l19Kept.sp0 (x4, x5, x6, ())) (spec_l19Kept.A0.cont 38 k) = spec_l19Kept.l0 (k + 1) x4 x5 x6 := by kernel_rfl
theorem spec_l19Kept.G (hE : EnvOk Tryd.prog envX) (pv : Nat → Value) (k : Nat) : ∀ cal A, spec_l19Kept.C k cal = some A → ArmOk Tryd.prog envX pv cal A := by
  intro cal A h
  unfold spec_l19Kept.C at h
  split at h
  · cases h; exact fun x y hy => spec_l19Words.good hE pv k x.1 hy
  · cases h; exact fun x y hy => spec_l19Small.good hE pv k x.1 hy
  · cases h
theorem spec_l19Kept.good (hE : EnvOk Tryd.prog envX) (pv : Nat → Value) (k : Nat) (a0 : ByteArray) {y : _} (h : spec_l19Kept.F k a0 = some y) : Meets Tryd.prog envX pv (.f 48) (tvals [.str] (a0, ())) (.tup [.fr 9 .str y.1, .t .bool y.2]) :=
  fun_loops hE (t := spec_l19Kept.C) k (fun k _ => spec_l19Kept.G hE pv k) (f := 48) (fn := Tryd.f48) (by kernel_rfl) rfl (by kernel_rfl) (by kernel_rfl) (lt := spec_l19Kept.L) (by kernel_rfl) (fun b A h => by
    unfold spec_l19Kept.L at h; split at h
    · cases h; exact ⟨by kernel_rfl, by kernel_rfl, fun _ => rfl, fun _ => rfl⟩
    · cases h) (fun b A h => by
    unfold spec_l19Kept.L at h; split at h
    · cases h; exact fun k x => spec_l19Kept.step0 k x.1 x.2.1 x.2.2.1
    · cases h) ((spec_l19Kept.run k a0).trans h) fun r hr => wk_view2 hr
/-! ### 93 loop.example/g00896/spec.l6Letter -/
def spec_l6Letter.F (a0 : Int) : Option (Bool) := bif (decide (a0 ≥ 65)) then (bif (decide (a0 ≤ 90)) then (some true) else (bif (decide (a0 ≥ 97)) then (some (decide (a0 ≤ 122))) else (some false))) else (bif (decide (a0 ≥ 97)) then (some (decide (a0 ≤ 122))) else (some false))
def spec_l6Letter.C : Cal → Option CArm := fun c => match c with
  | _ => none
theorem spec_l6Letter.run (a0 : Int) : runF envX (tabC spec_l6Letter.C) (tabL 17 0 (fun _ => none)) Tryd.f93 [.t (.int .u8) a0] (viewR1 (.t .bool)) = spec_l6Letter.F a0 := by kernel_rfl
theorem spec_l6Letter.G (hE : EnvOk Tryd.prog envX) (pv : Nat → Value) : ∀ cal A, spec_l6Letter.C cal = some A → ArmOk Tryd.prog envX pv cal A := by
  intro cal A h
  unfold spec_l6Letter.C at h
  cases h
theorem spec_l6Letter.good (hE : EnvOk Tryd.prog envX) (pv : Nat → Value) (a0 : Int) {y : _} (h : spec_l6Letter.F a0 = some y) : Meets Tryd.prog envX pv (.f 93) (tvals [(.int .u8)] (a0, ())) (.t .bool y) :=
  fun_plain hE (spec_l6Letter.G hE pv) (f := 93) (fn := Tryd.f93) (by kernel_rfl) rfl (by kernel_rfl) (by kernel_rfl) ((spec_l6Letter.run a0).trans h) fun r hr => wk_view1 hr
/-! ### 59 loop.example/g00896/spec.l19Find -/
def spec_l19Find.l0 : Nat → (List Abbr) → ByteArray → Int → Option (Sum Int ((List Abbr) × ByteArray))
  | 0, _, _, _ => none
  | k + 1, x0, x1, x5 => bif (decide (x5 < (x1.size : Int))) then (bif decide (0 ≤ x5) then (bif decide (x5 < (x1.size : Int)) then ((spec_l6Letter.F (bt x1 (x5 : Int).toNat)).bind fun r1 => bif (!r1) then (some (.inl (-1))) else (spec_l19Find.l0 k x0 x1 (IntKind.wrap .i64 (x5 + 1)))) else none) else none) else (some (.inr (x0, x1)))
def spec_l19Find.l2 : Nat → (List Abbr) → ByteArray → Int → Int → Option (Sum Int Int)
  | 0, _, _, _, _ => none
  | k + 1, x0, x6, x7, x8 => bif (decide (x8 < (x0.length : Int))) then (bif decide (0 ≤ x8) then (bif decide (x8 < (x0.length : Int)) then (bif (beqS ((x0.getD (x8 : Int).toNat (dflt .abbr)).word) x6) then (some (.inl x8)) else ((spec_l19Cut.F ((x0.getD (x8 : Int).toNat (dflt .abbr)).word) 45).bind fun r5 => bif (!beqS r5 ((x0.getD (x8 : Int).toNat (dflt .abbr)).word)) then (bif (decide ((r5.size : Int) ≤ (x6.size : Int))) then (bif decide (0 ≤ (r5.size : Int)) then (bif decide ((r5.size : Int) ≤ (x6.size : Int)) then (bif (beqS (x6.extract 0 ((r5.size : Int) : Int).toNat) r5) then (bif (decide (x7 < 0)) then (spec_l19Find.l2 k x0 x6 x8 (IntKind.wrap .i64 (x8 + 1))) else (bif decide (0 ≤ x7) then (bif decide (x7 < (x0.length : Int)) then (bif (decide ((((x0.getD (x8 : Int).toNat (dflt .abbr)).word).size : Int) > (((x0.getD (x7 : Int).toNat (dflt .abbr)).word).size : Int))) then (spec_l19Find.l2 k x0 x6 x8 (IntKind.wrap .i64 (x8 + 1))) else (spec_l19Find.l2 k x0 x6 x7 (IntKind.wrap .i64 (x8 + 1)))) else none) else none)) else (spec_l19Find.l2 k x0 x6 x7 (IntKind.wrap .i64 (x8 + 1)))) else none) else none) else (spec_l19Find.l2 k x0 x6 x7 (IntKind.wrap .i64 (x8 + 1)))) else (spec_l19Find.l2 k x0 x6 x7 (IntKind.wrap .i64 (x8 + 1))))) else none) else none) else (some (.inr x7))
def spec_l19Find.F (k : Nat) (a0 : List Abbr) (a1 : ByteArray) : Option (Int) := (spec_l19Find.l0 k a0 a1 0).bind fun y2 => match y2 with | .inl z3 => some z3 | .inr z3 => (spec_l6Lower.F k z3.2).bind fun r4 => (spec_l19Find.l2 k z3.1 r4 (-1) 0).bind fun y6 => match y6 with | .inl z7 => some z7 | .inr z7 => some z7
def spec_l19Find.C (k : Nat) : Cal → Option CArm := fun c => match c with
  | .f 93 => some (.p [(.int .u8)] _ (fun x => spec_l6Letter.F x.1) (fun r => (.t .bool r)))
  | .f 94 => some (.p [.str] _ (fun x => spec_l6Lower.F k x.1) (fun r => (.t .str r)))
  | .f 95 => some (.p [.str, (.int .u8)] _ (fun x => spec_l19Cut.F x.1 x.2.1) (fun r => (.t .str r)))
  | _ => none
def spec_l19Find.sp0 : List Sp := [.t 0 (.sl .abbr), .t 1 .str, .t 5 (.int .i64)]
def spec_l19Find.sp0_0 : List Sp := [.t 4 (.int .i64)]
def spec_l19Find.sp0_1 : List Sp := [.t 0 (.sl .abbr), .t 1 .str]
def spec_l19Find.A0 : LArm := .two spec_l19Find.sp0 spec_l19Find.sp0_0 spec_l19Find.sp0_1 (Int) ((List Abbr) × ByteArray) (fun k x => spec_l19Find.l0 k x.1 x.2.1 x.2.2.1) .ret (.exit 0) (fun y => (y, ())) (fun x => x.1) (fun y => (y.1, y.2, ())) (fun x => (x.1, x.2.1))
def spec_l19Find.sp2 : List Sp := [.t 0 (.sl .abbr), .t 6 .str, .t 7 (.int .i64), .t 8 (.int .i64)]
def spec_l19Find.sp2_0 : List Sp := [.t 4 (.int .i64)]
def spec_l19Find.sp2_1 : List Sp := [.t 7 (.int .i64)]
def spec_l19Find.A2 : LArm := .two spec_l19Find.sp2 spec_l19Find.sp2_0 spec_l19Find.sp2_1 (Int) (Int) (fun k x => spec_l19Find.l2 k x.1 x.2.1 x.2.2.1 x.2.2.2.1) .ret (.exit 2) (fun y => (y, ())) (fun x => x.1) (fun y => (y, ())) (fun x => x.1)
def spec_l19Find.L : Nat → Option LArm := fun b => match b with
  | 0 => some spec_l19Find.A0
  | 2 => some spec_l19Find.A2
  | _ => none
theorem spec_l19Find.run (k : Nat) (a0 : List Abbr) (a1 : ByteArray) : runF envX (tabC (spec_l19Find.C k)) (tabL 76 k spec_l19Find.L) Tryd.f59 [.t (.sl .abbr) a0, .t .str a1] (viewR1 (.t (.int .i64))) = spec_l19Find.F k a0 a1 := by kernel_rfl
theorem spec_l19Find.step0 (k : Nat) (x0 : List Abbr) (x1 : ByteArray) (x5 : Int) : runC envX (tabC (spec_l19Find.C k)) (tabL 76 k spec_l19Find.L) 0 (loopAt Tryd.f59 0) (stOf 76 spec_l19Find.sp0 (x0, x1, x5, ())) (spec_l19Find.A0.cont 76 k) = spec_l19Find.l0 (k + 1) x0 x1 x5 := by kernel_rfl
theorem spec_l19Find.step2 (k : Nat) (x0 : List Abbr) (x6 : ByteArray) (x7 : Int) (x8 : Int) : runC envX (tabC (spec_l19Find.C k)) (tabL 76 k spec_l19Find.L) 2 (loopAt Tryd.f59 2) (stOf 76 spec_l19Find.sp2 (x0, x6, x7, x8, ())) (spec_l19Find.A2.cont 76 k) = spec_l19Find.l2 (k + 1) x0 x6 x7 x8 := by kernel_rfl
theorem spec_l19Find.G (hE : EnvOk Tryd.prog envX) (pv : Nat → Value) (k : Nat) : ∀ cal A, spec_l19Find.C k cal = some A → ArmOk Tryd.prog envX pv cal A := by
  intro cal A h
  unfold spec_l19Find.C at h
  split at h
  · cases h; exact fun x y hy => spec_l6Letter.good hE pv x.1 hy
  · cases h; exact fun x y hy => spec_l6Lower.good hE pv k x.1 hy
  · cases h; exact fun x y hy => spec_l19Cut.good hE pv x.1 x.2.1 hy
  · cases h
theorem spec_l19Find.good (hE : EnvOk Tryd.prog envX) (pv : Nat → Value) (k : Nat) (a0 : List Abbr) (a1 : ByteArray) {y : _} (h : spec_l19Find.F k a0 a1 = some y) : Meets Tryd.prog envX pv (.f 59) (tvals [(.sl .abbr), .str] (a0, a1, ())) (.t (.int .i64) y) :=
  fun_loops hE (t := spec_l19Find.C) k (fun k _ => spec_l19Find.G hE pv k) (f := 59) (fn := Tryd.f59) (by kernel_rfl) rfl (by kernel_rfl) (by kernel_rfl) (lt := spec_l19Find.L) (by kernel_rfl) (fun b A h => by
    unfold spec_l19Find.L at h; split at h
    · cases h; exact ⟨by kernel_rfl, by kernel_rfl, by kernel_rfl, fun _ => rfl, fun _ => rfl, fun _ => rfl⟩
    · cases h; exact ⟨by kernel_rfl, by kernel_rfl, by kernel_rfl, fun _ => rfl, fun _ => rfl, fun _ => rfl⟩
    · cases h) (fun b A h => by
    unfold spec_l19Find.L at h; split at h
    · cases h; exact fun k x => spec_l19Find.step0 k x.1 x.2.1 x.2.2.1
    · cases h; exact fun k x => spec_l19Find.step2 k x.1 x.2.1 x.2.2.1 x.2.2.2.1
    · cases h) ((spec_l19Find.run k a0 a1).trans h) fun r hr => wk_view1 hr
/-! ### 126 loop.example/g00896/spec.l6UpperByte -/
def spec_l6UpperByte.F (a0 : Int) : Option (Int) := bif (decide (a0 ≥ 97)) then (bif (decide (a0 ≤ 122)) then (some (IntKind.wrap .u8 (a0 - 32))) else (some a0)) else (some a0)
def spec_l6UpperByte.C : Cal → Option CArm := fun c => match c with
  | _ => none
theorem spec_l6UpperByte.run (a0 : Int) : runF envX (tabC spec_l6UpperByte.C) (tabL 12 0 (fun _ => none)) Tryd.f126 [.t (.int .u8) a0] (viewR1 (.t (.int .u8))) = spec_l6UpperByte.F a0 := by kernel_rfl
theorem spec_l6UpperByte.G (hE : EnvOk Tryd.prog envX) (pv : Nat → Value) : ∀ cal A, spec_l6UpperByte.C cal = some A → ArmOk Tryd.prog envX pv cal A := by
  intro cal A h
  unfold spec_l6UpperByte.C at h
  cases h
theorem spec_l6UpperByte.good (hE : EnvOk Tryd.prog envX) (pv : Nat → Value) (a0 : Int) {y : _} (h : spec_l6UpperByte.F a0 = some y) : Meets Tryd.prog envX pv (.f 126) (tvals [(.int .u8)] (a0, ())) (.t (.int .u8) y) :=
  fun_plain hE (spec_l6UpperByte.G hE pv) (f := 126) (fn := Tryd.f126) (by kernel_rfl) rfl (by kernel_rfl) (by kernel_rfl) ((spec_l6UpperByte.run a0).trans h) fun r hr => wk_view1 hr
/-! ### 84 loop.example/g00896/spec.l6Raise -/
def spec_l6Raise.l0 : Nat → ByteArray → Int → Option (Sum ByteArray ByteArray)
  | 0, _, _ => none
  | k + 1, x0, x3 => bif (decide (x3 < (x0.size : Int))) then (bif decide (0 ≤ x3) then (bif decide (x3 < (x0.size : Int)) then ((spec_l6Letter.F (bt x0 (x3 : Int).toNat)).bind fun r1 => bif r1 then (bif decide (0 ≤ x3) then (bif decide (x3 ≤ (x0.size : Int)) then (bif decide (0 ≤ x3) then (bif decide (x3 < (x0.size : Int)) then ((spec_l6UpperByte.F (bt x0 (x3 : Int).toNat)).bind fun r2 => bif Nat.ble ((x0.extract 0 (x3 : Int).toNat).size + (strL ([r2] : List Int)).size) 9223372036854775807 then (bif decide (0 ≤ (IntKind.wrap .i64 (x3 + 1))) then (bif decide ((IntKind.wrap .i64 (x3 + 1)) ≤ (x0.size : Int)) then (bif Nat.ble (((x0.extract 0 (x3 : Int).toNat) ++ (strL ([r2] : List Int))).size + (x0.extract ((IntKind.wrap .i64 (x3 + 1)) : Int).toNat x0.size).size) 9223372036854775807 then (some (.inl (((x0.extract 0 (x3 : Int).toNat) ++ (strL ([r2] : List Int))) ++ (x0.extract ((IntKind.wrap .i64 (x3 + 1)) : Int).toNat x0.size)))) else none) else none) else none) else none) else none) else none) else none) else none) else (spec_l6Raise.l0 k x0 (IntKind.wrap .i64 (x3 + 1)))) else none) else none) else (some (.inr x0))
def spec_l6Raise.F (k : Nat) (a0 : ByteArray) : Option (ByteArray) := (spec_l6Raise.l0 k a0 0).bind fun y3 => match y3 with | .inl z4 => some z4 | .inr z4 => some z4
def spec_l6Raise.C (k : Nat) : Cal → Option CArm := fun c => match c with
  | .f 93 => some (.p [(.int .u8)] _ (fun x => spec_l6Letter.F x.1) (fun r => (.t .bool r)))
  | .f 126 => some (.p [(.int .u8)] _ (fun x => spec_l6UpperByte.F x.1) (fun r => (.t (.int .u8) r)))
  | _ => none
def spec_l6Raise.sp0 : List Sp := [.t 0 .str, .t 3 (.int .i64)]
def spec_l6Raise.sp0_0 : List Sp := [.t 2 .str]
def spec_l6Raise.sp0_1 : List Sp := [.t 0 .str]
def spec_l6Raise.A0 : LArm := .two spec_l6Raise.sp0 spec_l6Raise.sp0_0 spec_l6Raise.sp0_1 (ByteArray) (ByteArray) (fun k x => spec_l6Raise.l0 k x.1 x.2.1) .ret (.exit 0) (fun y => (y, ())) (fun x => x.1) (fun y => (y, ())) (fun x => x.1)
def spec_l6Raise.L : Nat → Option LArm := fun b => match b with
  | 0 => some spec_l6Raise.A0
  | _ => none
theorem spec_l6Raise.run (k : Nat) (a0 : ByteArray) : runF envX (tabC (spec_l6Raise.C k)) (tabL 30 k spec_l6Raise.L) Tryd.f84 [.t .str a0] (viewR1 (.t .str)) = spec_l6Raise.F k a0 := by kernel_rfl
theorem spec_l6Raise.step0 (k : Nat) (x0 : ByteArray) (x3 : Int) : runC envX (tabC (spec_l6Raise.C k)) (tabL 30 k spec_l6Raise.L) 0 (loopAt Tryd.f84 0) (stOf 30 spec_l6Raise.sp0 (x0, x3, ())) (spec_l6Raise.A0.cont 30 k) = spec_l6Raise.l0 (k + 1) x0 x3 := by kernel_rfl
theorem spec_l6Raise.G (hE : EnvOk Tryd.prog envX) (pv : Nat → Value) (k : Nat) : ∀ cal A, spec_l6Raise.C k cal = some A → ArmOk Tryd.prog envX pv cal A := by
  intro cal A h
  unfold spec_l6Raise.C at h
  split at h
  · cases h; exact fun x y hy => spec_l6Letter.good hE pv x.1 hy
  · cases h; exact fun x y hy => spec_l6UpperByte.good hE pv x.1 hy
  · cases h
theorem spec_l6Raise.good (hE : EnvOk Tryd.prog envX) (pv : Nat → Value) (k : Nat) (a0 : ByteArray) {y : _} (h : spec_l6Raise.F k a0 = some y) : Meets Tryd.prog envX pv (.f 84) (tvals [.str] (a0, ())) (.t .str y) :=
  fun_loops hE (t := spec_l6Raise.C) k (fun k _ => spec_l6Raise.G hE pv k) (f := 84) (fn := Tryd.f84) (by kernel_rfl) rfl (by kernel_rfl) (by kernel_rfl) (lt := spec_l6Raise.L) (by kernel_rfl) (fun b A h => by
    unfold spec_l6Raise.L at h; split at h
    · cases h; exact ⟨by kernel_rfl, by kernel_rfl, by kernel_rfl, fun _ => rfl, fun _ => rfl, fun _ => rfl⟩
    · cases h) (fun b A h => by
    unfold spec_l6Raise.L at h; split at h
    · cases h; exact fun k x => spec_l6Raise.step0 k x.1 x.2.1
    · cases h) ((spec_l6Raise.run k a0).trans h) fun r hr => wk_view1 hr
/-! ### 49 loop.example/g00896/spec.l19Short -/
def spec_l19Short.F (k : Nat) (a0 : List Abbr) (a1 : ByteArray) : Option (ByteArray) := (spec_l19Find.F k a0 a1).bind fun r1 => bif (decide (r1 < 0)) then (some a1) else (bif decide (0 ≤ 0) then (bif decide (0 < (a1.size : Int)) then (bif (decide ((bt a1 (0 : Int).toNat) ≥ 65)) then (bif decide (0 ≤ 0) then (bif decide (0 < (a1.size : Int)) then (bif (decide ((bt a1 (0 : Int).toNat) ≤ 90)) then (bif decide (0 ≤ r1) then (bif decide (r1 < (a0.length : Int)) then ((spec_l6Raise.F k ((a0.getD (r1 : Int).toNat (dflt .abbr)).short)).bind fun r2 => some r2) else none) else none) else (bif decide (0 ≤ r1) then (bif decide (r1 < (a0.length : Int)) then (some ((a0.getD (r1 : Int).toNat (dflt .abbr)).short)) else none) else none)) else none) else none) else (bif decide (0 ≤ r1) then (bif decide (r1 < (a0.length : Int)) then (some ((a0.getD (r1 : Int).toNat (dflt .abbr)).short)) else none) else none)) else none) else none)
def spec_l19Short.C (k : Nat) : Cal → Option CArm := fun c => match c with
  | .f 59 => some (.p [(.sl .abbr), .str] _ (fun x => spec_l19Find.F k x.1 x.2.1) (fun r => (.t (.int .i64) r)))
  | .f 84 => some (.p [.str] _ (fun x => spec_l6Raise.F k x.1) (fun r => (.t .str r)))
  | _ => none
theorem spec_l19Short.run (k : Nat) (a0 : List Abbr) (a1 : ByteArray) : runF envX (tabC (spec_l19Short.C k)) (tabL 31 0 (fun _ => none)) Tryd.f49 [.t (.sl .abbr) a0, .t .str a1] (viewR1 (.t .str)) = spec_l19Short.F k a0 a1 := by kernel_rfl
theorem spec_l19Short.G (hE : EnvOk Tryd.prog envX) (pv : Nat → Value) (k : Nat) : ∀ cal A, spec_l19Short.C k cal = some A → ArmOk Tryd.prog envX pv cal A := by
  intro cal A h
  unfold spec_l19Short.C at h
  split at h
  · cases h; exact fun x y hy => spec_l19Find.good hE pv k x.1 x.2.1 hy
  · cases h; exact fun x y hy => spec_l6Raise.good hE pv k x.1 hy
  · cases h
theorem spec_l19Short.good (hE : EnvOk Tryd.prog envX) (pv : Nat → Value) (k : Nat) (a0 : List Abbr) (a1 : ByteArray) {y : _} (h : spec_l19Short.F k a0 a1 = some y) : Meets Tryd.prog envX pv (.f 49) (tvals [(.sl .abbr), .str] (a0, a1, ())) (.t .str y) :=
  fun_plain hE (spec_l19Short.G hE pv k) (f := 49) (fn := Tryd.f49) (by kernel_rfl) rfl (by kernel_rfl) (by kernel_rfl) ((spec_l19Short.run k a0 a1).trans h) fun r hr => wk_view1 hr
/-! ### 102 loop.example/g00896/spec.l6Join -/
def spec_l6Join.l0 : Nat → (List ByteArray) → ByteArray → Int → Option (ByteArray)
  | 0, _, _, _ => none
  | k + 1, x0, x3, x4 => bif (decide (x4 < (x0.length : Int))) then (bif (decide (x4 > 0)) then (bif Nat.ble (x3.size + (⟨#[32]⟩ : ByteArray).size) 9223372036854775807 then (bif decide (0 ≤ x4) then (bif decide (x4 < (x0.length : Int)) then (bif Nat.ble ((x3 ++ (⟨#[32]⟩ : ByteArray)).size + (x0.getD (x4 : Int).toNat (⟨#[]⟩ : ByteArray)).size) 9223372036854775807 then (spec_l6Join.l0 k x0 ((x3 ++ (⟨#[32]⟩ : ByteArray)) ++ (x0.getD (x4 : Int).toNat (⟨#[]⟩ : ByteArray))) (IntKind.wrap .i64 (x4 + 1))) else none) else none) else none) else none) else (bif decide (0 ≤ x4) then (bif decide (x4 < (x0.length : Int)) then (bif Nat.ble (x3.size + (x0.getD (x4 : Int).toNat (⟨#[]⟩ : ByteArray)).size) 9223372036854775807 then (spec_l6Join.l0 k x0 (x3 ++ (x0.getD (x4 : Int).toNat (⟨#[]⟩ : ByteArray))) (IntKind.wrap .i64 (x4 + 1))) else none) else none) else none)) else (some x3)
def spec_l6Join.F (k : Nat) (a0 : List ByteArray) : Option (ByteArray) := (spec_l6Join.l0 k a0 (⟨#[]⟩ : ByteArray) 0).bind fun y1 => some y1
def spec_l6Join.C (k : Nat) : Cal → Option CArm := fun c => match c with
  | _ => none
def spec_l6Join.sp0 : List Sp := [.t 0 (.sl .str), .t 3 .str, .t 4 (.int .i64)]
def spec_l6Join.sp0_0 : List Sp := [.t 3 .str]
def spec_l6Join.A0 : LArm := .one spec_l6Join.sp0 spec_l6Join.sp0_0 (ByteArray) (fun k x => spec_l6Join.l0 k x.1 x.2.1 x.2.2.1) (.exit 0) (fun y => (y, ())) (fun x => x.1)
def spec_l6Join.L : Nat → Option LArm := fun b => match b with
  | 0 => some spec_l6Join.A0
  | _ => none
theorem spec_l6Join.run (k : Nat) (a0 : List ByteArray) : runF envX (tabC (spec_l6Join.C k)) (tabL 22 k spec_l6Join.L) Tryd.f102 [.t (.sl .str) a0] (viewR1 (.t .str)) = spec_l6Join.F k a0 := by kernel_rfl
theorem spec_l6Join.step0 (k : Nat) (x0 : List ByteArray) (x3 : ByteArray) (x4 : Int) : runC envX (tabC (spec_l6Join.C k)) (tabL 22 k spec_l6Join.L) 0 (loopAt Tryd.f102 0) (stOf 22 spec_l6Join.sp0 (x0, x3, x4, ())) (spec_l6Join.A0.cont 22 k) = spec_l6Join.l0 (k + 1) x0 x3 x4 := by kernel_rfl
theorem spec_l6Join.G (hE : EnvOk Tryd.prog envX) (pv : Nat → Value) (k : Nat) : ∀ cal A, spec_l6Join.C k cal = some A → ArmOk Tryd.prog envX pv cal A := by
  intro cal A h
  unfold spec_l6Join.C at h
  cases h
theorem spec_l6Join.good (hE : EnvOk Tryd.prog envX) (pv : Nat → Value) (k : Nat) (a0 : List ByteArray) {y : _} (h : spec_l6Join.F k a0 = some y) : Meets Tryd.prog envX pv (.f 102) (tvals [(.sl .str)] (a0, ())) (.t .str y) :=
  fun_loops hE (t := spec_l6Join.C) k (fun k _ => spec_l6Join.G hE pv k) (f := 102) (fn := Tryd.f102) (by kernel_rfl) rfl (by kernel_rfl) (by kernel_rfl) (lt := spec_l6Join.L) (by kernel_rfl) (fun b A h => by
    unfold spec_l6Join.L at h; split at h
    · cases h; exact ⟨by kernel_rfl, by kernel_rfl, fun _ => rfl, fun _ => rfl⟩
    · cases h) (fun b A h => by
    unfold spec_l6Join.L at h; split at h
    · cases h; exact fun k x => spec_l6Join.step0 k x.1 x.2.1 x.2.2.1
    · cases h) ((spec_l6Join.run k a0).trans h) fun r hr => wk_view1 hr
/-! ### 64 loop.example/g00896/spec.l19Title -/
def spec_l19Title.l0 : Nat → (List Abbr) → (List ByteArray) → (List ByteArray) → Int → Option ((List ByteArray))
  | 0, _, _, _, _ => none
  | k + 1, x0, x5, x7, x8 => bif (decide (x8 < (x5.length : Int))) then (bif decide (0 ≤ x8) then (bif decide (x8 < (x5.length : Int)) then ((spec_l19Short.F k x0 (x5.getD ((x8 : Int).toNat) (⟨#[]⟩ : ByteArray))).bind fun r2 => bif room (x7.length + ([r2] : List ByteArray).length) .str then (spec_l19Title.l0 k x0 x5 (x7 ++ ([r2] : List ByteArray)) (IntKind.wrap .i64 (x8 + 1))) else none) else none) else none) else (some x7)
def spec_l19Title.F (k : Nat) (a0 : List Abbr) (a1 : ByteArray) : Option (ByteArray) := (spec_l19Kept.F k a1).bind fun r1 => bif (!r1.2) then (some a1) else ((spec_l19Title.l0 k a0 r1.1 ([] : List ByteArray) 0).bind fun y3 => (spec_l6Join.F k y3).bind fun r4 => some r4)
def spec_l19Title.C (k : Nat) : Cal → Option CArm := fun c => match c with
  | .f 48 => some (.p [.str] _ (fun x => spec_l19Kept.F k x.1) (fun r => (.tup [.fr 9 .str r.1, .t .bool r.2])))
  | .f 49 => some (.p [(.sl .abbr), .str] _ (fun x => spec_l19Short.F k x.1 x.2.1) (fun r => (.t .str r)))
  | .f 102 => some (.p [(.sl .str)] _ (fun x => spec_l6Join.F k x.1) (fun r => (.t .str r)))
  | _ => none
def spec_l19Title.sp0 : List Sp := [.t 0 (.sl .abbr), .own 5 1028 9 .str false true, .own 7 4096 9 .str false true, .t 8 (.int .i64)]
def spec_l19Title.sp0_0 : List Sp := [.own 7 4096 9 .str false true]
def spec_l19Title.A0 : LArm := .one spec_l19Title.sp0 spec_l19Title.sp0_0 ((List ByteArray)) (fun k x => spec_l19Title.l0 k x.1 x.2.1 x.2.2.1 x.2.2.2.1) (.exit 0) (fun y => (y, ())) (fun x => x.1)
def spec_l19Title.L : Nat → Option LArm := fun b => match b with
  | 0 => some spec_l19Title.A0
  | _ => none
theorem spec_l19Title.run (k : Nat) (a0 : List Abbr) (a1 : ByteArray) : runF envX (tabC (spec_l19Title.C k)) (tabL 35 k spec_l19Title.L) Tryd.f64 [.t (.sl .abbr) a0, .t .str a1] (viewR1 (.t .str)) = spec_l19Title.F k a0 a1 := by kernel_rfl
theorem spec_l19Title.step0 (k : Nat) (x0 : List Abbr) (x5 : List ByteArray) (x7 : List ByteArray) (x8 : Int) : runC envX (tabC (spec_l19Title.C k)) (tabL 35 k spec_l19Title.L) 0 (loopAt Tryd.f64 0) (stOf 35 spec_l19Title.sp0 (x0, x5, x7, x8, ())) (spec_l19Title.A0.cont 35 k) = spec_l19Title.l0 (k + 1) x0 x5 x7 x8 := by kernel_rfl
theorem spec_l19Title.G (hE : EnvOk Tryd.prog envX) (pv : Nat → Value) (k : Nat) : ∀ cal A, spec_l19Title.C k cal = some A → ArmOk Tryd.prog envX pv cal A := by
  intro cal A h
  unfold spec_l19Title.C at h
  split at h
  · cases h; exact fun x y hy => spec_l19Kept.good hE pv k x.1 hy
  · cases h; exact fun x y hy => spec_l19Short.good hE pv k x.1 x.2.1 hy
  · cases h; exact fun x y hy => spec_l6Join.good hE pv k x.1 hy
  · cases h
theorem spec_l19Title.good (hE : EnvOk Tryd.prog envX) (pv : Nat → Value) (k : Nat) (a0 : List Abbr) (a1 : ByteArray) {y : _} (h : spec_l19Title.F k a0 a1 = some y) : Meets Tryd.prog envX pv (.f 64) (tvals [(.sl .abbr), .str] (a0, a1, ())) (.t .str y) :=
  fun_loops hE (t := spec_l19Title.C) k (fun k _ => spec_l19Title.G hE pv k) (f := 64) (fn := Tryd.f64) (by kernel_rfl) rfl (by kernel_rfl) (by kernel_rfl) (lt := spec_l19Title.L) (by kernel_rfl) (fun b A h => by
    unfold spec_l19Title.L at h; split at h
    · cases h; exact ⟨by kernel_rfl, by kernel_rfl, fun _ => rfl, fun _ => rfl⟩
    · cases h) (fun b A h => by
    unfold spec_l19Title.L at h; split at h
    · cases h; exact fun k x => spec_l19Title.step0 k x.1 x.2.1 x.2.2.1 x.2.2.2.1
    · cases h) ((spec_l19Title.run k a0 a1).trans h) fun r hr => wk_view1 hr
/-! ### 27 loop.example/g00896/spec.AbbreviateTitle -/
def spec_AbbreviateTitle.F (k : Nat) (a0 : List Abbr) (a1 : ByteArray) : Option (ByteArray × Bool) := (spec_l19Good.F k a0).bind fun r1 => bif (!r1) then (some ((⟨#[]⟩ : ByteArray), false)) else ((spec_l4Text.F k a1).bind fun r2 => bif (!r2) then (some ((⟨#[]⟩ : ByteArray), false)) else ((spec_l19Title.F k a0 a1).bind fun r3 => some (r3, true)))
def spec_AbbreviateTitle.C (k : Nat) : Cal → Option CArm := fun c => match c with
  | .f 46 => some (.p [(.sl .abbr)] _ (fun x => spec_l19Good.F k x.1) (fun r => (.t .bool r)))
  | .f 47 => some (.p [.str] _ (fun x => spec_l4Text.F k x.1) (fun r => (.t .bool r)))
  | .f 64 => some (.p [(.sl .abbr), .str] _ (fun x => spec_l19Title.F k x.1 x.2.1) (fun r => (.t .str r)))
  | _ => none
theorem spec_AbbreviateTitle.run (k : Nat) (a0 : List Abbr) (a1 : ByteArray) : runF envX (tabC (spec_AbbreviateTitle.C k)) (tabL 17 0 (fun _ => none)) Tryd.f27 [.t (.sl .abbr) a0, .t .str a1] (viewR2 (.t .str) (.t .bool)) = spec_AbbreviateTitle.F k a0 a1 := by kernel_rfl
theorem spec_AbbreviateTitle.G (hE : EnvOk Tryd.prog envX) (pv : Nat → Value) (k : Nat) : ∀ cal A, spec_AbbreviateTitle.C k cal = some A → ArmOk Tryd.prog envX pv cal A := by
  intro cal A h
  unfold spec_AbbreviateTitle.C at h
  split at h
  · cases h; exact fun x y hy => spec_l19Good.good hE pv k x.1 hy
  · cases h; exact fun x y hy => spec_l4Text.good hE pv k x.1 hy
  · cases h; exact fun x y hy => spec_l19Title.good hE pv k x.1 x.2.1 hy
  · cases h
theorem spec_AbbreviateTitle.good (hE : EnvOk Tryd.prog envX) (pv : Nat → Value) (k : Nat) (a0 : List Abbr) (a1 : ByteArray) {y : _} (h : spec_AbbreviateTitle.F k a0 a1 = some y) : Meets Tryd.prog envX pv (.f 27) (tvals [(.sl .abbr), .str] (a0, a1, ())) (.tup [.t .str y.1, .t .bool y.2]) :=
  fun_plain hE (spec_AbbreviateTitle.G hE pv k) (f := 27) (fn := Tryd.f27) (by kernel_rfl) rfl (by kernel_rfl) (by kernel_rfl) ((spec_AbbreviateTitle.run k a0 a1).trans h) fun r hr => wk_view2 hr
/-! ### 171 internal/stringslite.HasSuffix -/
def stringslite_HasSuffix.F (a0 : ByteArray) (a1 : ByteArray) : Option (Bool) := bif (decide ((a0.size : Int) ≥ (a1.size : Int))) then (bif decide (0 ≤ (IntKind.wrap .i64 ((a0.size : Int) - (a1.size : Int)))) then (bif decide ((IntKind.wrap .i64 ((a0.size : Int) - (a1.size : Int))) ≤ (a0.size : Int)) then (some (beqS (a0.extract ((IntKind.wrap .i64 ((a0.size : Int) - (a1.size : Int))) : Int).toNat a0.size) a1)) else none) else none) else (some false)
def stringslite_HasSuffix.C : Cal → Option CArm := fun c => match c with
  | _ => none
theorem stringslite_HasSuffix.run (a0 : ByteArray) (a1 : ByteArray) : runF envX (tabC stringslite_HasSuffix.C) (tabL 21 0 (fun _ => none)) Tryd.f171 [.t .str a0, .t .str a1] (viewR1 (.t .bool)) = stringslite_HasSuffix.F a0 a1 := by kernel_rfl
theorem stringslite_HasSuffix.G (hE : EnvOk Tryd.prog envX) (pv : Nat → Value) : ∀ cal A, stringslite_HasSuffix.C cal = some A → ArmOk Tryd.prog envX pv cal A := by
  intro cal A h
  unfold stringslite_HasSuffix.C at h
  cases h
theorem stringslite_HasSuffix.good (hE : EnvOk Tryd.prog envX) (pv : Nat → Value) (a0 : ByteArray) (a1 : ByteArray) {y : _} (h : stringslite_HasSuffix.F a0 a1 = some y) : Meets Tryd.prog envX pv (.f 171) (tvals [.str, .str] (a0, a1, ())) (.t .bool y) :=
  fun_plain hE (stringslite_HasSuffix.G hE pv) (f := 171) (fn := Tryd.f171) (by kernel_rfl) rfl (by kernel_rfl) (by kernel_rfl) ((stringslite_HasSuffix.run a0 a1).trans h) fun r hr => wk_view1 hr
/-! ### 162 internal/stringslite.TrimSuffix -/
def stringslite_TrimSuffix.F (a0 : ByteArray) (a1 : ByteArray) : Option (ByteArray) := (stringslite_HasSuffix.F a0 a1).bind fun r1 => bif r1 then (bif decide (0 ≤ (IntKind.wrap .i64 ((a0.size : Int) - (a1.size : Int)))) then (bif decide ((IntKind.wrap .i64 ((a0.size : Int) - (a1.size : Int))) ≤ (a0.size : Int)) then (some (a0.extract 0 ((IntKind.wrap .i64 ((a0.size : Int) - (a1.size : Int))) : Int).toNat)) else none) else none) else (some a0)
def stringslite_TrimSuffix.C : Cal → Option CArm := fun c => match c with
  | .f 171 => some (.p [.str, .str] _ (fun x => stringslite_HasSuffix.F x.1 x.2.1) (fun r => (.t .bool r)))
  | _ => none
theorem stringslite_TrimSuffix.run (a0 : ByteArray) (a1 : ByteArray) : runF envX (tabC stringslite_TrimSuffix.C) (tabL 16 0 (fun _ => none)) Tryd.f162 [.t .str a0, .t .str a1] (viewR1 (.t .str)) = stringslite_TrimSuffix.F a0 a1 := by kernel_rfl
theorem stringslite_TrimSuffix.G (hE : EnvOk Tryd.prog envX) (pv : Nat → Value) : ∀ cal A, stringslite_TrimSuffix.C cal = some A → ArmOk Tryd.prog envX pv cal A := by
  intro cal A h
  unfold stringslite_TrimSuffix.C at h
  split at h
  · cases h; exact fun x y hy => stringslite_HasSuffix.good hE pv x.1 x.2.1 hy
  · cases h
theorem stringslite_TrimSuffix.good (hE : EnvOk Tryd.prog envX) (pv : Nat → Value) (a0 : ByteArray) (a1 : ByteArray) {y : _} (h : stringslite_TrimSuffix.F a0 a1 = some y) : Meets Tryd.prog envX pv (.f 162) (tvals [.str, .str] (a0, a1, ())) (.t .str y) :=
  fun_plain hE (stringslite_TrimSuffix.G hE pv) (f := 162) (fn := Tryd.f162) (by kernel_rfl) rfl (by kernel_rfl) (by kernel_rfl) ((stringslite_TrimSuffix.run a0 a1).trans h) fun r hr => wk_view1 hr
/-! ### 127 strings.TrimSuffix -/
def strings_TrimSuffix.F (a0 : ByteArray) (a1 : ByteArray) : Option (ByteArray) := (stringslite_TrimSuffix.F a0 a1).bind fun r1 => some r1
def strings_TrimSuffix.C : Cal → Option CArm := fun c => match c with
  | .f 162 => some (.p [.str, .str] _ (fun x => stringslite_TrimSuffix.F x.1 x.2.1) (fun r => (.t .str r)))
  | _ => none
theorem strings_TrimSuffix.run (a0 : ByteArray) (a1 : ByteArray) : runF envX (tabC strings_TrimSuffix.C) (tabL 8 0 (fun _ => none)) Tryd.f127 [.t .str a0, .t .str a1] (viewR1 (.t .str)) = strings_TrimSuffix.F a0 a1 := by kernel_rfl
theorem strings_TrimSuffix.G (hE : EnvOk Tryd.prog envX) (pv : Nat → Value) : ∀ cal A, strings_TrimSuffix.C cal = some A → ArmOk Tryd.prog envX pv cal A := by
  intro cal A h
  unfold strings_TrimSuffix.C at h
  split at h
  · cases h; exact fun x y hy => stringslite_TrimSuffix.good hE pv x.1 x.2.1 hy
  · cases h
theorem strings_TrimSuffix.good (hE : EnvOk Tryd.prog envX) (pv : Nat → Value) (a0 : ByteArray) (a1 : ByteArray) {y : _} (h : strings_TrimSuffix.F a0 a1 = some y) : Meets Tryd.prog envX pv (.f 127) (tvals [.str, .str] (a0, a1, ())) (.t .str y) :=
  fun_plain hE (strings_TrimSuffix.G hE pv) (f := 127) (fn := Tryd.f127) (by kernel_rfl) rfl (by kernel_rfl) (by kernel_rfl) ((strings_TrimSuffix.run a0 a1).trans h) fun r hr => wk_view1 hr
/-! ### 128 loop.example/g00896/impl.isLower -/
def impl_isLower.F (a0 : Int) : Option (Bool) := bif (decide (a0 ≥ 97)) then (some (decide (a0 ≤ 122))) else (some false)
def impl_isLower.C : Cal → Option CArm := fun c => match c with
  | _ => none
theorem impl_isLower.run (a0 : Int) : runF envX (tabC impl_isLower.C) (tabL 9 0 (fun _ => none)) Tryd.f128 [.t (.int .u8) a0] (viewR1 (.t .bool)) = impl_isLower.F a0 := by kernel_rfl
theorem impl_isLower.G (hE : EnvOk Tryd.prog envX) (pv : Nat → Value) : ∀ cal A, impl_isLower.C cal = some A → ArmOk Tryd.prog envX pv cal A := by
  intro cal A h
  unfold impl_isLower.C at h
  cases h
theorem impl_isLower.good (hE : EnvOk Tryd.prog envX) (pv : Nat → Value) (a0 : Int) {y : _} (h : impl_isLower.F a0 = some y) : Meets Tryd.prog envX pv (.f 128) (tvals [(.int .u8)] (a0, ())) (.t .bool y) :=
  fun_plain hE (impl_isLower.G hE pv) (f := 128) (fn := Tryd.f128) (by kernel_rfl) rfl (by kernel_rfl) (by kernel_rfl) ((impl_isLower.run a0).trans h) fun r hr => wk_view1 hr
/-! ### 129 loop.example/g00896/impl.inside -/
def impl_inside.F (a0 : Int) (a1 : Int) (a2 : Int) : Option (Bool) := bif (decide (a0 ≥ a1)) then (some (decide (a0 ≤ a2))) else (some false)
def impl_inside.C : Cal → Option CArm := fun c => match c with
  | _ => none
theorem impl_inside.run (a0 : Int) (a1 : Int) (a2 : Int) : runF envX (tabC impl_inside.C) (tabL 15 0 (fun _ => none)) Tryd.f129 [.t (.int .i64) a0, .t (.int .i64) a1, .t (.int .i64) a2] (viewR1 (.t .bool)) = impl_inside.F a0 a1 a2 := by kernel_rfl
theorem impl_inside.G (hE : EnvOk Tryd.prog envX) (pv : Nat → Value) : ∀ cal A, impl_inside.C cal = some A → ArmOk Tryd.prog envX pv cal A := by
  intro cal A h
  unfold impl_inside.C at h
  cases h
theorem impl_inside.good (hE : EnvOk Tryd.prog envX) (pv : Nat → Value) (a0 : Int) (a1 : Int) (a2 : Int) {y : _} (h : impl_inside.F a0 a1 a2 = some y) : Meets Tryd.prog envX pv (.f 129) (tvals [(.int .i64), (.int .i64), (.int .i64)] (a0, a1, a2, ())) (.t .bool y) :=
  fun_plain hE (impl_inside.G hE pv) (f := 129) (fn := Tryd.f129) (by kernel_rfl) rfl (by kernel_rfl) (by kernel_rfl) ((impl_inside.run a0 a1 a2).trans h) fun r hr => wk_view1 hr
/-! ### 85 loop.example/g00896/impl.isSmall -/
def impl_isSmall.l0 : Nat → ByteArray → Int → Int → Int → Option (Sum Bool (ByteArray × Int × Int))
  | 0, _, _, _, _ => none
  | k + 1, x0, x1, x2, x9 => bif (decide (x9 < (x0.size : Int))) then (bif decide (0 ≤ x9) then (bif decide (x9 < (x0.size : Int)) then ((impl_isLower.F (bt x0 (x9 : Int).toNat)).bind fun r2 => bif (!r2) then (some (.inl false)) else (impl_isSmall.l0 k x0 x1 x2 (IntKind.wrap .i64 (x9 + 1)))) else none) else none) else (some (.inr (x0, x1, x2)))
def impl_isSmall.F (k : Nat) (a0 : ByteArray) (a1 : Int) (a2 : Int) (a3 : ByteArray) : Option (Bool) := (strings_TrimSuffix.F a0 a3).bind fun r1 => (impl_isSmall.l0 k r1 a1 a2 0).bind fun y3 => match y3 with | .inl z4 => some z4 | .inr z4 => (impl_inside.F (z4.1.size : Int) z4.2.1 z4.2.2).bind fun r5 => some r5
def impl_isSmall.C (k : Nat) : Cal → Option CArm := fun c => match c with
  | .f 127 => some (.p [.str, .str] _ (fun x => strings_TrimSuffix.F x.1 x.2.1) (fun r => (.t .str r)))
  | .f 128 => some (.p [(.int .u8)] _ (fun x => impl_isLower.F x.1) (fun r => (.t .bool r)))
  | .f 129 => some (.p [(.int .i64), (.int .i64), (.int .i64)] _ (fun x => impl_inside.F x.1 x.2.1 x.2.2.1) (fun r => (.t .bool r)))
  | _ => none
def impl_isSmall.sp0 : List Sp := [.t 0 .str, .t 1 (.int .i64), .t 2 (.int .i64), .t 9 (.int .i64)]
def impl_isSmall.sp0_0 : List Sp := [.t 8 .bool]
def impl_isSmall.sp0_1 : List Sp := [.t 0 .str, .t 1 (.int .i64), .t 2 (.int .i64)]
def impl_isSmall.A0 : LArm := .two impl_isSmall.sp0 impl_isSmall.sp0_0 impl_isSmall.sp0_1 (Bool) (ByteArray × Int × Int) (fun k x => impl_isSmall.l0 k x.1 x.2.1 x.2.2.1 x.2.2.2.1) .ret (.exit 0) (fun y => (y, ())) (fun x => x.1) (fun y => (y.1, y.2.1, y.2.2, ())) (fun x => (x.1, x.2.1, x.2.2.1))
def impl_isSmall.L : Nat → Option LArm := fun b => match b with
  | 0 => some impl_isSmall.A0
  | _ => none
theorem impl_isSmall.run (k : Nat) (a0 : ByteArray) (a1 : Int) (a2 : Int) (a3 : ByteArray) : runF envX (tabC (impl_isSmall.C k)) (tabL 29 k impl_isSmall.L) Tryd.f85 [.t .str a0, .t (.int .i64) a1, .t (.int .i64) a2, .t .str a3] (viewR1 (.t .bool)) = impl_isSmall.F k a0 a1 a2 a3 := by kernel_rfl
theorem impl_isSmall.step0 (k : Nat) (x0 : ByteArray) (x1 : Int) (x2 : Int) (x9 : Int) : runC envX (tabC (impl_isSmall.C k)) (tabL 29 k impl_isSmall.L) 0 (loopAt Tryd.f85 0) (stOf 29 impl_isSmall.sp0 (x0, x1, x2, x9, ())) (impl_isSmall.A0.cont 29 k) = impl_isSmall.l0 (k + 1) x0 x1 x2 x9 := by kernel_rfl
theorem impl_isSmall.G (hE : EnvOk Tryd.prog envX) (pv : Nat → Value) (k : Nat) : ∀ cal A, impl_isSmall.C k cal = some A → ArmOk Tryd.prog envX pv cal A := by
  intro cal A h
  unfold impl_isSmall.C at h
  split at h
  · cases h; exact fun x y hy => strings_TrimSuffix.good hE pv x.1 x.2.1 hy
  · cases h; exact fun x y hy => impl_isLower.good hE pv x.1 hy
  · cases h; exact fun x y hy => impl_inside.good hE pv x.1 x.2.1 x.2.2.1 hy
  · cases h
theorem impl_isSmall.good (hE : EnvOk Tryd.prog envX) (pv : Nat → Value) (k : Nat) (a0 : ByteArray) (a1 : Int) (a2 : Int) (a3 : ByteArray) {y : _} (h : impl_isSmall.F k a0 a1 a2 a3 = some y) : Meets Tryd.prog envX pv (.f 85) (tvals [.str, (.int .i64), (.int .i64), .str] (a0, a1, a2, a3, ())) (.t .bool y) :=
  fun_loops hE (t := impl_isSmall.C) k (fun k _ => impl_isSmall.G hE pv k) (f := 85) (fn := Tryd.f85) (by kernel_rfl) rfl (by kernel_rfl) (by kernel_rfl) (lt := impl_isSmall.L) (by kernel_rfl) (fun b A h => by
    unfold impl_isSmall.L at h; split at h
    · cases h; exact ⟨by kernel_rfl, by kernel_rfl, by kernel_rfl, fun _ => rfl, fun _ => rfl, fun _ => rfl⟩
    · cases h) (fun b A h => by
    unfold impl_isSmall.L at h; split at h
    · cases h; exact fun k x => impl_isSmall.step0 k x.1 x.2.1 x.2.2.1 x.2.2.2.1
    · cases h) ((impl_isSmall.run k a0 a1 a2 a3).trans h) fun r hr => wk_view1 hr
/-! ### 51 loop.example/g00896/impl.IsValidAbbreviations -/
def impl_IsValidAbbreviations.l0 : Nat → (List Abbr) → (List Abbr) → Int → Int → Option (Sum Bool (List Abbr))
  | 0, _, _, _, _ => none
  | k + 1, x0, x5, x6, x7 => bif (decide (x7 < x6)) then (bif decide (0 ≤ x7) then (bif decide (x7 < (x5.length : Int)) then ((impl_isSmall.F k ((x5.getD (x7 : Int).toNat (dflt .abbr)).word) 2 15 (⟨#[45]⟩ : ByteArray)).bind fun r1 => bif (!r1) then (some (.inl false)) else ((impl_isSmall.F k ((x5.getD (x7 : Int).toNat (dflt .abbr)).short) 1 12 (⟨#[46]⟩ : ByteArray)).bind fun r2 => bif (!r2) then (some (.inl false)) else (bif (decide (x7 > 0)) then (bif decide (0 ≤ (IntKind.wrap .i64 (x7 - 1))) then (bif decide ((IntKind.wrap .i64 (x7 - 1)) < (x0.length : Int)) then (bif (!ltS ((x0.getD ((IntKind.wrap .i64 (x7 - 1)) : Int).toNat (dflt .abbr)).word) ((x5.getD (x7 : Int).toNat (dflt .abbr)).word)) then (some (.inl false)) else (impl_IsValidAbbreviations.l0 k x0 x5 x6 (IntKind.wrap .i64 (x7 + 1)))) else none) else none) else (impl_IsValidAbbreviations.l0 k x0 x5 x6 (IntKind.wrap .i64 (x7 + 1)))))) else none) else none) else (some (.inr x0))
def impl_IsValidAbbreviations.F (k : Nat) (a0 : List Abbr) : Option (Bool) := (impl_IsValidAbbreviations.l0 k a0 a0 (a0.length : Int) 0).bind fun y3 => match y3 with | .inl z4 => some z4 | .inr z4 => some (decide ((z4.length : Int) ≤ 15))
def impl_IsValidAbbreviations.C (k : Nat) : Cal → Option CArm := fun c => match c with
  | .f 85 => some (.p [.str, (.int .i64), (.int .i64), .str] _ (fun x => impl_isSmall.F k x.1 x.2.1 x.2.2.1 x.2.2.2.1) (fun r => (.t .bool r)))
  | _ => none
def impl_IsValidAbbreviations.sp0 : List Sp := [.t 0 (.sl .abbr), .t 5 (.sl .abbr), .t 6 (.int .i64), .t 7 (.int .i64)]
def impl_IsValidAbbreviations.sp0_0 : List Sp := [.t 2 .bool]
def impl_IsValidAbbreviations.sp0_1 : List Sp := [.t 0 (.sl .abbr)]
def impl_IsValidAbbreviations.A0 : LArm := .two impl_IsValidAbbreviations.sp0 impl_IsValidAbbreviations.sp0_0 impl_IsValidAbbreviations.sp0_1 (Bool) ((List Abbr)) (fun k x => impl_IsValidAbbreviations.l0 k x.1 x.2.1 x.2.2.1 x.2.2.2.1) .ret (.exit 0) (fun y => (y, ())) (fun x => x.1) (fun y => (y, ())) (fun x => x.1)
def impl_IsValidAbbreviations.L : Nat → Option LArm := fun b => match b with
  | 0 => some impl_IsValidAbbreviations.A0
  | _ => none
theorem impl_IsValidAbbreviations.run (k : Nat) (a0 : List Abbr) : runF envX (tabC (impl_IsValidAbbreviations.C k)) (tabL 41 k impl_IsValidAbbreviations.L) Tryd.f51 [.t (.sl .abbr) a0] (viewR1 (.t .bool)) = impl_IsValidAbbreviations.F k a0 := by kernel_rfl
theorem impl_IsValidAbbreviations.step0 (k : Nat) (x0 : List Abbr) (x5 : List Abbr) (x6 : Int) (x7 : Int) : runC envX (tabC (impl_IsValidAbbreviations.C k)) (tabL 41 k impl_IsValidAbbreviations.L) 0 (loopAt Tryd.f51 0) (stOf 41 impl_IsValidAbbreviations.sp0 (x0, x5, x6, x7, ())) (impl_IsValidAbbreviations.A0.cont 41 k) = impl_IsValidAbbreviations.l0 (k + 1) x0 x5 x6 x7 := by kernel_rfl
theorem impl_IsValidAbbreviations.G (hE : EnvOk Tryd.prog envX) (pv : Nat → Value) (k : Nat) : ∀ cal A, impl_IsValidAbbreviations.C k cal = some A → ArmOk Tryd.prog envX pv cal A := by
  intro cal A h
  unfold impl_IsValidAbbreviations.C at h
  split at h
  · cases h; exact fun x y hy => impl_isSmall.good hE pv k x.1 x.2.1 x.2.2.1 x.2.2.2.1 hy
  · cases h
theorem impl_IsValidAbbreviations.good (hE : EnvOk Tryd.prog envX) (pv : Nat → Value) (k : Nat) (a0 : List Abbr) {y : _} (h : impl_IsValidAbbreviations.F k a0 = some y) : Meets Tryd.prog envX pv (.f 51) (tvals [(.sl .abbr)] (a0, ())) (.t .bool y) :=
  fun_loops hE (t := impl_IsValidAbbreviations.C) k (fun k _ => impl_IsValidAbbreviations.G hE pv k) (f := 51) (fn := Tryd.f51) (by kernel_rfl) rfl (by kernel_rfl) (by kernel_rfl) (lt := impl_IsValidAbbreviations.L) (by kernel_rfl) (fun b A h => by
    unfold impl_IsValidAbbreviations.L at h; split at h
    · cases h; exact ⟨by kernel_rfl, by kernel_rfl, by kernel_rfl, fun _ => rfl, fun _ => rfl, fun _ => rfl⟩
    · cases h) (fun b A h => by
    unfold impl_IsValidAbbreviations.L at h; split at h
    · cases h; exact fun k x => impl_IsValidAbbreviations.step0 k x.1 x.2.1 x.2.2.1 x.2.2.2.1
    · cases h) ((impl_IsValidAbbreviations.run k a0).trans h) fun r hr => wk_view1 hr
/-! ### 130 strings.Trim -/
def strings_Trim.F (a0 : ByteArray) (a1 : ByteArray) : Option (ByteArray) := xTrim1 a0 a1
theorem strings_Trim.good (hE : EnvOk Tryd.prog envX) (pv : Nat → Value) (a0 : ByteArray) (a1 : ByteArray) {y : _} (h : strings_Trim.F a0 a1 = some y) : Meets Tryd.prog envX pv (.f 130) (tvals [.str, .str] (a0, a1, ())) (.t .str y) :=
  ext_trim1 (fn := Tryd.f130) (by kernel_rfl) rfl (by kernel_rfl) Tryd.strings_Trim_one h
/-! ### 86 loop.example/g00896/impl.isPrintable -/
def impl_isPrintable.l0 : Nat → ByteArray → Int → Option (Sum Bool ByteArray)
  | 0, _, _ => none
  | k + 1, x0, x3 => bif (decide (x3 < (x0.size : Int))) then (bif decide (0 ≤ x3) then (bif decide (x3 < (x0.size : Int)) then (bif (decide ((bt x0 (x3 : Int).toNat) < 32)) then (some (.inl false)) else (bif decide (0 ≤ x3) then (bif decide (x3 < (x0.size : Int)) then (bif (decide ((bt x0 (x3 : Int).toNat) > 126)) then (some (.inl false)) else (impl_isPrintable.l0 k x0 (IntKind.wrap .i64 (x3 + 1)))) else none) else none)) else none) else none) else (some (.inr x0))
def impl_isPrintable.F (k : Nat) (a0 : ByteArray) : Option (Bool) := (impl_isPrintable.l0 k a0 0).bind fun y1 => match y1 with | .inl z2 => some z2 | .inr z2 => (strings_Trim.F z2 (⟨#[32]⟩ : ByteArray)).bind fun r3 => some (beqS r3 z2)
def impl_isPrintable.C (k : Nat) : Cal → Option CArm := fun c => match c with
  | .f 130 => some (.p [.str, .str] _ (fun x => strings_Trim.F x.1 x.2.1) (fun r => (.t .str r)))
  | _ => none
def impl_isPrintable.sp0 : List Sp := [.t 0 .str, .t 3 (.int .i64)]
def impl_isPrintable.sp0_0 : List Sp := [.t 2 .bool]
def impl_isPrintable.sp0_1 : List Sp := [.t 0 .str]
def impl_isPrintable.A0 : LArm := .two impl_isPrintable.sp0 impl_isPrintable.sp0_0 impl_isPrintable.sp0_1 (Bool) (ByteArray) (fun k x => impl_isPrintable.l0 k x.1 x.2.1) .ret (.exit 0) (fun y => (y, ())) (fun x => x.1) (fun y => (y, ())) (fun x => x.1)
def impl_isPrintable.L : Nat → Option LArm := fun b => match b with
  | 0 => some impl_isPrintable.A0
  | _ => none
theorem impl_isPrintable.run (k : Nat) (a0 : ByteArray) : runF envX (tabC (impl_isPrintable.C k)) (tabL 24 k impl_isPrintable.L) Tryd.f86 [.t .str a0] (viewR1 (.t .bool)) = impl_isPrintable.F k a0 := by kernel_rfl
theorem impl_isPrintable.step0 (k : Nat) (x0 : ByteArray) (x3 : Int) : runC envX (tabC (impl_isPrintable.C k)) (tabL 24 k impl_isPrintable.L) 0 (loopAt Tryd.f86 0) (stOf 24 impl_isPrintable.sp0 (x0, x3, ())) (impl_isPrintable.A0.cont 24 k) = impl_isPrintable.l0 (k + 1) x0 x3 := by kernel_rfl
theorem impl_isPrintable.G (hE : EnvOk Tryd.prog envX) (pv : Nat → Value) (k : Nat) : ∀ cal A, impl_isPrintable.C k cal = some A → ArmOk Tryd.prog envX pv cal A := by
  intro cal A h
  unfold impl_isPrintable.C at h
  split at h
  · cases h; exact fun x y hy => strings_Trim.good hE pv x.1 x.2.1 hy
  · cases h
theorem impl_isPrintable.good (hE : EnvOk Tryd.prog envX) (pv : Nat → Value) (k : Nat) (a0 : ByteArray) {y : _} (h : impl_isPrintable.F k a0 = some y) : Meets Tryd.prog envX pv (.f 86) (tvals [.str] (a0, ())) (.t .bool y) :=
  fun_loops hE (t := impl_isPrintable.C) k (fun k _ => impl_isPrintable.G hE pv k) (f := 86) (fn := Tryd.f86) (by kernel_rfl) rfl (by kernel_rfl) (by kernel_rfl) (lt := impl_isPrintable.L) (by kernel_rfl) (fun b A h => by
    unfold impl_isPrintable.L at h; split at h
    · cases h; exact ⟨by kernel_rfl, by kernel_rfl, by kernel_rfl, fun _ => rfl, fun _ => rfl, fun _ => rfl⟩
    · cases h) (fun b A h => by
    unfold impl_isPrintable.L at h; split at h
    · cases h; exact fun k x => impl_isPrintable.step0 k x.1 x.2.1
    · cases h) ((impl_isPrintable.run k a0).trans h) fun r hr => wk_view1 hr
/-! ### 52 loop.example/g00896/impl.isText -/
def impl_isText.F (k : Nat) (a0 : ByteArray) : Option (Bool) := bif (decide ((a0.size : Int) ≤ 40)) then ((impl_isPrintable.F k a0).bind fun r1 => some r1) else (some false)
def impl_isText.C (k : Nat) : Cal → Option CArm := fun c => match c with
  | .f 86 => some (.p [.str] _ (fun x => impl_isPrintable.F k x.1) (fun r => (.t .bool r)))
  | _ => none
theorem impl_isText.run (k : Nat) (a0 : ByteArray) : runF envX (tabC (impl_isText.C k)) (tabL 10 0 (fun _ => none)) Tryd.f52 [.t .str a0] (viewR1 (.t .bool)) = impl_isText.F k a0 := by kernel_rfl
theorem impl_isText.G (hE : EnvOk Tryd.prog envX) (pv : Nat → Value) (k : Nat) : ∀ cal A, impl_isText.C k cal = some A → ArmOk Tryd.prog envX pv cal A := by
  intro cal A h
  unfold impl_isText.C at h
  split at h
  · cases h; exact fun x y hy => impl_isPrintable.good hE pv k x.1 hy
  · cases h
theorem impl_isText.good (hE : EnvOk Tryd.prog envX) (pv : Nat → Value) (k : Nat) (a0 : ByteArray) {y : _} (h : impl_isText.F k a0 = some y) : Meets Tryd.prog envX pv (.f 52) (tvals [.str] (a0, ())) (.t .bool y) :=
  fun_plain hE (impl_isText.G hE pv k) (f := 52) (fn := Tryd.f52) (by kernel_rfl) rfl (by kernel_rfl) (by kernel_rfl) ((impl_isText.run k a0).trans h) fun r hr => wk_view1 hr
-- NO 90 slices.IndexFunc[[]string,string]: a parameter's type
-- NO 54 slices.DeleteFunc[[]string,string]: a parameter's type
/-! ### 131 strings.Split -/
def strings_Split.F (a0 : ByteArray) (a1 : ByteArray) : Option (List ByteArray) := xSplit a0 a1
theorem strings_Split.good (hE : EnvOk Tryd.prog envX) (pv : Nat → Value) (a0 : ByteArray) (a1 : ByteArray) {y : _} (h : strings_Split.F a0 a1 = some y) : Meets Tryd.prog envX pv (.f 131) (tvals [.str, .str] (a0, a1, ())) (.fr 9 .str y) :=
  ext_split (fn := Tryd.f131) (by kernel_rfl) rfl (by kernel_rfl) (mx := 1) (by kernel_rfl) Tryd.strings_Split h
/-! ### 132 loop.example/g00896/impl.wordsOf$1 -/
def impl_wordsOf_1.F (a0 : ByteArray) : Option (Bool) := some (beqS a0 (⟨#[]⟩ : ByteArray))
def impl_wordsOf_1.C : Cal → Option CArm := fun c => match c with
  | _ => none
theorem impl_wordsOf_1.run (a0 : ByteArray) : runF envX (tabC impl_wordsOf_1.C) (tabL 5 0 (fun _ => none)) Tryd.f132 [.t .str a0] (viewR1 (.t .bool)) = impl_wordsOf_1.F a0 := by kernel_rfl
theorem impl_wordsOf_1.G (hE : EnvOk Tryd.prog envX) (pv : Nat → Value) : ∀ cal A, impl_wordsOf_1.C cal = some A → ArmOk Tryd.prog envX pv cal A := by
  intro cal A h
  unfold impl_wordsOf_1.C at h
  cases h
theorem impl_wordsOf_1.good (hE : EnvOk Tryd.prog envX) (pv : Nat → Value) (a0 : ByteArray) {y : _} (h : impl_wordsOf_1.F a0 = some y) : Meets Tryd.prog envX pv (.f 132) (tvals [.str] (a0, ())) (.t .bool y) :=
  fun_plain hE (impl_wordsOf_1.G hE pv) (f := 132) (fn := Tryd.f132) (by kernel_rfl) rfl (by kernel_rfl) (by kernel_rfl) ((impl_wordsOf_1.run a0).trans h) fun r hr => wk_view1 hr
/-! ### 90 slices.IndexFunc[[]string,string] at loop.example/g00896/impl.wordsOf$1 -/
def slices_IndexFunc_string_f132.l0 : Nat → (List ByteArray) → Int → Int → Option (Sum Int Unit)
  | 0, _, _, _ => none
  | k + 1, x0, x7, x8 => bif (decide (x8 < x7)) then (bif decide (0 ≤ x8) then (bif decide (x8 < (x0.length : Int)) then ((impl_wordsOf_1.F (x0.getD (x8 : Int).toNat (⟨#[]⟩ : ByteArray))).bind fun r1 => bif r1 then (some (.inl x8)) else (slices_IndexFunc_string_f132.l0 k x0 x7 (IntKind.wrap .i64 (x8 + 1)))) else none) else none) else (some (.inr ()))
def slices_IndexFunc_string_f132.F (k : Nat) (a0 : List ByteArray) : Option (Int) := (slices_IndexFunc_string_f132.l0 k a0 (a0.length : Int) 0).bind fun y2 => match y2 with | .inl z3 => some z3 | .inr z3 => some (-1)
def slices_IndexFunc_string_f132.C (k : Nat) : Cal → Option CArm := fun c => match c with
  | .f 132 => some (.p [.str] _ (fun x => impl_wordsOf_1.F x.1) (fun r => (.t .bool r)))
  | _ => none
def slices_IndexFunc_string_f132.sp0 : List Sp := [.t 0 (.sl .str), .con 1 (.clo 132), .t 7 (.int .i64), .t 8 (.int .i64)]
def slices_IndexFunc_string_f132.sp0_0 : List Sp := [.t 4 (.int .i64)]
def slices_IndexFunc_string_f132.sp0_1 : List Sp := []
def slices_IndexFunc_string_f132.A0 : LArm := .two slices_IndexFunc_string_f132.sp0 slices_IndexFunc_string_f132.sp0_0 slices_IndexFunc_string_f132.sp0_1 (Int) (Unit) (fun k x => slices_IndexFunc_string_f132.l0 k x.1 x.2.2.1 x.2.2.2.1) .ret (.exit 0) (fun y => (y, ())) (fun x => x.1) (fun y => ()) (fun x => ())
def slices_IndexFunc_string_f132.L : Nat → Option LArm := fun b => match b with
  | 0 => some slices_IndexFunc_string_f132.A0
  | _ => none
theorem slices_IndexFunc_string_f132.run (k : Nat) (a0 : List ByteArray) : runF envX (tabC (slices_IndexFunc_string_f132.C k)) (tabL 19 k slices_IndexFunc_string_f132.L) Tryd.f90 [.t (.sl .str) a0, .clo 132 []] (viewR1 (.t (.int .i64))) = slices_IndexFunc_string_f132.F k a0 := by kernel_rfl
theorem slices_IndexFunc_string_f132.step0 (k : Nat) (x0 : List ByteArray) (x7 : Int) (x8 : Int) : runC envX (tabC (slices_IndexFunc_string_f132.C k)) (tabL 19 k slices_IndexFunc_string_f132.L) 0 (loopAt Tryd.f90 0) (stOf 19 slices_IndexFunc_string_f132.sp0 (x0, (), x7, x8, ())) (slices_IndexFunc_string_f132.A0.cont 19 k) = slices_IndexFunc_string_f132.l0 (k + 1) x0 x7 x8 := by kernel_rfl
theorem slices_IndexFunc_string_f132.G (hE : EnvOk Tryd.prog envX) (pv : Nat → Value) (k : Nat) : ∀ cal A, slices_IndexFunc_string_f132.C k cal = some A → ArmOk Tryd.prog envX pv cal A := by
  intro cal A h
  unfold slices_IndexFunc_string_f132.C at h
  split at h
  · cases h; exact fun x y hy => impl_wordsOf_1.good hE pv x.1 hy
  · cases h
theorem slices_IndexFunc_string_f132.good (hE : EnvOk Tryd.prog envX) (pv : Nat → Value) (k : Nat) (a0 : List ByteArray) {y : _} (h : slices_IndexFunc_string_f132.F k a0 = some y) : Meets Tryd.prog envX pv (.f 90) (pvals [.t (.sl .str), .clo 132 []] (a0, (()), ())) (.t (.int .i64) y) :=
  fun_loops hE (t := slices_IndexFunc_string_f132.C) k (fun k _ => slices_IndexFunc_string_f132.G hE pv k) (f := 90) (fn := Tryd.f90) (by kernel_rfl) rfl (by kernel_rfl) (by kernel_rfl) (lt := slices_IndexFunc_string_f132.L) (by kernel_rfl) (fun b A h => by
    unfold slices_IndexFunc_string_f132.L at h; split at h
    · cases h; exact ⟨by kernel_rfl, by kernel_rfl, by kernel_rfl, fun _ => rfl, fun _ => rfl, fun _ => rfl⟩
    · cases h) (fun b A h => by
    unfold slices_IndexFunc_string_f132.L at h; split at h
    · cases h; exact fun k x => slices_IndexFunc_string_f132.step0 k x.1 x.2.2.1 x.2.2.2.1
    · cases h) ((slices_IndexFunc_string_f132.run k a0).trans h) fun r hr => wk_view1 hr
/-! ### 54 slices.DeleteFunc[[]string,string] at loop.example/g00896/impl.wordsOf$1 -/
def slices_DeleteFunc_string_f132.l0 : Nat → (List ByteArray) → Int → Int → Option ((List ByteArray) × Int)
  | 0, _, _, _ => none
  | k + 1, x0, x5, x6 => bif (decide (x6 < (x0.length : Int))) then (bif decide (0 ≤ x6) then (bif decide (x6 < (x0.length : Int)) then ((impl_wordsOf_1.F (x0.getD ((x6 : Int).toNat) (⟨#[]⟩ : ByteArray))).bind fun r2 => bif (!r2) then (bif decide (0 ≤ x5) then (bif decide (x5 < (x0.length : Int)) then (slices_DeleteFunc_string_f132.l0 k (x0.set ((x5 : Int).toNat) (x0.getD ((x6 : Int).toNat) (⟨#[]⟩ : ByteArray))) (IntKind.wrap .i64 (x5 + 1)) (IntKind.wrap .i64 (x6 + 1))) else none) else none) else (slices_DeleteFunc_string_f132.l0 k x0 x5 (IntKind.wrap .i64 (x6 + 1)))) else none) else none) else (some (x0, x5))
def slices_DeleteFunc_string_f132.F (k : Nat) (a0 : List ByteArray) : Option (List ByteArray) := (slices_IndexFunc_string_f132.F k a0).bind fun r1 => bif (r1 == (-1)) then (some a0) else ((slices_DeleteFunc_string_f132.l0 k a0 r1 (IntKind.wrap .i64 (r1 + 1))).bind fun y3 => bif decide (0 ≤ y3.2) then (bif decide (y3.2 ≤ (y3.1.length : Int)) then (bif decide (0 ≤ y3.2) then (bif decide (y3.2 ≤ ((y3.1.take ((y3.2 : Int).toNat) ++ List.replicate (y3.1.length - ((y3.2 : Int).toNat)) (⟨#[]⟩ : ByteArray)).length : Int)) then (some ((y3.1.take ((y3.2 : Int).toNat) ++ List.replicate (y3.1.length - ((y3.2 : Int).toNat)) (⟨#[]⟩ : ByteArray)).take (y3.2 : Int).toNat)) else none) else none) else none) else none)
def slices_DeleteFunc_string_f132.C (k : Nat) : Cal → Option CArm := fun c => match c with
  | .f 90 => some (.q [.t (.sl .str), .clo 132 []] _ (fun x => slices_IndexFunc_string_f132.F k x.1) (fun r => (.t (.int .i64) r)))
  | .f 132 => some (.p [.str] _ (fun x => impl_wordsOf_1.F x.1) (fun r => (.t .bool r)))
  | _ => none
def slices_DeleteFunc_string_f132.sp0 : List Sp := [.own 0 1099511627777 9 .str false true, .con 1 (.clo 132), .t 5 (.int .i64), .t 6 (.int .i64)]
def slices_DeleteFunc_string_f132.sp0_0 : List Sp := [.own 0 1099511627777 9 .str false true, .t 5 (.int .i64)]
def slices_DeleteFunc_string_f132.A0 : LArm := .one slices_DeleteFunc_string_f132.sp0 slices_DeleteFunc_string_f132.sp0_0 ((List ByteArray) × Int) (fun k x => slices_DeleteFunc_string_f132.l0 k x.1 x.2.2.1 x.2.2.2.1) (.exit 0) (fun y => (y.1, y.2, ())) (fun x => (x.1, x.2.1))
def slices_DeleteFunc_string_f132.L : Nat → Option LArm := fun b => match b with
  | 0 => some slices_DeleteFunc_string_f132.A0
  | _ => none
theorem slices_DeleteFunc_string_f132.run (k : Nat) (a0 : List ByteArray) : runM envX (tabC (slices_DeleteFunc_string_f132.C k)) (tabL 42 k slices_DeleteFunc_string_f132.L) Tryd.f54 mmove (.fr 9 .str a0) [.clo 132 []] (viewMov 9 .str) = slices_DeleteFunc_string_f132.F k a0 := by kernel_rfl
theorem slices_DeleteFunc_string_f132.step0 (k : Nat) (x0 : List ByteArray) (x5 : Int) (x6 : Int) : runC envX (tabC (slices_DeleteFunc_string_f132.C k)) (tabL 42 k slices_DeleteFunc_string_f132.L) 0 (loopAt Tryd.f54 0) (stOf 42 slices_DeleteFunc_string_f132.sp0 (x0, (), x5, x6, ())) (slices_DeleteFunc_string_f132.A0.cont 42 k) = slices_DeleteFunc_string_f132.l0 (k + 1) x0 x5 x6 := by kernel_rfl
theorem slices_DeleteFunc_string_f132.G (hE : EnvOk Tryd.prog envX) (pv : Nat → Value) (k : Nat) : ∀ cal A, slices_DeleteFunc_string_f132.C k cal = some A → ArmOk Tryd.prog envX pv cal A := by
  intro cal A h
  unfold slices_DeleteFunc_string_f132.C at h
  split at h
  · cases h; exact fun x y hy => slices_IndexFunc_string_f132.good hE pv k x.1 hy
  · cases h; exact fun x y hy => impl_wordsOf_1.good hE pv x.1 hy
  · cases h
theorem slices_DeleteFunc_string_f132.good (hE : EnvOk Tryd.prog envX) (pv : Nat → Value) (k : Nat) (a0 : List ByteArray) {y : _} (h : slices_DeleteFunc_string_f132.F k a0 = some y) : MeetsM Tryd.prog envX pv 54 (.fr 9 .str a0) (pvals [.clo 132 []] ((()), ())) (.mov 9 .str y) :=
  funM_loops hE (t := slices_DeleteFunc_string_f132.C) k (fun k _ => slices_DeleteFunc_string_f132.G hE pv k) (f := 54) (fn := Tryd.f54) (by kernel_rfl) rfl (by kernel_rfl) (.inr rfl) (by kernel_rfl) (lt := slices_DeleteFunc_string_f132.L) (by kernel_rfl) (fun b A h => by
    unfold slices_DeleteFunc_string_f132.L at h; split at h
    · cases h; exact ⟨by kernel_rfl, by kernel_rfl, fun _ => rfl, fun _ => rfl⟩
    · cases h) (fun b A h => by
    unfold slices_DeleteFunc_string_f132.L at h; split at h
    · cases h; exact fun k x => slices_DeleteFunc_string_f132.step0 k x.1 x.2.2.1 x.2.2.2.1
    · cases h) ((slices_DeleteFunc_string_f132.run k a0).trans h) fun r hr => wk_viewMov hr
/-! ### 87 loop.example/g00896/impl.wordsOf -/
def impl_wordsOf.F (k : Nat) (a0 : ByteArray) : Option (List ByteArray) := (strings_Split.F a0 (⟨#[32]⟩ : ByteArray)).bind fun r1 => (slices_DeleteFunc_string_f132.F k r1).bind fun r2 => some r2
def impl_wordsOf.C (k : Nat) : Cal → Option CArm := fun c => match c with
  | .f 131 => some (.p [.str, .str] _ (fun x => strings_Split.F x.1 x.2.1) (fun r => (.fr 9 .str r)))
  | .f 54 => some (.mq (.fr 9 .str) [.clo 132 []] _ (fun x0 x => slices_DeleteFunc_string_f132.F k x0) (fun r => .mov 9 .str r))
  | _ => none
theorem impl_wordsOf.run (k : Nat) (a0 : ByteArray) : runF envX (tabC (impl_wordsOf.C k)) (tabL 6 0 (fun _ => none)) Tryd.f87 [.t .str a0] (viewR1 (.fr 9 .str)) = impl_wordsOf.F k a0 := by kernel_rfl
theorem impl_wordsOf.G (hE : EnvOk Tryd.prog envX) (pv : Nat → Value) (k : Nat) : ∀ cal A, impl_wordsOf.C k cal = some A → ArmOk Tryd.prog envX pv cal A := by
  intro cal A h
  unfold impl_wordsOf.C at h
  split at h
  · cases h; exact fun x y hy => strings_Split.good hE pv x.1 x.2.1 hy
  · cases h; exact ⟨_, rfl, fun x0 x y hy => slices_DeleteFunc_string_f132.good hE pv k x0 hy⟩
  · cases h
theorem impl_wordsOf.good (hE : EnvOk Tryd.prog envX) (pv : Nat → Value) (k : Nat) (a0 : ByteArray) {y : _} (h : impl_wordsOf.F k a0 = some y) : Meets Tryd.prog envX pv (.f 87) (tvals [.str] (a0, ())) (.fr 9 .str y) :=
  fun_plain hE (impl_wordsOf.G hE pv k) (f := 87) (fn := Tryd.f87) (by kernel_rfl) rfl (by kernel_rfl) (by kernel_rfl) ((impl_wordsOf.run k a0).trans h) fun r hr => wk_view1 hr
/-! ### 88 slices.Clone[[]string,string] -/
def slices_Clone_string.F (a0 : List ByteArray) : Option (List ByteArray) := xClone a0
theorem slices_Clone_string.good (hE : EnvOk Tryd.prog envX) (pv : Nat → Value) (a0 : List ByteArray) {y : _} (h : slices_Clone_string.F a0 = some y) : Meets Tryd.prog envX pv (.f 88) (tvals [(.sl .str)] (a0, ())) (.fr 9 .str y) :=
  ext_clone (fn := Tryd.f88) (by kernel_rfl) rfl (by kernel_rfl) Tryd.slices_Clone_string Tryd.slices_Clone_string_nil Tryd.slices_Clone_string_zero h
/-! ### 91 loop.example/g00896/impl.isUpper -/
def impl_isUpper.F (a0 : Int) : Option (Bool) := bif (decide (a0 ≥ 65)) then (some (decide (a0 ≤ 90))) else (some false)
def impl_isUpper.C : Cal → Option CArm := fun c => match c with
  | _ => none
theorem impl_isUpper.run (a0 : Int) : runF envX (tabC impl_isUpper.C) (tabL 9 0 (fun _ => none)) Tryd.f91 [.t (.int .u8) a0] (viewR1 (.t .bool)) = impl_isUpper.F a0 := by kernel_rfl
theorem impl_isUpper.G (hE : EnvOk Tryd.prog envX) (pv : Nat → Value) : ∀ cal A, impl_isUpper.C cal = some A → ArmOk Tryd.prog envX pv cal A := by
  intro cal A h
  unfold impl_isUpper.C at h
  cases h
theorem impl_isUpper.good (hE : EnvOk Tryd.prog envX) (pv : Nat → Value) (a0 : Int) {y : _} (h : impl_isUpper.F a0 = some y) : Meets Tryd.prog envX pv (.f 91) (tvals [(.int .u8)] (a0, ())) (.t .bool y) :=
  fun_plain hE (impl_isUpper.G hE pv) (f := 91) (fn := Tryd.f91) (by kernel_rfl) rfl (by kernel_rfl) (by kernel_rfl) ((impl_isUpper.run a0).trans h) fun r hr => wk_view1 hr
/-! ### 99 loop.example/g00896/impl.lower -/
def impl_lower.l0 : Nat → (List Int) → Int → Int → Option ((List Int))
  | 0, _, _, _ => none
  | k + 1, x3, x9, x10 => bif (decide (x10 < x9)) then (bif decide (0 ≤ x10) then (bif decide (x10 < (x3.length : Int)) then ((impl_isUpper.F (x3.getD ((x10 : Int).toNat) 0)).bind fun r1 => bif r1 then (bif decide (0 ≤ x10) then (bif decide (x10 < (x3.length : Int)) then (impl_lower.l0 k (x3.set ((x10 : Int).toNat) (IntKind.wrap .u8 ((IntKind.wrap .u8 ((x3.getD ((x10 : Int).toNat) 0) + 97)) - 65))) x9 (IntKind.wrap .i64 (x10 + 1))) else none) else none) else (impl_lower.l0 k x3 x9 (IntKind.wrap .i64 (x10 + 1)))) else none) else none) else (some x3)
def impl_lower.F (k : Nat) (a0 : ByteArray) : Option (ByteArray) := bif Nat.ble a0.size 9223372036854775807 then ((impl_lower.l0 k (bytesL a0) ((bytesL a0).length : Int) 0).bind fun y2 => some (strL y2)) else none
def impl_lower.C (k : Nat) : Cal → Option CArm := fun c => match c with
  | .f 91 => some (.p [(.int .u8)] _ (fun x => impl_isUpper.F x.1) (fun r => (.t .bool r)))
  | _ => none
def impl_lower.sp0 : List Sp := [.own 3 1028 5 (.int .u8) false false, .con 8 (.own 1028), .t 9 (.int .i64), .t 10 (.int .i64)]
def impl_lower.sp0_0 : List Sp := [.own 3 1028 5 (.int .u8) false false]
def impl_lower.A0 : LArm := .one impl_lower.sp0 impl_lower.sp0_0 ((List Int)) (fun k x => impl_lower.l0 k x.1 x.2.2.1 x.2.2.2.1) (.exit 0) (fun y => (y, ())) (fun x => x.1)
def impl_lower.L : Nat → Option LArm := fun b => match b with
  | 0 => some impl_lower.A0
  | _ => none
theorem impl_lower.run (k : Nat) (a0 : ByteArray) : runF envX (tabC (impl_lower.C k)) (tabL 26 k impl_lower.L) Tryd.f99 [.t .str a0] (viewR1 (.t .str)) = impl_lower.F k a0 := by kernel_rfl
theorem impl_lower.step0 (k : Nat) (x3 : List Int) (x9 : Int) (x10 : Int) : runC envX (tabC (impl_lower.C k)) (tabL 26 k impl_lower.L) 0 (loopAt Tryd.f99 0) (stOf 26 impl_lower.sp0 (x3, (), x9, x10, ())) (impl_lower.A0.cont 26 k) = impl_lower.l0 (k + 1) x3 x9 x10 := by kernel_rfl
theorem impl_lower.G (hE : EnvOk Tryd.prog envX) (pv : Nat → Value) (k : Nat) : ∀ cal A, impl_lower.C k cal = some A → ArmOk Tryd.prog envX pv cal A := by
  intro cal A h
  unfold impl_lower.C at h
  split at h
  · cases h; exact fun x y hy => impl_isUpper.good hE pv x.1 hy
  · cases h
theorem impl_lower.good (hE : EnvOk Tryd.prog envX) (pv : Nat → Value) (k : Nat) (a0 : ByteArray) {y : _} (h : impl_lower.F k a0 = some y) : Meets Tryd.prog envX pv (.f 99) (tvals [.str] (a0, ())) (.t .str y) :=
  fun_loops hE (t := impl_lower.C) k (fun k _ => impl_lower.G hE pv k) (f := 99) (fn := Tryd.f99) (by kernel_rfl) rfl (by kernel_rfl) (by kernel_rfl) (lt := impl_lower.L) (by kernel_rfl) (fun b A h => by
    unfold impl_lower.L at h; split at h
    · cases h; exact ⟨by kernel_rfl, by kernel_rfl, fun _ => rfl, fun _ => rfl⟩
    · cases h) (fun b A h => by
    unfold impl_lower.L at h; split at h
    · cases h; exact fun k x => impl_lower.step0 k x.1 x.2.2.1 x.2.2.2.1
    · cases h) ((impl_lower.run k a0).trans h) fun r hr => wk_view1 hr
/-! ### 89 loop.example/g00896/impl.isOmitted -/
def impl_isOmitted.F (k : Nat) (a0 : ByteArray) : Option (Bool) := (impl_lower.F k a0).bind fun r1 => bif (beqS r1 (⟨#[97]⟩ : ByteArray)) then (bif (beqS r1 (⟨#[97]⟩ : ByteArray)) then (some true) else (some false)) else (bif (beqS r1 (⟨#[97, 110]⟩ : ByteArray)) then (bif (beqS r1 (⟨#[97, 110]⟩ : ByteArray)) then (some true) else (some false)) else (bif (beqS r1 (⟨#[97, 110, 100]⟩ : ByteArray)) then (bif (beqS r1 (⟨#[97, 110, 100]⟩ : ByteArray)) then (some true) else (some false)) else (bif (beqS r1 (⟨#[102, 111, 114]⟩ : ByteArray)) then (bif (beqS r1 (⟨#[102, 111, 114]⟩ : ByteArray)) then (some true) else (some false)) else (bif (beqS r1 (⟨#[105, 110]⟩ : ByteArray)) then (bif (beqS r1 (⟨#[105, 110]⟩ : ByteArray)) then (some true) else (some false)) else (bif (beqS r1 (⟨#[111, 102]⟩ : ByteArray)) then (bif (beqS r1 (⟨#[111, 102]⟩ : ByteArray)) then (some true) else (some false)) else (bif (beqS r1 (⟨#[111, 110]⟩ : ByteArray)) then (bif (beqS r1 (⟨#[111, 110]⟩ : ByteArray)) then (some true) else (some false)) else (bif (beqS r1 (⟨#[116, 104, 101]⟩ : ByteArray)) then (some true) else (some false))))))))
def impl_isOmitted.C (k : Nat) : Cal → Option CArm := fun c => match c with
  | .f 99 => some (.p [.str] _ (fun x => impl_lower.F k x.1) (fun r => (.t .str r)))
  | _ => none
theorem impl_isOmitted.run (k : Nat) (a0 : ByteArray) : runF envX (tabC (impl_isOmitted.C k)) (tabL 14 0 (fun _ => none)) Tryd.f89 [.t .str a0] (viewR1 (.t .bool)) = impl_isOmitted.F k a0 := by kernel_rfl
theorem impl_isOmitted.G (hE : EnvOk Tryd.prog envX) (pv : Nat → Value) (k : Nat) : ∀ cal A, impl_isOmitted.C k cal = some A → ArmOk Tryd.prog envX pv cal A := by
  intro cal A h
  unfold impl_isOmitted.C at h
  split at h
  · cases h; exact fun x y hy => impl_lower.good hE pv k x.1 hy
  · cases h
theorem impl_isOmitted.good (hE : EnvOk Tryd.prog envX) (pv : Nat → Value) (k : Nat) (a0 : ByteArray) {y : _} (h : impl_isOmitted.F k a0 = some y) : Meets Tryd.prog envX pv (.f 89) (tvals [.str] (a0, ())) (.t .bool y) :=
  fun_plain hE (impl_isOmitted.G hE pv k) (f := 89) (fn := Tryd.f89) (by kernel_rfl) rfl (by kernel_rfl) (by kernel_rfl) ((impl_isOmitted.run k a0).trans h) fun r hr => wk_view1 hr
/-! ### 90 slices.IndexFunc[[]string,string] at loop.example/g00896/impl.isOmitted -/
def slices_IndexFunc_string_f89.l0 : Nat → (List ByteArray) → Int → Int → Option (Sum Int Unit)
  | 0, _, _, _ => none
  | k + 1, x0, x7, x8 => bif (decide (x8 < x7)) then (bif decide (0 ≤ x8) then (bif decide (x8 < (x0.length : Int)) then ((impl_isOmitted.F k (x0.getD (x8 : Int).toNat (⟨#[]⟩ : ByteArray))).bind fun r1 => bif r1 then (some (.inl x8)) else (slices_IndexFunc_string_f89.l0 k x0 x7 (IntKind.wrap .i64 (x8 + 1)))) else none) else none) else (some (.inr ()))
def slices_IndexFunc_string_f89.F (k : Nat) (a0 : List ByteArray) : Option (Int) := (slices_IndexFunc_string_f89.l0 k a0 (a0.length : Int) 0).bind fun y2 => match y2 with | .inl z3 => some z3 | .inr z3 => some (-1)
def slices_IndexFunc_string_f89.C (k : Nat) : Cal → Option CArm := fun c => match c with
  | .f 89 => some (.p [.str] _ (fun x => impl_isOmitted.F k x.1) (fun r => (.t .bool r)))
  | _ => none
def slices_IndexFunc_string_f89.sp0 : List Sp := [.t 0 (.sl .str), .con 1 (.clo 89), .t 7 (.int .i64), .t 8 (.int .i64)]
def slices_IndexFunc_string_f89.sp0_0 : List Sp := [.t 4 (.int .i64)]
def slices_IndexFunc_string_f89.sp0_1 : List Sp := []
def slices_IndexFunc_string_f89.A0 : LArm := .two slices_IndexFunc_string_f89.sp0 slices_IndexFunc_string_f89.sp0_0 slices_IndexFunc_string_f89.sp0_1 (Int) (Unit) (fun k x => slices_IndexFunc_string_f89.l0 k x.1 x.2.2.1 x.2.2.2.1) .ret (.exit 0) (fun y => (y, ())) (fun x => x.1) (fun y => ()) (fun x => ())
def slices_IndexFunc_string_f89.L : Nat → Option LArm := fun b => match b with
  | 0 => some slices_IndexFunc_string_f89.A0
  | _ => none
theorem slices_IndexFunc_string_f89.run (k : Nat) (a0 : List ByteArray) : runF envX (tabC (slices_IndexFunc_string_f89.C k)) (tabL 19 k slices_IndexFunc_string_f89.L) Tryd.f90 [.t (.sl .str) a0, .clo 89 []] (viewR1 (.t (.int .i64))) = slices_IndexFunc_string_f89.F k a0 := by kernel_rfl
theorem slices_IndexFunc_string_f89.step0 (k : Nat) (x0 : List ByteArray) (x7 : Int) (x8 : Int) : runC envX (tabC (slices_IndexFunc_string_f89.C k)) (tabL 19 k slices_IndexFunc_string_f89.L) 0 (loopAt Tryd.f90 0) (stOf 19 slices_IndexFunc_string_f89.sp0 (x0, (), x7, x8, ())) (slices_IndexFunc_string_f89.A0.cont 19 k) = slices_IndexFunc_string_f89.l0 (k + 1) x0 x7 x8 := by kernel_rfl
theorem slices_IndexFunc_string_f89.G (hE : EnvOk Tryd.prog envX) (pv : Nat → Value) (k : Nat) : ∀ cal A, slices_IndexFunc_string_f89.C k cal = some A → ArmOk Tryd.prog envX pv cal A := by
  intro cal A h
  unfold slices_IndexFunc_string_f89.C at h
  split at h
  · cases h; exact fun x y hy => impl_isOmitted.good hE pv k x.1 hy
  · cases h
theorem slices_IndexFunc_string_f89.good (hE : EnvOk Tryd.prog envX) (pv : Nat → Value) (k : Nat) (a0 : List ByteArray) {y : _} (h : slices_IndexFunc_string_f89.F k a0 = some y) : Meets Tryd.prog envX pv (.f 90) (pvals [.t (.sl .str), .clo 89 []] (a0, (()), ())) (.t (.int .i64) y) :=
  fun_loops hE (t := slices_IndexFunc_string_f89.C) k (fun k _ => slices_IndexFunc_string_f89.G hE pv k) (f := 90) (fn := Tryd.f90) (by kernel_rfl) rfl (by kernel_rfl) (by kernel_rfl) (lt := slices_IndexFunc_string_f89.L) (by kernel_rfl) (fun b A h => by
    unfold slices_IndexFunc_string_f89.L at h; split at h
    · cases h; exact ⟨by kernel_rfl, by kernel_rfl, by kernel_rfl, fun _ => rfl, fun _ => rfl, fun _ => rfl⟩
    · cases h) (fun b A h => by
    unfold slices_IndexFunc_string_f89.L at h; split at h
    · cases h; exact fun k x => slices_IndexFunc_string_f89.step0 k x.1 x.2.2.1 x.2.2.2.1
    · cases h) ((slices_IndexFunc_string_f89.run k a0).trans h) fun r hr => wk_view1 hr
/-! ### 54 slices.DeleteFunc[[]string,string] at loop.example/g00896/impl.isOmitted -/
def slices_DeleteFunc_string_f89.l0 : Nat → (List ByteArray) → Int → Int → Option ((List ByteArray) × Int)
  | 0, _, _, _ => none
  | k + 1, x0, x5, x6 => bif (decide (x6 < (x0.length : Int))) then (bif decide (0 ≤ x6) then (bif decide (x6 < (x0.length : Int)) then ((impl_isOmitted.F k (x0.getD ((x6 : Int).toNat) (⟨#[]⟩ : ByteArray))).bind fun r2 => bif (!r2) then (bif decide (0 ≤ x5) then (bif decide (x5 < (x0.length : Int)) then (slices_DeleteFunc_string_f89.l0 k (x0.set ((x5 : Int).toNat) (x0.getD ((x6 : Int).toNat) (⟨#[]⟩ : ByteArray))) (IntKind.wrap .i64 (x5 + 1)) (IntKind.wrap .i64 (x6 + 1))) else none) else none) else (slices_DeleteFunc_string_f89.l0 k x0 x5 (IntKind.wrap .i64 (x6 + 1)))) else none) else none) else (some (x0, x5))
def slices_DeleteFunc_string_f89.F (k : Nat) (a0 : List ByteArray) : Option (List ByteArray) := (slices_IndexFunc_string_f89.F k a0).bind fun r1 => bif (r1 == (-1)) then (some a0) else ((slices_DeleteFunc_string_f89.l0 k a0 r1 (IntKind.wrap .i64 (r1 + 1))).bind fun y3 => bif decide (0 ≤ y3.2) then (bif decide (y3.2 ≤ (y3.1.length : Int)) then (bif decide (0 ≤ y3.2) then (bif decide (y3.2 ≤ ((y3.1.take ((y3.2 : Int).toNat) ++ List.replicate (y3.1.length - ((y3.2 : Int).toNat)) (⟨#[]⟩ : ByteArray)).length : Int)) then (some ((y3.1.take ((y3.2 : Int).toNat) ++ List.replicate (y3.1.length - ((y3.2 : Int).toNat)) (⟨#[]⟩ : ByteArray)).take (y3.2 : Int).toNat)) else none) else none) else none) else none)
def slices_DeleteFunc_string_f89.C (k : Nat) : Cal → Option CArm := fun c => match c with
  | .f 90 => some (.q [.t (.sl .str), .clo 89 []] _ (fun x => slices_IndexFunc_string_f89.F k x.1) (fun r => (.t (.int .i64) r)))
  | .f 89 => some (.p [.str] _ (fun x => impl_isOmitted.F k x.1) (fun r => (.t .bool r)))
  | _ => none
def slices_DeleteFunc_string_f89.sp0 : List Sp := [.own 0 1099511627777 9 .str false true, .con 1 (.clo 89), .t 5 (.int .i64), .t 6 (.int .i64)]
def slices_DeleteFunc_string_f89.sp0_0 : List Sp := [.own 0 1099511627777 9 .str false true, .t 5 (.int .i64)]
def slices_DeleteFunc_string_f89.A0 : LArm := .one slices_DeleteFunc_string_f89.sp0 slices_DeleteFunc_string_f89.sp0_0 ((List ByteArray) × Int) (fun k x => slices_DeleteFunc_string_f89.l0 k x.1 x.2.2.1 x.2.2.2.1) (.exit 0) (fun y => (y.1, y.2, ())) (fun x => (x.1, x.2.1))
def slices_DeleteFunc_string_f89.L : Nat → Option LArm := fun b => match b with
  | 0 => some slices_DeleteFunc_string_f89.A0
  | _ => none
theorem slices_DeleteFunc_string_f89.run (k : Nat) (a0 : List ByteArray) : runM envX (tabC (slices_DeleteFunc_string_f89.C k)) (tabL 42 k slices_DeleteFunc_string_f89.L) Tryd.f54 mmove (.fr 9 .str a0) [.clo 89 []] (viewMov 9 .str) = slices_DeleteFunc_string_f89.F k a0 := by kernel_rfl
theorem slices_DeleteFunc_string_f89.step0 (k : Nat) (x0 : List ByteArray) (x5 : Int) (x6 : Int) : runC envX (tabC (slices_DeleteFunc_string_f89.C k)) (tabL 42 k slices_DeleteFunc_string_f89.L) 0 (loopAt Tryd.f54 0) (stOf 42 slices_DeleteFunc_string_f89.sp0 (x0, (), x5, x6, ())) (slices_DeleteFunc_string_f89.A0.cont 42 k) = slices_DeleteFunc_string_f89.l0 (k + 1) x0 x5 x6 := by kernel_rfl
theorem slices_DeleteFunc_string_f89.G (hE : EnvOk Tryd.prog envX) (pv : Nat → Value) (k : Nat) : ∀ cal A, slices_DeleteFunc_string_f89.C k cal = some A → ArmOk Tryd.prog envX pv cal A := by
  intro cal A h
  unfold slices_DeleteFunc_string_f89.C at h
  split at h
  · cases h; exact fun x y hy => slices_IndexFunc_string_f89.good hE pv k x.1 hy
  · cases h; exact fun x y hy => impl_isOmitted.good hE pv k x.1 hy
  · cases h
theorem slices_DeleteFunc_string_f89.good (hE : EnvOk Tryd.prog envX) (pv : Nat → Value) (k : Nat) (a0 : List ByteArray) {y : _} (h : slices_DeleteFunc_string_f89.F k a0 = some y) : MeetsM Tryd.prog envX pv 54 (.fr 9 .str a0) (pvals [.clo 89 []] ((()), ())) (.mov 9 .str y) :=
  funM_loops hE (t := slices_DeleteFunc_string_f89.C) k (fun k _ => slices_DeleteFunc_string_f89.G hE pv k) (f := 54) (fn := Tryd.f54) (by kernel_rfl) rfl (by kernel_rfl) (.inr rfl) (by kernel_rfl) (lt := slices_DeleteFunc_string_f89.L) (by kernel_rfl) (fun b A h => by
    unfold slices_DeleteFunc_string_f89.L at h; split at h
    · cases h; exact ⟨by kernel_rfl, by kernel_rfl, fun _ => rfl, fun _ => rfl⟩
    · cases h) (fun b A h => by
    unfold slices_DeleteFunc_string_f89.L at h; split at h
    · cases h; exact fun k x => slices_DeleteFunc_string_f89.step0 k x.1 x.2.2.1 x.2.2.2.1
    · cases h) ((slices_DeleteFunc_string_f89.run k a0).trans h) fun r hr => wk_viewMov hr
/-! ### 53 loop.example/g00896/impl.told -/
def impl_told.F (k : Nat) (a0 : ByteArray) : Option ((List ByteArray) × Bool) := (impl_wordsOf.F k a0).bind fun r1 => bif (decide ((r1.length : Int) ≤ 1)) then (some (r1, false)) else ((slices_Clone_string.F r1).bind fun r2 => (slices_DeleteFunc_string_f89.F k r2).bind fun r3 => bif ((r3.length : Int) == 0) then (some (r1, true)) else (some (r3, true)))
def impl_told.C (k : Nat) : Cal → Option CArm := fun c => match c with
  | .f 87 => some (.p [.str] _ (fun x => impl_wordsOf.F k x.1) (fun r => (.fr 9 .str r)))
  | .f 88 => some (.p [(.sl .str)] _ (fun x => slices_Clone_string.F x.1) (fun r => (.fr 9 .str r)))
  | .f 54 => some (.mq (.fr 9 .str) [.clo 89 []] _ (fun x0 x => slices_DeleteFunc_string_f89.F k x0) (fun r => .mov 9 .str r))
  | _ => none
theorem impl_told.run (k : Nat) (a0 : ByteArray) : runF envX (tabC (impl_told.C k)) (tabL 20 0 (fun _ => none)) Tryd.f53 [.t .str a0] (viewR2 (.fr 9 .str) (.t .bool)) = impl_told.F k a0 := by kernel_rfl
theorem impl_told.G (hE : EnvOk Tryd.prog envX) (pv : Nat → Value) (k : Nat) : ∀ cal A, impl_told.C k cal = some A → ArmOk Tryd.prog envX pv cal A := by
  intro cal A h
  unfold impl_told.C at h
  split at h
  · cases h; exact fun x y hy => impl_wordsOf.good hE pv k x.1 hy
  · cases h; exact fun x y hy => slices_Clone_string.good hE pv x.1 hy
  · cases h; exact ⟨_, rfl, fun x0 x y hy => slices_DeleteFunc_string_f89.good hE pv k x0 hy⟩
  · cases h
theorem impl_told.good (hE : EnvOk Tryd.prog envX) (pv : Nat → Value) (k : Nat) (a0 : ByteArray) {y : _} (h : impl_told.F k a0 = some y) : Meets Tryd.prog envX pv (.f 53) (tvals [.str] (a0, ())) (.tup [.fr 9 .str y.1, .t .bool y.2]) :=
  fun_plain hE (impl_told.G hE pv k) (f := 53) (fn := Tryd.f53) (by kernel_rfl) rfl (by kernel_rfl) (by kernel_rfl) ((impl_told.run k a0).trans h) fun r hr => wk_view2 hr
/-! ### 133 loop.example/g00896/impl.isLetter -/
def impl_isLetter.F (a0 : Int) : Option (Bool) := (impl_isUpper.F a0).bind fun r1 => bif r1 then (some true) else ((impl_isLower.F a0).bind fun r2 => some r2)
def impl_isLetter.C : Cal → Option CArm := fun c => match c with
  | .f 91 => some (.p [(.int .u8)] _ (fun x => impl_isUpper.F x.1) (fun r => (.t .bool r)))
  | .f 128 => some (.p [(.int .u8)] _ (fun x => impl_isLower.F x.1) (fun r => (.t .bool r)))
  | _ => none
theorem impl_isLetter.run (a0 : Int) : runF envX (tabC impl_isLetter.C) (tabL 9 0 (fun _ => none)) Tryd.f133 [.t (.int .u8) a0] (viewR1 (.t .bool)) = impl_isLetter.F a0 := by kernel_rfl
theorem impl_isLetter.G (hE : EnvOk Tryd.prog envX) (pv : Nat → Value) : ∀ cal A, impl_isLetter.C cal = some A → ArmOk Tryd.prog envX pv cal A := by
  intro cal A h
  unfold impl_isLetter.C at h
  split at h
  · cases h; exact fun x y hy => impl_isUpper.good hE pv x.1 hy
  · cases h; exact fun x y hy => impl_isLower.good hE pv x.1 hy
  · cases h
theorem impl_isLetter.good (hE : EnvOk Tryd.prog envX) (pv : Nat → Value) (a0 : Int) {y : _} (h : impl_isLetter.F a0 = some y) : Meets Tryd.prog envX pv (.f 133) (tvals [(.int .u8)] (a0, ())) (.t .bool y) :=
  fun_plain hE (impl_isLetter.G hE pv) (f := 133) (fn := Tryd.f133) (by kernel_rfl) rfl (by kernel_rfl) (by kernel_rfl) ((impl_isLetter.run a0).trans h) fun r hr => wk_view1 hr
/-! ### 98 loop.example/g00896/impl.areLetters -/
def impl_areLetters.l0 : Nat → ByteArray → Int → Option (Sum Bool ByteArray)
  | 0, _, _ => none
  | k + 1, x0, x3 => bif (decide (x3 < (x0.size : Int))) then (bif decide (0 ≤ x3) then (bif decide (x3 < (x0.size : Int)) then ((impl_isLetter.F (bt x0 (x3 : Int).toNat)).bind fun r1 => bif (!r1) then (some (.inl false)) else (impl_areLetters.l0 k x0 (IntKind.wrap .i64 (x3 + 1)))) else none) else none) else (some (.inr x0))
def impl_areLetters.F (k : Nat) (a0 : ByteArray) : Option (Bool) := (impl_areLetters.l0 k a0 0).bind fun y2 => match y2 with | .inl z3 => some z3 | .inr z3 => some (!beqS z3 (⟨#[]⟩ : ByteArray))
def impl_areLetters.C (k : Nat) : Cal → Option CArm := fun c => match c with
  | .f 133 => some (.p [(.int .u8)] _ (fun x => impl_isLetter.F x.1) (fun r => (.t .bool r)))
  | _ => none
def impl_areLetters.sp0 : List Sp := [.t 0 .str, .t 3 (.int .i64)]
def impl_areLetters.sp0_0 : List Sp := [.t 2 .bool]
def impl_areLetters.sp0_1 : List Sp := [.t 0 .str]
def impl_areLetters.A0 : LArm := .two impl_areLetters.sp0 impl_areLetters.sp0_0 impl_areLetters.sp0_1 (Bool) (ByteArray) (fun k x => impl_areLetters.l0 k x.1 x.2.1) .ret (.exit 0) (fun y => (y, ())) (fun x => x.1) (fun y => (y, ())) (fun x => x.1)
def impl_areLetters.L : Nat → Option LArm := fun b => match b with
  | 0 => some impl_areLetters.A0
  | _ => none
theorem impl_areLetters.run (k : Nat) (a0 : ByteArray) : runF envX (tabC (impl_areLetters.C k)) (tabL 17 k impl_areLetters.L) Tryd.f98 [.t .str a0] (viewR1 (.t .bool)) = impl_areLetters.F k a0 := by kernel_rfl
theorem impl_areLetters.step0 (k : Nat) (x0 : ByteArray) (x3 : Int) : runC envX (tabC (impl_areLetters.C k)) (tabL 17 k impl_areLetters.L) 0 (loopAt Tryd.f98 0) (stOf 17 impl_areLetters.sp0 (x0, x3, ())) (impl_areLetters.A0.cont 17 k) = impl_areLetters.l0 (k + 1) x0 x3 := by kernel_rfl
theorem impl_areLetters.G (hE : EnvOk Tryd.prog envX) (pv : Nat → Value) (k : Nat) : ∀ cal A, impl_areLetters.C k cal = some A → ArmOk Tryd.prog envX pv cal A := by
  intro cal A h
  unfold impl_areLetters.C at h
  split at h
  · cases h; exact fun x y hy => impl_isLetter.good hE pv x.1 hy
  · cases h
theorem impl_areLetters.good (hE : EnvOk Tryd.prog envX) (pv : Nat → Value) (k : Nat) (a0 : ByteArray) {y : _} (h : impl_areLetters.F k a0 = some y) : Meets Tryd.prog envX pv (.f 98) (tvals [.str] (a0, ())) (.t .bool y) :=
  fun_loops hE (t := impl_areLetters.C) k (fun k _ => impl_areLetters.G hE pv k) (f := 98) (fn := Tryd.f98) (by kernel_rfl) rfl (by kernel_rfl) (by kernel_rfl) (lt := impl_areLetters.L) (by kernel_rfl) (fun b A h => by
    unfold impl_areLetters.L at h; split at h
    · cases h; exact ⟨by kernel_rfl, by kernel_rfl, by kernel_rfl, fun _ => rfl, fun _ => rfl, fun _ => rfl⟩
    · cases h) (fun b A h => by
    unfold impl_areLetters.L at h; split at h
    · cases h; exact fun k x => impl_areLetters.step0 k x.1 x.2.1
    · cases h) ((impl_areLetters.run k a0).trans h) fun r hr => wk_view1 hr
/-! ### 136 internal/stringslite.CutSuffix -/
def stringslite_CutSuffix.F (a0 : ByteArray) (a1 : ByteArray) : Option (ByteArray × Bool) := (stringslite_HasSuffix.F a0 a1).bind fun r1 => bif (!r1) then (some (a0, false)) else (bif decide (0 ≤ (IntKind.wrap .i64 ((a0.size : Int) - (a1.size : Int)))) then (bif decide ((IntKind.wrap .i64 ((a0.size : Int) - (a1.size : Int))) ≤ (a0.size : Int)) then (some ((a0.extract 0 ((IntKind.wrap .i64 ((a0.size : Int) - (a1.size : Int))) : Int).toNat), true)) else none) else none)
def stringslite_CutSuffix.C : Cal → Option CArm := fun c => match c with
  | .f 171 => some (.p [.str, .str] _ (fun x => stringslite_HasSuffix.F x.1 x.2.1) (fun r => (.t .bool r)))
  | _ => none
theorem stringslite_CutSuffix.run (a0 : ByteArray) (a1 : ByteArray) : runF envX (tabC stringslite_CutSuffix.C) (tabL 18 0 (fun _ => none)) Tryd.f136 [.t .str a0, .t .str a1] (viewR2 (.t .str) (.t .bool)) = stringslite_CutSuffix.F a0 a1 := by kernel_rfl
theorem stringslite_CutSuffix.G (hE : EnvOk Tryd.prog envX) (pv : Nat → Value) : ∀ cal A, stringslite_CutSuffix.C cal = some A → ArmOk Tryd.prog envX pv cal A := by
  intro cal A h
  unfold stringslite_CutSuffix.C at h
  split at h
  · cases h; exact fun x y hy => stringslite_HasSuffix.good hE pv x.1 x.2.1 hy
  · cases h
theorem stringslite_CutSuffix.good (hE : EnvOk Tryd.prog envX) (pv : Nat → Value) (a0 : ByteArray) (a1 : ByteArray) {y : _} (h : stringslite_CutSuffix.F a0 a1 = some y) : Meets Tryd.prog envX pv (.f 136) (tvals [.str, .str] (a0, a1, ())) (.tup [.t .str y.1, .t .bool y.2]) :=
  fun_plain hE (stringslite_CutSuffix.G hE pv) (f := 136) (fn := Tryd.f136) (by kernel_rfl) rfl (by kernel_rfl) (by kernel_rfl) ((stringslite_CutSuffix.run a0 a1).trans h) fun r hr => wk_view2 hr
/-! ### 100 strings.CutSuffix -/
def strings_CutSuffix.F (a0 : ByteArray) (a1 : ByteArray) : Option (ByteArray × Bool) := (stringslite_CutSuffix.F a0 a1).bind fun r1 => some (r1.1, r1.2)
def strings_CutSuffix.C : Cal → Option CArm := fun c => match c with
  | .f 136 => some (.p [.str, .str] _ (fun x => stringslite_CutSuffix.F x.1 x.2.1) (fun r => (.tup [.t .str r.1, .t .bool r.2])))
  | _ => none
theorem strings_CutSuffix.run (a0 : ByteArray) (a1 : ByteArray) : runF envX (tabC strings_CutSuffix.C) (tabL 11 0 (fun _ => none)) Tryd.f100 [.t .str a0, .t .str a1] (viewR2 (.t .str) (.t .bool)) = strings_CutSuffix.F a0 a1 := by kernel_rfl
theorem strings_CutSuffix.G (hE : EnvOk Tryd.prog envX) (pv : Nat → Value) : ∀ cal A, strings_CutSuffix.C cal = some A → ArmOk Tryd.prog envX pv cal A := by
  intro cal A h
  unfold strings_CutSuffix.C at h
  split at h
  · cases h; exact fun x y hy => stringslite_CutSuffix.good hE pv x.1 x.2.1 hy
  · cases h
theorem strings_CutSuffix.good (hE : EnvOk Tryd.prog envX) (pv : Nat → Value) (a0 : ByteArray) (a1 : ByteArray) {y : _} (h : strings_CutSuffix.F a0 a1 = some y) : Meets Tryd.prog envX pv (.f 100) (tvals [.str, .str] (a0, a1, ())) (.tup [.t .str y.1, .t .bool y.2]) :=
  fun_plain hE (strings_CutSuffix.G hE pv) (f := 100) (fn := Tryd.f100) (by kernel_rfl) rfl (by kernel_rfl) (by kernel_rfl) ((strings_CutSuffix.run a0 a1).trans h) fun r hr => wk_view2 hr
/-! ### 137 internal/stringslite.HasPrefix -/
def stringslite_HasPrefix.F (a0 : ByteArray) (a1 : ByteArray) : Option (Bool) := bif (decide ((a0.size : Int) ≥ (a1.size : Int))) then (bif decide (0 ≤ (a1.size : Int)) then (bif decide ((a1.size : Int) ≤ (a0.size : Int)) then (some (beqS (a0.extract 0 ((a1.size : Int) : Int).toNat) a1)) else none) else none) else (some false)
def stringslite_HasPrefix.C : Cal → Option CArm := fun c => match c with
  | _ => none
theorem stringslite_HasPrefix.run (a0 : ByteArray) (a1 : ByteArray) : runF envX (tabC stringslite_HasPrefix.C) (tabL 18 0 (fun _ => none)) Tryd.f137 [.t .str a0, .t .str a1] (viewR1 (.t .bool)) = stringslite_HasPrefix.F a0 a1 := by kernel_rfl
theorem stringslite_HasPrefix.G (hE : EnvOk Tryd.prog envX) (pv : Nat → Value) : ∀ cal A, stringslite_HasPrefix.C cal = some A → ArmOk Tryd.prog envX pv cal A := by
  intro cal A h
  unfold stringslite_HasPrefix.C at h
  cases h
theorem stringslite_HasPrefix.good (hE : EnvOk Tryd.prog envX) (pv : Nat → Value) (a0 : ByteArray) (a1 : ByteArray) {y : _} (h : stringslite_HasPrefix.F a0 a1 = some y) : Meets Tryd.prog envX pv (.f 137) (tvals [.str, .str] (a0, a1, ())) (.t .bool y) :=
  fun_plain hE (stringslite_HasPrefix.G hE pv) (f := 137) (fn := Tryd.f137) (by kernel_rfl) rfl (by kernel_rfl) (by kernel_rfl) ((stringslite_HasPrefix.run a0 a1).trans h) fun r hr => wk_view1 hr
/-! ### 101 strings.HasPrefix -/
def strings_HasPrefix.F (a0 : ByteArray) (a1 : ByteArray) : Option (Bool) := (stringslite_HasPrefix.F a0 a1).bind fun r1 => some r1
def strings_HasPrefix.C : Cal → Option CArm := fun c => match c with
  | .f 137 => some (.p [.str, .str] _ (fun x => stringslite_HasPrefix.F x.1 x.2.1) (fun r => (.t .bool r)))
  | _ => none
theorem strings_HasPrefix.run (a0 : ByteArray) (a1 : ByteArray) : runF envX (tabC strings_HasPrefix.C) (tabL 8 0 (fun _ => none)) Tryd.f101 [.t .str a0, .t .str a1] (viewR1 (.t .bool)) = strings_HasPrefix.F a0 a1 := by kernel_rfl
theorem strings_HasPrefix.G (hE : EnvOk Tryd.prog envX) (pv : Nat → Value) : ∀ cal A, strings_HasPrefix.C cal = some A → ArmOk Tryd.prog envX pv cal A := by
  intro cal A h
  unfold strings_HasPrefix.C at h
  split at h
  · cases h; exact fun x y hy => stringslite_HasPrefix.good hE pv x.1 x.2.1 hy
  · cases h
theorem strings_HasPrefix.good (hE : EnvOk Tryd.prog envX) (pv : Nat → Value) (a0 : ByteArray) (a1 : ByteArray) {y : _} (h : strings_HasPrefix.F a0 a1 = some y) : Meets Tryd.prog envX pv (.f 101) (tvals [.str, .str] (a0, a1, ())) (.t .bool y) :=
  fun_plain hE (strings_HasPrefix.G hE pv) (f := 101) (fn := Tryd.f101) (by kernel_rfl) rfl (by kernel_rfl) (by kernel_rfl) ((strings_HasPrefix.run a0 a1).trans h) fun r hr => wk_view1 hr
/-! ### 63 loop.example/g00896/impl.abbreviationOf -/
def impl_abbreviationOf.l0 : Nat → (List Abbr) → ByteArray → Int → (List Abbr) → Int → Int → Option (Sum Int Int)
  | 0, _, _, _, _, _, _ => none
  | k + 1, x0, x5, x6, x16, x17, x18 => bif (decide (x18 < x17)) then (bif decide (0 ≤ x18) then (bif decide (x18 < (x16.length : Int)) then (bif (beqS ((x16.getD (x18 : Int).toNat (dflt .abbr)).word) x5) then (some (.inl x18)) else ((strings_CutSuffix.F ((x16.getD (x18 : Int).toNat (dflt .abbr)).word) (⟨#[45]⟩ : ByteArray)).bind fun r3 => bif r3.2 then ((strings_HasPrefix.F x5 r3.1).bind fun r4 => bif r4 then (bif (decide (x6 < 0)) then (impl_abbreviationOf.l0 k x0 x5 x18 x16 x17 (IntKind.wrap .i64 (x18 + 1))) else (bif decide (0 ≤ x6) then (bif decide (x6 < (x0.length : Int)) then (bif (decide ((((x16.getD (x18 : Int).toNat (dflt .abbr)).word).size : Int) > (((x0.getD (x6 : Int).toNat (dflt .abbr)).word).size : Int))) then (impl_abbreviationOf.l0 k x0 x5 x18 x16 x17 (IntKind.wrap .i64 (x18 + 1))) else (impl_abbreviationOf.l0 k x0 x5 x6 x16 x17 (IntKind.wrap .i64 (x18 + 1)))) else none) else none)) else (impl_abbreviationOf.l0 k x0 x5 x6 x16 x17 (IntKind.wrap .i64 (x18 + 1)))) else (impl_abbreviationOf.l0 k x0 x5 x6 x16 x17 (IntKind.wrap .i64 (x18 + 1))))) else none) else none) else (some (.inr x6))
def impl_abbreviationOf.F (k : Nat) (a0 : List Abbr) (a1 : ByteArray) : Option (Int) := (impl_areLetters.F k a1).bind fun r1 => bif (!r1) then (some (-1)) else ((impl_lower.F k a1).bind fun r2 => (impl_abbreviationOf.l0 k a0 r2 (-1) a0 (a0.length : Int) 0).bind fun y5 => match y5 with | .inl z6 => some z6 | .inr z6 => some z6)
def impl_abbreviationOf.C (k : Nat) : Cal → Option CArm := fun c => match c with
  | .f 98 => some (.p [.str] _ (fun x => impl_areLetters.F k x.1) (fun r => (.t .bool r)))
  | .f 99 => some (.p [.str] _ (fun x => impl_lower.F k x.1) (fun r => (.t .str r)))
  | .f 100 => some (.p [.str, .str] _ (fun x => strings_CutSuffix.F x.1 x.2.1) (fun r => (.tup [.t .str r.1, .t .bool r.2])))
  | .f 101 => some (.p [.str, .str] _ (fun x => strings_HasPrefix.F x.1 x.2.1) (fun r => (.t .bool r)))
  | _ => none
def impl_abbreviationOf.sp0 : List Sp := [.t 0 (.sl .abbr), .t 5 .str, .t 6 (.int .i64), .t 16 (.sl .abbr), .t 17 (.int .i64), .t 18 (.int .i64)]
def impl_abbreviationOf.sp0_0 : List Sp := [.t 4 (.int .i64)]
def impl_abbreviationOf.sp0_1 : List Sp := [.t 6 (.int .i64)]
def impl_abbreviationOf.A0 : LArm := .two impl_abbreviationOf.sp0 impl_abbreviationOf.sp0_0 impl_abbreviationOf.sp0_1 (Int) (Int) (fun k x => impl_abbreviationOf.l0 k x.1 x.2.1 x.2.2.1 x.2.2.2.1 x.2.2.2.2.1 x.2.2.2.2.2.1) .ret (.exit 0) (fun y => (y, ())) (fun x => x.1) (fun y => (y, ())) (fun x => x.1)
def impl_abbreviationOf.L : Nat → Option LArm := fun b => match b with
  | 0 => some impl_abbreviationOf.A0
  | _ => none
theorem impl_abbreviationOf.run (k : Nat) (a0 : List Abbr) (a1 : ByteArray) : runF envX (tabC (impl_abbreviationOf.C k)) (tabL 59 k impl_abbreviationOf.L) Tryd.f63 [.t (.sl .abbr) a0, .t .str a1] (viewR1 (.t (.int .i64))) = impl_abbreviationOf.F k a0 a1 := by kernel_rfl
theorem impl_abbreviationOf.step0 (k : Nat) (x0 : List Abbr) (x5 : ByteArray) (x6 : Int) (x16 : List Abbr) (x17 : Int) (x18 : Int) : runC envX (tabC (impl_abbreviationOf.C k)) (tabL 59 k impl_abbreviationOf.L) 0 (loopAt Tryd.f63 0) (stOf 59 impl_abbreviationOf.sp0 (x0, x5, x6, x16, x17, x18, ())) (impl_abbreviationOf.A0.cont 59 k) = impl_abbreviationOf.l0 (k + 1) x0 x5 x6 x16 x17 x18 := by kernel_rfl
theorem impl_abbreviationOf.G (hE : EnvOk Tryd.prog envX) (pv : Nat → Value) (k : Nat) : ∀ cal A, impl_abbreviationOf.C k cal = some A → ArmOk Tryd.prog envX pv cal A := by
  intro cal A h
  unfold impl_abbreviationOf.C at h
  split at h
  · cases h; exact fun x y hy => impl_areLetters.good hE pv k x.1 hy
  · cases h; exact fun x y hy => impl_lower.good hE pv k x.1 hy
  · cases h; exact fun x y hy => strings_CutSuffix.good hE pv x.1 x.2.1 hy
  · cases h; exact fun x y hy => strings_HasPrefix.good hE pv x.1 x.2.1 hy
  · cases h
theorem impl_abbreviationOf.good (hE : EnvOk Tryd.prog envX) (pv : Nat → Value) (k : Nat) (a0 : List Abbr) (a1 : ByteArray) {y : _} (h : impl_abbreviationOf.F k a0 a1 = some y) : Meets Tryd.prog envX pv (.f 63) (tvals [(.sl .abbr), .str] (a0, a1, ())) (.t (.int .i64) y) :=
  fun_loops hE (t := impl_abbreviationOf.C) k (fun k _ => impl_abbreviationOf.G hE pv k) (f := 63) (fn := Tryd.f63) (by kernel_rfl) rfl (by kernel_rfl) (by kernel_rfl) (lt := impl_abbreviationOf.L) (by kernel_rfl) (fun b A h => by
    unfold impl_abbreviationOf.L at h; split at h
    · cases h; exact ⟨by kernel_rfl, by kernel_rfl, by kernel_rfl, fun _ => rfl, fun _ => rfl, fun _ => rfl⟩
    · cases h) (fun b A h => by
    unfold impl_abbreviationOf.L at h; split at h
    · cases h; exact fun k x => impl_abbreviationOf.step0 k x.1 x.2.1 x.2.2.1 x.2.2.2.1 x.2.2.2.2.1 x.2.2.2.2.2.1
    · cases h) ((impl_abbreviationOf.run k a0 a1).trans h) fun r hr => wk_view1 hr
/-! ### 134 loop.example/g00896/impl.upperByte -/
def impl_upperByte.F (a0 : Int) : Option (Int) := (impl_isLower.F a0).bind fun r1 => bif r1 then (some (IntKind.wrap .u8 (a0 - 32))) else (some a0)
def impl_upperByte.C : Cal → Option CArm := fun c => match c with
  | .f 128 => some (.p [(.int .u8)] _ (fun x => impl_isLower.F x.1) (fun r => (.t .bool r)))
  | _ => none
theorem impl_upperByte.run (a0 : Int) : runF envX (tabC impl_upperByte.C) (tabL 8 0 (fun _ => none)) Tryd.f134 [.t (.int .u8) a0] (viewR1 (.t (.int .u8))) = impl_upperByte.F a0 := by kernel_rfl
theorem impl_upperByte.G (hE : EnvOk Tryd.prog envX) (pv : Nat → Value) : ∀ cal A, impl_upperByte.C cal = some A → ArmOk Tryd.prog envX pv cal A := by
  intro cal A h
  unfold impl_upperByte.C at h
  split at h
  · cases h; exact fun x y hy => impl_isLower.good hE pv x.1 hy
  · cases h
theorem impl_upperByte.good (hE : EnvOk Tryd.prog envX) (pv : Nat → Value) (a0 : Int) {y : _} (h : impl_upperByte.F a0 = some y) : Meets Tryd.prog envX pv (.f 134) (tvals [(.int .u8)] (a0, ())) (.t (.int .u8) y) :=
  fun_plain hE (impl_upperByte.G hE pv) (f := 134) (fn := Tryd.f134) (by kernel_rfl) rfl (by kernel_rfl) (by kernel_rfl) ((impl_upperByte.run a0).trans h) fun r hr => wk_view1 hr
/-! ### 92 loop.example/g00896/impl.raised -/
def impl_raised.l0 : Nat → (List Int) → Int → Int → Option ((List Int))
  | 0, _, _, _ => none
  | k + 1, x3, x9, x10 => bif (decide (x10 < x9)) then (bif decide (0 ≤ x10) then (bif decide (x10 < (x3.length : Int)) then ((impl_isLetter.F (x3.getD ((x10 : Int).toNat) 0)).bind fun r1 => bif r1 then ((impl_upperByte.F (x3.getD ((x10 : Int).toNat) 0)).bind fun r2 => bif decide (0 ≤ x10) then (bif decide (x10 < (x3.length : Int)) then (some (x3.set ((x10 : Int).toNat) r2)) else none) else none) else (impl_raised.l0 k x3 x9 (IntKind.wrap .i64 (x10 + 1)))) else none) else none) else (some x3)
def impl_raised.F (k : Nat) (a0 : ByteArray) : Option (ByteArray) := bif Nat.ble a0.size 9223372036854775807 then ((impl_raised.l0 k (bytesL a0) ((bytesL a0).length : Int) 0).bind fun y3 => some (strL y3)) else none
def impl_raised.C (k : Nat) : Cal → Option CArm := fun c => match c with
  | .f 133 => some (.p [(.int .u8)] _ (fun x => impl_isLetter.F x.1) (fun r => (.t .bool r)))
  | .f 134 => some (.p [(.int .u8)] _ (fun x => impl_upperByte.F x.1) (fun r => (.t (.int .u8) r)))
  | _ => none
def impl_raised.sp0 : List Sp := [.own 3 1028 5 (.int .u8) false false, .con 8 (.own 1028), .t 9 (.int .i64), .t 10 (.int .i64)]
def impl_raised.sp0_0 : List Sp := [.own 3 1028 5 (.int .u8) false false]
def impl_raised.A0 : LArm := .one impl_raised.sp0 impl_raised.sp0_0 ((List Int)) (fun k x => impl_raised.l0 k x.1 x.2.2.1 x.2.2.2.1) (.exit 0) (fun y => (y, ())) (fun x => x.1)
def impl_raised.L : Nat → Option LArm := fun b => match b with
  | 0 => some impl_raised.A0
  | _ => none
theorem impl_raised.run (k : Nat) (a0 : ByteArray) : runF envX (tabC (impl_raised.C k)) (tabL 25 k impl_raised.L) Tryd.f92 [.t .str a0] (viewR1 (.t .str)) = impl_raised.F k a0 := by kernel_rfl
theorem impl_raised.step0 (k : Nat) (x3 : List Int) (x9 : Int) (x10 : Int) : runC envX (tabC (impl_raised.C k)) (tabL 25 k impl_raised.L) 0 (loopAt Tryd.f92 0) (stOf 25 impl_raised.sp0 (x3, (), x9, x10, ())) (impl_raised.A0.cont 25 k) = impl_raised.l0 (k + 1) x3 x9 x10 := by kernel_rfl
theorem impl_raised.G (hE : EnvOk Tryd.prog envX) (pv : Nat → Value) (k : Nat) : ∀ cal A, impl_raised.C k cal = some A → ArmOk Tryd.prog envX pv cal A := by
  intro cal A h
  unfold impl_raised.C at h
  split at h
  · cases h; exact fun x y hy => impl_isLetter.good hE pv x.1 hy
  · cases h; exact fun x y hy => impl_upperByte.good hE pv x.1 hy
  · cases h
theorem impl_raised.good (hE : EnvOk Tryd.prog envX) (pv : Nat → Value) (k : Nat) (a0 : ByteArray) {y : _} (h : impl_raised.F k a0 = some y) : Meets Tryd.prog envX pv (.f 92) (tvals [.str] (a0, ())) (.t .str y) :=
  fun_loops hE (t := impl_raised.C) k (fun k _ => impl_raised.G hE pv k) (f := 92) (fn := Tryd.f92) (by kernel_rfl) rfl (by kernel_rfl) (by kernel_rfl) (lt := impl_raised.L) (by kernel_rfl) (fun b A h => by
    unfold impl_raised.L at h; split at h
    · cases h; exact ⟨by kernel_rfl, by kernel_rfl, fun _ => rfl, fun _ => rfl⟩
    · cases h) (fun b A h => by
    unfold impl_raised.L at h; split at h
    · cases h; exact fun k x => impl_raised.step0 k x.1 x.2.2.1 x.2.2.2.1
    · cases h) ((impl_raised.run k a0).trans h) fun r hr => wk_view1 hr
/-! ### 56 loop.example/g00896/impl.shortWord -/
def impl_shortWord.F (k : Nat) (a0 : List Abbr) (a1 : ByteArray) : Option (ByteArray) := (impl_abbreviationOf.F k a0 a1).bind fun r1 => bif (decide (r1 < 0)) then (some a1) else (bif decide (0 ≤ 0) then (bif decide (0 < (a1.size : Int)) then ((impl_isUpper.F (bt a1 (0 : Int).toNat)).bind fun r2 => bif r2 then (bif decide (0 ≤ r1) then (bif decide (r1 < (a0.length : Int)) then ((impl_raised.F k ((a0.getD (r1 : Int).toNat (dflt .abbr)).short)).bind fun r3 => some r3) else none) else none) else (bif decide (0 ≤ r1) then (bif decide (r1 < (a0.length : Int)) then (some ((a0.getD (r1 : Int).toNat (dflt .abbr)).short)) else none) else none)) else none) else none)
def impl_shortWord.C (k : Nat) : Cal → Option CArm := fun c => match c with
  | .f 63 => some (.p [(.sl .abbr), .str] _ (fun x => impl_abbreviationOf.F k x.1 x.2.1) (fun r => (.t (.int .i64) r)))
  | .f 91 => some (.p [(.int .u8)] _ (fun x => impl_isUpper.F x.1) (fun r => (.t .bool r)))
  | .f 92 => some (.p [.str] _ (fun x => impl_raised.F k x.1) (fun r => (.t .str r)))
  | _ => none
theorem impl_shortWord.run (k : Nat) (a0 : List Abbr) (a1 : ByteArray) : runF envX (tabC (impl_shortWord.C k)) (tabL 28 0 (fun _ => none)) Tryd.f56 [.t (.sl .abbr) a0, .t .str a1] (viewR1 (.t .str)) = impl_shortWord.F k a0 a1 := by kernel_rfl
theorem impl_shortWord.G (hE : EnvOk Tryd.prog envX) (pv : Nat → Value) (k : Nat) : ∀ cal A, impl_shortWord.C k cal = some A → ArmOk Tryd.prog envX pv cal A := by
  intro cal A h
  unfold impl_shortWord.C at h
  split at h
  · cases h; exact fun x y hy => impl_abbreviationOf.good hE pv k x.1 x.2.1 hy
  · cases h; exact fun x y hy => impl_isUpper.good hE pv x.1 hy
  · cases h; exact fun x y hy => impl_raised.good hE pv k x.1 hy
  · cases h
theorem impl_shortWord.good (hE : EnvOk Tryd.prog envX) (pv : Nat → Value) (k : Nat) (a0 : List Abbr) (a1 : ByteArray) {y : _} (h : impl_shortWord.F k a0 a1 = some y) : Meets Tryd.prog envX pv (.f 56) (tvals [(.sl .abbr), .str] (a0, a1, ())) (.t .str y) :=
  fun_plain hE (impl_shortWord.G hE pv k) (f := 56) (fn := Tryd.f56) (by kernel_rfl) rfl (by kernel_rfl) (by kernel_rfl) ((impl_shortWord.run k a0 a1).trans h) fun r hr => wk_view1 hr
/-! ### 103 strings.Join -/
def strings_Join.F (a0 : List ByteArray) (a1 : ByteArray) : Option (ByteArray) := xJoin a0 a1
theorem strings_Join.good (hE : EnvOk Tryd.prog envX) (pv : Nat → Value) (a0 : List ByteArray) (a1 : ByteArray) {y : _} (h : strings_Join.F a0 a1 = some y) : Meets Tryd.prog envX pv (.f 103) (tvals [(.sl .str), .str] (a0, a1, ())) (.t .str y) :=
  ext_join (fn := Tryd.f103) (by kernel_rfl) rfl (by kernel_rfl) Tryd.strings_Join_none Tryd.strings_Join h
/-! ### 65 loop.example/g00896/impl.abbreviateTitle -/
def impl_abbreviateTitle.l0 : Nat → (List Abbr) → (List ByteArray) → Int → Int → Option ((List ByteArray))
  | 0, _, _, _, _ => none
  | k + 1, x0, x5, x15, x16 => bif (decide (x16 < x15)) then (bif decide (0 ≤ x16) then (bif decide (x16 < (x5.length : Int)) then ((impl_shortWord.F k x0 (x5.getD ((x16 : Int).toNat) (⟨#[]⟩ : ByteArray))).bind fun r2 => bif decide (0 ≤ x16) then (bif decide (x16 < (x5.length : Int)) then (impl_abbreviateTitle.l0 k x0 (x5.set ((x16 : Int).toNat) r2) x15 (IntKind.wrap .i64 (x16 + 1))) else none) else none) else none) else none) else (some x5)
def impl_abbreviateTitle.F (k : Nat) (a0 : List Abbr) (a1 : ByteArray) : Option (ByteArray) := (impl_told.F k a1).bind fun r1 => bif r1.2 then ((impl_abbreviateTitle.l0 k a0 r1.1 (r1.1.length : Int) 0).bind fun y3 => (strings_Join.F y3 (⟨#[32]⟩ : ByteArray)).bind fun r4 => some r4) else ((strings_Join.F r1.1 (⟨#[32]⟩ : ByteArray)).bind fun r5 => some r5)
def impl_abbreviateTitle.C (k : Nat) : Cal → Option CArm := fun c => match c with
  | .f 53 => some (.p [.str] _ (fun x => impl_told.F k x.1) (fun r => (.tup [.fr 9 .str r.1, .t .bool r.2])))
  | .f 56 => some (.p [(.sl .abbr), .str] _ (fun x => impl_shortWord.F k x.1 x.2.1) (fun r => (.t .str r)))
  | .f 103 => some (.p [(.sl .str), .str] _ (fun x => strings_Join.F x.1 x.2.1) (fun r => (.t .str r)))
  | _ => none
def impl_abbreviateTitle.sp0 : List Sp := [.t 0 (.sl .abbr), .own 5 1028 9 .str false true, .t 15 (.int .i64), .t 16 (.int .i64)]
def impl_abbreviateTitle.sp0_0 : List Sp := [.own 5 1028 9 .str false true]
def impl_abbreviateTitle.A0 : LArm := .one impl_abbreviateTitle.sp0 impl_abbreviateTitle.sp0_0 ((List ByteArray)) (fun k x => impl_abbreviateTitle.l0 k x.1 x.2.1 x.2.2.1 x.2.2.2.1) (.exit 0) (fun y => (y, ())) (fun x => x.1)
def impl_abbreviateTitle.L : Nat → Option LArm := fun b => match b with
  | 0 => some impl_abbreviateTitle.A0
  | _ => none
theorem impl_abbreviateTitle.run (k : Nat) (a0 : List Abbr) (a1 : ByteArray) : runF envX (tabC (impl_abbreviateTitle.C k)) (tabL 31 k impl_abbreviateTitle.L) Tryd.f65 [.t (.sl .abbr) a0, .t .str a1] (viewR1 (.t .str)) = impl_abbreviateTitle.F k a0 a1 := by kernel_rfl
theorem impl_abbreviateTitle.step0 (k : Nat) (x0 : List Abbr) (x5 : List ByteArray) (x15 : Int) (x16 : Int) : runC envX (tabC (impl_abbreviateTitle.C k)) (tabL 31 k impl_abbreviateTitle.L) 0 (loopAt Tryd.f65 0) (stOf 31 impl_abbreviateTitle.sp0 (x0, x5, x15, x16, ())) (impl_abbreviateTitle.A0.cont 31 k) = impl_abbreviateTitle.l0 (k + 1) x0 x5 x15 x16 := by kernel_rfl
theorem impl_abbreviateTitle.G (hE : EnvOk Tryd.prog envX) (pv : Nat → Value) (k : Nat) : ∀ cal A, impl_abbreviateTitle.C k cal = some A → ArmOk Tryd.prog envX pv cal A := by
  intro cal A h
  unfold impl_abbreviateTitle.C at h
  split at h
  · cases h; exact fun x y hy => impl_told.good hE pv k x.1 hy
  · cases h; exact fun x y hy => impl_shortWord.good hE pv k x.1 x.2.1 hy
  · cases h; exact fun x y hy => strings_Join.good hE pv x.1 x.2.1 hy
  · cases h
theorem impl_abbreviateTitle.good (hE : EnvOk Tryd.prog envX) (pv : Nat → Value) (k : Nat) (a0 : List Abbr) (a1 : ByteArray) {y : _} (h : impl_abbreviateTitle.F k a0 a1 = some y) : Meets Tryd.prog envX pv (.f 65) (tvals [(.sl .abbr), .str] (a0, a1, ())) (.t .str y) :=
  fun_loops hE (t := impl_abbreviateTitle.C) k (fun k _ => impl_abbreviateTitle.G hE pv k) (f := 65) (fn := Tryd.f65) (by kernel_rfl) rfl (by kernel_rfl) (by kernel_rfl) (lt := impl_abbreviateTitle.L) (by kernel_rfl) (fun b A h => by
    unfold impl_abbreviateTitle.L at h; split at h
    · cases h; exact ⟨by kernel_rfl, by kernel_rfl, fun _ => rfl, fun _ => rfl⟩
    · cases h) (fun b A h => by
    unfold impl_abbreviateTitle.L at h; split at h
    · cases h; exact fun k x => impl_abbreviateTitle.step0 k x.1 x.2.1 x.2.2.1 x.2.2.2.1
    · cases h) ((impl_abbreviateTitle.run k a0 a1).trans h) fun r hr => wk_view1 hr
/-! ### 28 loop.example/g00896/impl.AbbreviateTitle -/
def impl_AbbreviateTitle.F (k : Nat) (a0 : List Abbr) (a1 : ByteArray) : Option (ByteArray × Bool) := (impl_IsValidAbbreviations.F k a0).bind fun r1 => bif (!r1) then (some ((⟨#[]⟩ : ByteArray), false)) else ((impl_isText.F k a1).bind fun r2 => bif (!r2) then (some ((⟨#[]⟩ : ByteArray), false)) else ((impl_abbreviateTitle.F k a0 a1).bind fun r3 => some (r3, true)))
def impl_AbbreviateTitle.C (k : Nat) : Cal → Option CArm := fun c => match c with
  | .f 51 => some (.p [(.sl .abbr)] _ (fun x => impl_IsValidAbbreviations.F k x.1) (fun r => (.t .bool r)))
  | .f 52 => some (.p [.str] _ (fun x => impl_isText.F k x.1) (fun r => (.t .bool r)))
  | .f 65 => some (.p [(.sl .abbr), .str] _ (fun x => impl_abbreviateTitle.F k x.1 x.2.1) (fun r => (.t .str r)))
  | _ => none
theorem impl_AbbreviateTitle.run (k : Nat) (a0 : List Abbr) (a1 : ByteArray) : runF envX (tabC (impl_AbbreviateTitle.C k)) (tabL 17 0 (fun _ => none)) Tryd.f28 [.t (.sl .abbr) a0, .t .str a1] (viewR2 (.t .str) (.t .bool)) = impl_AbbreviateTitle.F k a0 a1 := by kernel_rfl
theorem impl_AbbreviateTitle.G (hE : EnvOk Tryd.prog envX) (pv : Nat → Value) (k : Nat) : ∀ cal A, impl_AbbreviateTitle.C k cal = some A → ArmOk Tryd.prog envX pv cal A := by
  intro cal A h
  unfold impl_AbbreviateTitle.C at h
  split at h
  · cases h; exact fun x y hy => impl_IsValidAbbreviations.good hE pv k x.1 hy
  · cases h; exact fun x y hy => impl_isText.good hE pv k x.1 hy
  · cases h; exact fun x y hy => impl_abbreviateTitle.good hE pv k x.1 x.2.1 hy
  · cases h
theorem impl_AbbreviateTitle.good (hE : EnvOk Tryd.prog envX) (pv : Nat → Value) (k : Nat) (a0 : List Abbr) (a1 : ByteArray) {y : _} (h : impl_AbbreviateTitle.F k a0 a1 = some y) : Meets Tryd.prog envX pv (.f 28) (tvals [(.sl .abbr), .str] (a0, a1, ())) (.tup [.t .str y.1, .t .bool y.2]) :=
  fun_plain hE (impl_AbbreviateTitle.G hE pv k) (f := 28) (fn := Tryd.f28) (by kernel_rfl) rfl (by kernel_rfl) (by kernel_rfl) ((impl_AbbreviateTitle.run k a0 a1).trans h) fun r hr => wk_view2 hr
/-! ### 6 loop.example/g00896/laws.FnExactAbbreviateTitle -/
def laws_FnExactAbbreviateTitle.F (k : Nat) (a0 : List Abbr) (a1 : ByteArray) : Option (Bool) := bif (decide ((a1.size : Int) > 1048576)) then (some true) else ((laws_szAbbreviationS.F k a0 1048576).bind fun r1 => bif (decide (r1 < 0)) then (some true) else ((laws_toAbbreviationS.F k a0).bind fun r2 => (spec_AbbreviateTitle.F k r2 a1).bind fun r3 => (laws_toAbbreviationS.F k a0).bind fun r4 => (impl_AbbreviateTitle.F k r4 a1).bind fun r5 => bif (!beqS r5.1 r3.1) then (some false) else (bif (!(r5.2 == r3.2)) then (some false) else ((laws_toAbbreviationS.F k a0).bind fun r6 => (laws_eqAbbreviationS.F k r4 r6).bind fun r7 => bif (!r7) then (some false) else (some true)))))
def laws_FnExactAbbreviateTitle.C (k : Nat) : Cal → Option CArm := fun c => match c with
  | .f 17 => some (.p [(.sl .abbr), (.int .i64)] _ (fun x => laws_szAbbreviationS.F k x.1 x.2.1) (fun r => (.t (.int .i64) r)))
  | .f 19 => some (.p [(.sl .abbr)] _ (fun x => laws_toAbbreviationS.F k x.1) (fun r => (.fr 79 .abbr r)))
  | .f 27 => some (.p [(.sl .abbr), .str] _ (fun x => spec_AbbreviateTitle.F k x.1 x.2.1) (fun r => (.tup [.t .str r.1, .t .bool r.2])))
  | .f 28 => some (.p [(.sl .abbr), .str] _ (fun x => impl_AbbreviateTitle.F k x.1 x.2.1) (fun r => (.tup [.t .str r.1, .t .bool r.2])))
  | .f 21 => some (.p [(.sl .abbr), (.sl .abbr)] _ (fun x => laws_eqAbbreviationS.F k x.1 x.2.1) (fun r => (.t .bool r)))
  | _ => none
theorem laws_FnExactAbbreviateTitle.run (k : Nat) (a0 : List Abbr) (a1 : ByteArray) : runF envX (tabC (laws_FnExactAbbreviateTitle.C k)) (tabL 47 0 (fun _ => none)) Tryd.f6 [.t (.sl .abbr) a0, .t .str a1] (viewR1 (.t .bool)) = laws_FnExactAbbreviateTitle.F k a0 a1 := by kernel_rfl
theorem laws_FnExactAbbreviateTitle.G (hE : EnvOk Tryd.prog envX) (pv : Nat → Value) (k : Nat) : ∀ cal A, laws_FnExactAbbreviateTitle.C k cal = some A → ArmOk Tryd.prog envX pv cal A := by
  intro cal A h
  unfold laws_FnExactAbbreviateTitle.C at h
  split at h
  · cases h; exact fun x y hy => laws_szAbbreviationS.good hE pv k x.1 x.2.1 hy
  · cases h; exact fun x y hy => laws_toAbbreviationS.good hE pv k x.1 hy
  · cases h; exact fun x y hy => spec_AbbreviateTitle.good hE pv k x.1 x.2.1 hy
  · cases h; exact fun x y hy => impl_AbbreviateTitle.good hE pv k x.1 x.2.1 hy
  · cases h; exact fun x y hy => laws_eqAbbreviationS.good hE pv k x.1 x.2.1 hy
  · cases h
theorem laws_FnExactAbbreviateTitle.good (hE : EnvOk Tryd.prog envX) (pv : Nat → Value) (k : Nat) (a0 : List Abbr) (a1 : ByteArray) {y : _} (h : laws_FnExactAbbreviateTitle.F k a0 a1 = some y) : Meets Tryd.prog envX pv (.f 6) (tvals [(.sl .abbr), .str] (a0, a1, ())) (.t .bool y) :=
  fun_plain hE (laws_FnExactAbbreviateTitle.G hE pv k) (f := 6) (fn := Tryd.f6) (by kernel_rfl) rfl (by kernel_rfl) (by kernel_rfl) ((laws_FnExactAbbreviateTitle.run k a0 a1).trans h) fun r hr => wk_view1 hr
end Go.Proofs.YtnffgabfibafjaaDoor
