
import Derived.Test.YtckcichnmiifkaaGreatDoorMcr4
import Derived.Test.YtckcichnmiifkaaGreatDoorMcr5
import Derived.Test.YtckcichnmiifkaaGreatDoorProg
import Derived.Test.YtckcichnmiifkaaGreatDoorMcr3
import Derived.KernelRfl
section
namespace Go.Proofs.YtckcichnmiifkaaGreatDoor
open Go.Gx
set_option linter.unusedVariables false
set_option maxRecDepth 100000
def tyT (t : Nat) : Option Ty := match t with
  | 2 => some (.int .i64)
  | 3 => some (.int .i64)
  | 4 => some .bool
  | 5 => some (.int .u8)
  | 6 => some (.int .u8)
  | 9 => some .str
  | 10 => some .str
  | 11 => some .str
  | 12 => some (.int .u64)
  | 21 => some (.int .i32)
  | 22 => some (.sl (.int .u8))
  | 24 => some (.sl .entry)
  | 26 => some .lib
  | 29 => some (.sl .str)
  | 39 => some (.sl (.sl .str))
  | 46 => some (.sl .name)
  | 48 => some .date
  | 50 => some .entry
  | 58 => some (.sl .entry)
  | 60 => some .lib
  | 70 => some (.sl (.int .i64))
  | 79 => some (.int .u64)
  | 81 => some .cur
  | 115 => some (.sl .name)
  | 116 => some .date
  | 118 => some .entry
  | 130 => some .name
  | 134 => some (.int .u64)
  | 146 => some (.arr 256 .bool)
  | 165 => some .name
  | 184 => some (.int .i64)
  | 191 => some (.int .u32)
  | 200 => some (.int .u64)
  | 207 => some (.arr 256 (.int .u8))
  | 225 => some (.int .u8)
  | _ => none
def elT (t : Nat) : Nat := match t with
  | 22 => 5
  | 24 => 50
  | 29 => 9
  | 39 => 29
  | 46 => 130
  | 58 => 118
  | 70 => 3
  | 115 => 165
  | _ => 0
def mdT (f : Nat) : Bool := match f with
  | 47 => true
  | 48 => true
  | 49 => true
  | 54 => true
  | 55 => true
  | 56 => true
  | 57 => true
  | 64 => true
  | 77 => true
  | 78 => true
  | 84 => true
  | 89 => true
  | 90 => true
  | 93 => true
  | 94 => true
  | 95 => true
  | 118 => true
  | 129 => true
  | 130 => true
  | 152 => true
  | 165 => true
  | 249 => true
  | _ => false
def glT (g : Nat) : Option AV := match g with
  | _ => none
def giT (g : Nat) : Bool := match g with
  | 0 => true
  | _ => false
def dmT (f : Nat) : Bool := match f with
  | _ => false
def pmT (f : Nat) : Bool := match f with
  | 30 => true
  | 110 => true
  | 188 => true
  | _ => false
def envX : Env := { ty := tyT, el := elT, gl := glT, md := mdT, gi := giT, dm := dmT, pm := pmT }
theorem env_ty : ∀ T τ, envX.ty T = some τ → TyOk Tryz.prog envX T τ := fun T τ h => by
  dsimp only [envX, tyT] at h
  split at h <;> first
    | (cases h; done)
    | (cases h; exact tyOk_of (by kernel_rfl) (by kernel_rfl))
theorem envOk : EnvOk Tryz.prog envX := ⟨env_ty, by kernel_rfl, fun T h => by
  dsimp only [envX, tyT] at h
  split at h <;> first
    | (cases h; done)
    | exact date_eq env_ty rfl (by kernel_rfl) (by kernel_rfl) (by kernel_rfl), fun T h => by
  dsimp only [envX, tyT] at h
  split at h <;> first
    | (cases h; done)
    | exact abbr_eq env_ty rfl (by kernel_rfl) (by kernel_rfl) (by kernel_rfl)⟩
/-! ### 6 loop.example/g00896/laws.rBig -/
def laws_rBig.F (a0 : List Int) : Option (Bool) := some (decide ((a0.length : Int) > 65536))
def laws_rBig.C : Cal → Option CArm := fun c => match c with
  | _ => none
theorem laws_rBig.run (a0 : List Int) : runF envX (tabC laws_rBig.C) (tabL 6 0 (fun _ => none)) Tryz.f6 [.t (.sl (.int .u8)) a0] (viewR1 (.t .bool)) = laws_rBig.F a0 := by kernel_rfl
theorem laws_rBig.G (hE : EnvOk Tryz.prog envX) (pv : Nat → Value) : ∀ cal A, laws_rBig.C cal = some A → ArmOk Tryz.prog envX pv cal A := by
  intro cal A h
  unfold laws_rBig.C at h
  cases h
theorem laws_rBig.good (hE : EnvOk Tryz.prog envX) (pv : Nat → Value) (a0 : List Int) {y : _} (h : laws_rBig.F a0 = some y) : Meets Tryz.prog envX pv (.f 6) (tvals [(.sl (.int .u8))] (a0, ())) (.t .bool y) :=
  fun_plain hE (laws_rBig.G hE pv) (f := 6) (fn := Tryz.f6) (by kernel_rfl) rfl (by kernel_rfl) (by kernel_rfl) ((laws_rBig.run a0).trans h) fun r hr => wk_view1 hr
/-! ### 95 (*loop.example/g00896/spec.l1Cur).next -/
def spec_l1Cur_next.F (a0 : Cur) : Option (Cur × Int) := bif (decide (a0.at_ < (a0.code.length : Int))) then (bif decide (0 ≤ a0.at_) then (bif decide (a0.at_ < (a0.code.length : Int)) then (bif (decide ((IntKind.wrap .i64 (a0.at_ + 1)) ≤ (a0.code.length : Int))) then (some ((⟨a0.code, (IntKind.wrap .i64 (a0.at_ + 1)), (IntKind.wrap .u64 ((IntKind.wrap .u64 ((IntKind.wrap .u64 (a0.seed * 6364136223846793005)) + (IntKind.wrap .u64 (IntKind.wrap .i64 (a0.code.getD (a0.at_ : Int).toNat 0))))) + 896896))⟩ : Cur), (IntKind.wrap .i64 (a0.code.getD (a0.at_ : Int).toNat 0)))) else (bif decide (0 ≤ 40) then (some ((⟨a0.code, (IntKind.wrap .i64 (a0.at_ + 1)), (IntKind.wrap .u64 ((IntKind.wrap .u64 ((IntKind.wrap .u64 (a0.seed * 6364136223846793005)) + (IntKind.wrap .u64 (IntKind.wrap .i64 (a0.code.getD (a0.at_ : Int).toNat 0))))) + 896896))⟩ : Cur), (IntKind.wrap .i64 (IntKind.wrap .u64 ((BitVec.ofInt (IntKind.bits .u64) (Int.fdiv (IntKind.wrap .u64 ((IntKind.wrap .u64 ((IntKind.wrap .u64 (a0.seed * 6364136223846793005)) + (IntKind.wrap .u64 (IntKind.wrap .i64 (a0.code.getD (a0.at_ : Int).toNat 0))))) + 896896)) (2 ^ min (40 : Int).toNat (IntKind.bits .u64))) &&& BitVec.ofInt (IntKind.bits .u64) 255).toNat : Int))))) else none)) else none) else none) else (bif (decide ((IntKind.wrap .i64 (a0.at_ + 1)) ≤ (a0.code.length : Int))) then (some ((⟨a0.code, (IntKind.wrap .i64 (a0.at_ + 1)), (IntKind.wrap .u64 ((IntKind.wrap .u64 ((IntKind.wrap .u64 (a0.seed * 6364136223846793005)) + (IntKind.wrap .u64 0))) + 896896))⟩ : Cur), 0)) else (bif decide (0 ≤ 40) then (some ((⟨a0.code, (IntKind.wrap .i64 (a0.at_ + 1)), (IntKind.wrap .u64 ((IntKind.wrap .u64 ((IntKind.wrap .u64 (a0.seed * 6364136223846793005)) + (IntKind.wrap .u64 0))) + 896896))⟩ : Cur), (IntKind.wrap .i64 (IntKind.wrap .u64 ((BitVec.ofInt (IntKind.bits .u64) (Int.fdiv (IntKind.wrap .u64 ((IntKind.wrap .u64 ((IntKind.wrap .u64 (a0.seed * 6364136223846793005)) + (IntKind.wrap .u64 0))) + 896896)) (2 ^ min (40 : Int).toNat (IntKind.bits .u64))) &&& BitVec.ofInt (IntKind.bits .u64) 255).toNat : Int))))) else none))
def spec_l1Cur_next.C : Cal → Option CArm := fun c => match c with
  | _ => none
theorem spec_l1Cur_next.run (a0 : Cur) : runM envX (tabC spec_l1Cur_next.C) (tabL 62 0 (fun _ => none)) Tryz.f95 mbase (.bx .cur a0) [] (viewK (.bx .cur) (viewR1 (.t (.int .i64)))) = spec_l1Cur_next.F a0 := by kernel_rfl
theorem spec_l1Cur_next.G (hE : EnvOk Tryz.prog envX) (pv : Nat → Value) : ∀ cal A, spec_l1Cur_next.C cal = some A → ArmOk Tryz.prog envX pv cal A := by
  intro cal A h
  unfold spec_l1Cur_next.C at h
  cases h
theorem spec_l1Cur_next.good (hE : EnvOk Tryz.prog envX) (pv : Nat → Value) (a0 : Cur) {y : _} (h : spec_l1Cur_next.F a0 = some y) : MeetsM Tryz.prog envX pv 95 (.bx .cur a0) (tvals [] (())) (.kep (.bx .cur y.1) (.t (.int .i64) y.2)) :=
  funM_plain hE (spec_l1Cur_next.G hE pv) (f := 95) (fn := Tryz.f95) (by kernel_rfl) rfl (by kernel_rfl) (.inl rfl) (by kernel_rfl) ((spec_l1Cur_next.run a0).trans h) fun r hr => wk_viewK (fun r y h => wk_view1 h) hr
/-! ### 57 (*loop.example/g00896/spec.l1Cur).pick -/
def spec_l1Cur_pick.F (a0 : Cur) (a1 : Int) : Option (Cur × Int) := bif (decide (a1 ≤ 1)) then (some (a0, 0)) else ((spec_l1Cur_next.F a0).bind fun r1 => bif (decide (a1 > 200)) then ((spec_l1Cur_next.F r1.1).bind fun r2 => bif (a1 == 0) then (none) else (some (r2.1, (Int.tmod (IntKind.wrap .i64 ((IntKind.wrap .i64 (r1.2 * 256)) + r2.2)) a1)))) else (bif (a1 == 0) then (none) else (some (r1.1, (Int.tmod r1.2 a1)))))
def spec_l1Cur_pick.C : Cal → Option CArm := fun c => match c with
  | .f 95 => some (.m (.bx .cur) [] _ (fun x0 x => spec_l1Cur_next.F x0) (fun r => .kep (.bx .cur r.1) (.t (.int .i64) r.2)))
  | _ => none
theorem spec_l1Cur_pick.run (a0 : Cur) (a1 : Int) : runM envX (tabC spec_l1Cur_pick.C) (tabL 20 0 (fun _ => none)) Tryz.f57 mbase (.bx .cur a0) [.t (.int .i64) a1] (viewK (.bx .cur) (viewR1 (.t (.int .i64)))) = spec_l1Cur_pick.F a0 a1 := by kernel_rfl
theorem spec_l1Cur_pick.G (hE : EnvOk Tryz.prog envX) (pv : Nat → Value) : ∀ cal A, spec_l1Cur_pick.C cal = some A → ArmOk Tryz.prog envX pv cal A := by
  intro cal A h
  unfold spec_l1Cur_pick.C at h
  split at h
  · cases h; exact ⟨_, rfl, fun x0 x y hy => spec_l1Cur_next.good hE pv x0 hy⟩
  · cases h
theorem spec_l1Cur_pick.good (hE : EnvOk Tryz.prog envX) (pv : Nat → Value) (a0 : Cur) (a1 : Int) {y : _} (h : spec_l1Cur_pick.F a0 a1 = some y) : MeetsM Tryz.prog envX pv 57 (.bx .cur a0) (tvals [(.int .i64)] (a1, ())) (.kep (.bx .cur y.1) (.t (.int .i64) y.2)) :=
  funM_plain hE (spec_l1Cur_pick.G hE pv) (f := 57) (fn := Tryz.f57) (by kernel_rfl) rfl (by kernel_rfl) (.inl rfl) (by kernel_rfl) ((spec_l1Cur_pick.run a0 a1).trans h) fun r hr => wk_viewK (fun r y h => wk_view1 h) hr
/-! ### 48 (*loop.example/g00896/spec.l1Cur).one -/
def spec_l1Cur_one.F (a0 : Cur) (a1 : Int) : Option (Cur × Bool) := (spec_l1Cur_pick.F a0 a1).bind fun r1 => some (r1.1, (r1.2 == 0))
def spec_l1Cur_one.C : Cal → Option CArm := fun c => match c with
  | .f 57 => some (.m (.bx .cur) [(.int .i64)] _ (fun x0 x => spec_l1Cur_pick.F x0 x.1) (fun r => .kep (.bx .cur r.1) (.t (.int .i64) r.2)))
  | _ => none
theorem spec_l1Cur_one.run (a0 : Cur) (a1 : Int) : runM envX (tabC spec_l1Cur_one.C) (tabL 9 0 (fun _ => none)) Tryz.f48 mbase (.bx .cur a0) [.t (.int .i64) a1] (viewK (.bx .cur) (viewR1 (.t .bool))) = spec_l1Cur_one.F a0 a1 := by kernel_rfl
theorem spec_l1Cur_one.G (hE : EnvOk Tryz.prog envX) (pv : Nat → Value) : ∀ cal A, spec_l1Cur_one.C cal = some A → ArmOk Tryz.prog envX pv cal A := by
  intro cal A h
  unfold spec_l1Cur_one.C at h
  split at h
  · cases h; exact ⟨_, rfl, fun x0 x y hy => spec_l1Cur_pick.good hE pv x0 x.1 hy⟩
  · cases h
theorem spec_l1Cur_one.good (hE : EnvOk Tryz.prog envX) (pv : Nat → Value) (a0 : Cur) (a1 : Int) {y : _} (h : spec_l1Cur_one.F a0 a1 = some y) : MeetsM Tryz.prog envX pv 48 (.bx .cur a0) (tvals [(.int .i64)] (a1, ())) (.kep (.bx .cur y.1) (.t .bool y.2)) :=
  funM_plain hE (spec_l1Cur_one.G hE pv) (f := 48) (fn := Tryz.f48) (by kernel_rfl) rfl (by kernel_rfl) (.inl rfl) (by kernel_rfl) ((spec_l1Cur_one.run a0 a1).trans h) fun r hr => wk_viewK (fun r y h => wk_view1 h) hr
/-! ### 52 loop.example/g00896/spec.l4Text -/
def spec_l4Text.l0 : Nat → ByteArray → Int → Option (Sum Bool ByteArray)
  | 0, _, _ => none
  | k + 1, x0, x3 => bif (decide (x3 < (x0.size : Int))) then (bif decide (0 ≤ x3) then (bif decide (x3 < (x0.size : Int)) then (bif (decide ((bt x0 (x3 : Int).toNat) < 32)) then (some (.inl false)) else (bif decide (0 ≤ x3) then (bif decide (x3 < (x0.size : Int)) then (bif (decide ((bt x0 (x3 : Int).toNat) > 126)) then (some (.inl false)) else (spec_l4Text.l0 k x0 (IntKind.wrap .i64 (x3 + 1)))) else none) else none)) else none) else none) else (some (.inr x0))
def spec_l4Text.F (k : Nat) (a0 : ByteArray) : Option (Bool) := bif (decide ((a0.size : Int) > 40)) then (some false) else ((spec_l4Text.l0 k a0 0).bind fun y1 => match y1 with | .inl z2 => some z2 | .inr z2 => bif (beqS z2 (⟨#[]⟩ : ByteArray)) then (some true) else (bif decide (0 ≤ 0) then (bif decide (0 < (z2.size : Int)) then (bif ((bt z2 (0 : Int).toNat) != 32) then (bif decide (0 ≤ (IntKind.wrap .i64 ((z2.size : Int) - 1))) then (bif decide ((IntKind.wrap .i64 ((z2.size : Int) - 1)) < (z2.size : Int)) then (some ((bt z2 ((IntKind.wrap .i64 ((z2.size : Int) - 1)) : Int).toNat) != 32)) else none) else none) else (some false)) else none) else none))
def spec_l4Text.C (k : Nat) : Cal → Option CArm := fun c => match c with
  | _ => none
def spec_l4Text.sp0 : List Sp := [.t 0 .str, .t 3 (.int .i64)]
def spec_l4Text.sp0_0 : List Sp := [.t 2 .bool]
def spec_l4Text.sp0_1 : List Sp := [.t 0 .str]
def spec_l4Text.A0 : LArm := .two spec_l4Text.sp0 spec_l4Text.sp0_0 spec_l4Text.sp0_1 (Bool) (ByteArray) (fun k x => spec_l4Text.l0 k x.1 x.2.1) .ret (.exit 0) (fun y => (y, ())) (fun x => x.1) (fun y => (y, ())) (fun x => x.1)
def spec_l4Text.L : Nat → Option LArm := fun b => match b with
  | 0 => some spec_l4Text.A0
  | _ => none
theorem spec_l4Text.run (k : Nat) (a0 : ByteArray) : runF envX (tabC (spec_l4Text.C k)) (tabL 38 k spec_l4Text.L) Tryz.f52 [.t .str a0] (viewR1 (.t .bool)) = spec_l4Text.F k a0 := by kernel_rfl
theorem spec_l4Text.step0 (k : Nat) (x0 : ByteArray) (x3 : Int) : runC envX (tabC (spec_l4Text.C k)) (tabL 38 k spec_l4Text.L) 0 (loopAt Tryz.f52 0) (stOf 38 spec_l4Text.sp0 (x0, x3, ())) (spec_l4Text.A0.cont 38 k) = spec_l4Text.l0 (k + 1) x0 x3 := by kernel_rfl
theorem spec_l4Text.G (hE : EnvOk Tryz.prog envX) (pv : Nat → Value) (k : Nat) : ∀ cal A, spec_l4Text.C k cal = some A → ArmOk Tryz.prog envX pv cal A := by
  intro cal A h
  unfold spec_l4Text.C at h
  cases h
theorem spec_l4Text.good (hE : EnvOk Tryz.prog envX) (pv : Nat → Value) (k : Nat) (a0 : ByteArray) {y : _} (h : spec_l4Text.F k a0 = some y) : Meets Tryz.prog envX pv (.f 52) (tvals [.str] (a0, ())) (.t .bool y) :=
  fun_loops hE (t := spec_l4Text.C) k (fun k _ => spec_l4Text.G hE pv k) (f := 52) (fn := Tryz.f52) (by kernel_rfl) rfl (by kernel_rfl) (by kernel_rfl) (lt := spec_l4Text.L) (by kernel_rfl) (fun b A h => by
    unfold spec_l4Text.L at h; split at h
    · cases h; exact ⟨by kernel_rfl, by kernel_rfl, by kernel_rfl, fun _ => rfl, fun _ => rfl, fun _ => rfl⟩
    · cases h) (fun b A h => by
    unfold spec_l4Text.L at h; split at h
    · cases h; exact fun k x => spec_l4Text.step0 k x.1 x.2.1
    · cases h) ((spec_l4Text.run k a0).trans h) fun r hr => wk_view1 hr
/-! ### 62 loop.example/g00896/spec.l1In -/
def spec_l1In.F (a0 : Int) (a1 : Int) (a2 : Int) : Option (Bool) := bif (decide (a0 ≥ a1)) then (some (decide (a0 ≤ a2))) else (some false)
def spec_l1In.C : Cal → Option CArm := fun c => match c with
  | _ => none
theorem spec_l1In.run (a0 : Int) (a1 : Int) (a2 : Int) : runF envX (tabC spec_l1In.C) (tabL 15 0 (fun _ => none)) Tryz.f62 [.t (.int .i64) a0, .t (.int .i64) a1, .t (.int .i64) a2] (viewR1 (.t .bool)) = spec_l1In.F a0 a1 a2 := by kernel_rfl
theorem spec_l1In.G (hE : EnvOk Tryz.prog envX) (pv : Nat → Value) : ∀ cal A, spec_l1In.C cal = some A → ArmOk Tryz.prog envX pv cal A := by
  intro cal A h
  unfold spec_l1In.C at h
  cases h
theorem spec_l1In.good (hE : EnvOk Tryz.prog envX) (pv : Nat → Value) (a0 : Int) (a1 : Int) (a2 : Int) {y : _} (h : spec_l1In.F a0 a1 a2 = some y) : Meets Tryz.prog envX pv (.f 62) (tvals [(.int .i64), (.int .i64), (.int .i64)] (a0, a1, a2, ())) (.t .bool y) :=
  fun_plain hE (spec_l1In.G hE pv) (f := 62) (fn := Tryz.f62) (by kernel_rfl) rfl (by kernel_rfl) (by kernel_rfl) ((spec_l1In.run a0 a1 a2).trans h) fun r hr => wk_view1 hr
/-! ### 104 loop.example/g00896/spec.l3Days -/
def spec_l3Days.F (a0 : Int) (a1 : Int) : Option (Int) := bif (a1 == 2) then (bif (4 == 0) then (none) else (bif ((Int.tmod a0 4) == 0) then (bif (100 == 0) then (none) else (bif ((Int.tmod a0 100) != 0) then (some 29) else (bif (400 == 0) then (none) else (bif ((Int.tmod a0 400) == 0) then (some 29) else (some 28))))) else (bif (400 == 0) then (none) else (bif ((Int.tmod a0 400) == 0) then (some 29) else (some 28))))) else (bif (a1 == 4) then (some 30) else (bif (a1 == 6) then (some 30) else (bif (a1 == 9) then (some 30) else (bif (a1 == 11) then (some 30) else (some 31)))))
def spec_l3Days.C : Cal → Option CArm := fun c => match c with
  | _ => none
theorem spec_l3Days.run (a0 : Int) (a1 : Int) : runF envX (tabC spec_l3Days.C) (tabL 34 0 (fun _ => none)) Tryz.f104 [.t (.int .i64) a0, .t (.int .i64) a1] (viewR1 (.t (.int .i64))) = spec_l3Days.F a0 a1 := by kernel_rfl
theorem spec_l3Days.G (hE : EnvOk Tryz.prog envX) (pv : Nat → Value) : ∀ cal A, spec_l3Days.C cal = some A → ArmOk Tryz.prog envX pv cal A := by
  intro cal A h
  unfold spec_l3Days.C at h
  cases h
theorem spec_l3Days.good (hE : EnvOk Tryz.prog envX) (pv : Nat → Value) (a0 : Int) (a1 : Int) {y : _} (h : spec_l3Days.F a0 a1 = some y) : Meets Tryz.prog envX pv (.f 104) (tvals [(.int .i64), (.int .i64)] (a0, a1, ())) (.t (.int .i64) y) :=
  fun_plain hE (spec_l3Days.G hE pv) (f := 104) (fn := Tryz.f104) (by kernel_rfl) rfl (by kernel_rfl) (by kernel_rfl) ((spec_l3Days.run a0 a1).trans h) fun r hr => wk_view1 hr
/-! ### 67 loop.example/g00896/spec.l3Good -/
def spec_l3Good.F (a0 : Date) : Option (Bool) := bif ((a0.y == 0 && (a0.m == 0 && (a0.d == 0 && a0.c == false)))) then (some true) else ((spec_l1In.F a0.y 1 2999).bind fun r1 => bif (!r1) then (some false) else ((spec_l1In.F a0.m 0 12).bind fun r2 => bif (!r2) then (some false) else (bif a0.c then (bif (a0.m == 0) then (some (a0.d == 0)) else (some false)) else (bif (a0.m == 0) then (some (a0.d == 0)) else ((spec_l3Days.F a0.y a0.m).bind fun r3 => (spec_l1In.F a0.d 0 r3).bind fun r4 => some r4)))))
def spec_l3Good.C : Cal → Option CArm := fun c => match c with
  | .f 62 => some (.p [(.int .i64), (.int .i64), (.int .i64)] _ (fun x => spec_l1In.F x.1 x.2.1 x.2.2.1) (fun r => (.t .bool r)))
  | .f 104 => some (.p [(.int .i64), (.int .i64)] _ (fun x => spec_l3Days.F x.1 x.2.1) (fun r => (.t (.int .i64) r)))
  | _ => none
theorem spec_l3Good.run (a0 : Date) : runF envX (tabC spec_l3Good.C) (tabL 44 0 (fun _ => none)) Tryz.f67 [.t .date a0] (viewR1 (.t .bool)) = spec_l3Good.F a0 := by kernel_rfl
theorem spec_l3Good.G (hE : EnvOk Tryz.prog envX) (pv : Nat → Value) : ∀ cal A, spec_l3Good.C cal = some A → ArmOk Tryz.prog envX pv cal A := by
  intro cal A h
  unfold spec_l3Good.C at h
  split at h
  · cases h; exact fun x y hy => spec_l1In.good hE pv x.1 x.2.1 x.2.2.1 hy
  · cases h; exact fun x y hy => spec_l3Days.good hE pv x.1 x.2.1 hy
  · cases h
theorem spec_l3Good.good (hE : EnvOk Tryz.prog envX) (pv : Nat → Value) (a0 : Date) {y : _} (h : spec_l3Good.F a0 = some y) : Meets Tryz.prog envX pv (.f 67) (tvals [.date] (a0, ())) (.t .bool y) :=
  fun_plain hE (spec_l3Good.G hE pv) (f := 67) (fn := Tryz.f67) (by kernel_rfl) rfl (by kernel_rfl) (by kernel_rfl) ((spec_l3Good.run a0).trans h) fun r hr => wk_view1 hr
/-! ### 137 loop.example/g00896/spec.l2Lower -/
def spec_l2Lower.F (a0 : Int) : Option (Bool) := bif (decide (a0 ≥ 97)) then (some (decide (a0 ≤ 122))) else (some false)
def spec_l2Lower.C : Cal → Option CArm := fun c => match c with
  | _ => none
theorem spec_l2Lower.run (a0 : Int) : runF envX (tabC spec_l2Lower.C) (tabL 9 0 (fun _ => none)) Tryz.f137 [.t (.int .u8) a0] (viewR1 (.t .bool)) = spec_l2Lower.F a0 := by kernel_rfl
theorem spec_l2Lower.G (hE : EnvOk Tryz.prog envX) (pv : Nat → Value) : ∀ cal A, spec_l2Lower.C cal = some A → ArmOk Tryz.prog envX pv cal A := by
  intro cal A h
  unfold spec_l2Lower.C at h
  cases h
theorem spec_l2Lower.good (hE : EnvOk Tryz.prog envX) (pv : Nat → Value) (a0 : Int) {y : _} (h : spec_l2Lower.F a0 = some y) : Meets Tryz.prog envX pv (.f 137) (tvals [(.int .u8)] (a0, ())) (.t .bool y) :=
  fun_plain hE (spec_l2Lower.G hE pv) (f := 137) (fn := Tryz.f137) (by kernel_rfl) rfl (by kernel_rfl) (by kernel_rfl) ((spec_l2Lower.run a0).trans h) fun r hr => wk_view1 hr
/-! ### 100 loop.example/g00896/spec.l4Key -/
def spec_l4Key.l0 : Nat → ByteArray → Int → Option (Sum Bool Unit)
  | 0, _, _ => none
  | k + 1, x0, x3 => bif (decide (x3 < (x0.size : Int))) then (bif decide (0 ≤ x3) then (bif decide (x3 < (x0.size : Int)) then ((spec_l2Lower.F (bt x0 (x3 : Int).toNat)).bind fun r3 => bif (!r3) then (bif decide (0 ≤ x3) then (bif decide (x3 < (x0.size : Int)) then (bif (decide ((bt x0 (x3 : Int).toNat) < 48)) then (some (.inl false)) else (bif decide (0 ≤ x3) then (bif decide (x3 < (x0.size : Int)) then (bif (decide ((bt x0 (x3 : Int).toNat) > 57)) then (some (.inl false)) else (spec_l4Key.l0 k x0 (IntKind.wrap .i64 (x3 + 1)))) else none) else none)) else none) else none) else (spec_l4Key.l0 k x0 (IntKind.wrap .i64 (x3 + 1)))) else none) else none) else (some (.inr ()))
def spec_l4Key.F (k : Nat) (a0 : ByteArray) : Option (Bool) := (spec_l1In.F (a0.size : Int) 1 10).bind fun r1 => bif (!r1) then (some false) else (bif decide (0 ≤ 0) then (bif decide (0 < (a0.size : Int)) then ((spec_l2Lower.F (bt a0 (0 : Int).toNat)).bind fun r2 => bif (!r2) then (some false) else ((spec_l4Key.l0 k a0 0).bind fun y4 => match y4 with | .inl z5 => some z5 | .inr z5 => some true)) else none) else none)
def spec_l4Key.C (k : Nat) : Cal → Option CArm := fun c => match c with
  | .f 62 => some (.p [(.int .i64), (.int .i64), (.int .i64)] _ (fun x => spec_l1In.F x.1 x.2.1 x.2.2.1) (fun r => (.t .bool r)))
  | .f 137 => some (.p [(.int .u8)] _ (fun x => spec_l2Lower.F x.1) (fun r => (.t .bool r)))
  | _ => none
def spec_l4Key.sp0 : List Sp := [.t 0 .str, .t 3 (.int .i64)]
def spec_l4Key.sp0_0 : List Sp := [.t 2 .bool]
def spec_l4Key.sp0_1 : List Sp := []
def spec_l4Key.A0 : LArm := .two spec_l4Key.sp0 spec_l4Key.sp0_0 spec_l4Key.sp0_1 (Bool) (Unit) (fun k x => spec_l4Key.l0 k x.1 x.2.1) .ret (.exit 0) (fun y => (y, ())) (fun x => x.1) (fun y => ()) (fun x => ())
def spec_l4Key.L : Nat → Option LArm := fun b => match b with
  | 0 => some spec_l4Key.A0
  | _ => none
theorem spec_l4Key.run (k : Nat) (a0 : ByteArray) : runF envX (tabC (spec_l4Key.C k)) (tabL 37 k spec_l4Key.L) Tryz.f100 [.t .str a0] (viewR1 (.t .bool)) = spec_l4Key.F k a0 := by kernel_rfl
theorem spec_l4Key.step0 (k : Nat) (x0 : ByteArray) (x3 : Int) : runC envX (tabC (spec_l4Key.C k)) (tabL 37 k spec_l4Key.L) 0 (loopAt Tryz.f100 0) (stOf 37 spec_l4Key.sp0 (x0, x3, ())) (spec_l4Key.A0.cont 37 k) = spec_l4Key.l0 (k + 1) x0 x3 := by kernel_rfl
theorem spec_l4Key.G (hE : EnvOk Tryz.prog envX) (pv : Nat → Value) (k : Nat) : ∀ cal A, spec_l4Key.C k cal = some A → ArmOk Tryz.prog envX pv cal A := by
  intro cal A h
  unfold spec_l4Key.C at h
  split at h
  · cases h; exact fun x y hy => spec_l1In.good hE pv x.1 x.2.1 x.2.2.1 hy
  · cases h; exact fun x y hy => spec_l2Lower.good hE pv x.1 hy
  · cases h
theorem spec_l4Key.good (hE : EnvOk Tryz.prog envX) (pv : Nat → Value) (k : Nat) (a0 : ByteArray) {y : _} (h : spec_l4Key.F k a0 = some y) : Meets Tryz.prog envX pv (.f 100) (tvals [.str] (a0, ())) (.t .bool y) :=
  fun_loops hE (t := spec_l4Key.C) k (fun k _ => spec_l4Key.G hE pv k) (f := 100) (fn := Tryz.f100) (by kernel_rfl) rfl (by kernel_rfl) (by kernel_rfl) (lt := spec_l4Key.L) (by kernel_rfl) (fun b A h => by
    unfold spec_l4Key.L at h; split at h
    · cases h; exact ⟨by kernel_rfl, by kernel_rfl, by kernel_rfl, fun _ => rfl, fun _ => rfl, fun _ => rfl⟩
    · cases h) (fun b A h => by
    unfold spec_l4Key.L at h; split at h
    · cases h; exact fun k x => spec_l4Key.step0 k x.1 x.2.1
    · cases h) ((spec_l4Key.run k a0).trans h) fun r hr => wk_view1 hr
/-! ### 178 loop.example/g00896/spec.l2Upper -/
def spec_l2Upper.F (a0 : Int) : Option (Bool) := bif (decide (a0 ≥ 65)) then (some (decide (a0 ≤ 90))) else (some false)
def spec_l2Upper.C : Cal → Option CArm := fun c => match c with
  | _ => none
theorem spec_l2Upper.run (a0 : Int) : runF envX (tabC spec_l2Upper.C) (tabL 9 0 (fun _ => none)) Tryz.f178 [.t (.int .u8) a0] (viewR1 (.t .bool)) = spec_l2Upper.F a0 := by kernel_rfl
theorem spec_l2Upper.G (hE : EnvOk Tryz.prog envX) (pv : Nat → Value) : ∀ cal A, spec_l2Upper.C cal = some A → ArmOk Tryz.prog envX pv cal A := by
  intro cal A h
  unfold spec_l2Upper.C at h
  cases h
theorem spec_l2Upper.good (hE : EnvOk Tryz.prog envX) (pv : Nat → Value) (a0 : Int) {y : _} (h : spec_l2Upper.F a0 = some y) : Meets Tryz.prog envX pv (.f 178) (tvals [(.int .u8)] (a0, ())) (.t .bool y) :=
  fun_plain hE (spec_l2Upper.G hE pv) (f := 178) (fn := Tryz.f178) (by kernel_rfl) rfl (by kernel_rfl) (by kernel_rfl) ((spec_l2Upper.run a0).trans h) fun r hr => wk_view1 hr
/-! ### 213 loop.example/g00896/spec.l2Letter -/
def spec_l2Letter.F (a0 : Int) : Option (Bool) := (spec_l2Upper.F a0).bind fun r1 => bif r1 then (some true) else ((spec_l2Lower.F a0).bind fun r2 => some r2)
def spec_l2Letter.C : Cal → Option CArm := fun c => match c with
  | .f 178 => some (.p [(.int .u8)] _ (fun x => spec_l2Upper.F x.1) (fun r => (.t .bool r)))
  | .f 137 => some (.p [(.int .u8)] _ (fun x => spec_l2Lower.F x.1) (fun r => (.t .bool r)))
  | _ => none
theorem spec_l2Letter.run (a0 : Int) : runF envX (tabC spec_l2Letter.C) (tabL 9 0 (fun _ => none)) Tryz.f213 [.t (.int .u8) a0] (viewR1 (.t .bool)) = spec_l2Letter.F a0 := by kernel_rfl
theorem spec_l2Letter.G (hE : EnvOk Tryz.prog envX) (pv : Nat → Value) : ∀ cal A, spec_l2Letter.C cal = some A → ArmOk Tryz.prog envX pv cal A := by
  intro cal A h
  unfold spec_l2Letter.C at h
  split at h
  · cases h; exact fun x y hy => spec_l2Upper.good hE pv x.1 hy
  · cases h; exact fun x y hy => spec_l2Lower.good hE pv x.1 hy
  · cases h
theorem spec_l2Letter.good (hE : EnvOk Tryz.prog envX) (pv : Nat → Value) (a0 : Int) {y : _} (h : spec_l2Letter.F a0 = some y) : Meets Tryz.prog envX pv (.f 213) (tvals [(.int .u8)] (a0, ())) (.t .bool y) :=
  fun_plain hE (spec_l2Letter.G hE pv) (f := 213) (fn := Tryz.f213) (by kernel_rfl) rfl (by kernel_rfl) (by kernel_rfl) ((spec_l2Letter.run a0).trans h) fun r hr => wk_view1 hr
/-! ### 177 loop.example/g00896/spec.l2Word -/
def spec_l2Word.l0 : Nat → ByteArray → Int → Option (Sum Bool Unit)
  | 0, _, _ => none
  | k + 1, x0, x3 => bif (decide (x3 < (x0.size : Int))) then (bif decide (0 ≤ x3) then (bif decide (x3 < (x0.size : Int)) then ((spec_l2Letter.F (bt x0 (x3 : Int).toNat)).bind fun r4 => bif (!r4) then (bif decide (0 ≤ x3) then (bif decide (x3 < (x0.size : Int)) then (bif ((bt x0 (x3 : Int).toNat) != 45) then (bif decide (0 ≤ x3) then (bif decide (x3 < (x0.size : Int)) then (bif ((bt x0 (x3 : Int).toNat) != 39) then (some (.inl false)) else (bif decide (0 ≤ (IntKind.wrap .i64 (x3 - 1))) then (bif decide ((IntKind.wrap .i64 (x3 - 1)) < (x0.size : Int)) then ((spec_l2Letter.F (bt x0 ((IntKind.wrap .i64 (x3 - 1)) : Int).toNat)).bind fun r5 => bif (!r5) then (some (.inl false)) else (spec_l2Word.l0 k x0 (IntKind.wrap .i64 (x3 + 1)))) else none) else none)) else none) else none) else (bif decide (0 ≤ (IntKind.wrap .i64 (x3 - 1))) then (bif decide ((IntKind.wrap .i64 (x3 - 1)) < (x0.size : Int)) then ((spec_l2Letter.F (bt x0 ((IntKind.wrap .i64 (x3 - 1)) : Int).toNat)).bind fun r6 => bif (!r6) then (some (.inl false)) else (spec_l2Word.l0 k x0 (IntKind.wrap .i64 (x3 + 1)))) else none) else none)) else none) else none) else (spec_l2Word.l0 k x0 (IntKind.wrap .i64 (x3 + 1)))) else none) else none) else (some (.inr ()))
def spec_l2Word.F (k : Nat) (a0 : ByteArray) : Option (Bool) := (spec_l1In.F (a0.size : Int) 1 12).bind fun r1 => bif (!r1) then (some false) else (bif decide (0 ≤ 0) then (bif decide (0 < (a0.size : Int)) then ((spec_l2Letter.F (bt a0 (0 : Int).toNat)).bind fun r2 => bif (!r2) then (some false) else (bif decide (0 ≤ (IntKind.wrap .i64 ((a0.size : Int) - 1))) then (bif decide ((IntKind.wrap .i64 ((a0.size : Int) - 1)) < (a0.size : Int)) then ((spec_l2Letter.F (bt a0 ((IntKind.wrap .i64 ((a0.size : Int) - 1)) : Int).toNat)).bind fun r3 => bif (!r3) then (some false) else ((spec_l2Word.l0 k a0 1).bind fun y7 => match y7 with | .inl z8 => some z8 | .inr z8 => some true)) else none) else none)) else none) else none)
def spec_l2Word.C (k : Nat) : Cal → Option CArm := fun c => match c with
  | .f 62 => some (.p [(.int .i64), (.int .i64), (.int .i64)] _ (fun x => spec_l1In.F x.1 x.2.1 x.2.2.1) (fun r => (.t .bool r)))
  | .f 213 => some (.p [(.int .u8)] _ (fun x => spec_l2Letter.F x.1) (fun r => (.t .bool r)))
  | _ => none
def spec_l2Word.sp0 : List Sp := [.t 0 .str, .t 3 (.int .i64)]
def spec_l2Word.sp0_0 : List Sp := [.t 2 .bool]
def spec_l2Word.sp0_1 : List Sp := []
def spec_l2Word.A0 : LArm := .two spec_l2Word.sp0 spec_l2Word.sp0_0 spec_l2Word.sp0_1 (Bool) (Unit) (fun k x => spec_l2Word.l0 k x.1 x.2.1) .ret (.exit 0) (fun y => (y, ())) (fun x => x.1) (fun y => ()) (fun x => ())
def spec_l2Word.L : Nat → Option LArm := fun b => match b with
  | 0 => some spec_l2Word.A0
  | _ => none
theorem spec_l2Word.run (k : Nat) (a0 : ByteArray) : runF envX (tabC (spec_l2Word.C k)) (tabL 54 k spec_l2Word.L) Tryz.f177 [.t .str a0] (viewR1 (.t .bool)) = spec_l2Word.F k a0 := by kernel_rfl
theorem spec_l2Word.step0 (k : Nat) (x0 : ByteArray) (x3 : Int) : runC envX (tabC (spec_l2Word.C k)) (tabL 54 k spec_l2Word.L) 0 (loopAt Tryz.f177 0) (stOf 54 spec_l2Word.sp0 (x0, x3, ())) (spec_l2Word.A0.cont 54 k) = spec_l2Word.l0 (k + 1) x0 x3 := by kernel_rfl
theorem spec_l2Word.G (hE : EnvOk Tryz.prog envX) (pv : Nat → Value) (k : Nat) : ∀ cal A, spec_l2Word.C k cal = some A → ArmOk Tryz.prog envX pv cal A := by
  intro cal A h
  unfold spec_l2Word.C at h
  split at h
  · cases h; exact fun x y hy => spec_l1In.good hE pv x.1 x.2.1 x.2.2.1 hy
  · cases h; exact fun x y hy => spec_l2Letter.good hE pv x.1 hy
  · cases h
theorem spec_l2Word.good (hE : EnvOk Tryz.prog envX) (pv : Nat → Value) (k : Nat) (a0 : ByteArray) {y : _} (h : spec_l2Word.F k a0 = some y) : Meets Tryz.prog envX pv (.f 177) (tvals [.str] (a0, ())) (.t .bool y) :=
  fun_loops hE (t := spec_l2Word.C) k (fun k _ => spec_l2Word.G hE pv k) (f := 177) (fn := Tryz.f177) (by kernel_rfl) rfl (by kernel_rfl) (by kernel_rfl) (lt := spec_l2Word.L) (by kernel_rfl) (fun b A h => by
    unfold spec_l2Word.L at h; split at h
    · cases h; exact ⟨by kernel_rfl, by kernel_rfl, by kernel_rfl, fun _ => rfl, fun _ => rfl, fun _ => rfl⟩
    · cases h) (fun b A h => by
    unfold spec_l2Word.L at h; split at h
    · cases h; exact fun k x => spec_l2Word.step0 k x.1 x.2.1
    · cases h) ((spec_l2Word.run k a0).trans h) fun r hr => wk_view1 hr
/-! ### 214 loop.example/g00896/spec.l1Split -/
def spec_l1Split.l0 : Nat → ByteArray → Int → (List ByteArray) → Int → Int → Option (ByteArray × (List ByteArray) × Int)
  | 0, _, _, _, _, _ => none
  | k + 1, x0, x1, x5, x6, x7 => bif (decide (x7 < (x0.size : Int))) then (bif decide (0 ≤ x7) then (bif decide (x7 < (x0.size : Int)) then (bif ((bt x0 (x7 : Int).toNat) == x1) then (bif decide (0 ≤ x7) then (bif decide (x7 ≤ (x0.size : Int)) then (bif decide (0 ≤ x6) then (bif decide (x6 ≤ x7) then (bif room (x5.length + ([(x0.extract (x6 : Int).toNat (x7 : Int).toNat)] : List ByteArray).length) .str then (spec_l1Split.l0 k x0 x1 (x5 ++ ([(x0.extract (x6 : Int).toNat (x7 : Int).toNat)] : List ByteArray)) (IntKind.wrap .i64 (x7 + 1)) (IntKind.wrap .i64 (x7 + 1))) else none) else none) else none) else none) else none) else (spec_l1Split.l0 k x0 x1 x5 x6 (IntKind.wrap .i64 (x7 + 1)))) else none) else none) else (some (x0, x5, x6))
def spec_l1Split.F (k : Nat) (a0 : ByteArray) (a1 : Int) : Option (List ByteArray) := (spec_l1Split.l0 k a0 a1 ([] : List ByteArray) 0 0).bind fun y1 => bif decide (0 ≤ y1.2.2) then (bif decide (y1.2.2 ≤ (y1.1.size : Int)) then (bif room (y1.2.1.length + ([(y1.1.extract (y1.2.2 : Int).toNat y1.1.size)] : List ByteArray).length) .str then (some (y1.2.1 ++ ([(y1.1.extract (y1.2.2 : Int).toNat y1.1.size)] : List ByteArray))) else none) else none) else none
def spec_l1Split.C (k : Nat) : Cal → Option CArm := fun c => match c with
  | _ => none
def spec_l1Split.sp0 : List Sp := [.t 0 .str, .t 1 (.int .u8), .own 5 1024 9 .str false true, .t 6 (.int .i64), .t 7 (.int .i64)]
def spec_l1Split.sp0_0 : List Sp := [.t 0 .str, .own 5 1024 9 .str false true, .t 6 (.int .i64)]
def spec_l1Split.A0 : LArm := .one spec_l1Split.sp0 spec_l1Split.sp0_0 (ByteArray × (List ByteArray) × Int) (fun k x => spec_l1Split.l0 k x.1 x.2.1 x.2.2.1 x.2.2.2.1 x.2.2.2.2.1) (.exit 0) (fun y => (y.1, y.2.1, y.2.2, ())) (fun x => (x.1, x.2.1, x.2.2.1))
def spec_l1Split.L : Nat → Option LArm := fun b => match b with
  | 0 => some spec_l1Split.A0
  | _ => none
theorem spec_l1Split.run (k : Nat) (a0 : ByteArray) (a1 : Int) : runF envX (tabC (spec_l1Split.C k)) (tabL 35 k spec_l1Split.L) Tryz.f214 [.t .str a0, .t (.int .u8) a1] (viewR1 (.fr 9 .str)) = spec_l1Split.F k a0 a1 := by kernel_rfl
theorem spec_l1Split.step0 (k : Nat) (x0 : ByteArray) (x1 : Int) (x5 : List ByteArray) (x6 : Int) (x7 : Int) : runC envX (tabC (spec_l1Split.C k)) (tabL 35 k spec_l1Split.L) 0 (loopAt Tryz.f214 0) (stOf 35 spec_l1Split.sp0 (x0, x1, x5, x6, x7, ())) (spec_l1Split.A0.cont 35 k) = spec_l1Split.l0 (k + 1) x0 x1 x5 x6 x7 := by kernel_rfl
theorem spec_l1Split.G (hE : EnvOk Tryz.prog envX) (pv : Nat → Value) (k : Nat) : ∀ cal A, spec_l1Split.C k cal = some A → ArmOk Tryz.prog envX pv cal A := by
  intro cal A h
  unfold spec_l1Split.C at h
  cases h
theorem spec_l1Split.good (hE : EnvOk Tryz.prog envX) (pv : Nat → Value) (k : Nat) (a0 : ByteArray) (a1 : Int) {y : _} (h : spec_l1Split.F k a0 a1 = some y) : Meets Tryz.prog envX pv (.f 214) (tvals [.str, (.int .u8)] (a0, a1, ())) (.fr 9 .str y) :=
  fun_loops hE (t := spec_l1Split.C) k (fun k _ => spec_l1Split.G hE pv k) (f := 214) (fn := Tryz.f214) (by kernel_rfl) rfl (by kernel_rfl) (by kernel_rfl) (lt := spec_l1Split.L) (by kernel_rfl) (fun b A h => by
    unfold spec_l1Split.L at h; split at h
    · cases h; exact ⟨by kernel_rfl, by kernel_rfl, fun _ => rfl, fun _ => rfl⟩
    · cases h) (fun b A h => by
    unfold spec_l1Split.L at h; split at h
    · cases h; exact fun k x => spec_l1Split.step0 k x.1 x.2.1 x.2.2.1 x.2.2.2.1 x.2.2.2.2.1
    · cases h) ((spec_l1Split.run k a0 a1).trans h) fun r hr => wk_view1 hr
/-! ### 179 loop.example/g00896/spec.l2Particle -/
def spec_l2Particle.l2 : Nat → (List ByteArray) → Int → Int → Option (Sum Bool ((List ByteArray) × Int))
  | 0, _, _, _ => none
  | k + 1, x3, x4, x5 => bif decide (0 ≤ x4) then (bif decide (x4 < (x3.length : Int)) then (bif (decide (x5 < ((x3.getD ((x4 : Int).toNat) (⟨#[]⟩ : ByteArray)).size : Int))) then (bif decide (0 ≤ x4) then (bif decide (x4 < (x3.length : Int)) then (bif decide (0 ≤ x5) then (bif decide (x5 < ((x3.getD ((x4 : Int).toNat) (⟨#[]⟩ : ByteArray)).size : Int)) then ((spec_l2Lower.F (bt (x3.getD ((x4 : Int).toNat) (⟨#[]⟩ : ByteArray)) (x5 : Int).toNat)).bind fun r3 => bif (!r3) then (some (.inl false)) else (spec_l2Particle.l2 k x3 x4 (IntKind.wrap .i64 (x5 + 1)))) else none) else none) else none) else none) else (some (.inr (x3, x4)))) else none) else none
def spec_l2Particle.l0 : Nat → (List ByteArray) → Int → Option (Sum Bool (List ByteArray))
  | 0, _, _ => none
  | k + 1, x3, x4 => bif (decide (x4 < (x3.length : Int))) then (bif decide (0 ≤ x4) then (bif decide (x4 < (x3.length : Int)) then ((spec_l2Word.F k (x3.getD ((x4 : Int).toNat) (⟨#[]⟩ : ByteArray))).bind fun r2 => bif (!r2) then (some (.inl false)) else ((spec_l2Particle.l2 k x3 x4 0).bind fun y4 => match y4 with | .inl z5 => some (.inl z5) | .inr z5 => spec_l2Particle.l0 k z5.1 (IntKind.wrap .i64 (z5.2 + 1)))) else none) else none) else (some (.inr x3))
def spec_l2Particle.F (k : Nat) (a0 : ByteArray) : Option (Bool) := bif (beqS a0 (⟨#[]⟩ : ByteArray)) then (some true) else ((spec_l1Split.F k a0 32).bind fun r1 => (spec_l2Particle.l0 k r1 0).bind fun y6 => match y6 with | .inl z7 => some z7 | .inr z7 => some (decide ((z7.length : Int) ≤ 2)))
def spec_l2Particle.C (k : Nat) : Cal → Option CArm := fun c => match c with
  | .f 214 => some (.p [.str, (.int .u8)] _ (fun x => spec_l1Split.F k x.1 x.2.1) (fun r => (.fr 9 .str r)))
  | .f 177 => some (.p [.str] _ (fun x => spec_l2Word.F k x.1) (fun r => (.t .bool r)))
  | .f 137 => some (.p [(.int .u8)] _ (fun x => spec_l2Lower.F x.1) (fun r => (.t .bool r)))
  | _ => none
def spec_l2Particle.sp2 : List Sp := [.own 3 3076 9 .str false true, .t 4 (.int .i64), .t 5 (.int .i64)]
def spec_l2Particle.sp2_0 : List Sp := [.t 2 .bool]
def spec_l2Particle.sp2_1 : List Sp := [.own 3 3076 9 .str false true, .t 4 (.int .i64)]
def spec_l2Particle.A2 : LArm := .two spec_l2Particle.sp2 spec_l2Particle.sp2_0 spec_l2Particle.sp2_1 (Bool) ((List ByteArray) × Int) (fun k x => spec_l2Particle.l2 k x.1 x.2.1 x.2.2.1) .ret (.exit 2) (fun y => (y, ())) (fun x => x.1) (fun y => (y.1, y.2, ())) (fun x => (x.1, x.2.1))
def spec_l2Particle.sp0 : List Sp := [.own 3 3076 9 .str false true, .t 4 (.int .i64)]
def spec_l2Particle.sp0_0 : List Sp := [.t 2 .bool]
def spec_l2Particle.sp0_1 : List Sp := [.own 3 3076 9 .str false true]
def spec_l2Particle.A0 : LArm := .two spec_l2Particle.sp0 spec_l2Particle.sp0_0 spec_l2Particle.sp0_1 (Bool) ((List ByteArray)) (fun k x => spec_l2Particle.l0 k x.1 x.2.1) .ret (.exit 0) (fun y => (y, ())) (fun x => x.1) (fun y => (y, ())) (fun x => x.1)
def spec_l2Particle.L : Nat → Option LArm := fun b => match b with
  | 2 => some spec_l2Particle.A2
  | 0 => some spec_l2Particle.A0
  | _ => none
theorem spec_l2Particle.run (k : Nat) (a0 : ByteArray) : runF envX (tabC (spec_l2Particle.C k)) (tabL 42 k spec_l2Particle.L) Tryz.f179 [.t .str a0] (viewR1 (.t .bool)) = spec_l2Particle.F k a0 := by kernel_rfl
theorem spec_l2Particle.step2 (k : Nat) (x3 : List ByteArray) (x4 : Int) (x5 : Int) : runC envX (tabC (spec_l2Particle.C k)) (tabL 42 k spec_l2Particle.L) 2 (loopAt Tryz.f179 2) (stOf 42 spec_l2Particle.sp2 (x3, x4, x5, ())) (spec_l2Particle.A2.cont 42 k) = spec_l2Particle.l2 (k + 1) x3 x4 x5 := by kernel_rfl
theorem spec_l2Particle.step0 (k : Nat) (x3 : List ByteArray) (x4 : Int) : runC envX (tabC (spec_l2Particle.C k)) (tabL 42 k spec_l2Particle.L) 0 (loopAt Tryz.f179 0) (stOf 42 spec_l2Particle.sp0 (x3, x4, ())) (spec_l2Particle.A0.cont 42 k) = spec_l2Particle.l0 (k + 1) x3 x4 := by kernel_rfl
theorem spec_l2Particle.G (hE : EnvOk Tryz.prog envX) (pv : Nat → Value) (k : Nat) : ∀ cal A, spec_l2Particle.C k cal = some A → ArmOk Tryz.prog envX pv cal A := by
  intro cal A h
  unfold spec_l2Particle.C at h
  split at h
  · cases h; exact fun x y hy => spec_l1Split.good hE pv k x.1 x.2.1 hy
  · cases h; exact fun x y hy => spec_l2Word.good hE pv k x.1 hy
  · cases h; exact fun x y hy => spec_l2Lower.good hE pv x.1 hy
  · cases h
theorem spec_l2Particle.good (hE : EnvOk Tryz.prog envX) (pv : Nat → Value) (k : Nat) (a0 : ByteArray) {y : _} (h : spec_l2Particle.F k a0 = some y) : Meets Tryz.prog envX pv (.f 179) (tvals [.str] (a0, ())) (.t .bool y) :=
  fun_loops hE (t := spec_l2Particle.C) k (fun k _ => spec_l2Particle.G hE pv k) (f := 179) (fn := Tryz.f179) (by kernel_rfl) rfl (by kernel_rfl) (by kernel_rfl) (lt := spec_l2Particle.L) (by kernel_rfl) (fun b A h => by
    unfold spec_l2Particle.L at h; split at h
    · cases h; exact ⟨by kernel_rfl, by kernel_rfl, by kernel_rfl, fun _ => rfl, fun _ => rfl, fun _ => rfl⟩
    · cases h; exact ⟨by kernel_rfl, by kernel_rfl, by kernel_rfl, fun _ => rfl, fun _ => rfl, fun _ => rfl⟩
    · cases h) (fun b A h => by
    unfold spec_l2Particle.L at h; split at h
    · cases h; exact fun k x => spec_l2Particle.step2 k x.1 x.2.1 x.2.2.1
    · cases h; exact fun k x => spec_l2Particle.step0 k x.1 x.2.1
    · cases h) ((spec_l2Particle.run k a0).trans h) fun r hr => wk_view1 hr
/-! ### 138 loop.example/g00896/spec.l2Good -/
def spec_l2Good.l0 : Nat → Name → Int → Option (Sum Bool Name)
  | 0, _, _ => none
  | k + 1, x1, x3 => bif (decide (x3 < (x1.given.length : Int))) then (bif decide (0 ≤ x3) then (bif decide (x3 < (x1.given.length : Int)) then ((spec_l2Word.F k (x1.given.getD (x3 : Int).toNat (⟨#[]⟩ : ByteArray))).bind fun r1 => bif (!r1) then (some (.inl false)) else (bif decide (0 ≤ x3) then (bif decide (x3 < (x1.given.length : Int)) then (bif decide (0 ≤ 0) then (bif decide (0 < ((x1.given.getD (x3 : Int).toNat (⟨#[]⟩ : ByteArray)).size : Int)) then ((spec_l2Upper.F (bt (x1.given.getD (x3 : Int).toNat (⟨#[]⟩ : ByteArray)) (0 : Int).toNat)).bind fun r2 => bif (!r2) then (some (.inl false)) else (spec_l2Good.l0 k x1 (IntKind.wrap .i64 (x3 + 1)))) else none) else none) else none) else none)) else none) else none) else (some (.inr x1))
def spec_l2Good.F (k : Nat) (a0 : Name) : Option (Bool) := (spec_l2Good.l0 k a0 0).bind fun y3 => match y3 with | .inl z4 => some z4 | .inr z4 => bif (decide ((z4.given.length : Int) ≤ 3)) then ((spec_l2Particle.F k z4.particle).bind fun r5 => bif r5 then ((spec_l2Word.F k z4.family).bind fun r6 => bif r6 then (bif decide (0 ≤ 0) then (bif decide (0 < (z4.family.size : Int)) then ((spec_l2Upper.F (bt z4.family (0 : Int).toNat)).bind fun r7 => bif r7 then (bif (beqS z4.suffix (⟨#[]⟩ : ByteArray)) then (some true) else ((spec_l2Word.F k z4.suffix).bind fun r8 => some r8)) else (some false)) else none) else none) else (some false)) else (some false)) else (some false)
def spec_l2Good.C (k : Nat) : Cal → Option CArm := fun c => match c with
  | .f 177 => some (.p [.str] _ (fun x => spec_l2Word.F k x.1) (fun r => (.t .bool r)))
  | .f 178 => some (.p [(.int .u8)] _ (fun x => spec_l2Upper.F x.1) (fun r => (.t .bool r)))
  | .f 179 => some (.p [.str] _ (fun x => spec_l2Particle.F k x.1) (fun r => (.t .bool r)))
  | _ => none
def spec_l2Good.sp0 : List Sp := [.boxT 1 0 .name, .t 3 (.int .i64)]
def spec_l2Good.sp0_0 : List Sp := [.t 2 .bool]
def spec_l2Good.sp0_1 : List Sp := [.boxT 1 0 .name]
def spec_l2Good.A0 : LArm := .two spec_l2Good.sp0 spec_l2Good.sp0_0 spec_l2Good.sp0_1 (Bool) (Name) (fun k x => spec_l2Good.l0 k x.1 x.2.1) .ret (.exit 0) (fun y => (y, ())) (fun x => x.1) (fun y => (y, ())) (fun x => x.1)
def spec_l2Good.L : Nat → Option LArm := fun b => match b with
  | 0 => some spec_l2Good.A0
  | _ => none
theorem spec_l2Good.run (k : Nat) (a0 : Name) : runF envX (tabC (spec_l2Good.C k)) (tabL 58 k spec_l2Good.L) Tryz.f138 [.t .name a0] (viewR1 (.t .bool)) = spec_l2Good.F k a0 := by kernel_rfl
theorem spec_l2Good.step0 (k : Nat) (x1 : Name) (x3 : Int) : runC envX (tabC (spec_l2Good.C k)) (tabL 58 k spec_l2Good.L) 0 (loopAt Tryz.f138 0) (stOf 58 spec_l2Good.sp0 (x1, x3, ())) (spec_l2Good.A0.cont 58 k) = spec_l2Good.l0 (k + 1) x1 x3 := by kernel_rfl
theorem spec_l2Good.G (hE : EnvOk Tryz.prog envX) (pv : Nat → Value) (k : Nat) : ∀ cal A, spec_l2Good.C k cal = some A → ArmOk Tryz.prog envX pv cal A := by
  intro cal A h
  unfold spec_l2Good.C at h
  split at h
  · cases h; exact fun x y hy => spec_l2Word.good hE pv k x.1 hy
  · cases h; exact fun x y hy => spec_l2Upper.good hE pv x.1 hy
  · cases h; exact fun x y hy => spec_l2Particle.good hE pv k x.1 hy
  · cases h
theorem spec_l2Good.good (hE : EnvOk Tryz.prog envX) (pv : Nat → Value) (k : Nat) (a0 : Name) {y : _} (h : spec_l2Good.F k a0 = some y) : Meets Tryz.prog envX pv (.f 138) (tvals [.name] (a0, ())) (.t .bool y) :=
  fun_loops hE (t := spec_l2Good.C) k (fun k _ => spec_l2Good.G hE pv k) (f := 138) (fn := Tryz.f138) (by kernel_rfl) rfl (by kernel_rfl) (by kernel_rfl) (lt := spec_l2Good.L) (by kernel_rfl) (fun b A h => by
    unfold spec_l2Good.L at h; split at h
    · cases h; exact ⟨by kernel_rfl, by kernel_rfl, by kernel_rfl, fun _ => rfl, fun _ => rfl, fun _ => rfl⟩
    · cases h) (fun b A h => by
    unfold spec_l2Good.L at h; split at h
    · cases h; exact fun k x => spec_l2Good.step0 k x.1 x.2.1
    · cases h) ((spec_l2Good.run k a0).trans h) fun r hr => wk_view1 hr
/-! ### 101 loop.example/g00896/spec.l2List -/
def spec_l2List.l0 : Nat → (List Name) → Int → Option (Sum Bool (List Name))
  | 0, _, _ => none
  | k + 1, x0, x3 => bif (decide (x3 < (x0.length : Int))) then (bif (decide (x3 ≤ 4)) then (bif decide (0 ≤ x3) then (bif decide (x3 < (x0.length : Int)) then ((spec_l2Good.F k (x0.getD (x3 : Int).toNat (dflt .name))).bind fun r1 => bif (!r1) then (some (.inl false)) else (spec_l2List.l0 k x0 (IntKind.wrap .i64 (x3 + 1)))) else none) else none) else (some (.inr x0))) else (some (.inr x0))
def spec_l2List.F (k : Nat) (a0 : List Name) : Option (Bool) := (spec_l2List.l0 k a0 0).bind fun y2 => match y2 with | .inl z3 => some z3 | .inr z3 => some (decide ((z3.length : Int) ≤ 4))
def spec_l2List.C (k : Nat) : Cal → Option CArm := fun c => match c with
  | .f 138 => some (.p [.name] _ (fun x => spec_l2Good.F k x.1) (fun r => (.t .bool r)))
  | _ => none
def spec_l2List.sp0 : List Sp := [.t 0 (.sl .name), .t 3 (.int .i64)]
def spec_l2List.sp0_0 : List Sp := [.t 2 .bool]
def spec_l2List.sp0_1 : List Sp := [.t 0 (.sl .name)]
def spec_l2List.A0 : LArm := .two spec_l2List.sp0 spec_l2List.sp0_0 spec_l2List.sp0_1 (Bool) ((List Name)) (fun k x => spec_l2List.l0 k x.1 x.2.1) .ret (.exit 0) (fun y => (y, ())) (fun x => x.1) (fun y => (y, ())) (fun x => x.1)
def spec_l2List.L : Nat → Option LArm := fun b => match b with
  | 0 => some spec_l2List.A0
  | _ => none
theorem spec_l2List.run (k : Nat) (a0 : List Name) : runF envX (tabC (spec_l2List.C k)) (tabL 23 k spec_l2List.L) Tryz.f101 [.t (.sl .name) a0] (viewR1 (.t .bool)) = spec_l2List.F k a0 := by kernel_rfl
theorem spec_l2List.step0 (k : Nat) (x0 : List Name) (x3 : Int) : runC envX (tabC (spec_l2List.C k)) (tabL 23 k spec_l2List.L) 0 (loopAt Tryz.f101 0) (stOf 23 spec_l2List.sp0 (x0, x3, ())) (spec_l2List.A0.cont 23 k) = spec_l2List.l0 (k + 1) x0 x3 := by kernel_rfl
theorem spec_l2List.G (hE : EnvOk Tryz.prog envX) (pv : Nat → Value) (k : Nat) : ∀ cal A, spec_l2List.C k cal = some A → ArmOk Tryz.prog envX pv cal A := by
  intro cal A h
  unfold spec_l2List.C at h
  split at h
  · cases h; exact fun x y hy => spec_l2Good.good hE pv k x.1 hy
  · cases h
theorem spec_l2List.good (hE : EnvOk Tryz.prog envX) (pv : Nat → Value) (k : Nat) (a0 : List Name) {y : _} (h : spec_l2List.F k a0 = some y) : Meets Tryz.prog envX pv (.f 101) (tvals [(.sl .name)] (a0, ())) (.t .bool y) :=
  fun_loops hE (t := spec_l2List.C) k (fun k _ => spec_l2List.G hE pv k) (f := 101) (fn := Tryz.f101) (by kernel_rfl) rfl (by kernel_rfl) (by kernel_rfl) (lt := spec_l2List.L) (by kernel_rfl) (fun b A h => by
    unfold spec_l2List.L at h; split at h
    · cases h; exact ⟨by kernel_rfl, by kernel_rfl, by kernel_rfl, fun _ => rfl, fun _ => rfl, fun _ => rfl⟩
    · cases h) (fun b A h => by
    unfold spec_l2List.L at h; split at h
    · cases h; exact fun k x => spec_l2List.step0 k x.1 x.2.1
    · cases h) ((spec_l2List.run k a0).trans h) fun r hr => wk_view1 hr
/-! ### 61 loop.example/g00896/spec.l4Entry -/
def spec_l4Entry.F (k : Nat) (a0 : Entry) : Option (Bool) := (spec_l4Key.F k a0.key).bind fun r1 => bif (!r1) then (some false) else ((spec_l1In.F a0.kind 1 4).bind fun r2 => bif (!r2) then (some false) else ((spec_l2List.F k a0.authors).bind fun r3 => bif (!r3) then (some false) else ((spec_l2List.F k a0.editors).bind fun r4 => bif (!r4) then (some false) else ((spec_l4Text.F k a0.title).bind fun r5 => bif (!r5) then (some false) else ((spec_l4Text.F k a0.container).bind fun r6 => bif (!r6) then (some false) else ((spec_l4Text.F k a0.publisher).bind fun r7 => bif (!r7) then (some false) else ((spec_l4Text.F k a0.pages).bind fun r8 => bif (!r8) then (some false) else ((spec_l3Good.F a0.date).bind fun r9 => bif r9 then ((spec_l1In.F a0.volume 0 9999).bind fun r10 => bif r10 then (bif (beqS a0.cross (⟨#[]⟩ : ByteArray)) then (some true) else ((spec_l4Key.F k a0.cross).bind fun r11 => bif r11 then (some (!beqS a0.cross a0.key)) else (some false))) else (some false)) else (some false)))))))))
def spec_l4Entry.C (k : Nat) : Cal → Option CArm := fun c => match c with
  | .f 100 => some (.p [.str] _ (fun x => spec_l4Key.F k x.1) (fun r => (.t .bool r)))
  | .f 62 => some (.p [(.int .i64), (.int .i64), (.int .i64)] _ (fun x => spec_l1In.F x.1 x.2.1 x.2.2.1) (fun r => (.t .bool r)))
  | .f 101 => some (.p [(.sl .name)] _ (fun x => spec_l2List.F k x.1) (fun r => (.t .bool r)))
  | .f 52 => some (.p [.str] _ (fun x => spec_l4Text.F k x.1) (fun r => (.t .bool r)))
  | .f 67 => some (.p [.date] _ (fun x => spec_l3Good.F x.1) (fun r => (.t .bool r)))
  | _ => none
theorem spec_l4Entry.run (k : Nat) (a0 : Entry) : runF envX (tabC (spec_l4Entry.C k)) (tabL 72 0 (fun _ => none)) Tryz.f61 [.t .entry a0] (viewR1 (.t .bool)) = spec_l4Entry.F k a0 := by kernel_rfl
theorem spec_l4Entry.G (hE : EnvOk Tryz.prog envX) (pv : Nat → Value) (k : Nat) : ∀ cal A, spec_l4Entry.C k cal = some A → ArmOk Tryz.prog envX pv cal A := by
  intro cal A h
  unfold spec_l4Entry.C at h
  split at h
  · cases h; exact fun x y hy => spec_l4Key.good hE pv k x.1 hy
  · cases h; exact fun x y hy => spec_l1In.good hE pv x.1 x.2.1 x.2.2.1 hy
  · cases h; exact fun x y hy => spec_l2List.good hE pv k x.1 hy
  · cases h; exact fun x y hy => spec_l4Text.good hE pv k x.1 hy
  · cases h; exact fun x y hy => spec_l3Good.good hE pv x.1 hy
  · cases h
theorem spec_l4Entry.good (hE : EnvOk Tryz.prog envX) (pv : Nat → Value) (k : Nat) (a0 : Entry) {y : _} (h : spec_l4Entry.F k a0 = some y) : Meets Tryz.prog envX pv (.f 61) (tvals [.entry] (a0, ())) (.t .bool y) :=
  fun_plain hE (spec_l4Entry.G hE pv k) (f := 61) (fn := Tryz.f61) (by kernel_rfl) rfl (by kernel_rfl) (by kernel_rfl) ((spec_l4Entry.run k a0).trans h) fun r hr => wk_view1 hr
/-! ### 81 loop.example/g00896/spec.l4Good -/
def spec_l4Good.l0 : Nat → Library → Int → Option (Sum Bool Unit)
  | 0, _, _ => none
  | k + 1, x1, x3 => bif (decide (x3 < (x1.entries.length : Int))) then (bif decide (0 ≤ x3) then (bif decide (x3 < (x1.entries.length : Int)) then ((spec_l4Entry.F k (x1.entries.getD (x3 : Int).toNat (dflt .entry))).bind fun r1 => bif (!r1) then (some (.inl false)) else (bif (decide (x3 > 0)) then (bif decide (0 ≤ (IntKind.wrap .i64 (x3 - 1))) then (bif decide ((IntKind.wrap .i64 (x3 - 1)) < (x1.entries.length : Int)) then (bif decide (0 ≤ x3) then (bif decide (x3 < (x1.entries.length : Int)) then (bif (!ltS ((x1.entries.getD ((IntKind.wrap .i64 (x3 - 1)) : Int).toNat (dflt .entry)).key) ((x1.entries.getD (x3 : Int).toNat (dflt .entry)).key)) then (some (.inl false)) else (spec_l4Good.l0 k x1 (IntKind.wrap .i64 (x3 + 1)))) else none) else none) else none) else none) else (spec_l4Good.l0 k x1 (IntKind.wrap .i64 (x3 + 1))))) else none) else none) else (some (.inr ()))
def spec_l4Good.F (k : Nat) (a0 : Library) : Option (Bool) := bif (decide ((a0.entries.length : Int) > 8)) then (some false) else ((spec_l4Good.l0 k a0 0).bind fun y2 => match y2 with | .inl z3 => some z3 | .inr z3 => some true)
def spec_l4Good.C (k : Nat) : Cal → Option CArm := fun c => match c with
  | .f 61 => some (.p [.entry] _ (fun x => spec_l4Entry.F k x.1) (fun r => (.t .bool r)))
  | _ => none
def spec_l4Good.sp0 : List Sp := [.boxT 1 0 .lib, .t 3 (.int .i64)]
def spec_l4Good.sp0_0 : List Sp := [.t 2 .bool]
def spec_l4Good.sp0_1 : List Sp := []
def spec_l4Good.A0 : LArm := .two spec_l4Good.sp0 spec_l4Good.sp0_0 spec_l4Good.sp0_1 (Bool) (Unit) (fun k x => spec_l4Good.l0 k x.1 x.2.1) .ret (.exit 0) (fun y => (y, ())) (fun x => x.1) (fun y => ()) (fun x => ())
def spec_l4Good.L : Nat → Option LArm := fun b => match b with
  | 0 => some spec_l4Good.A0
  | _ => none
theorem spec_l4Good.run (k : Nat) (a0 : Library) : runF envX (tabC (spec_l4Good.C k)) (tabL 42 k spec_l4Good.L) Tryz.f81 [.t .lib a0] (viewR1 (.t .bool)) = spec_l4Good.F k a0 := by kernel_rfl
theorem spec_l4Good.step0 (k : Nat) (x1 : Library) (x3 : Int) : runC envX (tabC (spec_l4Good.C k)) (tabL 42 k spec_l4Good.L) 0 (loopAt Tryz.f81 0) (stOf 42 spec_l4Good.sp0 (x1, x3, ())) (spec_l4Good.A0.cont 42 k) = spec_l4Good.l0 (k + 1) x1 x3 := by kernel_rfl
theorem spec_l4Good.G (hE : EnvOk Tryz.prog envX) (pv : Nat → Value) (k : Nat) : ∀ cal A, spec_l4Good.C k cal = some A → ArmOk Tryz.prog envX pv cal A := by
  intro cal A h
  unfold spec_l4Good.C at h
  split at h
  · cases h; exact fun x y hy => spec_l4Entry.good hE pv k x.1 hy
  · cases h
theorem spec_l4Good.good (hE : EnvOk Tryz.prog envX) (pv : Nat → Value) (k : Nat) (a0 : Library) {y : _} (h : spec_l4Good.F k a0 = some y) : Meets Tryz.prog envX pv (.f 81) (tvals [.lib] (a0, ())) (.t .bool y) :=
  fun_loops hE (t := spec_l4Good.C) k (fun k _ => spec_l4Good.G hE pv k) (f := 81) (fn := Tryz.f81) (by kernel_rfl) rfl (by kernel_rfl) (by kernel_rfl) (lt := spec_l4Good.L) (by kernel_rfl) (fun b A h => by
    unfold spec_l4Good.L at h; split at h
    · cases h; exact ⟨by kernel_rfl, by kernel_rfl, by kernel_rfl, fun _ => rfl, fun _ => rfl, fun _ => rfl⟩
    · cases h) (fun b A h => by
    unfold spec_l4Good.L at h; split at h
    · cases h; exact fun k x => spec_l4Good.step0 k x.1 x.2.1
    · cases h) ((spec_l4Good.run k a0).trans h) fun r hr => wk_view1 hr
/-! ### 84 (*loop.example/g00896/spec.l1Cur).of -/
def spec_l1Cur_of.F (a0 : Cur) (a1 : List ByteArray) : Option (Cur × ByteArray) := (spec_l1Cur_pick.F a0 (a1.length : Int)).bind fun r1 => bif decide (0 ≤ r1.2) then (bif decide (r1.2 < (a1.length : Int)) then (some (r1.1, (a1.getD (r1.2 : Int).toNat (⟨#[]⟩ : ByteArray)))) else none) else none
def spec_l1Cur_of.C : Cal → Option CArm := fun c => match c with
  | .f 57 => some (.m (.bx .cur) [(.int .i64)] _ (fun x0 x => spec_l1Cur_pick.F x0 x.1) (fun r => .kep (.bx .cur r.1) (.t (.int .i64) r.2)))
  | _ => none
theorem spec_l1Cur_of.run (a0 : Cur) (a1 : List ByteArray) : runM envX (tabC spec_l1Cur_of.C) (tabL 12 0 (fun _ => none)) Tryz.f84 mbase (.bx .cur a0) [.t (.sl .str) a1] (viewK (.bx .cur) (viewR1 (.t .str))) = spec_l1Cur_of.F a0 a1 := by kernel_rfl
theorem spec_l1Cur_of.G (hE : EnvOk Tryz.prog envX) (pv : Nat → Value) : ∀ cal A, spec_l1Cur_of.C cal = some A → ArmOk Tryz.prog envX pv cal A := by
  intro cal A h
  unfold spec_l1Cur_of.C at h
  split at h
  · cases h; exact ⟨_, rfl, fun x0 x y hy => spec_l1Cur_pick.good hE pv x0 x.1 hy⟩
  · cases h
theorem spec_l1Cur_of.good (hE : EnvOk Tryz.prog envX) (pv : Nat → Value) (a0 : Cur) (a1 : List ByteArray) {y : _} (h : spec_l1Cur_of.F a0 a1 = some y) : MeetsM Tryz.prog envX pv 84 (.bx .cur a0) (tvals [(.sl .str)] (a1, ())) (.kep (.bx .cur y.1) (.t .str y.2)) :=
  funM_plain hE (spec_l1Cur_of.G hE pv) (f := 84) (fn := Tryz.f84) (by kernel_rfl) rfl (by kernel_rfl) (.inl rfl) (by kernel_rfl) ((spec_l1Cur_of.run a0 a1).trans h) fun r hr => wk_viewK (fun r y h => wk_view1 h) hr
/-! ### 56 (*loop.example/g00896/spec.l1Cur).among -/
def spec_l1Cur_among.F (a0 : Cur) (a1 : List Int) : Option (Cur × Int) := (spec_l1Cur_pick.F a0 (a1.length : Int)).bind fun r1 => bif decide (0 ≤ r1.2) then (bif decide (r1.2 < (a1.length : Int)) then (some (r1.1, (a1.getD (r1.2 : Int).toNat 0))) else none) else none
def spec_l1Cur_among.C : Cal → Option CArm := fun c => match c with
  | .f 57 => some (.m (.bx .cur) [(.int .i64)] _ (fun x0 x => spec_l1Cur_pick.F x0 x.1) (fun r => .kep (.bx .cur r.1) (.t (.int .i64) r.2)))
  | _ => none
theorem spec_l1Cur_among.run (a0 : Cur) (a1 : List Int) : runM envX (tabC spec_l1Cur_among.C) (tabL 12 0 (fun _ => none)) Tryz.f56 mbase (.bx .cur a0) [.t (.sl (.int .i64)) a1] (viewK (.bx .cur) (viewR1 (.t (.int .i64)))) = spec_l1Cur_among.F a0 a1 := by kernel_rfl
theorem spec_l1Cur_among.G (hE : EnvOk Tryz.prog envX) (pv : Nat → Value) : ∀ cal A, spec_l1Cur_among.C cal = some A → ArmOk Tryz.prog envX pv cal A := by
  intro cal A h
  unfold spec_l1Cur_among.C at h
  split at h
  · cases h; exact ⟨_, rfl, fun x0 x y hy => spec_l1Cur_pick.good hE pv x0 x.1 hy⟩
  · cases h
theorem spec_l1Cur_among.good (hE : EnvOk Tryz.prog envX) (pv : Nat → Value) (a0 : Cur) (a1 : List Int) {y : _} (h : spec_l1Cur_among.F a0 a1 = some y) : MeetsM Tryz.prog envX pv 56 (.bx .cur a0) (tvals [(.sl (.int .i64))] (a1, ())) (.kep (.bx .cur y.1) (.t (.int .i64) y.2)) :=
  funM_plain hE (spec_l1Cur_among.G hE pv) (f := 56) (fn := Tryz.f56) (by kernel_rfl) rfl (by kernel_rfl) (.inl rfl) (by kernel_rfl) ((spec_l1Cur_among.run a0 a1).trans h) fun r hr => wk_viewK (fun r y h => wk_view1 h) hr
/-! ### 93 (*loop.example/g00896/spec.l1Cur).date -/
def spec_l1Cur_date.F (a0 : Cur) : Option (Cur × Date) := (spec_l1Cur_among.F a0 ([1999, 2000, 1850, 987, 1900, 2024] : List Int)).bind fun r1 => (spec_l1Cur_pick.F r1.1 5).bind fun r2 => bif (r2.2 == 0) then (some (r2.1, (⟨0, 0, 0, false⟩ : Date))) else (bif (r2.2 == 1) then (some (r2.1, (⟨r1.2, 0, 0, true⟩ : Date))) else (bif (r2.2 == 2) then ((spec_l1Cur_pick.F r2.1 12).bind fun r3 => some (r3.1, (⟨r1.2, (IntKind.wrap .i64 (1 + r3.2)), 0, false⟩ : Date))) else (bif (r2.2 == 3) then ((spec_l1Cur_pick.F r2.1 12).bind fun r4 => (spec_l1Cur_pick.F r4.1 28).bind fun r5 => some (r5.1, (⟨r1.2, (IntKind.wrap .i64 (1 + r4.2)), (IntKind.wrap .i64 (1 + r5.2)), false⟩ : Date))) else (some (r2.1, (⟨r1.2, 0, 0, false⟩ : Date))))))
def spec_l1Cur_date.C : Cal → Option CArm := fun c => match c with
  | .f 56 => some (.m (.bx .cur) [(.sl (.int .i64))] _ (fun x0 x => spec_l1Cur_among.F x0 x.1) (fun r => .kep (.bx .cur r.1) (.t (.int .i64) r.2)))
  | .f 57 => some (.m (.bx .cur) [(.int .i64)] _ (fun x0 x => spec_l1Cur_pick.F x0 x.1) (fun r => .kep (.bx .cur r.1) (.t (.int .i64) r.2)))
  | _ => none
theorem spec_l1Cur_date.run (a0 : Cur) : runM envX (tabC spec_l1Cur_date.C) (tabL 33 0 (fun _ => none)) Tryz.f93 mbase (.bx .cur a0) [] (viewK (.bx .cur) (viewR1 (.t .date))) = spec_l1Cur_date.F a0 := by kernel_rfl
theorem spec_l1Cur_date.G (hE : EnvOk Tryz.prog envX) (pv : Nat → Value) : ∀ cal A, spec_l1Cur_date.C cal = some A → ArmOk Tryz.prog envX pv cal A := by
  intro cal A h
  unfold spec_l1Cur_date.C at h
  split at h
  · cases h; exact ⟨_, rfl, fun x0 x y hy => spec_l1Cur_among.good hE pv x0 x.1 hy⟩
  · cases h; exact ⟨_, rfl, fun x0 x y hy => spec_l1Cur_pick.good hE pv x0 x.1 hy⟩
  · cases h
theorem spec_l1Cur_date.good (hE : EnvOk Tryz.prog envX) (pv : Nat → Value) (a0 : Cur) {y : _} (h : spec_l1Cur_date.F a0 = some y) : MeetsM Tryz.prog envX pv 93 (.bx .cur a0) (tvals [] (())) (.kep (.bx .cur y.1) (.t .date y.2)) :=
  funM_plain hE (spec_l1Cur_date.G hE pv) (f := 93) (fn := Tryz.f93) (by kernel_rfl) rfl (by kernel_rfl) (.inl rfl) (by kernel_rfl) ((spec_l1Cur_date.run a0).trans h) fun r hr => wk_viewK (fun r y h => wk_view1 h) hr
/-! ### 64 (*loop.example/g00896/spec.l1Cur).anyDate -/
def spec_l1Cur_anyDate.F (a0 : Cur) : Option (Cur × Date) := (spec_l1Cur_date.F a0).bind fun r1 => (spec_l1Cur_pick.F r1.1 14).bind fun r2 => bif (r2.2 == 0) then ((spec_l1Cur_among.F r2.1 ([0, (-1), 2999, 3000, 1] : List Int)).bind fun r3 => some (r3.1, (⟨r3.2, r1.2.m, r1.2.d, r1.2.c⟩ : Date))) else (bif (r2.2 == 1) then ((spec_l1Cur_among.F r2.1 ([13, (-1), 2] : List Int)).bind fun r4 => some (r4.1, (⟨r1.2.y, r4.2, r1.2.d, r1.2.c⟩ : Date))) else (bif (r2.2 == 2) then ((spec_l1Cur_among.F r2.1 ([29, 30, 31, 32, (-1)] : List Int)).bind fun r5 => some (r5.1, (⟨r1.2.y, r1.2.m, r5.2, r1.2.c⟩ : Date))) else (bif (r2.2 == 3) then (some (r2.1, (⟨r1.2.y, r1.2.m, r1.2.d, (!r1.2.c)⟩ : Date))) else (some (r2.1, r1.2)))))
def spec_l1Cur_anyDate.C : Cal → Option CArm := fun c => match c with
  | .f 93 => some (.m (.bx .cur) [] _ (fun x0 x => spec_l1Cur_date.F x0) (fun r => .kep (.bx .cur r.1) (.t .date r.2)))
  | .f 57 => some (.m (.bx .cur) [(.int .i64)] _ (fun x0 x => spec_l1Cur_pick.F x0 x.1) (fun r => .kep (.bx .cur r.1) (.t (.int .i64) r.2)))
  | .f 56 => some (.m (.bx .cur) [(.sl (.int .i64))] _ (fun x0 x => spec_l1Cur_among.F x0 x.1) (fun r => .kep (.bx .cur r.1) (.t (.int .i64) r.2)))
  | _ => none
theorem spec_l1Cur_anyDate.run (a0 : Cur) : runM envX (tabC spec_l1Cur_anyDate.C) (tabL 33 0 (fun _ => none)) Tryz.f64 mbase (.bx .cur a0) [] (viewK (.bx .cur) (viewR1 (.t .date))) = spec_l1Cur_anyDate.F a0 := by kernel_rfl
theorem spec_l1Cur_anyDate.G (hE : EnvOk Tryz.prog envX) (pv : Nat → Value) : ∀ cal A, spec_l1Cur_anyDate.C cal = some A → ArmOk Tryz.prog envX pv cal A := by
  intro cal A h
  unfold spec_l1Cur_anyDate.C at h
  split at h
  · cases h; exact ⟨_, rfl, fun x0 x y hy => spec_l1Cur_date.good hE pv x0 hy⟩
  · cases h; exact ⟨_, rfl, fun x0 x y hy => spec_l1Cur_pick.good hE pv x0 x.1 hy⟩
  · cases h; exact ⟨_, rfl, fun x0 x y hy => spec_l1Cur_among.good hE pv x0 x.1 hy⟩
  · cases h
theorem spec_l1Cur_anyDate.good (hE : EnvOk Tryz.prog envX) (pv : Nat → Value) (a0 : Cur) {y : _} (h : spec_l1Cur_anyDate.F a0 = some y) : MeetsM Tryz.prog envX pv 64 (.bx .cur a0) (tvals [] (())) (.kep (.bx .cur y.1) (.t .date y.2)) :=
  funM_plain hE (spec_l1Cur_anyDate.G hE pv) (f := 64) (fn := Tryz.f64) (by kernel_rfl) rfl (by kernel_rfl) (.inl rfl) (by kernel_rfl) ((spec_l1Cur_anyDate.run a0).trans h) fun r hr => wk_viewK (fun r y h => wk_view1 h) hr
/-! ### 130 (*loop.example/g00896/spec.l1Cur).name -/
def spec_l1Cur_name.l0 : Nat → Cur → (List ByteArray) → ByteArray → ByteArray → ByteArray → (List ByteArray) → ByteArray → ByteArray → ByteArray → Int → Option (Cur × (List ByteArray) × ByteArray × ByteArray × ByteArray × (List ByteArray) × ByteArray × ByteArray × ByteArray)
  | 0, _, _, _, _, _, _, _, _, _, _ => none
  | k + 1, x0, x2_0, x2_1, x2_2, x2_3, x3_0, x3_1, x3_2, x3_3, x4 => bif (decide (x4 > 0)) then ((spec_l1Cur_of.F x0 ([(⟨#[65, 110, 110, 97]⟩ : ByteArray), (⟨#[65]⟩ : ByteArray), (⟨#[74, 101, 97, 110, 45, 80, 97, 117, 108]⟩ : ByteArray), (⟨#[77, 97, 114, 105, 97]⟩ : ByteArray), (⟨#[66]⟩ : ByteArray), (⟨#[66, 101, 110]⟩ : ByteArray), (⟨#[74, 101, 97, 110, 45, 112, 97, 117, 108]⟩ : ByteArray)] : List ByteArray)).bind fun r3 => bif room (x3_0.length + ([r3.2] : List ByteArray).length) .str then (spec_l1Cur_name.l0 k r3.1 x2_0 x2_1 x2_2 x2_3 (x3_0 ++ ([r3.2] : List ByteArray)) x3_1 x3_2 x3_3 (IntKind.wrap .i64 (x4 - 1))) else none) else (some (x0, x2_0, x2_1, x2_2, x2_3, x3_0, x3_1, x3_2, x3_3))
def spec_l1Cur_name.F (k : Nat) (a0 : Cur) : Option (Cur × Name) := bif decide (0 ≤ 5) then (bif decide (5 ≤ (([(⟨#[66, 101, 114, 103]⟩ : ByteArray), (⟨#[83, 109, 105, 116, 104]⟩ : ByteArray), (⟨#[79, 39, 78, 101, 105, 108, 108]⟩ : ByteArray), (⟨#[76, 101, 101]⟩ : ByteArray), (⟨#[66, 101, 114, 103, 45, 72, 97, 108, 108]⟩ : ByteArray), (⟨#[115, 109, 105, 116, 104, 115, 111, 110]⟩ : ByteArray)] : List ByteArray).length : Int)) then ((spec_l1Cur_of.F a0 (([(⟨#[66, 101, 114, 103]⟩ : ByteArray), (⟨#[83, 109, 105, 116, 104]⟩ : ByteArray), (⟨#[79, 39, 78, 101, 105, 108, 108]⟩ : ByteArray), (⟨#[76, 101, 101]⟩ : ByteArray), (⟨#[66, 101, 114, 103, 45, 72, 97, 108, 108]⟩ : ByteArray), (⟨#[115, 109, 105, 116, 104, 115, 111, 110]⟩ : ByteArray)] : List ByteArray).take (5 : Int).toNat)).bind fun r1 => (spec_l1Cur_pick.F r1.1 3).bind fun r2 => (spec_l1Cur_name.l0 k r2.1 ([] : List ByteArray) (⟨#[]⟩ : ByteArray) (⟨#[]⟩ : ByteArray) (⟨#[]⟩ : ByteArray) ([]) (⟨#[]⟩ : ByteArray) r1.2 (⟨#[]⟩ : ByteArray) r2.2).bind fun y4 => (spec_l1Cur_one.F y4.1 3).bind fun r5 => bif r5.2 then ((spec_l1Cur_of.F r5.1 ([(⟨#[118, 97, 110]⟩ : ByteArray), (⟨#[100, 101]⟩ : ByteArray), (⟨#[118, 97, 110, 32, 100, 101, 114]⟩ : ByteArray)] : List ByteArray)).bind fun r6 => (spec_l1Cur_one.F r6.1 5).bind fun r7 => bif r7.2 then ((spec_l1Cur_of.F r7.1 ([(⟨#[74, 114]⟩ : ByteArray), (⟨#[73, 73, 73]⟩ : ByteArray), (⟨#[106, 114]⟩ : ByteArray)] : List ByteArray)).bind fun r8 => some (r8.1, (⟨y4.2.2.2.2.2.1, r6.2, y4.2.2.2.2.2.2.2.1, r8.2⟩ : Name))) else (some (r7.1, (⟨y4.2.2.2.2.2.1, r6.2, y4.2.2.2.2.2.2.2.1, y4.2.2.2.2.2.2.2.2⟩ : Name)))) else ((spec_l1Cur_one.F r5.1 5).bind fun r9 => bif r9.2 then ((spec_l1Cur_of.F r9.1 ([(⟨#[74, 114]⟩ : ByteArray), (⟨#[73, 73, 73]⟩ : ByteArray), (⟨#[106, 114]⟩ : ByteArray)] : List ByteArray)).bind fun r10 => some (r10.1, (⟨y4.2.2.2.2.2.1, y4.2.2.2.2.2.2.1, y4.2.2.2.2.2.2.2.1, r10.2⟩ : Name))) else (some (r9.1, (⟨y4.2.2.2.2.2.1, y4.2.2.2.2.2.2.1, y4.2.2.2.2.2.2.2.1, y4.2.2.2.2.2.2.2.2⟩ : Name))))) else none) else none
def spec_l1Cur_name.C (k : Nat) : Cal → Option CArm := fun c => match c with
  | .f 84 => some (.m (.bx .cur) [(.sl .str)] _ (fun x0 x => spec_l1Cur_of.F x0 x.1) (fun r => .kep (.bx .cur r.1) (.t .str r.2)))
  | .f 57 => some (.m (.bx .cur) [(.int .i64)] _ (fun x0 x => spec_l1Cur_pick.F x0 x.1) (fun r => .kep (.bx .cur r.1) (.t (.int .i64) r.2)))
  | .f 48 => some (.m (.bx .cur) [(.int .i64)] _ (fun x0 x => spec_l1Cur_one.F x0 x.1) (fun r => .kep (.bx .cur r.1) (.t .bool r.2)))
  | _ => none
def spec_l1Cur_name.sp0 : List Sp := [.boxT 0 1099511627776 .cur, .boxF 2 0 .name [.t (.sl .str), .t .str, .t .str, .t .str], .boxF 3 1044 .name [.own 1099511627827 9 .str false true, .t .str, .t .str, .t .str], .t 4 (.int .i64)]
def spec_l1Cur_name.sp0_0 : List Sp := [.boxT 0 1099511627776 .cur, .boxF 2 0 .name [.t (.sl .str), .t .str, .t .str, .t .str], .boxF 3 1044 .name [.own 1099511627827 9 .str false true, .t .str, .t .str, .t .str]]
def spec_l1Cur_name.A0 : LArm := .one spec_l1Cur_name.sp0 spec_l1Cur_name.sp0_0 (Cur × (List ByteArray) × ByteArray × ByteArray × ByteArray × (List ByteArray) × ByteArray × ByteArray × ByteArray) (fun k x => spec_l1Cur_name.l0 k x.1 x.2.1.1 x.2.1.2.1 x.2.1.2.2.1 x.2.1.2.2.2.1 x.2.2.1.1 x.2.2.1.2.1 x.2.2.1.2.2.1 x.2.2.1.2.2.2.1 x.2.2.2.1) (.exit 0) (fun y => (y.1, (y.2.1, y.2.2.1, y.2.2.2.1, y.2.2.2.2.1, ()), (y.2.2.2.2.2.1, y.2.2.2.2.2.2.1, y.2.2.2.2.2.2.2.1, y.2.2.2.2.2.2.2.2, ()), ())) (fun x => (x.1, x.2.1.1, x.2.1.2.1, x.2.1.2.2.1, x.2.1.2.2.2.1, x.2.2.1.1, x.2.2.1.2.1, x.2.2.1.2.2.1, x.2.2.1.2.2.2.1))
def spec_l1Cur_name.L : Nat → Option LArm := fun b => match b with
  | 0 => some spec_l1Cur_name.A0
  | _ => none
theorem spec_l1Cur_name.run (k : Nat) (a0 : Cur) : runM envX (tabC (spec_l1Cur_name.C k)) (tabL 37 k spec_l1Cur_name.L) Tryz.f130 mbase (.bx .cur a0) [] (viewK (.bx .cur) (viewR1 (.sf .name 9))) = spec_l1Cur_name.F k a0 := by kernel_rfl
theorem spec_l1Cur_name.step0 (k : Nat) (x0 : Cur) (x2_0 : List ByteArray) (x2_1 : ByteArray) (x2_2 : ByteArray) (x2_3 : ByteArray) (x3_0 : List ByteArray) (x3_1 : ByteArray) (x3_2 : ByteArray) (x3_3 : ByteArray) (x4 : Int) : runC envX (tabC (spec_l1Cur_name.C k)) (tabL 37 k spec_l1Cur_name.L) 0 (loopAt Tryz.f130 0) (stOf 37 spec_l1Cur_name.sp0 (x0, (x2_0, x2_1, x2_2, x2_3, ()), (x3_0, x3_1, x3_2, x3_3, ()), x4, ())) (spec_l1Cur_name.A0.cont 37 k) = spec_l1Cur_name.l0 (k + 1) x0 x2_0 x2_1 x2_2 x2_3 x3_0 x3_1 x3_2 x3_3 x4 := by kernel_rfl
theorem spec_l1Cur_name.G (hE : EnvOk Tryz.prog envX) (pv : Nat → Value) (k : Nat) : ∀ cal A, spec_l1Cur_name.C k cal = some A → ArmOk Tryz.prog envX pv cal A := by
  intro cal A h
  unfold spec_l1Cur_name.C at h
  split at h
  · cases h; exact ⟨_, rfl, fun x0 x y hy => spec_l1Cur_of.good hE pv x0 x.1 hy⟩
  · cases h; exact ⟨_, rfl, fun x0 x y hy => spec_l1Cur_pick.good hE pv x0 x.1 hy⟩
  · cases h; exact ⟨_, rfl, fun x0 x y hy => spec_l1Cur_one.good hE pv x0 x.1 hy⟩
  · cases h
theorem spec_l1Cur_name.good (hE : EnvOk Tryz.prog envX) (pv : Nat → Value) (k : Nat) (a0 : Cur) {y : _} (h : spec_l1Cur_name.F k a0 = some y) : MeetsM Tryz.prog envX pv 130 (.bx .cur a0) (tvals [] (())) (.kep (.bx .cur y.1) (sfV 9 .name y.2)) :=
  funM_loops hE (t := spec_l1Cur_name.C) k (fun k _ => spec_l1Cur_name.G hE pv k) (f := 130) (fn := Tryz.f130) (by kernel_rfl) rfl (by kernel_rfl) (.inl rfl) (by kernel_rfl) (lt := spec_l1Cur_name.L) (by kernel_rfl) (fun b A h => by
    unfold spec_l1Cur_name.L at h; split at h
    · cases h; exact ⟨by kernel_rfl, by kernel_rfl, fun _ => rfl, fun _ => rfl⟩
    · cases h) (fun b A h => by
    unfold spec_l1Cur_name.L at h; split at h
    · cases h; exact fun k x => spec_l1Cur_name.step0 k x.1 x.2.1.1 x.2.1.2.1 x.2.1.2.2.1 x.2.1.2.2.2.1 x.2.2.1.1 x.2.2.1.2.1 x.2.2.1.2.2.1 x.2.2.1.2.2.2.1 x.2.2.2.1
    · cases h) ((spec_l1Cur_name.run k a0).trans h) fun r hr => wk_viewK (fun r y h => wk_view1 h) hr
/-! ### 94 (*loop.example/g00896/spec.l1Cur).names -/
def spec_l1Cur_names.l0 : Nat → Cur → (List Name) → Int → Option (Cur × (List Name))
  | 0, _, _, _ => none
  | k + 1, x0, x3, x4 => bif (decide (x4 > 0)) then ((spec_l1Cur_name.F k x0).bind fun r2 => bif room (x3.length + ([(⟨r2.2.given, r2.2.particle, r2.2.family, r2.2.suffix⟩ : Name)] : List Name).length) .name then (spec_l1Cur_names.l0 k r2.1 (x3 ++ ([(⟨r2.2.given, r2.2.particle, r2.2.family, r2.2.suffix⟩ : Name)] : List Name)) (IntKind.wrap .i64 (x4 - 1))) else none) else (some (x0, x3))
def spec_l1Cur_names.F (k : Nat) (a0 : Cur) : Option (Cur × List Name) := (spec_l1Cur_pick.F a0 4).bind fun r1 => (spec_l1Cur_names.l0 k r1.1 ([] : List Name) r1.2).bind fun y3 => some (y3.1, y3.2)
def spec_l1Cur_names.C (k : Nat) : Cal → Option CArm := fun c => match c with
  | .f 57 => some (.m (.bx .cur) [(.int .i64)] _ (fun x0 x => spec_l1Cur_pick.F x0 x.1) (fun r => .kep (.bx .cur r.1) (.t (.int .i64) r.2)))
  | .f 130 => some (.m (.bx .cur) [] _ (fun x0 x => spec_l1Cur_name.F k x0) (fun r => .kep (.bx .cur r.1) (sfV 9 .name r.2)))
  | _ => none
def spec_l1Cur_names.sp0 : List Sp := [.boxT 0 1099511627776 .cur, .own 3 1024 130 .name false true, .t 4 (.int .i64)]
def spec_l1Cur_names.sp0_0 : List Sp := [.boxT 0 1099511627776 .cur, .own 3 1024 130 .name false true]
def spec_l1Cur_names.A0 : LArm := .one spec_l1Cur_names.sp0 spec_l1Cur_names.sp0_0 (Cur × (List Name)) (fun k x => spec_l1Cur_names.l0 k x.1 x.2.1 x.2.2.1) (.exit 0) (fun y => (y.1, y.2, ())) (fun x => (x.1, x.2.1))
def spec_l1Cur_names.L : Nat → Option LArm := fun b => match b with
  | 0 => some spec_l1Cur_names.A0
  | _ => none
theorem spec_l1Cur_names.run (k : Nat) (a0 : Cur) : runM envX (tabC (spec_l1Cur_names.C k)) (tabL 18 k spec_l1Cur_names.L) Tryz.f94 mbase (.bx .cur a0) [] (viewK (.bx .cur) (viewR1 (.fr 130 .name))) = spec_l1Cur_names.F k a0 := by kernel_rfl
theorem spec_l1Cur_names.step0 (k : Nat) (x0 : Cur) (x3 : List Name) (x4 : Int) : runC envX (tabC (spec_l1Cur_names.C k)) (tabL 18 k spec_l1Cur_names.L) 0 (loopAt Tryz.f94 0) (stOf 18 spec_l1Cur_names.sp0 (x0, x3, x4, ())) (spec_l1Cur_names.A0.cont 18 k) = spec_l1Cur_names.l0 (k + 1) x0 x3 x4 := by kernel_rfl
theorem spec_l1Cur_names.G (hE : EnvOk Tryz.prog envX) (pv : Nat → Value) (k : Nat) : ∀ cal A, spec_l1Cur_names.C k cal = some A → ArmOk Tryz.prog envX pv cal A := by
  intro cal A h
  unfold spec_l1Cur_names.C at h
  split at h
  · cases h; exact ⟨_, rfl, fun x0 x y hy => spec_l1Cur_pick.good hE pv x0 x.1 hy⟩
  · cases h; exact ⟨_, rfl, fun x0 x y hy => spec_l1Cur_name.good hE pv k x0 hy⟩
  · cases h
theorem spec_l1Cur_names.good (hE : EnvOk Tryz.prog envX) (pv : Nat → Value) (k : Nat) (a0 : Cur) {y : _} (h : spec_l1Cur_names.F k a0 = some y) : MeetsM Tryz.prog envX pv 94 (.bx .cur a0) (tvals [] (())) (.kep (.bx .cur y.1) (.fr 130 .name y.2)) :=
  funM_loops hE (t := spec_l1Cur_names.C) k (fun k _ => spec_l1Cur_names.G hE pv k) (f := 94) (fn := Tryz.f94) (by kernel_rfl) rfl (by kernel_rfl) (.inl rfl) (by kernel_rfl) (lt := spec_l1Cur_names.L) (by kernel_rfl) (fun b A h => by
    unfold spec_l1Cur_names.L at h; split at h
    · cases h; exact ⟨by kernel_rfl, by kernel_rfl, fun _ => rfl, fun _ => rfl⟩
    · cases h) (fun b A h => by
    unfold spec_l1Cur_names.L at h; split at h
    · cases h; exact fun k x => spec_l1Cur_names.step0 k x.1 x.2.1 x.2.2.1
    · cases h) ((spec_l1Cur_names.run k a0).trans h) fun r hr => wk_viewK (fun r y h => wk_view1 h) hr
/-! ### 128 loop.example/g00896/spec.l4Titles -/
def spec_l4Titles.F : Option (List ByteArray) := some ([(⟨#[79, 110, 32, 114, 105, 118, 101, 114, 115]⟩ : ByteArray), (⟨#[65, 32, 104, 105, 115, 116, 111, 114, 121, 32, 111, 102, 32, 109, 97, 112, 115]⟩ : ByteArray), (⟨#[84, 104, 101, 32, 110, 111, 114, 116, 104]⟩ : ByteArray), (⟨#[79, 108, 100, 32, 114, 111, 97, 100, 115, 58, 32, 97, 32, 103, 117, 105, 100, 101]⟩ : ByteArray), (⟨#[79, 110, 32, 114, 105, 118, 101, 114, 115]⟩ : ByteArray), (⟨#[]⟩ : ByteArray)] : List ByteArray)
def spec_l4Titles.C : Cal → Option CArm := fun c => match c with
  | _ => none
theorem spec_l4Titles.run : runF envX (tabC spec_l4Titles.C) (tabL 2 0 (fun _ => none)) Tryz.f128 [] (viewR1 (.fr 9 .str)) = spec_l4Titles.F := by kernel_rfl
theorem spec_l4Titles.G (hE : EnvOk Tryz.prog envX) (pv : Nat → Value) : ∀ cal A, spec_l4Titles.C cal = some A → ArmOk Tryz.prog envX pv cal A := by
  intro cal A h
  unfold spec_l4Titles.C at h
  cases h
theorem spec_l4Titles.good (hE : EnvOk Tryz.prog envX) (pv : Nat → Value) {y : _} (h : spec_l4Titles.F = some y) : Meets Tryz.prog envX pv (.f 128) (tvals [] (())) (.fr 9 .str y) :=
  fun_plain hE (spec_l4Titles.G hE pv) (f := 128) (fn := Tryz.f128) (by kernel_rfl) rfl (by kernel_rfl) (by kernel_rfl) ((spec_l4Titles.run).trans h) fun r hr => wk_view1 hr
/-! ### 89 (*loop.example/g00896/spec.l1Cur).entry -/
def spec_l1Cur_entry.F (k : Nat) (a0 : Cur) : Option (Cur × Entry) := (spec_l1Cur_of.F a0 ([(⟨#[97, 49]⟩ : ByteArray), (⟨#[98, 50]⟩ : ByteArray), (⟨#[99, 51]⟩ : ByteArray), (⟨#[100, 52]⟩ : ByteArray), (⟨#[101, 53]⟩ : ByteArray), (⟨#[102, 54]⟩ : ByteArray)] : List ByteArray)).bind fun r1 => (spec_l1Cur_pick.F r1.1 4).bind fun r2 => (spec_l1Cur_names.F k r2.1).bind fun r3 => (spec_l4Titles.F).bind fun r4 => (spec_l1Cur_of.F r3.1 r4).bind fun r5 => (spec_l1Cur_date.F r5.1).bind fun r6 => (spec_l1Cur_one.F r6.1 3).bind fun r7 => bif r7.2 then ((spec_l1Cur_names.F k r7.1).bind fun r8 => (spec_l1Cur_one.F r8.1 3).bind fun r9 => bif (!r9.2) then ((spec_l1Cur_of.F r9.1 ([(⟨#[74, 111, 117, 114, 110, 97, 108, 32, 111, 102, 32, 77, 97, 112, 115]⟩ : ByteArray), (⟨#[65, 110, 110, 97, 108, 115]⟩ : ByteArray), (⟨#[69, 115, 115, 97, 121, 115, 32, 111, 110, 32, 108, 97, 110, 100]⟩ : ByteArray)] : List ByteArray)).bind fun r10 => (spec_l1Cur_among.F r10.1 ([0, 1, 7, 12, 9999] : List Int)).bind fun r11 => (spec_l1Cur_of.F r11.1 ([(⟨#[]⟩ : ByteArray), (⟨#[49, 45, 57]⟩ : ByteArray), (⟨#[55, 55]⟩ : ByteArray), (⟨#[49, 50, 48, 45, 49, 51, 53]⟩ : ByteArray)] : List ByteArray)).bind fun r12 => (spec_l1Cur_one.F r12.1 3).bind fun r13 => bif (!r13.2) then ((spec_l1Cur_of.F r13.1 ([(⟨#[78, 111, 114, 116, 104, 32, 80, 114, 101, 115, 115]⟩ : ByteArray), (⟨#[72, 97, 108, 108]⟩ : ByteArray), (⟨#[76, 97, 110, 101, 32, 38, 32, 67, 111]⟩ : ByteArray)] : List ByteArray)).bind fun r14 => (spec_l1Cur_one.F r14.1 4).bind fun r15 => bif r15.2 then ((spec_l1Cur_of.F r15.1 ([(⟨#[97, 48]⟩ : ByteArray), (⟨#[98, 49]⟩ : ByteArray), (⟨#[122, 57]⟩ : ByteArray)] : List ByteArray)).bind fun r16 => some (r16.1, (⟨r1.2, (IntKind.wrap .i64 (1 + r2.2)), r3.2, r8.2, r5.2, r10.2, r14.2, r6.2, r11.2, r12.2, r16.2⟩ : Entry))) else (some (r15.1, (⟨r1.2, (IntKind.wrap .i64 (1 + r2.2)), r3.2, r8.2, r5.2, r10.2, r14.2, r6.2, r11.2, r12.2, (⟨#[]⟩ : ByteArray)⟩ : Entry)))) else ((spec_l1Cur_one.F r13.1 4).bind fun r17 => bif r17.2 then ((spec_l1Cur_of.F r17.1 ([(⟨#[97, 48]⟩ : ByteArray), (⟨#[98, 49]⟩ : ByteArray), (⟨#[122, 57]⟩ : ByteArray)] : List ByteArray)).bind fun r18 => some (r18.1, (⟨r1.2, (IntKind.wrap .i64 (1 + r2.2)), r3.2, r8.2, r5.2, r10.2, (⟨#[]⟩ : ByteArray), r6.2, r11.2, r12.2, r18.2⟩ : Entry))) else (some (r17.1, (⟨r1.2, (IntKind.wrap .i64 (1 + r2.2)), r3.2, r8.2, r5.2, r10.2, (⟨#[]⟩ : ByteArray), r6.2, r11.2, r12.2, (⟨#[]⟩ : ByteArray)⟩ : Entry))))) else ((spec_l1Cur_one.F r9.1 3).bind fun r19 => bif (!r19.2) then ((spec_l1Cur_of.F r19.1 ([(⟨#[78, 111, 114, 116, 104, 32, 80, 114, 101, 115, 115]⟩ : ByteArray), (⟨#[72, 97, 108, 108]⟩ : ByteArray), (⟨#[76, 97, 110, 101, 32, 38, 32, 67, 111]⟩ : ByteArray)] : List ByteArray)).bind fun r20 => (spec_l1Cur_one.F r20.1 4).bind fun r21 => bif r21.2 then ((spec_l1Cur_of.F r21.1 ([(⟨#[97, 48]⟩ : ByteArray), (⟨#[98, 49]⟩ : ByteArray), (⟨#[122, 57]⟩ : ByteArray)] : List ByteArray)).bind fun r22 => some (r22.1, (⟨r1.2, (IntKind.wrap .i64 (1 + r2.2)), r3.2, r8.2, r5.2, (⟨#[]⟩ : ByteArray), r20.2, r6.2, 0, (⟨#[]⟩ : ByteArray), r22.2⟩ : Entry))) else (some (r21.1, (⟨r1.2, (IntKind.wrap .i64 (1 + r2.2)), r3.2, r8.2, r5.2, (⟨#[]⟩ : ByteArray), r20.2, r6.2, 0, (⟨#[]⟩ : ByteArray), (⟨#[]⟩ : ByteArray)⟩ : Entry)))) else ((spec_l1Cur_one.F r19.1 4).bind fun r23 => bif r23.2 then ((spec_l1Cur_of.F r23.1 ([(⟨#[97, 48]⟩ : ByteArray), (⟨#[98, 49]⟩ : ByteArray), (⟨#[122, 57]⟩ : ByteArray)] : List ByteArray)).bind fun r24 => some (r24.1, (⟨r1.2, (IntKind.wrap .i64 (1 + r2.2)), r3.2, r8.2, r5.2, (⟨#[]⟩ : ByteArray), (⟨#[]⟩ : ByteArray), r6.2, 0, (⟨#[]⟩ : ByteArray), r24.2⟩ : Entry))) else (some (r23.1, (⟨r1.2, (IntKind.wrap .i64 (1 + r2.2)), r3.2, r8.2, r5.2, (⟨#[]⟩ : ByteArray), (⟨#[]⟩ : ByteArray), r6.2, 0, (⟨#[]⟩ : ByteArray), (⟨#[]⟩ : ByteArray)⟩ : Entry)))))) else ((spec_l1Cur_one.F r7.1 3).bind fun r25 => bif (!r25.2) then ((spec_l1Cur_of.F r25.1 ([(⟨#[74, 111, 117, 114, 110, 97, 108, 32, 111, 102, 32, 77, 97, 112, 115]⟩ : ByteArray), (⟨#[65, 110, 110, 97, 108, 115]⟩ : ByteArray), (⟨#[69, 115, 115, 97, 121, 115, 32, 111, 110, 32, 108, 97, 110, 100]⟩ : ByteArray)] : List ByteArray)).bind fun r26 => (spec_l1Cur_among.F r26.1 ([0, 1, 7, 12, 9999] : List Int)).bind fun r27 => (spec_l1Cur_of.F r27.1 ([(⟨#[]⟩ : ByteArray), (⟨#[49, 45, 57]⟩ : ByteArray), (⟨#[55, 55]⟩ : ByteArray), (⟨#[49, 50, 48, 45, 49, 51, 53]⟩ : ByteArray)] : List ByteArray)).bind fun r28 => (spec_l1Cur_one.F r28.1 3).bind fun r29 => bif (!r29.2) then ((spec_l1Cur_of.F r29.1 ([(⟨#[78, 111, 114, 116, 104, 32, 80, 114, 101, 115, 115]⟩ : ByteArray), (⟨#[72, 97, 108, 108]⟩ : ByteArray), (⟨#[76, 97, 110, 101, 32, 38, 32, 67, 111]⟩ : ByteArray)] : List ByteArray)).bind fun r30 => (spec_l1Cur_one.F r30.1 4).bind fun r31 => bif r31.2 then ((spec_l1Cur_of.F r31.1 ([(⟨#[97, 48]⟩ : ByteArray), (⟨#[98, 49]⟩ : ByteArray), (⟨#[122, 57]⟩ : ByteArray)] : List ByteArray)).bind fun r32 => some (r32.1, (⟨r1.2, (IntKind.wrap .i64 (1 + r2.2)), r3.2, ([] : List Name), r5.2, r26.2, r30.2, r6.2, r27.2, r28.2, r32.2⟩ : Entry))) else (some (r31.1, (⟨r1.2, (IntKind.wrap .i64 (1 + r2.2)), r3.2, ([] : List Name), r5.2, r26.2, r30.2, r6.2, r27.2, r28.2, (⟨#[]⟩ : ByteArray)⟩ : Entry)))) else ((spec_l1Cur_one.F r29.1 4).bind fun r33 => bif r33.2 then ((spec_l1Cur_of.F r33.1 ([(⟨#[97, 48]⟩ : ByteArray), (⟨#[98, 49]⟩ : ByteArray), (⟨#[122, 57]⟩ : ByteArray)] : List ByteArray)).bind fun r34 => some (r34.1, (⟨r1.2, (IntKind.wrap .i64 (1 + r2.2)), r3.2, ([] : List Name), r5.2, r26.2, (⟨#[]⟩ : ByteArray), r6.2, r27.2, r28.2, r34.2⟩ : Entry))) else (some (r33.1, (⟨r1.2, (IntKind.wrap .i64 (1 + r2.2)), r3.2, ([] : List Name), r5.2, r26.2, (⟨#[]⟩ : ByteArray), r6.2, r27.2, r28.2, (⟨#[]⟩ : ByteArray)⟩ : Entry))))) else ((spec_l1Cur_one.F r25.1 3).bind fun r35 => bif (!r35.2) then ((spec_l1Cur_of.F r35.1 ([(⟨#[78, 111, 114, 116, 104, 32, 80, 114, 101, 115, 115]⟩ : ByteArray), (⟨#[72, 97, 108, 108]⟩ : ByteArray), (⟨#[76, 97, 110, 101, 32, 38, 32, 67, 111]⟩ : ByteArray)] : List ByteArray)).bind fun r36 => (spec_l1Cur_one.F r36.1 4).bind fun r37 => bif r37.2 then ((spec_l1Cur_of.F r37.1 ([(⟨#[97, 48]⟩ : ByteArray), (⟨#[98, 49]⟩ : ByteArray), (⟨#[122, 57]⟩ : ByteArray)] : List ByteArray)).bind fun r38 => some (r38.1, (⟨r1.2, (IntKind.wrap .i64 (1 + r2.2)), r3.2, ([] : List Name), r5.2, (⟨#[]⟩ : ByteArray), r36.2, r6.2, 0, (⟨#[]⟩ : ByteArray), r38.2⟩ : Entry))) else (some (r37.1, (⟨r1.2, (IntKind.wrap .i64 (1 + r2.2)), r3.2, ([] : List Name), r5.2, (⟨#[]⟩ : ByteArray), r36.2, r6.2, 0, (⟨#[]⟩ : ByteArray), (⟨#[]⟩ : ByteArray)⟩ : Entry)))) else ((spec_l1Cur_one.F r35.1 4).bind fun r39 => bif r39.2 then ((spec_l1Cur_of.F r39.1 ([(⟨#[97, 48]⟩ : ByteArray), (⟨#[98, 49]⟩ : ByteArray), (⟨#[122, 57]⟩ : ByteArray)] : List ByteArray)).bind fun r40 => some (r40.1, (⟨r1.2, (IntKind.wrap .i64 (1 + r2.2)), r3.2, ([] : List Name), r5.2, (⟨#[]⟩ : ByteArray), (⟨#[]⟩ : ByteArray), r6.2, 0, (⟨#[]⟩ : ByteArray), r40.2⟩ : Entry))) else (some (r39.1, (⟨r1.2, (IntKind.wrap .i64 (1 + r2.2)), r3.2, ([] : List Name), r5.2, (⟨#[]⟩ : ByteArray), (⟨#[]⟩ : ByteArray), r6.2, 0, (⟨#[]⟩ : ByteArray), (⟨#[]⟩ : ByteArray)⟩ : Entry))))))
def spec_l1Cur_entry.C (k : Nat) : Cal → Option CArm := fun c => match c with
  | .f 84 => some (.m (.bx .cur) [(.sl .str)] _ (fun x0 x => spec_l1Cur_of.F x0 x.1) (fun r => .kep (.bx .cur r.1) (.t .str r.2)))
  | .f 57 => some (.m (.bx .cur) [(.int .i64)] _ (fun x0 x => spec_l1Cur_pick.F x0 x.1) (fun r => .kep (.bx .cur r.1) (.t (.int .i64) r.2)))
  | .f 94 => some (.m (.bx .cur) [] _ (fun x0 x => spec_l1Cur_names.F k x0) (fun r => .kep (.bx .cur r.1) (.fr 130 .name r.2)))
  | .f 128 => some (.p [] _ (fun x => spec_l4Titles.F) (fun r => (.fr 9 .str r)))
  | .f 93 => some (.m (.bx .cur) [] _ (fun x0 x => spec_l1Cur_date.F x0) (fun r => .kep (.bx .cur r.1) (.t .date r.2)))
  | .f 48 => some (.m (.bx .cur) [(.int .i64)] _ (fun x0 x => spec_l1Cur_one.F x0 x.1) (fun r => .kep (.bx .cur r.1) (.t .bool r.2)))
  | .f 56 => some (.m (.bx .cur) [(.sl (.int .i64))] _ (fun x0 x => spec_l1Cur_among.F x0 x.1) (fun r => .kep (.bx .cur r.1) (.t (.int .i64) r.2)))
  | _ => none
theorem spec_l1Cur_entry.run (k : Nat) (a0 : Cur) : runM envX (tabC (spec_l1Cur_entry.C k)) (tabL 52 0 (fun _ => none)) Tryz.f89 mbase (.bx .cur a0) [] (viewK (.bx .cur) (viewR1 (.t .entry))) = spec_l1Cur_entry.F k a0 := by kernel_rfl
theorem spec_l1Cur_entry.G (hE : EnvOk Tryz.prog envX) (pv : Nat → Value) (k : Nat) : ∀ cal A, spec_l1Cur_entry.C k cal = some A → ArmOk Tryz.prog envX pv cal A := by
  intro cal A h
  unfold spec_l1Cur_entry.C at h
  split at h
  · cases h; exact ⟨_, rfl, fun x0 x y hy => spec_l1Cur_of.good hE pv x0 x.1 hy⟩
  · cases h; exact ⟨_, rfl, fun x0 x y hy => spec_l1Cur_pick.good hE pv x0 x.1 hy⟩
  · cases h; exact ⟨_, rfl, fun x0 x y hy => spec_l1Cur_names.good hE pv k x0 hy⟩
  · cases h; exact fun x y hy => spec_l4Titles.good hE pv hy
  · cases h; exact ⟨_, rfl, fun x0 x y hy => spec_l1Cur_date.good hE pv x0 hy⟩
  · cases h; exact ⟨_, rfl, fun x0 x y hy => spec_l1Cur_one.good hE pv x0 x.1 hy⟩
  · cases h; exact ⟨_, rfl, fun x0 x y hy => spec_l1Cur_among.good hE pv x0 x.1 hy⟩
  · cases h
theorem spec_l1Cur_entry.good (hE : EnvOk Tryz.prog envX) (pv : Nat → Value) (k : Nat) (a0 : Cur) {y : _} (h : spec_l1Cur_entry.F k a0 = some y) : MeetsM Tryz.prog envX pv 89 (.bx .cur a0) (tvals [] (())) (.kep (.bx .cur y.1) (.t .entry y.2)) :=
  funM_plain hE (spec_l1Cur_entry.G hE pv k) (f := 89) (fn := Tryz.f89) (by kernel_rfl) rfl (by kernel_rfl) (.inl rfl) (by kernel_rfl) ((spec_l1Cur_entry.run k a0).trans h) fun r hr => wk_viewK (fun r y h => wk_view1 h) hr
/-! ### 129 (*loop.example/g00896/spec.l1Cur).anyName -/
def spec_l1Cur_anyName.F (k : Nat) (a0 : Cur) : Option (Cur × Name) := (spec_l1Cur_name.F k a0).bind fun r1 => (spec_l1Cur_pick.F r1.1 16).bind fun r2 => bif (r2.2 == 0) then ((spec_l1Cur_of.F r2.1 ([(⟨#[]⟩ : ByteArray), (⟨#[98, 101, 114, 103]⟩ : ByteArray), (⟨#[66, 45]⟩ : ByteArray), (⟨#[66, 45, 45, 99]⟩ : ByteArray), (⟨#[65, 98, 99, 100, 101, 102, 103, 104, 105, 106, 107, 108]⟩ : ByteArray), (⟨#[65, 98, 99, 100, 101, 102, 103, 104, 105, 106, 107, 108, 109]⟩ : ByteArray), (⟨#[66, 57]⟩ : ByteArray)] : List ByteArray)).bind fun r3 => some (r3.1, (⟨r1.2.given, r1.2.particle, r3.2, r1.2.suffix⟩ : Name))) else (bif (r2.2 == 1) then ((spec_l1Cur_of.F r2.1 ([(⟨#[86, 97, 110]⟩ : ByteArray), (⟨#[118, 97, 110, 32, 100, 101, 114, 32, 100, 101]⟩ : ByteArray), (⟨#[118, 97, 110, 32]⟩ : ByteArray), (⟨#[100, 39]⟩ : ByteArray), (⟨#[100, 39, 97]⟩ : ByteArray), (⟨#[118, 97, 110, 32, 32, 100, 101, 114]⟩ : ByteArray)] : List ByteArray)).bind fun r4 => some (r4.1, (⟨r1.2.given, r4.2, r1.2.family, r1.2.suffix⟩ : Name))) else (bif (r2.2 == 2) then ((spec_l1Cur_of.F r2.1 ([(⟨#[45]⟩ : ByteArray), (⟨#[74, 32, 114]⟩ : ByteArray), (⟨#[120]⟩ : ByteArray)] : List ByteArray)).bind fun r5 => some (r5.1, (⟨r1.2.given, r1.2.particle, r1.2.family, r5.2⟩ : Name))) else (bif (r2.2 == 3) then ((spec_l1Cur_of.F r2.1 ([(⟨#[97, 110, 110, 97]⟩ : ByteArray), (⟨#[]⟩ : ByteArray), (⟨#[67]⟩ : ByteArray), (⟨#[68, 32, 101]⟩ : ByteArray)] : List ByteArray)).bind fun r6 => bif room (r1.2.given.length + ([r6.2, (⟨#[69, 118, 101]⟩ : ByteArray)] : List ByteArray).length) .str then (some (r6.1, (⟨(r1.2.given ++ ([r6.2, (⟨#[69, 118, 101]⟩ : ByteArray)] : List ByteArray)), r1.2.particle, r1.2.family, r1.2.suffix⟩ : Name))) else none) else (some (r2.1, (⟨r1.2.given, r1.2.particle, r1.2.family, r1.2.suffix⟩ : Name))))))
def spec_l1Cur_anyName.C (k : Nat) : Cal → Option CArm := fun c => match c with
  | .f 130 => some (.m (.bx .cur) [] _ (fun x0 x => spec_l1Cur_name.F k x0) (fun r => .kep (.bx .cur r.1) (sfV 9 .name r.2)))
  | .f 57 => some (.m (.bx .cur) [(.int .i64)] _ (fun x0 x => spec_l1Cur_pick.F x0 x.1) (fun r => .kep (.bx .cur r.1) (.t (.int .i64) r.2)))
  | .f 84 => some (.m (.bx .cur) [(.sl .str)] _ (fun x0 x => spec_l1Cur_of.F x0 x.1) (fun r => .kep (.bx .cur r.1) (.t .str r.2)))
  | _ => none
theorem spec_l1Cur_anyName.run (k : Nat) (a0 : Cur) : runM envX (tabC (spec_l1Cur_anyName.C k)) (tabL 37 0 (fun _ => none)) Tryz.f129 mbase (.bx .cur a0) [] (viewK (.bx .cur) (viewR1 (.sf .name 9))) = spec_l1Cur_anyName.F k a0 := by kernel_rfl
theorem spec_l1Cur_anyName.G (hE : EnvOk Tryz.prog envX) (pv : Nat → Value) (k : Nat) : ∀ cal A, spec_l1Cur_anyName.C k cal = some A → ArmOk Tryz.prog envX pv cal A := by
  intro cal A h
  unfold spec_l1Cur_anyName.C at h
  split at h
  · cases h; exact ⟨_, rfl, fun x0 x y hy => spec_l1Cur_name.good hE pv k x0 hy⟩
  · cases h; exact ⟨_, rfl, fun x0 x y hy => spec_l1Cur_pick.good hE pv x0 x.1 hy⟩
  · cases h; exact ⟨_, rfl, fun x0 x y hy => spec_l1Cur_of.good hE pv x0 x.1 hy⟩
  · cases h
theorem spec_l1Cur_anyName.good (hE : EnvOk Tryz.prog envX) (pv : Nat → Value) (k : Nat) (a0 : Cur) {y : _} (h : spec_l1Cur_anyName.F k a0 = some y) : MeetsM Tryz.prog envX pv 129 (.bx .cur a0) (tvals [] (())) (.kep (.bx .cur y.1) (sfV 9 .name y.2)) :=
  funM_plain hE (spec_l1Cur_anyName.G hE pv k) (f := 129) (fn := Tryz.f129) (by kernel_rfl) rfl (by kernel_rfl) (.inl rfl) (by kernel_rfl) ((spec_l1Cur_anyName.run k a0).trans h) fun r hr => wk_viewK (fun r y h => wk_view1 h) hr
/-! ### 90 (*loop.example/g00896/spec.l1Cur).anyNames -/
def spec_l1Cur_anyNames.l1 : Nat → Cur → (List Name) → Option (Cur × (List Name))
  | 0, _, _ => none
  | k + 1, x0, x3 => (spec_l1Cur_pick.F x0 2).bind fun r4 => bif (decide ((x3.length : Int) < (IntKind.wrap .i64 (4 + r4.2)))) then ((spec_l1Cur_name.F k r4.1).bind fun r5 => bif room (x3.length + ([(⟨r5.2.given, r5.2.particle, r5.2.family, r5.2.suffix⟩ : Name)] : List Name).length) .name then (spec_l1Cur_anyNames.l1 k r5.1 (x3 ++ ([(⟨r5.2.given, r5.2.particle, r5.2.family, r5.2.suffix⟩ : Name)] : List Name))) else none) else (some (r4.1, x3))
def spec_l1Cur_anyNames.F (k : Nat) (a0 : Cur) : Option (Cur × List Name) := (spec_l1Cur_names.F k a0).bind fun r1 => (spec_l1Cur_pick.F r1.1 12).bind fun r2 => bif (r2.2 == 0) then ((spec_l1Cur_anyName.F k r2.1).bind fun r3 => bif room (r1.2.length + ([(⟨r3.2.given, r3.2.particle, r3.2.family, r3.2.suffix⟩ : Name)] : List Name).length) .name then (some (r3.1, (r1.2 ++ ([(⟨r3.2.given, r3.2.particle, r3.2.family, r3.2.suffix⟩ : Name)] : List Name)))) else none) else (bif (r2.2 == 1) then ((spec_l1Cur_anyNames.l1 k r2.1 r1.2).bind fun y6 => some (y6.1, y6.2)) else (some (r2.1, r1.2)))
def spec_l1Cur_anyNames.C (k : Nat) : Cal → Option CArm := fun c => match c with
  | .f 94 => some (.m (.bx .cur) [] _ (fun x0 x => spec_l1Cur_names.F k x0) (fun r => .kep (.bx .cur r.1) (.fr 130 .name r.2)))
  | .f 57 => some (.m (.bx .cur) [(.int .i64)] _ (fun x0 x => spec_l1Cur_pick.F x0 x.1) (fun r => .kep (.bx .cur r.1) (.t (.int .i64) r.2)))
  | .f 129 => some (.m (.bx .cur) [] _ (fun x0 x => spec_l1Cur_anyName.F k x0) (fun r => .kep (.bx .cur r.1) (sfV 9 .name r.2)))
  | .f 130 => some (.m (.bx .cur) [] _ (fun x0 x => spec_l1Cur_name.F k x0) (fun r => .kep (.bx .cur r.1) (sfV 9 .name r.2)))
  | _ => none
def spec_l1Cur_anyNames.sp1 : List Sp := [.boxT 0 1099511627776 .cur, .own 3 1028 130 .name false true]
def spec_l1Cur_anyNames.sp1_0 : List Sp := [.boxT 0 1099511627776 .cur, .own 3 1028 130 .name false true]
def spec_l1Cur_anyNames.A1 : LArm := .one spec_l1Cur_anyNames.sp1 spec_l1Cur_anyNames.sp1_0 (Cur × (List Name)) (fun k x => spec_l1Cur_anyNames.l1 k x.1 x.2.1) (.exit 1) (fun y => (y.1, y.2, ())) (fun x => (x.1, x.2.1))
def spec_l1Cur_anyNames.L : Nat → Option LArm := fun b => match b with
  | 1 => some spec_l1Cur_anyNames.A1
  | _ => none
theorem spec_l1Cur_anyNames.run (k : Nat) (a0 : Cur) : runM envX (tabC (spec_l1Cur_anyNames.C k)) (tabL 29 k spec_l1Cur_anyNames.L) Tryz.f90 mbase (.bx .cur a0) [] (viewK (.bx .cur) (viewR1 (.fr 130 .name))) = spec_l1Cur_anyNames.F k a0 := by kernel_rfl
theorem spec_l1Cur_anyNames.step1 (k : Nat) (x0 : Cur) (x3 : List Name) : runC envX (tabC (spec_l1Cur_anyNames.C k)) (tabL 29 k spec_l1Cur_anyNames.L) 1 (loopAt Tryz.f90 1) (stOf 29 spec_l1Cur_anyNames.sp1 (x0, x3, ())) (spec_l1Cur_anyNames.A1.cont 29 k) = spec_l1Cur_anyNames.l1 (k + 1) x0 x3 := by kernel_rfl
theorem spec_l1Cur_anyNames.G (hE : EnvOk Tryz.prog envX) (pv : Nat → Value) (k : Nat) : ∀ cal A, spec_l1Cur_anyNames.C k cal = some A → ArmOk Tryz.prog envX pv cal A := by
  intro cal A h
  unfold spec_l1Cur_anyNames.C at h
  split at h
  · cases h; exact ⟨_, rfl, fun x0 x y hy => spec_l1Cur_names.good hE pv k x0 hy⟩
  · cases h; exact ⟨_, rfl, fun x0 x y hy => spec_l1Cur_pick.good hE pv x0 x.1 hy⟩
  · cases h; exact ⟨_, rfl, fun x0 x y hy => spec_l1Cur_anyName.good hE pv k x0 hy⟩
  · cases h; exact ⟨_, rfl, fun x0 x y hy => spec_l1Cur_name.good hE pv k x0 hy⟩
  · cases h
theorem spec_l1Cur_anyNames.good (hE : EnvOk Tryz.prog envX) (pv : Nat → Value) (k : Nat) (a0 : Cur) {y : _} (h : spec_l1Cur_anyNames.F k a0 = some y) : MeetsM Tryz.prog envX pv 90 (.bx .cur a0) (tvals [] (())) (.kep (.bx .cur y.1) (.fr 130 .name y.2)) :=
  funM_loops hE (t := spec_l1Cur_anyNames.C) k (fun k _ => spec_l1Cur_anyNames.G hE pv k) (f := 90) (fn := Tryz.f90) (by kernel_rfl) rfl (by kernel_rfl) (.inl rfl) (by kernel_rfl) (lt := spec_l1Cur_anyNames.L) (by kernel_rfl) (fun b A h => by
    unfold spec_l1Cur_anyNames.L at h; split at h
    · cases h; exact ⟨by kernel_rfl, by kernel_rfl, fun _ => rfl, fun _ => rfl⟩
    · cases h) (fun b A h => by
    unfold spec_l1Cur_anyNames.L at h; split at h
    · cases h; exact fun k x => spec_l1Cur_anyNames.step1 k x.1 x.2.1
    · cases h) ((spec_l1Cur_anyNames.run k a0).trans h) fun r hr => wk_viewK (fun r y h => wk_view1 h) hr
/-! ### 54 (*loop.example/g00896/spec.l1Cur).anyEntry -/
def spec_l1Cur_anyEntry.F (k : Nat) (a0 : Cur) : Option (Cur × Entry) := (spec_l1Cur_entry.F k a0).bind fun r1 => (spec_l1Cur_pick.F r1.1 24).bind fun r2 => bif (r2.2 == 0) then ((spec_l1Cur_of.F r2.1 ([(⟨#[]⟩ : ByteArray), (⟨#[65]⟩ : ByteArray), (⟨#[49, 97]⟩ : ByteArray), (⟨#[97, 98, 99, 100, 101, 102, 103, 104, 105, 106]⟩ : ByteArray), (⟨#[97, 98, 99, 100, 101, 102, 103, 104, 105, 106, 107]⟩ : ByteArray)] : List ByteArray)).bind fun r3 => some (r3.1, (⟨r3.2, r1.2.kind, r1.2.authors, r1.2.editors, r1.2.title, r1.2.container, r1.2.publisher, r1.2.date, r1.2.volume, r1.2.pages, r1.2.cross⟩ : Entry))) else (bif (r2.2 == 1) then ((spec_l1Cur_pick.F r2.1 6).bind fun r4 => some (r4.1, (⟨r1.2.key, r4.2, r1.2.authors, r1.2.editors, r1.2.title, r1.2.container, r1.2.publisher, r1.2.date, r1.2.volume, r1.2.pages, r1.2.cross⟩ : Entry))) else (bif (r2.2 == 2) then ((spec_l1Cur_anyNames.F k r2.1).bind fun r5 => some (r5.1, (⟨r1.2.key, r1.2.kind, r5.2, r1.2.editors, r1.2.title, r1.2.container, r1.2.publisher, r1.2.date, r1.2.volume, r1.2.pages, r1.2.cross⟩ : Entry))) else (bif (r2.2 == 3) then ((spec_l1Cur_of.F r2.1 ([(⟨#[32, 120]⟩ : ByteArray), (⟨#[120, 32]⟩ : ByteArray), (⟨#[97, 9, 98]⟩ : ByteArray), (⟨#[48, 49, 50, 51, 52, 53, 54, 55, 56, 57, 48, 49, 50, 51, 52, 53, 54, 55, 56, 57, 48, 49, 50, 51, 52, 53, 54, 55, 56, 57, 48, 49, 50, 51, 52, 53, 54, 55, 56, 57]⟩ : ByteArray), (⟨#[48, 49, 50, 51, 52, 53, 54, 55, 56, 57, 48, 49, 50, 51, 52, 53, 54, 55, 56, 57, 48, 49, 50, 51, 52, 53, 54, 55, 56, 57, 48, 49, 50, 51, 52, 53, 54, 55, 56, 57, 48]⟩ : ByteArray)] : List ByteArray)).bind fun r6 => some (r6.1, (⟨r1.2.key, r1.2.kind, r1.2.authors, r1.2.editors, r6.2, r1.2.container, r1.2.publisher, r1.2.date, r1.2.volume, r1.2.pages, r1.2.cross⟩ : Entry))) else (bif (r2.2 == 4) then ((spec_l1Cur_anyDate.F r2.1).bind fun r7 => some (r7.1, (⟨r1.2.key, r1.2.kind, r1.2.authors, r1.2.editors, r1.2.title, r1.2.container, r1.2.publisher, r7.2, r1.2.volume, r1.2.pages, r1.2.cross⟩ : Entry))) else (bif (r2.2 == 5) then ((spec_l1Cur_among.F r2.1 ([(-1), 10000] : List Int)).bind fun r8 => some (r8.1, (⟨r1.2.key, r1.2.kind, r1.2.authors, r1.2.editors, r1.2.title, r1.2.container, r1.2.publisher, r1.2.date, r8.2, r1.2.pages, r1.2.cross⟩ : Entry))) else (bif (r2.2 == 6) then ((spec_l1Cur_of.F r2.1 ([r1.2.key, (⟨#[65]⟩ : ByteArray), (⟨#[98, 50]⟩ : ByteArray)] : List ByteArray)).bind fun r9 => some (r9.1, (⟨r1.2.key, r1.2.kind, r1.2.authors, r1.2.editors, r1.2.title, r1.2.container, r1.2.publisher, r1.2.date, r1.2.volume, r1.2.pages, r9.2⟩ : Entry))) else (bif (r2.2 == 7) then ((spec_l1Cur_anyNames.F k r2.1).bind fun r10 => some (r10.1, (⟨r1.2.key, r1.2.kind, r1.2.authors, r10.2, r1.2.title, r1.2.container, r1.2.publisher, r1.2.date, r1.2.volume, r1.2.pages, r1.2.cross⟩ : Entry))) else (some (r2.1, r1.2)))))))))
def spec_l1Cur_anyEntry.C (k : Nat) : Cal → Option CArm := fun c => match c with
  | .f 89 => some (.m (.bx .cur) [] _ (fun x0 x => spec_l1Cur_entry.F k x0) (fun r => .kep (.bx .cur r.1) (.t .entry r.2)))
  | .f 57 => some (.m (.bx .cur) [(.int .i64)] _ (fun x0 x => spec_l1Cur_pick.F x0 x.1) (fun r => .kep (.bx .cur r.1) (.t (.int .i64) r.2)))
  | .f 84 => some (.m (.bx .cur) [(.sl .str)] _ (fun x0 x => spec_l1Cur_of.F x0 x.1) (fun r => .kep (.bx .cur r.1) (.t .str r.2)))
  | .f 90 => some (.m (.bx .cur) [] _ (fun x0 x => spec_l1Cur_anyNames.F k x0) (fun r => .kep (.bx .cur r.1) (.fr 130 .name r.2)))
  | .f 64 => some (.m (.bx .cur) [] _ (fun x0 x => spec_l1Cur_anyDate.F x0) (fun r => .kep (.bx .cur r.1) (.t .date r.2)))
  | .f 56 => some (.m (.bx .cur) [(.sl (.int .i64))] _ (fun x0 x => spec_l1Cur_among.F x0 x.1) (fun r => .kep (.bx .cur r.1) (.t (.int .i64) r.2)))
  | _ => none
theorem spec_l1Cur_anyEntry.run (k : Nat) (a0 : Cur) : runM envX (tabC (spec_l1Cur_anyEntry.C k)) (tabL 55 0 (fun _ => none)) Tryz.f54 mbase (.bx .cur a0) [] (viewK (.bx .cur) (viewR1 (.t .entry))) = spec_l1Cur_anyEntry.F k a0 := by kernel_rfl
theorem spec_l1Cur_anyEntry.G (hE : EnvOk Tryz.prog envX) (pv : Nat → Value) (k : Nat) : ∀ cal A, spec_l1Cur_anyEntry.C k cal = some A → ArmOk Tryz.prog envX pv cal A := by
  intro cal A h
  unfold spec_l1Cur_anyEntry.C at h
  split at h
  · cases h; exact ⟨_, rfl, fun x0 x y hy => spec_l1Cur_entry.good hE pv k x0 hy⟩
  · cases h; exact ⟨_, rfl, fun x0 x y hy => spec_l1Cur_pick.good hE pv x0 x.1 hy⟩
  · cases h; exact ⟨_, rfl, fun x0 x y hy => spec_l1Cur_of.good hE pv x0 x.1 hy⟩
  · cases h; exact ⟨_, rfl, fun x0 x y hy => spec_l1Cur_anyNames.good hE pv k x0 hy⟩
  · cases h; exact ⟨_, rfl, fun x0 x y hy => spec_l1Cur_anyDate.good hE pv x0 hy⟩
  · cases h; exact ⟨_, rfl, fun x0 x y hy => spec_l1Cur_among.good hE pv x0 x.1 hy⟩
  · cases h
theorem spec_l1Cur_anyEntry.good (hE : EnvOk Tryz.prog envX) (pv : Nat → Value) (k : Nat) (a0 : Cur) {y : _} (h : spec_l1Cur_anyEntry.F k a0 = some y) : MeetsM Tryz.prog envX pv 54 (.bx .cur a0) (tvals [] (())) (.kep (.bx .cur y.1) (.t .entry y.2)) :=
  funM_plain hE (spec_l1Cur_anyEntry.G hE pv k) (f := 54) (fn := Tryz.f54) (by kernel_rfl) rfl (by kernel_rfl) (.inl rfl) (by kernel_rfl) ((spec_l1Cur_anyEntry.run k a0).trans h) fun r hr => wk_viewK (fun r y h => wk_view1 h) hr
/-! ### 131 loop.example/g00896/spec.l2Own -/
def spec_l2Own.l0 : Nat → (List Name) → (List Name) → Int → Option ((List Name))
  | 0, _, _, _ => none
  | k + 1, x0, x3, x4 => bif (decide (x4 < (x0.length : Int))) then (bif decide (0 ≤ x4) then (bif decide (x4 < (x0.length : Int)) then (bif room (([] : List ByteArray).length + ((x0.getD (x4 : Int).toNat (dflt .name)).given).length) .str then (bif room (x3.length + ([(⟨(([] : List ByteArray) ++ ((x0.getD (x4 : Int).toNat (dflt .name)).given)), (x0.getD (x4 : Int).toNat (dflt .name)).particle, (x0.getD (x4 : Int).toNat (dflt .name)).family, (x0.getD (x4 : Int).toNat (dflt .name)).suffix⟩ : Name)] : List Name).length) .name then (spec_l2Own.l0 k x0 (x3 ++ ([(⟨(([] : List ByteArray) ++ ((x0.getD (x4 : Int).toNat (dflt .name)).given)), (x0.getD (x4 : Int).toNat (dflt .name)).particle, (x0.getD (x4 : Int).toNat (dflt .name)).family, (x0.getD (x4 : Int).toNat (dflt .name)).suffix⟩ : Name)] : List Name)) (IntKind.wrap .i64 (x4 + 1))) else none) else none) else none) else none) else (some x3)
def spec_l2Own.F (k : Nat) (a0 : List Name) : Option (List Name) := (spec_l2Own.l0 k a0 ([] : List Name) 0).bind fun y1 => some y1
def spec_l2Own.C (k : Nat) : Cal → Option CArm := fun c => match c with
  | _ => none
def spec_l2Own.sp0 : List Sp := [.t 0 (.sl .name), .own 3 1024 130 .name false true, .t 4 (.int .i64)]
def spec_l2Own.sp0_0 : List Sp := [.own 3 1024 130 .name false true]
def spec_l2Own.A0 : LArm := .one spec_l2Own.sp0 spec_l2Own.sp0_0 ((List Name)) (fun k x => spec_l2Own.l0 k x.1 x.2.1 x.2.2.1) (.exit 0) (fun y => (y, ())) (fun x => x.1)
def spec_l2Own.L : Nat → Option LArm := fun b => match b with
  | 0 => some spec_l2Own.A0
  | _ => none
theorem spec_l2Own.run (k : Nat) (a0 : List Name) : runF envX (tabC (spec_l2Own.C k)) (tabL 27 k spec_l2Own.L) Tryz.f131 [.t (.sl .name) a0] (viewR1 (.fr 130 .name)) = spec_l2Own.F k a0 := by kernel_rfl
theorem spec_l2Own.step0 (k : Nat) (x0 : List Name) (x3 : List Name) (x4 : Int) : runC envX (tabC (spec_l2Own.C k)) (tabL 27 k spec_l2Own.L) 0 (loopAt Tryz.f131 0) (stOf 27 spec_l2Own.sp0 (x0, x3, x4, ())) (spec_l2Own.A0.cont 27 k) = spec_l2Own.l0 (k + 1) x0 x3 x4 := by kernel_rfl
theorem spec_l2Own.G (hE : EnvOk Tryz.prog envX) (pv : Nat → Value) (k : Nat) : ∀ cal A, spec_l2Own.C k cal = some A → ArmOk Tryz.prog envX pv cal A := by
  intro cal A h
  unfold spec_l2Own.C at h
  cases h
theorem spec_l2Own.good (hE : EnvOk Tryz.prog envX) (pv : Nat → Value) (k : Nat) (a0 : List Name) {y : _} (h : spec_l2Own.F k a0 = some y) : Meets Tryz.prog envX pv (.f 131) (tvals [(.sl .name)] (a0, ())) (.fr 130 .name y) :=
  fun_loops hE (t := spec_l2Own.C) k (fun k _ => spec_l2Own.G hE pv k) (f := 131) (fn := Tryz.f131) (by kernel_rfl) rfl (by kernel_rfl) (by kernel_rfl) (lt := spec_l2Own.L) (by kernel_rfl) (fun b A h => by
    unfold spec_l2Own.L at h; split at h
    · cases h; exact ⟨by kernel_rfl, by kernel_rfl, fun _ => rfl, fun _ => rfl⟩
    · cases h) (fun b A h => by
    unfold spec_l2Own.L at h; split at h
    · cases h; exact fun k x => spec_l2Own.step0 k x.1 x.2.1 x.2.2.1
    · cases h) ((spec_l2Own.run k a0).trans h) fun r hr => wk_view1 hr
/-! ### 91 loop.example/g00896/spec.l4Copy -/
def spec_l4Copy.F (k : Nat) (a0 : Entry) : Option (Entry) := (spec_l2Own.F k a0.authors).bind fun r1 => (spec_l2Own.F k a0.editors).bind fun r2 => some (⟨a0.key, a0.kind, r1, r2, a0.title, a0.container, a0.publisher, a0.date, a0.volume, a0.pages, a0.cross⟩ : Entry)
def spec_l4Copy.C (k : Nat) : Cal → Option CArm := fun c => match c with
  | .f 131 => some (.p [(.sl .name)] _ (fun x => spec_l2Own.F k x.1) (fun r => (.fr 130 .name r)))
  | _ => none
theorem spec_l4Copy.run (k : Nat) (a0 : Entry) : runF envX (tabC (spec_l4Copy.C k)) (tabL 12 0 (fun _ => none)) Tryz.f91 [.t .entry a0] (viewR1 (.t .entry)) = spec_l4Copy.F k a0 := by kernel_rfl
theorem spec_l4Copy.G (hE : EnvOk Tryz.prog envX) (pv : Nat → Value) (k : Nat) : ∀ cal A, spec_l4Copy.C k cal = some A → ArmOk Tryz.prog envX pv cal A := by
  intro cal A h
  unfold spec_l4Copy.C at h
  split at h
  · cases h; exact fun x y hy => spec_l2Own.good hE pv k x.1 hy
  · cases h
theorem spec_l4Copy.good (hE : EnvOk Tryz.prog envX) (pv : Nat → Value) (k : Nat) (a0 : Entry) {y : _} (h : spec_l4Copy.F k a0 = some y) : Meets Tryz.prog envX pv (.f 91) (tvals [.entry] (a0, ())) (.t .entry y) :=
  fun_plain hE (spec_l4Copy.G hE pv k) (f := 91) (fn := Tryz.f91) (by kernel_rfl) rfl (by kernel_rfl) (by kernel_rfl) ((spec_l4Copy.run k a0).trans h) fun r hr => wk_view1 hr
/-! ### 202 loop.example/g00896/spec.l4Put -/
def spec_l4Put.l0 : Nat → Library → Entry → (List Entry) → (List Entry) → Bool → Int → Option (Entry × (List Entry) × (List Entry) × Bool)
  | 0, _, _, _, _, _, _ => none
  | k + 1, x2, x3, x4, x5, x6, x7 => bif (decide (x7 < (x2.entries.length : Int))) then (bif decide (0 ≤ x7) then (bif decide (x7 < (x2.entries.length : Int)) then (bif (!ltS ((x2.entries.getD (x7 : Int).toNat (dflt .entry)).key) x3.key) then (bif (!x6) then ((spec_l4Copy.F k x3).bind fun r1 => bif room (x5.length + ([r1] : List Entry).length) .entry then (bif decide (0 ≤ x7) then (bif decide (x7 < (x2.entries.length : Int)) then (bif (!beqS ((x2.entries.getD (x7 : Int).toNat (dflt .entry)).key) x3.key) then (bif decide (0 ≤ x7) then (bif decide (x7 < (x2.entries.length : Int)) then ((spec_l4Copy.F k (x2.entries.getD (x7 : Int).toNat (dflt .entry))).bind fun r2 => bif room ((x5 ++ ([r1] : List Entry)).length + ([r2] : List Entry).length) .entry then (spec_l4Put.l0 k x2 x3 x4 ((x5 ++ ([r1] : List Entry)) ++ ([r2] : List Entry)) true (IntKind.wrap .i64 (x7 + 1))) else none) else none) else none) else (spec_l4Put.l0 k x2 x3 x4 (x5 ++ ([r1] : List Entry)) true (IntKind.wrap .i64 (x7 + 1)))) else none) else none) else none) else (bif decide (0 ≤ x7) then (bif decide (x7 < (x2.entries.length : Int)) then (bif (!beqS ((x2.entries.getD (x7 : Int).toNat (dflt .entry)).key) x3.key) then (bif decide (0 ≤ x7) then (bif decide (x7 < (x2.entries.length : Int)) then ((spec_l4Copy.F k (x2.entries.getD (x7 : Int).toNat (dflt .entry))).bind fun r3 => bif room (x5.length + ([r3] : List Entry).length) .entry then (spec_l4Put.l0 k x2 x3 x4 (x5 ++ ([r3] : List Entry)) x6 (IntKind.wrap .i64 (x7 + 1))) else none) else none) else none) else (spec_l4Put.l0 k x2 x3 x4 x5 x6 (IntKind.wrap .i64 (x7 + 1)))) else none) else none)) else (bif decide (0 ≤ x7) then (bif decide (x7 < (x2.entries.length : Int)) then (bif (!beqS ((x2.entries.getD (x7 : Int).toNat (dflt .entry)).key) x3.key) then (bif decide (0 ≤ x7) then (bif decide (x7 < (x2.entries.length : Int)) then ((spec_l4Copy.F k (x2.entries.getD (x7 : Int).toNat (dflt .entry))).bind fun r4 => bif room (x5.length + ([r4] : List Entry).length) .entry then (spec_l4Put.l0 k x2 x3 x4 (x5 ++ ([r4] : List Entry)) x6 (IntKind.wrap .i64 (x7 + 1))) else none) else none) else none) else (spec_l4Put.l0 k x2 x3 x4 x5 x6 (IntKind.wrap .i64 (x7 + 1)))) else none) else none)) else none) else none) else (some (x3, x4, x5, x6))
def spec_l4Put.F (k : Nat) (a0 : Library) (a1 : Entry) : Option (Library) := (spec_l4Put.l0 k a0 a1 ([] : List Entry) ([]) false 0).bind fun y5 => bif (!y5.2.2.2) then ((spec_l4Copy.F k y5.1).bind fun r6 => bif room (y5.2.2.1.length + ([r6] : List Entry).length) .entry then (some (⟨(y5.2.2.1 ++ ([r6] : List Entry))⟩ : Library)) else none) else (some (⟨y5.2.2.1⟩ : Library))
def spec_l4Put.C (k : Nat) : Cal → Option CArm := fun c => match c with
  | .f 91 => some (.p [.entry] _ (fun x => spec_l4Copy.F k x.1) (fun r => (.t .entry r)))
  | _ => none
def spec_l4Put.sp0 : List Sp := [.boxT 2 0 .lib, .boxT 3 4 .entry, .boxF 4 8 .lib [.t (.sl .entry)], .boxF 5 1028 .lib [.own 1099511627859 50 .entry false true], .t 6 .bool, .t 7 (.int .i64)]
def spec_l4Put.sp0_0 : List Sp := [.boxT 3 4 .entry, .boxF 4 8 .lib [.t (.sl .entry)], .boxF 5 1028 .lib [.own 1099511627859 50 .entry false true], .t 6 .bool]
def spec_l4Put.A0 : LArm := .one spec_l4Put.sp0 spec_l4Put.sp0_0 (Entry × (List Entry) × (List Entry) × Bool) (fun k x => spec_l4Put.l0 k x.1 x.2.1 x.2.2.1.1 x.2.2.2.1.1 x.2.2.2.2.1 x.2.2.2.2.2.1) (.exit 0) (fun y => (y.1, (y.2.1, ()), (y.2.2.1, ()), y.2.2.2, ())) (fun x => (x.1, x.2.1.1, x.2.2.1.1, x.2.2.2.1))
def spec_l4Put.L : Nat → Option LArm := fun b => match b with
  | 0 => some spec_l4Put.A0
  | _ => none
theorem spec_l4Put.run (k : Nat) (a0 : Library) (a1 : Entry) : runF envX (tabC (spec_l4Put.C k)) (tabL 66 k spec_l4Put.L) Tryz.f202 [.t .lib a0, .t .entry a1] (viewR1 (.sf .lib 50)) = spec_l4Put.F k a0 a1 := by kernel_rfl
theorem spec_l4Put.step0 (k : Nat) (x2 : Library) (x3 : Entry) (x4 : List Entry) (x5 : List Entry) (x6 : Bool) (x7 : Int) : runC envX (tabC (spec_l4Put.C k)) (tabL 66 k spec_l4Put.L) 0 (loopAt Tryz.f202 0) (stOf 66 spec_l4Put.sp0 (x2, x3, (x4, ()), (x5, ()), x6, x7, ())) (spec_l4Put.A0.cont 66 k) = spec_l4Put.l0 (k + 1) x2 x3 x4 x5 x6 x7 := by kernel_rfl
theorem spec_l4Put.G (hE : EnvOk Tryz.prog envX) (pv : Nat → Value) (k : Nat) : ∀ cal A, spec_l4Put.C k cal = some A → ArmOk Tryz.prog envX pv cal A := by
  intro cal A h
  unfold spec_l4Put.C at h
  split at h
  · cases h; exact fun x y hy => spec_l4Copy.good hE pv k x.1 hy
  · cases h
theorem spec_l4Put.good (hE : EnvOk Tryz.prog envX) (pv : Nat → Value) (k : Nat) (a0 : Library) (a1 : Entry) {y : _} (h : spec_l4Put.F k a0 a1 = some y) : Meets Tryz.prog envX pv (.f 202) (tvals [.lib, .entry] (a0, a1, ())) (sfV 50 .lib y) :=
  fun_loops hE (t := spec_l4Put.C) k (fun k _ => spec_l4Put.G hE pv k) (f := 202) (fn := Tryz.f202) (by kernel_rfl) rfl (by kernel_rfl) (by kernel_rfl) (lt := spec_l4Put.L) (by kernel_rfl) (fun b A h => by
    unfold spec_l4Put.L at h; split at h
    · cases h; exact ⟨by kernel_rfl, by kernel_rfl, fun _ => rfl, fun _ => rfl⟩
    · cases h) (fun b A h => by
    unfold spec_l4Put.L at h; split at h
    · cases h; exact fun k x => spec_l4Put.step0 k x.1 x.2.1 x.2.2.1.1 x.2.2.2.1.1 x.2.2.2.2.1 x.2.2.2.2.2.1
    · cases h) ((spec_l4Put.run k a0 a1).trans h) fun r hr => wk_view1 hr
/-! ### 152 (*loop.example/g00896/spec.l1Cur).library -/
def spec_l1Cur_library.l0 : Nat → Cur → (List Entry) → (List Entry) → Int → Option (Cur × (List Entry) × (List Entry))
  | 0, _, _, _, _ => none
  | k + 1, x0, x2, x3, x4 => bif (decide (x4 > 0)) then ((spec_l1Cur_entry.F k x0).bind fun r2 => (spec_l1Cur_one.F r2.1 4).bind fun r3 => bif r3.2 then ((spec_l1Cur_of.F r3.1 ([(⟨#[97, 49]⟩ : ByteArray), (⟨#[98, 50]⟩ : ByteArray), (⟨#[99, 51]⟩ : ByteArray)] : List ByteArray)).bind fun r4 => bif (beqS r4.2 r2.2.key) then ((spec_l4Put.F k (⟨x3⟩ : Library) (⟨r2.2.key, r2.2.kind, r2.2.authors, r2.2.editors, r2.2.title, r2.2.container, r2.2.publisher, r2.2.date, r2.2.volume, r2.2.pages, (⟨#[]⟩ : ByteArray)⟩ : Entry)).bind fun r5 => spec_l1Cur_library.l0 k r4.1 x2 r5.entries (IntKind.wrap .i64 (x4 - 1))) else ((spec_l4Put.F k (⟨x3⟩ : Library) (⟨r2.2.key, r2.2.kind, r2.2.authors, r2.2.editors, r2.2.title, r2.2.container, r2.2.publisher, r2.2.date, r2.2.volume, r2.2.pages, r4.2⟩ : Entry)).bind fun r6 => spec_l1Cur_library.l0 k r4.1 x2 r6.entries (IntKind.wrap .i64 (x4 - 1)))) else ((spec_l4Put.F k (⟨x3⟩ : Library) r2.2).bind fun r7 => spec_l1Cur_library.l0 k r3.1 x2 r7.entries (IntKind.wrap .i64 (x4 - 1)))) else (some (x0, x2, x3))
def spec_l1Cur_library.F (k : Nat) (a0 : Cur) : Option (Cur × Library) := (spec_l1Cur_pick.F a0 6).bind fun r1 => (spec_l1Cur_library.l0 k r1.1 ([] : List Entry) ([]) r1.2).bind fun y8 => some (y8.1, (⟨y8.2.2⟩ : Library))
def spec_l1Cur_library.C (k : Nat) : Cal → Option CArm := fun c => match c with
  | .f 57 => some (.m (.bx .cur) [(.int .i64)] _ (fun x0 x => spec_l1Cur_pick.F x0 x.1) (fun r => .kep (.bx .cur r.1) (.t (.int .i64) r.2)))
  | .f 89 => some (.m (.bx .cur) [] _ (fun x0 x => spec_l1Cur_entry.F k x0) (fun r => .kep (.bx .cur r.1) (.t .entry r.2)))
  | .f 48 => some (.m (.bx .cur) [(.int .i64)] _ (fun x0 x => spec_l1Cur_one.F x0 x.1) (fun r => .kep (.bx .cur r.1) (.t .bool r.2)))
  | .f 84 => some (.m (.bx .cur) [(.sl .str)] _ (fun x0 x => spec_l1Cur_of.F x0 x.1) (fun r => .kep (.bx .cur r.1) (.t .str r.2)))
  | .f 202 => some (.p [.lib, .entry] _ (fun x => spec_l4Put.F k x.1 x.2.1) (fun r => (sfV 50 .lib r)))
  | _ => none
def spec_l1Cur_library.sp0 : List Sp := [.boxT 0 1099511627776 .cur, .boxF 2 0 .lib [.t (.sl .entry)], .boxF 3 1028 .lib [.own 1099511627827 50 .entry false true], .t 4 (.int .i64)]
def spec_l1Cur_library.sp0_0 : List Sp := [.boxT 0 1099511627776 .cur, .boxF 2 0 .lib [.t (.sl .entry)], .boxF 3 1028 .lib [.own 1099511627827 50 .entry false true]]
def spec_l1Cur_library.A0 : LArm := .one spec_l1Cur_library.sp0 spec_l1Cur_library.sp0_0 (Cur × (List Entry) × (List Entry)) (fun k x => spec_l1Cur_library.l0 k x.1 x.2.1.1 x.2.2.1.1 x.2.2.2.1) (.exit 0) (fun y => (y.1, (y.2.1, ()), (y.2.2, ()), ())) (fun x => (x.1, x.2.1.1, x.2.2.1.1))
def spec_l1Cur_library.L : Nat → Option LArm := fun b => match b with
  | 0 => some spec_l1Cur_library.A0
  | _ => none
theorem spec_l1Cur_library.run (k : Nat) (a0 : Cur) : runM envX (tabC (spec_l1Cur_library.C k)) (tabL 31 k spec_l1Cur_library.L) Tryz.f152 mbase (.bx .cur a0) [] (viewK (.bx .cur) (viewR1 (.sf .lib 50))) = spec_l1Cur_library.F k a0 := by kernel_rfl
theorem spec_l1Cur_library.step0 (k : Nat) (x0 : Cur) (x2 : List Entry) (x3 : List Entry) (x4 : Int) : runC envX (tabC (spec_l1Cur_library.C k)) (tabL 31 k spec_l1Cur_library.L) 0 (loopAt Tryz.f152 0) (stOf 31 spec_l1Cur_library.sp0 (x0, (x2, ()), (x3, ()), x4, ())) (spec_l1Cur_library.A0.cont 31 k) = spec_l1Cur_library.l0 (k + 1) x0 x2 x3 x4 := by kernel_rfl
theorem spec_l1Cur_library.G (hE : EnvOk Tryz.prog envX) (pv : Nat → Value) (k : Nat) : ∀ cal A, spec_l1Cur_library.C k cal = some A → ArmOk Tryz.prog envX pv cal A := by
  intro cal A h
  unfold spec_l1Cur_library.C at h
  split at h
  · cases h; exact ⟨_, rfl, fun x0 x y hy => spec_l1Cur_pick.good hE pv x0 x.1 hy⟩
  · cases h; exact ⟨_, rfl, fun x0 x y hy => spec_l1Cur_entry.good hE pv k x0 hy⟩
  · cases h; exact ⟨_, rfl, fun x0 x y hy => spec_l1Cur_one.good hE pv x0 x.1 hy⟩
  · cases h; exact ⟨_, rfl, fun x0 x y hy => spec_l1Cur_of.good hE pv x0 x.1 hy⟩
  · cases h; exact fun x y hy => spec_l4Put.good hE pv k x.1 x.2.1 hy
  · cases h
theorem spec_l1Cur_library.good (hE : EnvOk Tryz.prog envX) (pv : Nat → Value) (k : Nat) (a0 : Cur) {y : _} (h : spec_l1Cur_library.F k a0 = some y) : MeetsM Tryz.prog envX pv 152 (.bx .cur a0) (tvals [] (())) (.kep (.bx .cur y.1) (sfV 50 .lib y.2)) :=
  funM_loops hE (t := spec_l1Cur_library.C) k (fun k _ => spec_l1Cur_library.G hE pv k) (f := 152) (fn := Tryz.f152) (by kernel_rfl) rfl (by kernel_rfl) (.inl rfl) (by kernel_rfl) (lt := spec_l1Cur_library.L) (by kernel_rfl) (fun b A h => by
    unfold spec_l1Cur_library.L at h; split at h
    · cases h; exact ⟨by kernel_rfl, by kernel_rfl, fun _ => rfl, fun _ => rfl⟩
    · cases h) (fun b A h => by
    unfold spec_l1Cur_library.L at h; split at h
    · cases h; exact fun k x => spec_l1Cur_library.step0 k x.1 x.2.1.1 x.2.2.1.1 x.2.2.2.1
    · cases h) ((spec_l1Cur_library.run k a0).trans h) fun r hr => wk_viewK (fun r y h => wk_view1 h) hr
/-! ### 153 loop.example/g00896/spec.l1Num -/
mutual
def spec_l1Num.F : Nat → Int → Option (ByteArray)
  | 0, _ => none
  | k + 1, a0 => bif (decide (a0 < 0)) then ((spec_l1Num.F k (IntKind.wrap .i64 (0 - a0))).bind fun r1 => bif Nat.ble ((⟨#[45]⟩ : ByteArray).size + r1.size) 9223372036854775807 then (some ((⟨#[45]⟩ : ByteArray) ++ r1)) else none) else (bif (decide (a0 < 10)) then (bif decide (0 ≤ (IntKind.wrap .i64 (a0 + 1))) then (bif decide ((IntKind.wrap .i64 (a0 + 1)) ≤ ((⟨#[48, 49, 50, 51, 52, 53, 54, 55, 56, 57]⟩ : ByteArray).size : Int)) then (bif decide (0 ≤ a0) then (bif decide (a0 ≤ (IntKind.wrap .i64 (a0 + 1))) then (some ((⟨#[48, 49, 50, 51, 52, 53, 54, 55, 56, 57]⟩ : ByteArray).extract (a0 : Int).toNat ((IntKind.wrap .i64 (a0 + 1)) : Int).toNat)) else none) else none) else none) else none) else (bif (10 == 0) then (none) else ((spec_l1Num.F k (IntKind.wrap .i64 (Int.tdiv a0 10))).bind fun r2 => bif (10 == 0) then (none) else (bif (10 == 0) then (none) else (bif decide (0 ≤ (IntKind.wrap .i64 ((Int.tmod a0 10) + 1))) then (bif decide ((IntKind.wrap .i64 ((Int.tmod a0 10) + 1)) ≤ ((⟨#[48, 49, 50, 51, 52, 53, 54, 55, 56, 57]⟩ : ByteArray).size : Int)) then (bif decide (0 ≤ (Int.tmod a0 10)) then (bif decide ((Int.tmod a0 10) ≤ (IntKind.wrap .i64 ((Int.tmod a0 10) + 1))) then (bif Nat.ble (r2.size + ((⟨#[48, 49, 50, 51, 52, 53, 54, 55, 56, 57]⟩ : ByteArray).extract ((Int.tmod a0 10) : Int).toNat ((IntKind.wrap .i64 ((Int.tmod a0 10) + 1)) : Int).toNat).size) 9223372036854775807 then (some (r2 ++ ((⟨#[48, 49, 50, 51, 52, 53, 54, 55, 56, 57]⟩ : ByteArray).extract ((Int.tmod a0 10) : Int).toNat ((IntKind.wrap .i64 ((Int.tmod a0 10) + 1)) : Int).toNat))) else none) else none) else none) else none) else none)))))
end
def spec_l1Num.C (k : Nat) : Cal → Option CArm := fun c => match c with
  | .f 153 => some (.p [(.int .i64)] _ (fun x => spec_l1Num.F k x.1) (fun r => (.t .str r)))
  | _ => none
theorem spec_l1Num.run (k : Nat) (a0 : Int) : runF envX (tabC (spec_l1Num.C k)) (tabL 25 0 (fun _ => none)) Tryz.f153 [.t (.int .i64) a0] (viewR1 (.t .str)) = spec_l1Num.F (k + 1) a0 := by kernel_rfl
def spec_l1Num.Gd (pv : Nat → Value) (k : Nat) : Prop := (∀ (a0 : Int) {y : _}, spec_l1Num.F k a0 = some y → Meets Tryz.prog envX pv (.f 153) (tvals [(.int .i64)] (a0, ())) (.t .str y))
theorem spec_l1Num.G (hE : EnvOk Tryz.prog envX) (pv : Nat → Value) (k : Nat) (hI : spec_l1Num.Gd pv k) : ∀ cal A, spec_l1Num.C k cal = some A → ArmOk Tryz.prog envX pv cal A := by
  intro cal A h
  unfold spec_l1Num.C at h
  split at h
  · cases h; exact fun x y hy => hI x.1 hy
  · cases h
theorem spec_l1Num.gd (hE : EnvOk Tryz.prog envX) (pv : Nat → Value) (k : Nat) (hI : ∀ k', k' ≤ k → spec_l1Num.Gd pv k') (a0 : Int) {y : _} (h : spec_l1Num.F (k + 1) a0 = some y) : Meets Tryz.prog envX pv (.f 153) (tvals [(.int .i64)] (a0, ())) (.t .str y) :=
  fun_plain hE (spec_l1Num.G hE pv k (hI k (Nat.le_refl k))) (f := 153) (fn := Tryz.f153) (by kernel_rfl) rfl (by kernel_rfl) (by kernel_rfl) ((spec_l1Num.run k a0).trans h) fun r hr => wk_view1 hr
theorem spec_l1Num.all (hE : EnvOk Tryz.prog envX) (pv : Nat → Value) : ∀ k k', k' ≤ k → spec_l1Num.Gd pv k' := by
  intro k
  induction k with
  | zero =>
    intro k' hk
    obtain rfl : k' = 0 := by omega
    exact fun _ y h => by cases (show (none : Option _) = some y from h)
  | succ k ih =>
    intro k' hk
    rcases Nat.lt_or_ge k' (k + 1) with hlt | hge
    · exact ih k' (by omega)
    · obtain rfl : k' = k + 1 := by omega
      exact fun a0 y h => spec_l1Num.gd hE pv k ih a0 h
theorem spec_l1Num.good (hE : EnvOk Tryz.prog envX) (pv : Nat → Value) (k : Nat) (a0 : Int) {y : _} (h : spec_l1Num.F k a0 = some y) : Meets Tryz.prog envX pv (.f 153) (tvals [(.int .i64)] (a0, ())) (.t .str y) :=
  (spec_l1Num.all hE pv k k (Nat.le_refl k)) a0 h
/-! ### 118 (*loop.example/g00896/spec.l1Cur).anyLibrary -/
def spec_l1Cur_anyLibrary.l1 : Nat → Cur → (List Entry) → (List Entry) → Int → Option (Cur × (List Entry) × (List Entry))
  | 0, _, _, _, _ => none
  | k + 1, x0, x2, x3, x4 => (spec_l1Cur_pick.F x0 2).bind fun r5 => bif (decide ((x3.length : Int) < (IntKind.wrap .i64 (8 + r5.2)))) then (bif (decide (x4 < 10)) then ((spec_l1Cur_entry.F k r5.1).bind fun r6 => (spec_l1Num.F k x4).bind fun r7 => bif Nat.ble ((⟨#[120]⟩ : ByteArray).size + r7.size) 9223372036854775807 then (bif room (x3.length + ([(⟨((⟨#[120]⟩ : ByteArray) ++ r7), r6.2.kind, r6.2.authors, r6.2.editors, r6.2.title, r6.2.container, r6.2.publisher, r6.2.date, r6.2.volume, r6.2.pages, r6.2.cross⟩ : Entry)] : List Entry).length) .entry then (spec_l1Cur_anyLibrary.l1 k r6.1 x2 (x3 ++ ([(⟨((⟨#[120]⟩ : ByteArray) ++ r7), r6.2.kind, r6.2.authors, r6.2.editors, r6.2.title, r6.2.container, r6.2.publisher, r6.2.date, r6.2.volume, r6.2.pages, r6.2.cross⟩ : Entry)] : List Entry)) (IntKind.wrap .i64 (x4 + 1))) else none) else none) else (some (r5.1, x2, x3))) else (some (r5.1, x2, x3))
def spec_l1Cur_anyLibrary.F (k : Nat) (a0 : Cur) : Option (Cur × Library) := (spec_l1Cur_library.F k a0).bind fun r1 => bif ((r1.2.entries.length : Int) == 0) then (some (r1.1, (⟨r1.2.entries⟩ : Library))) else ((spec_l1Cur_pick.F r1.1 16).bind fun r2 => bif (r2.2 == 0) then ((spec_l1Cur_pick.F r2.1 (r1.2.entries.length : Int)).bind fun r3 => (spec_l1Cur_anyEntry.F k r3.1).bind fun r4 => bif decide (0 ≤ r3.2) then (bif decide (r3.2 < (r1.2.entries.length : Int)) then (some (r4.1, (⟨(r1.2.entries.set ((r3.2 : Int).toNat) r4.2)⟩ : Library))) else none) else none) else (bif (r2.2 == 1) then (bif decide (0 ≤ 0) then (bif decide (0 < (r1.2.entries.length : Int)) then (bif room (r1.2.entries.length + ([(r1.2.entries.getD ((0 : Int).toNat) (dflt .entry))] : List Entry).length) .entry then (some (r2.1, (⟨(r1.2.entries ++ ([(r1.2.entries.getD ((0 : Int).toNat) (dflt .entry))] : List Entry))⟩ : Library))) else none) else none) else none) else (bif (r2.2 == 2) then ((spec_l1Cur_anyLibrary.l1 k r2.1 ([] : List Entry) r1.2.entries 0).bind fun y8 => some (y8.1, (⟨y8.2.2⟩ : Library))) else (some (r2.1, (⟨r1.2.entries⟩ : Library))))))
def spec_l1Cur_anyLibrary.C (k : Nat) : Cal → Option CArm := fun c => match c with
  | .f 152 => some (.m (.bx .cur) [] _ (fun x0 x => spec_l1Cur_library.F k x0) (fun r => .kep (.bx .cur r.1) (sfV 50 .lib r.2)))
  | .f 57 => some (.m (.bx .cur) [(.int .i64)] _ (fun x0 x => spec_l1Cur_pick.F x0 x.1) (fun r => .kep (.bx .cur r.1) (.t (.int .i64) r.2)))
  | .f 54 => some (.m (.bx .cur) [] _ (fun x0 x => spec_l1Cur_anyEntry.F k x0) (fun r => .kep (.bx .cur r.1) (.t .entry r.2)))
  | .f 89 => some (.m (.bx .cur) [] _ (fun x0 x => spec_l1Cur_entry.F k x0) (fun r => .kep (.bx .cur r.1) (.t .entry r.2)))
  | .f 153 => some (.p [(.int .i64)] _ (fun x => spec_l1Num.F k x.1) (fun r => (.t .str r)))
  | _ => none
def spec_l1Cur_anyLibrary.sp1 : List Sp := [.boxT 0 1099511627776 .cur, .boxF 2 0 .lib [.t (.sl .entry)], .boxF 3 1032 .lib [.own 1028 50 .entry false true], .t 4 (.int .i64)]
def spec_l1Cur_anyLibrary.sp1_0 : List Sp := [.boxT 0 1099511627776 .cur, .boxF 2 0 .lib [.t (.sl .entry)], .boxF 3 1032 .lib [.own 1028 50 .entry false true]]
def spec_l1Cur_anyLibrary.A1 : LArm := .one spec_l1Cur_anyLibrary.sp1 spec_l1Cur_anyLibrary.sp1_0 (Cur × (List Entry) × (List Entry)) (fun k x => spec_l1Cur_anyLibrary.l1 k x.1 x.2.1.1 x.2.2.1.1 x.2.2.2.1) (.exit 1) (fun y => (y.1, (y.2.1, ()), (y.2.2, ()), ())) (fun x => (x.1, x.2.1.1, x.2.2.1.1))
def spec_l1Cur_anyLibrary.L : Nat → Option LArm := fun b => match b with
  | 1 => some spec_l1Cur_anyLibrary.A1
  | _ => none
theorem spec_l1Cur_anyLibrary.run (k : Nat) (a0 : Cur) : runM envX (tabC (spec_l1Cur_anyLibrary.C k)) (tabL 66 k spec_l1Cur_anyLibrary.L) Tryz.f118 mbase (.bx .cur a0) [] (viewK (.bx .cur) (viewR1 (.sf .lib 50))) = spec_l1Cur_anyLibrary.F k a0 := by kernel_rfl
theorem spec_l1Cur_anyLibrary.step1 (k : Nat) (x0 : Cur) (x2 : List Entry) (x3 : List Entry) (x4 : Int) : runC envX (tabC (spec_l1Cur_anyLibrary.C k)) (tabL 66 k spec_l1Cur_anyLibrary.L) 1 (loopAt Tryz.f118 1) (stOf 66 spec_l1Cur_anyLibrary.sp1 (x0, (x2, ()), (x3, ()), x4, ())) (spec_l1Cur_anyLibrary.A1.cont 66 k) = spec_l1Cur_anyLibrary.l1 (k + 1) x0 x2 x3 x4 := by kernel_rfl
theorem spec_l1Cur_anyLibrary.G (hE : EnvOk Tryz.prog envX) (pv : Nat → Value) (k : Nat) : ∀ cal A, spec_l1Cur_anyLibrary.C k cal = some A → ArmOk Tryz.prog envX pv cal A := by
  intro cal A h
  unfold spec_l1Cur_anyLibrary.C at h
  split at h
  · cases h; exact ⟨_, rfl, fun x0 x y hy => spec_l1Cur_library.good hE pv k x0 hy⟩
  · cases h; exact ⟨_, rfl, fun x0 x y hy => spec_l1Cur_pick.good hE pv x0 x.1 hy⟩
  · cases h; exact ⟨_, rfl, fun x0 x y hy => spec_l1Cur_anyEntry.good hE pv k x0 hy⟩
  · cases h; exact ⟨_, rfl, fun x0 x y hy => spec_l1Cur_entry.good hE pv k x0 hy⟩
  · cases h; exact fun x y hy => spec_l1Num.good hE pv k x.1 hy
  · cases h
theorem spec_l1Cur_anyLibrary.good (hE : EnvOk Tryz.prog envX) (pv : Nat → Value) (k : Nat) (a0 : Cur) {y : _} (h : spec_l1Cur_anyLibrary.F k a0 = some y) : MeetsM Tryz.prog envX pv 118 (.bx .cur a0) (tvals [] (())) (.kep (.bx .cur y.1) (sfV 50 .lib y.2)) :=
  funM_loops hE (t := spec_l1Cur_anyLibrary.C) k (fun k _ => spec_l1Cur_anyLibrary.G hE pv k) (f := 118) (fn := Tryz.f118) (by kernel_rfl) rfl (by kernel_rfl) (.inl rfl) (by kernel_rfl) (lt := spec_l1Cur_anyLibrary.L) (by kernel_rfl) (fun b A h => by
    unfold spec_l1Cur_anyLibrary.L at h; split at h
    · cases h; exact ⟨by kernel_rfl, by kernel_rfl, fun _ => rfl, fun _ => rfl⟩
    · cases h) (fun b A h => by
    unfold spec_l1Cur_anyLibrary.L at h; split at h
    · cases h; exact fun k x => spec_l1Cur_anyLibrary.step1 k x.1 x.2.1.1 x.2.2.1.1 x.2.2.2.1
    · cases h) ((spec_l1Cur_anyLibrary.run k a0).trans h) fun r hr => wk_viewK (fun r y h => wk_view1 h) hr
/-! ### 77 (*loop.example/g00896/spec.l1Cur).crossed -/
def spec_l1Cur_crossed.l0 : Nat → Cur → (List Entry) → (List Entry) → Int → Option (Cur × (List Entry) × (List Entry))
  | 0, _, _, _, _ => none
  | k + 1, x0, x2, x3, x4 => bif (decide (x4 < (x3.length : Int))) then (bif decide (0 ≤ x4) then (bif decide (x4 < (x3.length : Int)) then ((spec_l1Cur_one.F x0 2).bind fun r3 => bif r3.2 then ((spec_l1Cur_pick.F r3.1 (x3.length : Int)).bind fun r4 => bif decide (0 ≤ r4.2) then (bif decide (r4.2 < (x3.length : Int)) then (bif (beqS ((x3.getD ((r4.2 : Int).toNat) (dflt .entry)).key) ((x3.getD ((x4 : Int).toNat) (dflt .entry)).key)) then ((spec_l1Cur_of.F r4.1 ([(⟨#[]⟩ : ByteArray), (⟨#[110, 111, 116, 104, 101, 114, 101]⟩ : ByteArray)] : List ByteArray)).bind fun r5 => (spec_l1Cur_one.F r5.1 3).bind fun r6 => bif r6.2 then ((spec_l1Cur_one.F r6.1 3).bind fun r7 => bif r7.2 then (bif decide (0 ≤ x4) then (bif decide (x4 < (x3.length : Int)) then (spec_l1Cur_crossed.l0 k r7.1 x2 (x3.set ((x4 : Int).toNat) (⟨(x3.getD ((x4 : Int).toNat) (dflt .entry)).key, (x3.getD ((x4 : Int).toNat) (dflt .entry)).kind, (x3.getD ((x4 : Int).toNat) (dflt .entry)).authors, ([] : List Name), (x3.getD ((x4 : Int).toNat) (dflt .entry)).title, (⟨#[]⟩ : ByteArray), (⟨#[]⟩ : ByteArray), (⟨0, 0, 0, false⟩ : Date), 0, (x3.getD ((x4 : Int).toNat) (dflt .entry)).pages, r5.2⟩ : Entry)) (IntKind.wrap .i64 (x4 + 1))) else none) else none) else (bif decide (0 ≤ x4) then (bif decide (x4 < (x3.length : Int)) then (spec_l1Cur_crossed.l0 k r7.1 x2 (x3.set ((x4 : Int).toNat) (⟨(x3.getD ((x4 : Int).toNat) (dflt .entry)).key, (x3.getD ((x4 : Int).toNat) (dflt .entry)).kind, (x3.getD ((x4 : Int).toNat) (dflt .entry)).authors, ([] : List Name), (x3.getD ((x4 : Int).toNat) (dflt .entry)).title, (⟨#[]⟩ : ByteArray), (x3.getD ((x4 : Int).toNat) (dflt .entry)).publisher, (x3.getD ((x4 : Int).toNat) (dflt .entry)).date, 0, (x3.getD ((x4 : Int).toNat) (dflt .entry)).pages, r5.2⟩ : Entry)) (IntKind.wrap .i64 (x4 + 1))) else none) else none)) else ((spec_l1Cur_one.F r6.1 3).bind fun r8 => bif r8.2 then (bif decide (0 ≤ x4) then (bif decide (x4 < (x3.length : Int)) then (spec_l1Cur_crossed.l0 k r8.1 x2 (x3.set ((x4 : Int).toNat) (⟨(x3.getD ((x4 : Int).toNat) (dflt .entry)).key, (x3.getD ((x4 : Int).toNat) (dflt .entry)).kind, (x3.getD ((x4 : Int).toNat) (dflt .entry)).authors, (x3.getD ((x4 : Int).toNat) (dflt .entry)).editors, (x3.getD ((x4 : Int).toNat) (dflt .entry)).title, (x3.getD ((x4 : Int).toNat) (dflt .entry)).container, (⟨#[]⟩ : ByteArray), (⟨0, 0, 0, false⟩ : Date), (x3.getD ((x4 : Int).toNat) (dflt .entry)).volume, (x3.getD ((x4 : Int).toNat) (dflt .entry)).pages, r5.2⟩ : Entry)) (IntKind.wrap .i64 (x4 + 1))) else none) else none) else (bif decide (0 ≤ x4) then (bif decide (x4 < (x3.length : Int)) then (spec_l1Cur_crossed.l0 k r8.1 x2 (x3.set ((x4 : Int).toNat) (⟨(x3.getD ((x4 : Int).toNat) (dflt .entry)).key, (x3.getD ((x4 : Int).toNat) (dflt .entry)).kind, (x3.getD ((x4 : Int).toNat) (dflt .entry)).authors, (x3.getD ((x4 : Int).toNat) (dflt .entry)).editors, (x3.getD ((x4 : Int).toNat) (dflt .entry)).title, (x3.getD ((x4 : Int).toNat) (dflt .entry)).container, (x3.getD ((x4 : Int).toNat) (dflt .entry)).publisher, (x3.getD ((x4 : Int).toNat) (dflt .entry)).date, (x3.getD ((x4 : Int).toNat) (dflt .entry)).volume, (x3.getD ((x4 : Int).toNat) (dflt .entry)).pages, r5.2⟩ : Entry)) (IntKind.wrap .i64 (x4 + 1))) else none) else none))) else ((spec_l1Cur_one.F r4.1 3).bind fun r9 => bif r9.2 then ((spec_l1Cur_one.F r9.1 3).bind fun r10 => bif r10.2 then (bif decide (0 ≤ x4) then (bif decide (x4 < (x3.length : Int)) then (spec_l1Cur_crossed.l0 k r10.1 x2 (x3.set ((x4 : Int).toNat) (⟨(x3.getD ((x4 : Int).toNat) (dflt .entry)).key, (x3.getD ((x4 : Int).toNat) (dflt .entry)).kind, (x3.getD ((x4 : Int).toNat) (dflt .entry)).authors, ([] : List Name), (x3.getD ((x4 : Int).toNat) (dflt .entry)).title, (⟨#[]⟩ : ByteArray), (⟨#[]⟩ : ByteArray), (⟨0, 0, 0, false⟩ : Date), 0, (x3.getD ((x4 : Int).toNat) (dflt .entry)).pages, (x3.getD ((r4.2 : Int).toNat) (dflt .entry)).key⟩ : Entry)) (IntKind.wrap .i64 (x4 + 1))) else none) else none) else (bif decide (0 ≤ x4) then (bif decide (x4 < (x3.length : Int)) then (spec_l1Cur_crossed.l0 k r10.1 x2 (x3.set ((x4 : Int).toNat) (⟨(x3.getD ((x4 : Int).toNat) (dflt .entry)).key, (x3.getD ((x4 : Int).toNat) (dflt .entry)).kind, (x3.getD ((x4 : Int).toNat) (dflt .entry)).authors, ([] : List Name), (x3.getD ((x4 : Int).toNat) (dflt .entry)).title, (⟨#[]⟩ : ByteArray), (x3.getD ((x4 : Int).toNat) (dflt .entry)).publisher, (x3.getD ((x4 : Int).toNat) (dflt .entry)).date, 0, (x3.getD ((x4 : Int).toNat) (dflt .entry)).pages, (x3.getD ((r4.2 : Int).toNat) (dflt .entry)).key⟩ : Entry)) (IntKind.wrap .i64 (x4 + 1))) else none) else none)) else ((spec_l1Cur_one.F r9.1 3).bind fun r11 => bif r11.2 then (bif decide (0 ≤ x4) then (bif decide (x4 < (x3.length : Int)) then (spec_l1Cur_crossed.l0 k r11.1 x2 (x3.set ((x4 : Int).toNat) (⟨(x3.getD ((x4 : Int).toNat) (dflt .entry)).key, (x3.getD ((x4 : Int).toNat) (dflt .entry)).kind, (x3.getD ((x4 : Int).toNat) (dflt .entry)).authors, (x3.getD ((x4 : Int).toNat) (dflt .entry)).editors, (x3.getD ((x4 : Int).toNat) (dflt .entry)).title, (x3.getD ((x4 : Int).toNat) (dflt .entry)).container, (⟨#[]⟩ : ByteArray), (⟨0, 0, 0, false⟩ : Date), (x3.getD ((x4 : Int).toNat) (dflt .entry)).volume, (x3.getD ((x4 : Int).toNat) (dflt .entry)).pages, (x3.getD ((r4.2 : Int).toNat) (dflt .entry)).key⟩ : Entry)) (IntKind.wrap .i64 (x4 + 1))) else none) else none) else (bif decide (0 ≤ x4) then (bif decide (x4 < (x3.length : Int)) then (spec_l1Cur_crossed.l0 k r11.1 x2 (x3.set ((x4 : Int).toNat) (⟨(x3.getD ((x4 : Int).toNat) (dflt .entry)).key, (x3.getD ((x4 : Int).toNat) (dflt .entry)).kind, (x3.getD ((x4 : Int).toNat) (dflt .entry)).authors, (x3.getD ((x4 : Int).toNat) (dflt .entry)).editors, (x3.getD ((x4 : Int).toNat) (dflt .entry)).title, (x3.getD ((x4 : Int).toNat) (dflt .entry)).container, (x3.getD ((x4 : Int).toNat) (dflt .entry)).publisher, (x3.getD ((x4 : Int).toNat) (dflt .entry)).date, (x3.getD ((x4 : Int).toNat) (dflt .entry)).volume, (x3.getD ((x4 : Int).toNat) (dflt .entry)).pages, (x3.getD ((r4.2 : Int).toNat) (dflt .entry)).key⟩ : Entry)) (IntKind.wrap .i64 (x4 + 1))) else none) else none)))) else none) else none) else (bif (beqS ((x3.getD ((x4 : Int).toNat) (dflt .entry)).cross) ((x3.getD ((x4 : Int).toNat) (dflt .entry)).key)) then ((spec_l1Cur_of.F r3.1 ([(⟨#[]⟩ : ByteArray), (⟨#[110, 111, 116, 104, 101, 114, 101]⟩ : ByteArray)] : List ByteArray)).bind fun r12 => (spec_l1Cur_one.F r12.1 3).bind fun r13 => bif r13.2 then ((spec_l1Cur_one.F r13.1 3).bind fun r14 => bif r14.2 then (bif decide (0 ≤ x4) then (bif decide (x4 < (x3.length : Int)) then (spec_l1Cur_crossed.l0 k r14.1 x2 (x3.set ((x4 : Int).toNat) (⟨(x3.getD ((x4 : Int).toNat) (dflt .entry)).key, (x3.getD ((x4 : Int).toNat) (dflt .entry)).kind, (x3.getD ((x4 : Int).toNat) (dflt .entry)).authors, ([] : List Name), (x3.getD ((x4 : Int).toNat) (dflt .entry)).title, (⟨#[]⟩ : ByteArray), (⟨#[]⟩ : ByteArray), (⟨0, 0, 0, false⟩ : Date), 0, (x3.getD ((x4 : Int).toNat) (dflt .entry)).pages, r12.2⟩ : Entry)) (IntKind.wrap .i64 (x4 + 1))) else none) else none) else (bif decide (0 ≤ x4) then (bif decide (x4 < (x3.length : Int)) then (spec_l1Cur_crossed.l0 k r14.1 x2 (x3.set ((x4 : Int).toNat) (⟨(x3.getD ((x4 : Int).toNat) (dflt .entry)).key, (x3.getD ((x4 : Int).toNat) (dflt .entry)).kind, (x3.getD ((x4 : Int).toNat) (dflt .entry)).authors, ([] : List Name), (x3.getD ((x4 : Int).toNat) (dflt .entry)).title, (⟨#[]⟩ : ByteArray), (x3.getD ((x4 : Int).toNat) (dflt .entry)).publisher, (x3.getD ((x4 : Int).toNat) (dflt .entry)).date, 0, (x3.getD ((x4 : Int).toNat) (dflt .entry)).pages, r12.2⟩ : Entry)) (IntKind.wrap .i64 (x4 + 1))) else none) else none)) else ((spec_l1Cur_one.F r13.1 3).bind fun r15 => bif r15.2 then (bif decide (0 ≤ x4) then (bif decide (x4 < (x3.length : Int)) then (spec_l1Cur_crossed.l0 k r15.1 x2 (x3.set ((x4 : Int).toNat) (⟨(x3.getD ((x4 : Int).toNat) (dflt .entry)).key, (x3.getD ((x4 : Int).toNat) (dflt .entry)).kind, (x3.getD ((x4 : Int).toNat) (dflt .entry)).authors, (x3.getD ((x4 : Int).toNat) (dflt .entry)).editors, (x3.getD ((x4 : Int).toNat) (dflt .entry)).title, (x3.getD ((x4 : Int).toNat) (dflt .entry)).container, (⟨#[]⟩ : ByteArray), (⟨0, 0, 0, false⟩ : Date), (x3.getD ((x4 : Int).toNat) (dflt .entry)).volume, (x3.getD ((x4 : Int).toNat) (dflt .entry)).pages, r12.2⟩ : Entry)) (IntKind.wrap .i64 (x4 + 1))) else none) else none) else (bif decide (0 ≤ x4) then (bif decide (x4 < (x3.length : Int)) then (spec_l1Cur_crossed.l0 k r15.1 x2 (x3.set ((x4 : Int).toNat) (⟨(x3.getD ((x4 : Int).toNat) (dflt .entry)).key, (x3.getD ((x4 : Int).toNat) (dflt .entry)).kind, (x3.getD ((x4 : Int).toNat) (dflt .entry)).authors, (x3.getD ((x4 : Int).toNat) (dflt .entry)).editors, (x3.getD ((x4 : Int).toNat) (dflt .entry)).title, (x3.getD ((x4 : Int).toNat) (dflt .entry)).container, (x3.getD ((x4 : Int).toNat) (dflt .entry)).publisher, (x3.getD ((x4 : Int).toNat) (dflt .entry)).date, (x3.getD ((x4 : Int).toNat) (dflt .entry)).volume, (x3.getD ((x4 : Int).toNat) (dflt .entry)).pages, r12.2⟩ : Entry)) (IntKind.wrap .i64 (x4 + 1))) else none) else none))) else ((spec_l1Cur_one.F r3.1 3).bind fun r16 => bif r16.2 then ((spec_l1Cur_one.F r16.1 3).bind fun r17 => bif r17.2 then (bif decide (0 ≤ x4) then (bif decide (x4 < (x3.length : Int)) then (spec_l1Cur_crossed.l0 k r17.1 x2 (x3.set ((x4 : Int).toNat) (⟨(x3.getD ((x4 : Int).toNat) (dflt .entry)).key, (x3.getD ((x4 : Int).toNat) (dflt .entry)).kind, (x3.getD ((x4 : Int).toNat) (dflt .entry)).authors, ([] : List Name), (x3.getD ((x4 : Int).toNat) (dflt .entry)).title, (⟨#[]⟩ : ByteArray), (⟨#[]⟩ : ByteArray), (⟨0, 0, 0, false⟩ : Date), 0, (x3.getD ((x4 : Int).toNat) (dflt .entry)).pages, (x3.getD ((x4 : Int).toNat) (dflt .entry)).cross⟩ : Entry)) (IntKind.wrap .i64 (x4 + 1))) else none) else none) else (bif decide (0 ≤ x4) then (bif decide (x4 < (x3.length : Int)) then (spec_l1Cur_crossed.l0 k r17.1 x2 (x3.set ((x4 : Int).toNat) (⟨(x3.getD ((x4 : Int).toNat) (dflt .entry)).key, (x3.getD ((x4 : Int).toNat) (dflt .entry)).kind, (x3.getD ((x4 : Int).toNat) (dflt .entry)).authors, ([] : List Name), (x3.getD ((x4 : Int).toNat) (dflt .entry)).title, (⟨#[]⟩ : ByteArray), (x3.getD ((x4 : Int).toNat) (dflt .entry)).publisher, (x3.getD ((x4 : Int).toNat) (dflt .entry)).date, 0, (x3.getD ((x4 : Int).toNat) (dflt .entry)).pages, (x3.getD ((x4 : Int).toNat) (dflt .entry)).cross⟩ : Entry)) (IntKind.wrap .i64 (x4 + 1))) else none) else none)) else ((spec_l1Cur_one.F r16.1 3).bind fun r18 => bif r18.2 then (bif decide (0 ≤ x4) then (bif decide (x4 < (x3.length : Int)) then (spec_l1Cur_crossed.l0 k r18.1 x2 (x3.set ((x4 : Int).toNat) (⟨(x3.getD ((x4 : Int).toNat) (dflt .entry)).key, (x3.getD ((x4 : Int).toNat) (dflt .entry)).kind, (x3.getD ((x4 : Int).toNat) (dflt .entry)).authors, (x3.getD ((x4 : Int).toNat) (dflt .entry)).editors, (x3.getD ((x4 : Int).toNat) (dflt .entry)).title, (x3.getD ((x4 : Int).toNat) (dflt .entry)).container, (⟨#[]⟩ : ByteArray), (⟨0, 0, 0, false⟩ : Date), (x3.getD ((x4 : Int).toNat) (dflt .entry)).volume, (x3.getD ((x4 : Int).toNat) (dflt .entry)).pages, (x3.getD ((x4 : Int).toNat) (dflt .entry)).cross⟩ : Entry)) (IntKind.wrap .i64 (x4 + 1))) else none) else none) else (bif decide (0 ≤ x4) then (bif decide (x4 < (x3.length : Int)) then (spec_l1Cur_crossed.l0 k r18.1 x2 (x3.set ((x4 : Int).toNat) (x3.getD ((x4 : Int).toNat) (dflt .entry))) (IntKind.wrap .i64 (x4 + 1))) else none) else none))))) else none) else none) else (some (x0, x2, x3))
def spec_l1Cur_crossed.F (k : Nat) (a0 : Cur) : Option (Cur × Library) := (spec_l1Cur_anyLibrary.F k a0).bind fun r1 => (spec_l4Good.F k (⟨r1.2.entries⟩ : Library)).bind fun r2 => bif (!r2) then (some (r1.1, (⟨r1.2.entries⟩ : Library))) else ((spec_l1Cur_crossed.l0 k r1.1 ([] : List Entry) r1.2.entries 0).bind fun y19 => some (y19.1, (⟨y19.2.2⟩ : Library)))
def spec_l1Cur_crossed.C (k : Nat) : Cal → Option CArm := fun c => match c with
  | .f 118 => some (.m (.bx .cur) [] _ (fun x0 x => spec_l1Cur_anyLibrary.F k x0) (fun r => .kep (.bx .cur r.1) (sfV 50 .lib r.2)))
  | .f 81 => some (.p [.lib] _ (fun x => spec_l4Good.F k x.1) (fun r => (.t .bool r)))
  | .f 48 => some (.m (.bx .cur) [(.int .i64)] _ (fun x0 x => spec_l1Cur_one.F x0 x.1) (fun r => .kep (.bx .cur r.1) (.t .bool r.2)))
  | .f 57 => some (.m (.bx .cur) [(.int .i64)] _ (fun x0 x => spec_l1Cur_pick.F x0 x.1) (fun r => .kep (.bx .cur r.1) (.t (.int .i64) r.2)))
  | .f 84 => some (.m (.bx .cur) [(.sl .str)] _ (fun x0 x => spec_l1Cur_of.F x0 x.1) (fun r => .kep (.bx .cur r.1) (.t .str r.2)))
  | _ => none
def spec_l1Cur_crossed.sp0 : List Sp := [.boxT 0 1099511627776 .cur, .boxF 2 0 .lib [.t (.sl .entry)], .boxF 3 1032 .lib [.own 1028 50 .entry false true], .t 4 (.int .i64)]
def spec_l1Cur_crossed.sp0_0 : List Sp := [.boxT 0 1099511627776 .cur, .boxF 2 0 .lib [.t (.sl .entry)], .boxF 3 1032 .lib [.own 1028 50 .entry false true]]
def spec_l1Cur_crossed.A0 : LArm := .one spec_l1Cur_crossed.sp0 spec_l1Cur_crossed.sp0_0 (Cur × (List Entry) × (List Entry)) (fun k x => spec_l1Cur_crossed.l0 k x.1 x.2.1.1 x.2.2.1.1 x.2.2.2.1) (.exit 0) (fun y => (y.1, (y.2.1, ()), (y.2.2, ()), ())) (fun x => (x.1, x.2.1.1, x.2.2.1.1))
def spec_l1Cur_crossed.L : Nat → Option LArm := fun b => match b with
  | 0 => some spec_l1Cur_crossed.A0
  | _ => none
theorem spec_l1Cur_crossed.run (k : Nat) (a0 : Cur) : runM envX (tabC (spec_l1Cur_crossed.C k)) (tabL 62 k spec_l1Cur_crossed.L) Tryz.f77 mbase (.bx .cur a0) [] (viewK (.bx .cur) (viewR1 (.t .lib))) = spec_l1Cur_crossed.F k a0 := by kernel_rfl
theorem spec_l1Cur_crossed.step0 (k : Nat) (x0 : Cur) (x2 : List Entry) (x3 : List Entry) (x4 : Int) : runC envX (tabC (spec_l1Cur_crossed.C k)) (tabL 62 k spec_l1Cur_crossed.L) 0 (loopAt Tryz.f77 0) (stOf 62 spec_l1Cur_crossed.sp0 (x0, (x2, ()), (x3, ()), x4, ())) (spec_l1Cur_crossed.A0.cont 62 k) = spec_l1Cur_crossed.l0 (k + 1) x0 x2 x3 x4 := by kernel_rfl
theorem spec_l1Cur_crossed.G (hE : EnvOk Tryz.prog envX) (pv : Nat → Value) (k : Nat) : ∀ cal A, spec_l1Cur_crossed.C k cal = some A → ArmOk Tryz.prog envX pv cal A := by
  intro cal A h
  unfold spec_l1Cur_crossed.C at h
  split at h
  · cases h; exact ⟨_, rfl, fun x0 x y hy => spec_l1Cur_anyLibrary.good hE pv k x0 hy⟩
  · cases h; exact fun x y hy => spec_l4Good.good hE pv k x.1 hy
  · cases h; exact ⟨_, rfl, fun x0 x y hy => spec_l1Cur_one.good hE pv x0 x.1 hy⟩
  · cases h; exact ⟨_, rfl, fun x0 x y hy => spec_l1Cur_pick.good hE pv x0 x.1 hy⟩
  · cases h; exact ⟨_, rfl, fun x0 x y hy => spec_l1Cur_of.good hE pv x0 x.1 hy⟩
  · cases h
theorem spec_l1Cur_crossed.good (hE : EnvOk Tryz.prog envX) (pv : Nat → Value) (k : Nat) (a0 : Cur) {y : _} (h : spec_l1Cur_crossed.F k a0 = some y) : MeetsM Tryz.prog envX pv 77 (.bx .cur a0) (tvals [] (())) (.kep (.bx .cur y.1) (.t .lib y.2)) :=
  funM_loops hE (t := spec_l1Cur_crossed.C) k (fun k _ => spec_l1Cur_crossed.G hE pv k) (f := 77) (fn := Tryz.f77) (by kernel_rfl) rfl (by kernel_rfl) (.inl rfl) (by kernel_rfl) (lt := spec_l1Cur_crossed.L) (by kernel_rfl) (fun b A h => by
    unfold spec_l1Cur_crossed.L at h; split at h
    · cases h; exact ⟨by kernel_rfl, by kernel_rfl, fun _ => rfl, fun _ => rfl⟩
    · cases h) (fun b A h => by
    unfold spec_l1Cur_crossed.L at h; split at h
    · cases h; exact fun k x => spec_l1Cur_crossed.step0 k x.1 x.2.1.1 x.2.2.1.1 x.2.2.2.1
    · cases h) ((spec_l1Cur_crossed.run k a0).trans h) fun r hr => wk_viewK (fun r y h => wk_view1 h) hr
/-! ### 78 (*loop.example/g00896/spec.l1Cur).keyOf -/
def spec_l1Cur_keyOf.F (a0 : Cur) (a1 : Library) : Option (Cur × ByteArray) := bif ((a1.entries.length : Int) == 0) then ((spec_l1Cur_of.F a0 ([(⟨#[97, 49]⟩ : ByteArray), (⟨#[98, 50]⟩ : ByteArray), (⟨#[122, 122]⟩ : ByteArray), (⟨#[]⟩ : ByteArray), (⟨#[65]⟩ : ByteArray)] : List ByteArray)).bind fun r1 => some (r1.1, r1.2)) else ((spec_l1Cur_one.F a0 8).bind fun r2 => bif r2.2 then ((spec_l1Cur_of.F r2.1 ([(⟨#[97, 49]⟩ : ByteArray), (⟨#[98, 50]⟩ : ByteArray), (⟨#[122, 122]⟩ : ByteArray), (⟨#[]⟩ : ByteArray), (⟨#[65]⟩ : ByteArray)] : List ByteArray)).bind fun r3 => some (r3.1, r3.2)) else ((spec_l1Cur_pick.F r2.1 (a1.entries.length : Int)).bind fun r4 => bif decide (0 ≤ r4.2) then (bif decide (r4.2 < (a1.entries.length : Int)) then (some (r4.1, (a1.entries.getD (r4.2 : Int).toNat (dflt .entry)).key)) else none) else none))
def spec_l1Cur_keyOf.C : Cal → Option CArm := fun c => match c with
  | .f 84 => some (.m (.bx .cur) [(.sl .str)] _ (fun x0 x => spec_l1Cur_of.F x0 x.1) (fun r => .kep (.bx .cur r.1) (.t .str r.2)))
  | .f 48 => some (.m (.bx .cur) [(.int .i64)] _ (fun x0 x => spec_l1Cur_one.F x0 x.1) (fun r => .kep (.bx .cur r.1) (.t .bool r.2)))
  | .f 57 => some (.m (.bx .cur) [(.int .i64)] _ (fun x0 x => spec_l1Cur_pick.F x0 x.1) (fun r => .kep (.bx .cur r.1) (.t (.int .i64) r.2)))
  | _ => none
theorem spec_l1Cur_keyOf.run (a0 : Cur) (a1 : Library) : runM envX (tabC spec_l1Cur_keyOf.C) (tabL 26 0 (fun _ => none)) Tryz.f78 mbase (.bx .cur a0) [.t .lib a1] (viewK (.bx .cur) (viewR1 (.t .str))) = spec_l1Cur_keyOf.F a0 a1 := by kernel_rfl
theorem spec_l1Cur_keyOf.G (hE : EnvOk Tryz.prog envX) (pv : Nat → Value) : ∀ cal A, spec_l1Cur_keyOf.C cal = some A → ArmOk Tryz.prog envX pv cal A := by
  intro cal A h
  unfold spec_l1Cur_keyOf.C at h
  split at h
  · cases h; exact ⟨_, rfl, fun x0 x y hy => spec_l1Cur_of.good hE pv x0 x.1 hy⟩
  · cases h; exact ⟨_, rfl, fun x0 x y hy => spec_l1Cur_one.good hE pv x0 x.1 hy⟩
  · cases h; exact ⟨_, rfl, fun x0 x y hy => spec_l1Cur_pick.good hE pv x0 x.1 hy⟩
  · cases h
theorem spec_l1Cur_keyOf.good (hE : EnvOk Tryz.prog envX) (pv : Nat → Value) (a0 : Cur) (a1 : Library) {y : _} (h : spec_l1Cur_keyOf.F a0 a1 = some y) : MeetsM Tryz.prog envX pv 78 (.bx .cur a0) (tvals [.lib] (a1, ())) (.kep (.bx .cur y.1) (.t .str y.2)) :=
  funM_plain hE (spec_l1Cur_keyOf.G hE pv) (f := 78) (fn := Tryz.f78) (by kernel_rfl) rfl (by kernel_rfl) (.inl rfl) (by kernel_rfl) ((spec_l1Cur_keyOf.run a0 a1).trans h) fun r hr => wk_viewK (fun r y h => wk_view1 h) hr
/-! ### 35 loop.example/g00896/spec.DrawParentOf -/
def spec_DrawParentOf.F (k : Nat) (a0 : List Int) : Option (Library × ByteArray) := (spec_l1Cur_crossed.F k (⟨a0, 0, 0⟩ : Cur)).bind fun r1 => (spec_l1Cur_keyOf.F r1.1 r1.2).bind fun r2 => some (r1.2, r2.2)
def spec_DrawParentOf.C (k : Nat) : Cal → Option CArm := fun c => match c with
  | .f 77 => some (.m (.bx .cur) [] _ (fun x0 x => spec_l1Cur_crossed.F k x0) (fun r => .kep (.bx .cur r.1) (.t .lib r.2)))
  | .f 78 => some (.m (.bx .cur) [.lib] _ (fun x0 x => spec_l1Cur_keyOf.F x0 x.1) (fun r => .kep (.bx .cur r.1) (.t .str r.2)))
  | _ => none
theorem spec_DrawParentOf.run (k : Nat) (a0 : List Int) : runF envX (tabC (spec_DrawParentOf.C k)) (tabL 15 0 (fun _ => none)) Tryz.f35 [.t (.sl (.int .u8)) a0] (viewR2 (.t .lib) (.t .str)) = spec_DrawParentOf.F k a0 := by kernel_rfl
theorem spec_DrawParentOf.G (hE : EnvOk Tryz.prog envX) (pv : Nat → Value) (k : Nat) : ∀ cal A, spec_DrawParentOf.C k cal = some A → ArmOk Tryz.prog envX pv cal A := by
  intro cal A h
  unfold spec_DrawParentOf.C at h
  split at h
  · cases h; exact ⟨_, rfl, fun x0 x y hy => spec_l1Cur_crossed.good hE pv k x0 hy⟩
  · cases h; exact ⟨_, rfl, fun x0 x y hy => spec_l1Cur_keyOf.good hE pv x0 x.1 hy⟩
  · cases h
theorem spec_DrawParentOf.good (hE : EnvOk Tryz.prog envX) (pv : Nat → Value) (k : Nat) (a0 : List Int) {y : _} (h : spec_DrawParentOf.F k a0 = some y) : Meets Tryz.prog envX pv (.f 35) (tvals [(.sl (.int .u8))] (a0, ())) (.tup [.t .lib y.1, .t .str y.2]) :=
  fun_plain hE (spec_DrawParentOf.G hE pv k) (f := 35) (fn := Tryz.f35) (by kernel_rfl) rfl (by kernel_rfl) (by kernel_rfl) ((spec_DrawParentOf.run k a0).trans h) fun r hr => wk_view2 hr
/-! ### 7 loop.example/g00896/spec.DrawCrossChain -/
def spec_DrawCrossChain.F (k : Nat) (a0 : List Int) : Option (Library × ByteArray) := (spec_DrawParentOf.F k a0).bind fun r1 => some (r1.1, r1.2)
def spec_DrawCrossChain.C (k : Nat) : Cal → Option CArm := fun c => match c with
  | .f 35 => some (.p [(.sl (.int .u8))] _ (fun x => spec_DrawParentOf.F k x.1) (fun r => (.tup [.t .lib r.1, .t .str r.2])))
  | _ => none
theorem spec_DrawCrossChain.run (k : Nat) (a0 : List Int) : runF envX (tabC (spec_DrawCrossChain.C k)) (tabL 8 0 (fun _ => none)) Tryz.f7 [.t (.sl (.int .u8)) a0] (viewR2 (.t .lib) (.t .str)) = spec_DrawCrossChain.F k a0 := by kernel_rfl
theorem spec_DrawCrossChain.G (hE : EnvOk Tryz.prog envX) (pv : Nat → Value) (k : Nat) : ∀ cal A, spec_DrawCrossChain.C k cal = some A → ArmOk Tryz.prog envX pv cal A := by
  intro cal A h
  unfold spec_DrawCrossChain.C at h
  split at h
  · cases h; exact fun x y hy => spec_DrawParentOf.good hE pv k x.1 hy
  · cases h
theorem spec_DrawCrossChain.good (hE : EnvOk Tryz.prog envX) (pv : Nat → Value) (k : Nat) (a0 : List Int) {y : _} (h : spec_DrawCrossChain.F k a0 = some y) : Meets Tryz.prog envX pv (.f 7) (tvals [(.sl (.int .u8))] (a0, ())) (.tup [.t .lib y.1, .t .str y.2]) :=
  fun_plain hE (spec_DrawCrossChain.G hE pv k) (f := 7) (fn := Tryz.f7) (by kernel_rfl) rfl (by kernel_rfl) (by kernel_rfl) ((spec_DrawCrossChain.run k a0).trans h) fun r hr => wk_view2 hr
-- NO 79 slices.IndexFunc[[]loop.example/g00896/impl.Entry,loop.example/g00896/impl.Entry]: a parameter's type
-- NO 80 loop.example/g00896/impl.entryIndex$1: load from tup
/-! ### 80 loop.example/g00896/impl.entryIndex$1 at what it captured -/
def impl_entryIndex_1.F (a0 : Entry) (a1 : ByteArray) : Option (Bool) := some (beqS a0.key a1)
def impl_entryIndex_1.C : Cal → Option CArm := fun c => match c with
  | _ => none
theorem impl_entryIndex_1.run (a0 : Entry) (a1 : ByteArray) : runF envX (tabC impl_entryIndex_1.C) (tabL 8 0 (fun _ => none)) Tryz.f80 [.t .entry a0, .tp (.t .str a1)] (viewR1 (.t .bool)) = impl_entryIndex_1.F a0 a1 := by kernel_rfl
theorem impl_entryIndex_1.G (hE : EnvOk Tryz.prog envX) (pv : Nat → Value) : ∀ cal A, impl_entryIndex_1.C cal = some A → ArmOk Tryz.prog envX pv cal A := by
  intro cal A h
  unfold impl_entryIndex_1.C at h
  cases h
theorem impl_entryIndex_1.good (hE : EnvOk Tryz.prog envX) (pv : Nat → Value) (a0 : Entry) (a1 : ByteArray) {y : _} (h : impl_entryIndex_1.F a0 a1 = some y) : Meets Tryz.prog envX pv (.f 80) (pvals [.t .entry, .tp .str] (a0, a1, ())) (.t .bool y) :=
  fun_plain hE (impl_entryIndex_1.G hE pv) (f := 80) (fn := Tryz.f80) (by kernel_rfl) rfl (by kernel_rfl) (by kernel_rfl) ((impl_entryIndex_1.run a0 a1).trans h) fun r hr => wk_view1 hr
/-! ### 79 slices.IndexFunc[[]loop.example/g00896/impl.Entry,loop.example/g00896/impl.Entry] at loop.example/g00896/impl.entryIndex$1 -/
def slices_IndexFunc_Entry_f80.l0 : Nat → (List Entry) → ByteArray → Int → Int → Option (Sum Int Unit)
  | 0, _, _, _, _ => none
  | k + 1, x0, x1, x7, x8 => bif (decide (x8 < x7)) then (bif decide (0 ≤ x8) then (bif decide (x8 < (x0.length : Int)) then ((impl_entryIndex_1.F (x0.getD (x8 : Int).toNat (dflt .entry)) x1).bind fun r1 => bif r1 then (some (.inl x8)) else (slices_IndexFunc_Entry_f80.l0 k x0 x1 x7 (IntKind.wrap .i64 (x8 + 1)))) else none) else none) else (some (.inr ()))
def slices_IndexFunc_Entry_f80.F (k : Nat) (a0 : List Entry) (a1c0 : ByteArray) : Option (Int) := (slices_IndexFunc_Entry_f80.l0 k a0 a1c0 (a0.length : Int) 0).bind fun y2 => match y2 with | .inl z3 => some z3 | .inr z3 => some (-1)
def slices_IndexFunc_Entry_f80.C (k : Nat) : Cal → Option CArm := fun c => match c with
  | .f 80 => some (.q [.t .entry, .tp .str] _ (fun x => impl_entryIndex_1.F x.1 x.2.1) (fun r => (.t .bool r)))
  | _ => none
def slices_IndexFunc_Entry_f80.sp0 : List Sp := [.t 0 (.sl .entry), .cl 1 80 [.tp .str], .t 7 (.int .i64), .t 8 (.int .i64)]
def slices_IndexFunc_Entry_f80.sp0_0 : List Sp := [.t 4 (.int .i64)]
def slices_IndexFunc_Entry_f80.sp0_1 : List Sp := []
def slices_IndexFunc_Entry_f80.A0 : LArm := .two slices_IndexFunc_Entry_f80.sp0 slices_IndexFunc_Entry_f80.sp0_0 slices_IndexFunc_Entry_f80.sp0_1 (Int) (Unit) (fun k x => slices_IndexFunc_Entry_f80.l0 k x.1 x.2.1.1 x.2.2.1 x.2.2.2.1) .ret (.exit 0) (fun y => (y, ())) (fun x => x.1) (fun y => ()) (fun x => ())
def slices_IndexFunc_Entry_f80.L : Nat → Option LArm := fun b => match b with
  | 0 => some slices_IndexFunc_Entry_f80.A0
  | _ => none
theorem slices_IndexFunc_Entry_f80.run (k : Nat) (a0 : List Entry) (a1c0 : ByteArray) : runF envX (tabC (slices_IndexFunc_Entry_f80.C k)) (tabL 19 k slices_IndexFunc_Entry_f80.L) Tryz.f79 [.t (.sl .entry) a0, .clo 80 [.tp (.t .str a1c0)]] (viewR1 (.t (.int .i64))) = slices_IndexFunc_Entry_f80.F k a0 a1c0 := by kernel_rfl
theorem slices_IndexFunc_Entry_f80.step0 (k : Nat) (x0 : List Entry) (x1 : ByteArray) (x7 : Int) (x8 : Int) : runC envX (tabC (slices_IndexFunc_Entry_f80.C k)) (tabL 19 k slices_IndexFunc_Entry_f80.L) 0 (loopAt Tryz.f79 0) (stOf 19 slices_IndexFunc_Entry_f80.sp0 (x0, (x1, ()), x7, x8, ())) (slices_IndexFunc_Entry_f80.A0.cont 19 k) = slices_IndexFunc_Entry_f80.l0 (k + 1) x0 x1 x7 x8 := by kernel_rfl
theorem slices_IndexFunc_Entry_f80.G (hE : EnvOk Tryz.prog envX) (pv : Nat → Value) (k : Nat) : ∀ cal A, slices_IndexFunc_Entry_f80.C k cal = some A → ArmOk Tryz.prog envX pv cal A := by
  intro cal A h
  unfold slices_IndexFunc_Entry_f80.C at h
  split at h
  · cases h; exact fun x y hy => impl_entryIndex_1.good hE pv x.1 x.2.1 hy
  · cases h
theorem slices_IndexFunc_Entry_f80.good (hE : EnvOk Tryz.prog envX) (pv : Nat → Value) (k : Nat) (a0 : List Entry) (a1c0 : ByteArray) {y : _} (h : slices_IndexFunc_Entry_f80.F k a0 a1c0 = some y) : Meets Tryz.prog envX pv (.f 79) (pvals [.t (.sl .entry), .clo 80 [.tp .str]] (a0, (a1c0, ()), ())) (.t (.int .i64) y) :=
  fun_loops hE (t := slices_IndexFunc_Entry_f80.C) k (fun k _ => slices_IndexFunc_Entry_f80.G hE pv k) (f := 79) (fn := Tryz.f79) (by kernel_rfl) rfl (by kernel_rfl) (by kernel_rfl) (lt := slices_IndexFunc_Entry_f80.L) (by kernel_rfl) (fun b A h => by
    unfold slices_IndexFunc_Entry_f80.L at h; split at h
    · cases h; exact ⟨by kernel_rfl, by kernel_rfl, by kernel_rfl, fun _ => rfl, fun _ => rfl, fun _ => rfl⟩
    · cases h) (fun b A h => by
    unfold slices_IndexFunc_Entry_f80.L at h; split at h
    · cases h; exact fun k x => slices_IndexFunc_Entry_f80.step0 k x.1 x.2.1.1 x.2.2.1 x.2.2.2.1
    · cases h) ((slices_IndexFunc_Entry_f80.run k a0 a1c0).trans h) fun r hr => wk_view1 hr
/-! ### 36 loop.example/g00896/impl.entryIndex -/
def impl_entryIndex.F (k : Nat) (a0 : Library) (a1 : ByteArray) : Option (Int) := (slices_IndexFunc_Entry_f80.F k a0.entries a1).bind fun r1 => some r1
def impl_entryIndex.C (k : Nat) : Cal → Option CArm := fun c => match c with
  | .f 79 => some (.q [.t (.sl .entry), .clo 80 [.tp .str]] _ (fun x => slices_IndexFunc_Entry_f80.F k x.1 x.2.1.1) (fun r => (.t (.int .i64) r)))
  | _ => none
theorem impl_entryIndex.run (k : Nat) (a0 : Library) (a1 : ByteArray) : runF envX (tabC (impl_entryIndex.C k)) (tabL 9 0 (fun _ => none)) Tryz.f36 [.t .lib a0, .t .str a1] (viewR1 (.t (.int .i64))) = impl_entryIndex.F k a0 a1 := by kernel_rfl
theorem impl_entryIndex.G (hE : EnvOk Tryz.prog envX) (pv : Nat → Value) (k : Nat) : ∀ cal A, impl_entryIndex.C k cal = some A → ArmOk Tryz.prog envX pv cal A := by
  intro cal A h
  unfold impl_entryIndex.C at h
  split at h
  · cases h; exact fun x y hy => slices_IndexFunc_Entry_f80.good hE pv k x.1 x.2.1.1 hy
  · cases h
theorem impl_entryIndex.good (hE : EnvOk Tryz.prog envX) (pv : Nat → Value) (k : Nat) (a0 : Library) (a1 : ByteArray) {y : _} (h : impl_entryIndex.F k a0 a1 = some y) : Meets Tryz.prog envX pv (.f 36) (tvals [.lib, .str] (a0, a1, ())) (.t (.int .i64) y) :=
  fun_plain hE (impl_entryIndex.G hE pv k) (f := 36) (fn := Tryz.f36) (by kernel_rfl) rfl (by kernel_rfl) (by kernel_rfl) ((impl_entryIndex.run k a0 a1).trans h) fun r hr => wk_view1 hr
/-! ### 119 strings.Trim -/
def strings_Trim.F (a0 : ByteArray) (a1 : ByteArray) : Option (ByteArray) := xTrim1 a0 a1
theorem strings_Trim.good (hE : EnvOk Tryz.prog envX) (pv : Nat → Value) (a0 : ByteArray) (a1 : ByteArray) {y : _} (h : strings_Trim.F a0 a1 = some y) : Meets Tryz.prog envX pv (.f 119) (tvals [.str, .str] (a0, a1, ())) (.t .str y) :=
  ext_trim1 (fn := Tryz.f119) (by kernel_rfl) rfl (by kernel_rfl) Tryz.strings_Trim_one h
/-! ### 85 loop.example/g00896/impl.isPrintable -/
def impl_isPrintable.l0 : Nat → ByteArray → Int → Option (Sum Bool ByteArray)
  | 0, _, _ => none
  | k + 1, x0, x3 => bif (decide (x3 < (x0.size : Int))) then (bif decide (0 ≤ x3) then (bif decide (x3 < (x0.size : Int)) then (bif (decide ((bt x0 (x3 : Int).toNat) < 32)) then (some (.inl false)) else (bif decide (0 ≤ x3) then (bif decide (x3 < (x0.size : Int)) then (bif (decide ((bt x0 (x3 : Int).toNat) > 126)) then (some (.inl false)) else (impl_isPrintable.l0 k x0 (IntKind.wrap .i64 (x3 + 1)))) else none) else none)) else none) else none) else (some (.inr x0))
def impl_isPrintable.F (k : Nat) (a0 : ByteArray) : Option (Bool) := (impl_isPrintable.l0 k a0 0).bind fun y1 => match y1 with | .inl z2 => some z2 | .inr z2 => (strings_Trim.F z2 (⟨#[32]⟩ : ByteArray)).bind fun r3 => some (beqS r3 z2)
def impl_isPrintable.C (k : Nat) : Cal → Option CArm := fun c => match c with
  | .f 119 => some (.p [.str, .str] _ (fun x => strings_Trim.F x.1 x.2.1) (fun r => (.t .str r)))
  | _ => none
def impl_isPrintable.sp0 : List Sp := [.t 0 .str, .t 3 (.int .i64)]
def impl_isPrintable.sp0_0 : List Sp := [.t 2 .bool]
def impl_isPrintable.sp0_1 : List Sp := [.t 0 .str]
def impl_isPrintable.A0 : LArm := .two impl_isPrintable.sp0 impl_isPrintable.sp0_0 impl_isPrintable.sp0_1 (Bool) (ByteArray) (fun k x => impl_isPrintable.l0 k x.1 x.2.1) .ret (.exit 0) (fun y => (y, ())) (fun x => x.1) (fun y => (y, ())) (fun x => x.1)
def impl_isPrintable.L : Nat → Option LArm := fun b => match b with
  | 0 => some impl_isPrintable.A0
  | _ => none
theorem impl_isPrintable.run (k : Nat) (a0 : ByteArray) : runF envX (tabC (impl_isPrintable.C k)) (tabL 24 k impl_isPrintable.L) Tryz.f85 [.t .str a0] (viewR1 (.t .bool)) = impl_isPrintable.F k a0 := by kernel_rfl
theorem impl_isPrintable.step0 (k : Nat) (x0 : ByteArray) (x3 : Int) : runC envX (tabC (impl_isPrintable.C k)) (tabL 24 k impl_isPrintable.L) 0 (loopAt Tryz.f85 0) (stOf 24 impl_isPrintable.sp0 (x0, x3, ())) (impl_isPrintable.A0.cont 24 k) = impl_isPrintable.l0 (k + 1) x0 x3 := by kernel_rfl
theorem impl_isPrintable.G (hE : EnvOk Tryz.prog envX) (pv : Nat → Value) (k : Nat) : ∀ cal A, impl_isPrintable.C k cal = some A → ArmOk Tryz.prog envX pv cal A := by
  intro cal A h
  unfold impl_isPrintable.C at h
  split at h
  · cases h; exact fun x y hy => strings_Trim.good hE pv x.1 x.2.1 hy
  · cases h
theorem impl_isPrintable.good (hE : EnvOk Tryz.prog envX) (pv : Nat → Value) (k : Nat) (a0 : ByteArray) {y : _} (h : impl_isPrintable.F k a0 = some y) : Meets Tryz.prog envX pv (.f 85) (tvals [.str] (a0, ())) (.t .bool y) :=
  fun_loops hE (t := impl_isPrintable.C) k (fun k _ => impl_isPrintable.G hE pv k) (f := 85) (fn := Tryz.f85) (by kernel_rfl) rfl (by kernel_rfl) (by kernel_rfl) (lt := impl_isPrintable.L) (by kernel_rfl) (fun b A h => by
    unfold impl_isPrintable.L at h; split at h
    · cases h; exact ⟨by kernel_rfl, by kernel_rfl, by kernel_rfl, fun _ => rfl, fun _ => rfl, fun _ => rfl⟩
    · cases h) (fun b A h => by
    unfold impl_isPrintable.L at h; split at h
    · cases h; exact fun k x => impl_isPrintable.step0 k x.1 x.2.1
    · cases h) ((impl_isPrintable.run k a0).trans h) fun r hr => wk_view1 hr
/-! ### 50 loop.example/g00896/impl.isText -/
def impl_isText.F (k : Nat) (a0 : ByteArray) : Option (Bool) := bif (decide ((a0.size : Int) ≤ 40)) then ((impl_isPrintable.F k a0).bind fun r1 => some r1) else (some false)
def impl_isText.C (k : Nat) : Cal → Option CArm := fun c => match c with
  | .f 85 => some (.p [.str] _ (fun x => impl_isPrintable.F k x.1) (fun r => (.t .bool r)))
  | _ => none
theorem impl_isText.run (k : Nat) (a0 : ByteArray) : runF envX (tabC (impl_isText.C k)) (tabL 10 0 (fun _ => none)) Tryz.f50 [.t .str a0] (viewR1 (.t .bool)) = impl_isText.F k a0 := by kernel_rfl
theorem impl_isText.G (hE : EnvOk Tryz.prog envX) (pv : Nat → Value) (k : Nat) : ∀ cal A, impl_isText.C k cal = some A → ArmOk Tryz.prog envX pv cal A := by
  intro cal A h
  unfold impl_isText.C at h
  split at h
  · cases h; exact fun x y hy => impl_isPrintable.good hE pv k x.1 hy
  · cases h
theorem impl_isText.good (hE : EnvOk Tryz.prog envX) (pv : Nat → Value) (k : Nat) (a0 : ByteArray) {y : _} (h : impl_isText.F k a0 = some y) : Meets Tryz.prog envX pv (.f 50) (tvals [.str] (a0, ())) (.t .bool y) :=
  fun_plain hE (impl_isText.G hE pv k) (f := 50) (fn := Tryz.f50) (by kernel_rfl) rfl (by kernel_rfl) (by kernel_rfl) ((impl_isText.run k a0).trans h) fun r hr => wk_view1 hr
/-! ### 59 loop.example/g00896/impl.inside -/
def impl_inside.F (a0 : Int) (a1 : Int) (a2 : Int) : Option (Bool) := bif (decide (a0 ≥ a1)) then (some (decide (a0 ≤ a2))) else (some false)
def impl_inside.C : Cal → Option CArm := fun c => match c with
  | _ => none
theorem impl_inside.run (a0 : Int) (a1 : Int) (a2 : Int) : runF envX (tabC impl_inside.C) (tabL 15 0 (fun _ => none)) Tryz.f59 [.t (.int .i64) a0, .t (.int .i64) a1, .t (.int .i64) a2] (viewR1 (.t .bool)) = impl_inside.F a0 a1 a2 := by kernel_rfl
theorem impl_inside.G (hE : EnvOk Tryz.prog envX) (pv : Nat → Value) : ∀ cal A, impl_inside.C cal = some A → ArmOk Tryz.prog envX pv cal A := by
  intro cal A h
  unfold impl_inside.C at h
  cases h
theorem impl_inside.good (hE : EnvOk Tryz.prog envX) (pv : Nat → Value) (a0 : Int) (a1 : Int) (a2 : Int) {y : _} (h : impl_inside.F a0 a1 a2 = some y) : Meets Tryz.prog envX pv (.f 59) (tvals [(.int .i64), (.int .i64), (.int .i64)] (a0, a1, a2, ())) (.t .bool y) :=
  fun_plain hE (impl_inside.G hE pv) (f := 59) (fn := Tryz.f59) (by kernel_rfl) rfl (by kernel_rfl) (by kernel_rfl) ((impl_inside.run a0 a1 a2).trans h) fun r hr => wk_view1 hr
/-! ### 103 loop.example/g00896/impl.daysInMonth -/
def impl_daysInMonth.F (a0 : Int) (a1 : Int) : Option (Int) := bif (a1 == 2) then (bif (4 == 0) then (none) else (bif ((Int.tmod a0 4) == 0) then (bif (100 == 0) then (none) else (bif ((Int.tmod a0 100) != 0) then (some 29) else (bif (400 == 0) then (none) else (bif ((Int.tmod a0 400) == 0) then (some 29) else (some 28))))) else (some 28))) else (bif (a1 == 4) then (bif (a1 == 4) then (some 30) else (some 31)) else (bif (a1 == 6) then (bif (a1 == 6) then (some 30) else (some 31)) else (bif (a1 == 9) then (bif (a1 == 9) then (some 30) else (some 31)) else (bif (a1 == 11) then (some 30) else (some 31)))))
def impl_daysInMonth.C : Cal → Option CArm := fun c => match c with
  | _ => none
theorem impl_daysInMonth.run (a0 : Int) (a1 : Int) : runF envX (tabC impl_daysInMonth.C) (tabL 26 0 (fun _ => none)) Tryz.f103 [.t (.int .i64) a0, .t (.int .i64) a1] (viewR1 (.t (.int .i64))) = impl_daysInMonth.F a0 a1 := by kernel_rfl
theorem impl_daysInMonth.G (hE : EnvOk Tryz.prog envX) (pv : Nat → Value) : ∀ cal A, impl_daysInMonth.C cal = some A → ArmOk Tryz.prog envX pv cal A := by
  intro cal A h
  unfold impl_daysInMonth.C at h
  cases h
theorem impl_daysInMonth.good (hE : EnvOk Tryz.prog envX) (pv : Nat → Value) (a0 : Int) (a1 : Int) {y : _} (h : impl_daysInMonth.F a0 a1 = some y) : Meets Tryz.prog envX pv (.f 103) (tvals [(.int .i64), (.int .i64)] (a0, a1, ())) (.t (.int .i64) y) :=
  fun_plain hE (impl_daysInMonth.G hE pv) (f := 103) (fn := Tryz.f103) (by kernel_rfl) rfl (by kernel_rfl) (by kernel_rfl) ((impl_daysInMonth.run a0 a1).trans h) fun r hr => wk_view1 hr
/-! ### 65 loop.example/g00896/impl.IsValidDate -/
def impl_IsValidDate.F (a0 : Date) : Option (Bool) := bif ((a0.y == 0 && (a0.m == 0 && (a0.d == 0 && a0.c == false)))) then (some true) else ((impl_inside.F a0.y 1 2999).bind fun r1 => bif (!r1) then (some false) else ((impl_inside.F a0.m 0 12).bind fun r2 => bif (!r2) then (some false) else (bif a0.c then (bif (a0.m != 0) then (some false) else (bif (a0.m == 0) then (some (a0.d == 0)) else ((impl_daysInMonth.F a0.y a0.m).bind fun r3 => (impl_inside.F a0.d 0 r3).bind fun r4 => some r4))) else (bif (a0.m == 0) then (some (a0.d == 0)) else ((impl_daysInMonth.F a0.y a0.m).bind fun r5 => (impl_inside.F a0.d 0 r5).bind fun r6 => some r6)))))
def impl_IsValidDate.C : Cal → Option CArm := fun c => match c with
  | .f 59 => some (.p [(.int .i64), (.int .i64), (.int .i64)] _ (fun x => impl_inside.F x.1 x.2.1 x.2.2.1) (fun r => (.t .bool r)))
  | .f 103 => some (.p [(.int .i64), (.int .i64)] _ (fun x => impl_daysInMonth.F x.1 x.2.1) (fun r => (.t (.int .i64) r)))
  | _ => none
theorem impl_IsValidDate.run (a0 : Date) : runF envX (tabC impl_IsValidDate.C) (tabL 39 0 (fun _ => none)) Tryz.f65 [.t .date a0] (viewR1 (.t .bool)) = impl_IsValidDate.F a0 := by kernel_rfl
theorem impl_IsValidDate.G (hE : EnvOk Tryz.prog envX) (pv : Nat → Value) : ∀ cal A, impl_IsValidDate.C cal = some A → ArmOk Tryz.prog envX pv cal A := by
  intro cal A h
  unfold impl_IsValidDate.C at h
  split at h
  · cases h; exact fun x y hy => impl_inside.good hE pv x.1 x.2.1 x.2.2.1 hy
  · cases h; exact fun x y hy => impl_daysInMonth.good hE pv x.1 x.2.1 hy
  · cases h
theorem impl_IsValidDate.good (hE : EnvOk Tryz.prog envX) (pv : Nat → Value) (a0 : Date) {y : _} (h : impl_IsValidDate.F a0 = some y) : Meets Tryz.prog envX pv (.f 65) (tvals [.date] (a0, ())) (.t .bool y) :=
  fun_plain hE (impl_IsValidDate.G hE pv) (f := 65) (fn := Tryz.f65) (by kernel_rfl) rfl (by kernel_rfl) (by kernel_rfl) ((impl_IsValidDate.run a0).trans h) fun r hr => wk_view1 hr
/-! ### 121 loop.example/g00896/impl.isLower -/
def impl_isLower.F (a0 : Int) : Option (Bool) := bif (decide (a0 ≥ 97)) then (some (decide (a0 ≤ 122))) else (some false)
def impl_isLower.C : Cal → Option CArm := fun c => match c with
  | _ => none
theorem impl_isLower.run (a0 : Int) : runF envX (tabC impl_isLower.C) (tabL 9 0 (fun _ => none)) Tryz.f121 [.t (.int .u8) a0] (viewR1 (.t .bool)) = impl_isLower.F a0 := by kernel_rfl
theorem impl_isLower.G (hE : EnvOk Tryz.prog envX) (pv : Nat → Value) : ∀ cal A, impl_isLower.C cal = some A → ArmOk Tryz.prog envX pv cal A := by
  intro cal A h
  unfold impl_isLower.C at h
  cases h
theorem impl_isLower.good (hE : EnvOk Tryz.prog envX) (pv : Nat → Value) (a0 : Int) {y : _} (h : impl_isLower.F a0 = some y) : Meets Tryz.prog envX pv (.f 121) (tvals [(.int .u8)] (a0, ())) (.t .bool y) :=
  fun_plain hE (impl_isLower.G hE pv) (f := 121) (fn := Tryz.f121) (by kernel_rfl) rfl (by kernel_rfl) (by kernel_rfl) ((impl_isLower.run a0).trans h) fun r hr => wk_view1 hr
/-! ### 122 loop.example/g00896/impl.isDigit -/
def impl_isDigit.F (a0 : Int) : Option (Bool) := bif (decide (a0 ≥ 48)) then (some (decide (a0 ≤ 57))) else (some false)
def impl_isDigit.C : Cal → Option CArm := fun c => match c with
  | _ => none
theorem impl_isDigit.run (a0 : Int) : runF envX (tabC impl_isDigit.C) (tabL 9 0 (fun _ => none)) Tryz.f122 [.t (.int .u8) a0] (viewR1 (.t .bool)) = impl_isDigit.F a0 := by kernel_rfl
theorem impl_isDigit.G (hE : EnvOk Tryz.prog envX) (pv : Nat → Value) : ∀ cal A, impl_isDigit.C cal = some A → ArmOk Tryz.prog envX pv cal A := by
  intro cal A h
  unfold impl_isDigit.C at h
  cases h
theorem impl_isDigit.good (hE : EnvOk Tryz.prog envX) (pv : Nat → Value) (a0 : Int) {y : _} (h : impl_isDigit.F a0 = some y) : Meets Tryz.prog envX pv (.f 122) (tvals [(.int .u8)] (a0, ())) (.t .bool y) :=
  fun_plain hE (impl_isDigit.G hE pv) (f := 122) (fn := Tryz.f122) (by kernel_rfl) rfl (by kernel_rfl) (by kernel_rfl) ((impl_isDigit.run a0).trans h) fun r hr => wk_view1 hr
/-! ### 96 loop.example/g00896/impl.isKey -/
def impl_isKey.l0 : Nat → ByteArray → Int → Option (Sum Bool Unit)
  | 0, _, _ => none
  | k + 1, x0, x3 => bif (decide (x3 < (x0.size : Int))) then (bif decide (0 ≤ x3) then (bif decide (x3 < (x0.size : Int)) then ((impl_isLower.F (bt x0 (x3 : Int).toNat)).bind fun r3 => bif (!r3) then (bif decide (0 ≤ x3) then (bif decide (x3 < (x0.size : Int)) then ((impl_isDigit.F (bt x0 (x3 : Int).toNat)).bind fun r4 => bif (!r4) then (some (.inl false)) else (impl_isKey.l0 k x0 (IntKind.wrap .i64 (x3 + 1)))) else none) else none) else (impl_isKey.l0 k x0 (IntKind.wrap .i64 (x3 + 1)))) else none) else none) else (some (.inr ()))
def impl_isKey.F (k : Nat) (a0 : ByteArray) : Option (Bool) := (impl_inside.F (a0.size : Int) 1 10).bind fun r1 => bif (!r1) then (some false) else (bif decide (0 ≤ 0) then (bif decide (0 < (a0.size : Int)) then ((impl_isLower.F (bt a0 (0 : Int).toNat)).bind fun r2 => bif (!r2) then (some false) else ((impl_isKey.l0 k a0 0).bind fun y5 => match y5 with | .inl z6 => some z6 | .inr z6 => some true)) else none) else none)
def impl_isKey.C (k : Nat) : Cal → Option CArm := fun c => match c with
  | .f 59 => some (.p [(.int .i64), (.int .i64), (.int .i64)] _ (fun x => impl_inside.F x.1 x.2.1 x.2.2.1) (fun r => (.t .bool r)))
  | .f 121 => some (.p [(.int .u8)] _ (fun x => impl_isLower.F x.1) (fun r => (.t .bool r)))
  | .f 122 => some (.p [(.int .u8)] _ (fun x => impl_isDigit.F x.1) (fun r => (.t .bool r)))
  | _ => none
def impl_isKey.sp0 : List Sp := [.t 0 .str, .t 3 (.int .i64)]
def impl_isKey.sp0_0 : List Sp := [.t 2 .bool]
def impl_isKey.sp0_1 : List Sp := []
def impl_isKey.A0 : LArm := .two impl_isKey.sp0 impl_isKey.sp0_0 impl_isKey.sp0_1 (Bool) (Unit) (fun k x => impl_isKey.l0 k x.1 x.2.1) .ret (.exit 0) (fun y => (y, ())) (fun x => x.1) (fun y => ()) (fun x => ())
def impl_isKey.L : Nat → Option LArm := fun b => match b with
  | 0 => some impl_isKey.A0
  | _ => none
theorem impl_isKey.run (k : Nat) (a0 : ByteArray) : runF envX (tabC (impl_isKey.C k)) (tabL 32 k impl_isKey.L) Tryz.f96 [.t .str a0] (viewR1 (.t .bool)) = impl_isKey.F k a0 := by kernel_rfl
theorem impl_isKey.step0 (k : Nat) (x0 : ByteArray) (x3 : Int) : runC envX (tabC (impl_isKey.C k)) (tabL 32 k impl_isKey.L) 0 (loopAt Tryz.f96 0) (stOf 32 impl_isKey.sp0 (x0, x3, ())) (impl_isKey.A0.cont 32 k) = impl_isKey.l0 (k + 1) x0 x3 := by kernel_rfl
theorem impl_isKey.G (hE : EnvOk Tryz.prog envX) (pv : Nat → Value) (k : Nat) : ∀ cal A, impl_isKey.C k cal = some A → ArmOk Tryz.prog envX pv cal A := by
  intro cal A h
  unfold impl_isKey.C at h
  split at h
  · cases h; exact fun x y hy => impl_inside.good hE pv x.1 x.2.1 x.2.2.1 hy
  · cases h; exact fun x y hy => impl_isLower.good hE pv x.1 hy
  · cases h; exact fun x y hy => impl_isDigit.good hE pv x.1 hy
  · cases h
theorem impl_isKey.good (hE : EnvOk Tryz.prog envX) (pv : Nat → Value) (k : Nat) (a0 : ByteArray) {y : _} (h : impl_isKey.F k a0 = some y) : Meets Tryz.prog envX pv (.f 96) (tvals [.str] (a0, ())) (.t .bool y) :=
  fun_loops hE (t := impl_isKey.C) k (fun k _ => impl_isKey.G hE pv k) (f := 96) (fn := Tryz.f96) (by kernel_rfl) rfl (by kernel_rfl) (by kernel_rfl) (lt := impl_isKey.L) (by kernel_rfl) (fun b A h => by
    unfold impl_isKey.L at h; split at h
    · cases h; exact ⟨by kernel_rfl, by kernel_rfl, by kernel_rfl, fun _ => rfl, fun _ => rfl, fun _ => rfl⟩
    · cases h) (fun b A h => by
    unfold impl_isKey.L at h; split at h
    · cases h; exact fun k x => impl_isKey.step0 k x.1 x.2.1
    · cases h) ((impl_isKey.run k a0).trans h) fun r hr => wk_view1 hr
/-! ### 97 loop.example/g00896/impl.isKind -/
def impl_isKind.F (a0 : Int) : Option (Bool) := (impl_inside.F a0 1 4).bind fun r1 => some r1
def impl_isKind.C : Cal → Option CArm := fun c => match c with
  | .f 59 => some (.p [(.int .i64), (.int .i64), (.int .i64)] _ (fun x => impl_inside.F x.1 x.2.1 x.2.2.1) (fun r => (.t .bool r)))
  | _ => none
theorem impl_isKind.run (a0 : Int) : runF envX (tabC impl_isKind.C) (tabL 5 0 (fun _ => none)) Tryz.f97 [.t (.int .i64) a0] (viewR1 (.t .bool)) = impl_isKind.F a0 := by kernel_rfl
theorem impl_isKind.G (hE : EnvOk Tryz.prog envX) (pv : Nat → Value) : ∀ cal A, impl_isKind.C cal = some A → ArmOk Tryz.prog envX pv cal A := by
  intro cal A h
  unfold impl_isKind.C at h
  split at h
  · cases h; exact fun x y hy => impl_inside.good hE pv x.1 x.2.1 x.2.2.1 hy
  · cases h
theorem impl_isKind.good (hE : EnvOk Tryz.prog envX) (pv : Nat → Value) (a0 : Int) {y : _} (h : impl_isKind.F a0 = some y) : Meets Tryz.prog envX pv (.f 97) (tvals [(.int .i64)] (a0, ())) (.t .bool y) :=
  fun_plain hE (impl_isKind.G hE pv) (f := 97) (fn := Tryz.f97) (by kernel_rfl) rfl (by kernel_rfl) (by kernel_rfl) ((impl_isKind.run a0).trans h) fun r hr => wk_view1 hr
-- NO 170 slices.IndexFunc[[]loop.example/g00896/impl.Name,loop.example/g00896/impl.Name]: a parameter's type
-- NO 133 slices.ContainsFunc[[]loop.example/g00896/impl.Name,loop.example/g00896/impl.Name]: a parameter's type
-- NO 209 slices.IndexFunc[[]string,string]: a parameter's type
-- NO 171 slices.ContainsFunc[[]string,string]: a parameter's type
/-! ### 161 loop.example/g00896/impl.isUpper -/
def impl_isUpper.F (a0 : Int) : Option (Bool) := bif (decide (a0 ≥ 65)) then (some (decide (a0 ≤ 90))) else (some false)
def impl_isUpper.C : Cal → Option CArm := fun c => match c with
  | _ => none
theorem impl_isUpper.run (a0 : Int) : runF envX (tabC impl_isUpper.C) (tabL 9 0 (fun _ => none)) Tryz.f161 [.t (.int .u8) a0] (viewR1 (.t .bool)) = impl_isUpper.F a0 := by kernel_rfl
theorem impl_isUpper.G (hE : EnvOk Tryz.prog envX) (pv : Nat → Value) : ∀ cal A, impl_isUpper.C cal = some A → ArmOk Tryz.prog envX pv cal A := by
  intro cal A h
  unfold impl_isUpper.C at h
  cases h
theorem impl_isUpper.good (hE : EnvOk Tryz.prog envX) (pv : Nat → Value) (a0 : Int) {y : _} (h : impl_isUpper.F a0 = some y) : Meets Tryz.prog envX pv (.f 161) (tvals [(.int .u8)] (a0, ())) (.t .bool y) :=
  fun_plain hE (impl_isUpper.G hE pv) (f := 161) (fn := Tryz.f161) (by kernel_rfl) rfl (by kernel_rfl) (by kernel_rfl) ((impl_isUpper.run a0).trans h) fun r hr => wk_view1 hr
/-! ### 211 loop.example/g00896/impl.isLetter -/
def impl_isLetter.F (a0 : Int) : Option (Bool) := (impl_isUpper.F a0).bind fun r1 => bif r1 then (some true) else ((impl_isLower.F a0).bind fun r2 => some r2)
def impl_isLetter.C : Cal → Option CArm := fun c => match c with
  | .f 161 => some (.p [(.int .u8)] _ (fun x => impl_isUpper.F x.1) (fun r => (.t .bool r)))
  | .f 121 => some (.p [(.int .u8)] _ (fun x => impl_isLower.F x.1) (fun r => (.t .bool r)))
  | _ => none
theorem impl_isLetter.run (a0 : Int) : runF envX (tabC impl_isLetter.C) (tabL 9 0 (fun _ => none)) Tryz.f211 [.t (.int .u8) a0] (viewR1 (.t .bool)) = impl_isLetter.F a0 := by kernel_rfl
theorem impl_isLetter.G (hE : EnvOk Tryz.prog envX) (pv : Nat → Value) : ∀ cal A, impl_isLetter.C cal = some A → ArmOk Tryz.prog envX pv cal A := by
  intro cal A h
  unfold impl_isLetter.C at h
  split at h
  · cases h; exact fun x y hy => impl_isUpper.good hE pv x.1 hy
  · cases h; exact fun x y hy => impl_isLower.good hE pv x.1 hy
  · cases h
theorem impl_isLetter.good (hE : EnvOk Tryz.prog envX) (pv : Nat → Value) (a0 : Int) {y : _} (h : impl_isLetter.F a0 = some y) : Meets Tryz.prog envX pv (.f 211) (tvals [(.int .u8)] (a0, ())) (.t .bool y) :=
  fun_plain hE (impl_isLetter.G hE pv) (f := 211) (fn := Tryz.f211) (by kernel_rfl) rfl (by kernel_rfl) (by kernel_rfl) ((impl_isLetter.run a0).trans h) fun r hr => wk_view1 hr
/-! ### 175 loop.example/g00896/impl.isNameWord -/
def impl_isNameWord.l0 : Nat → ByteArray → Int → Option (Sum Bool Unit)
  | 0, _, _ => none
  | k + 1, x0, x3 => bif (decide (x3 < (x0.size : Int))) then (bif decide (0 ≤ x3) then (bif decide (x3 < (x0.size : Int)) then ((impl_isLetter.F (bt x0 (x3 : Int).toNat)).bind fun r4 => bif (!r4) then (bif decide (0 ≤ x3) then (bif decide (x3 < (x0.size : Int)) then (bif ((bt x0 (x3 : Int).toNat) != 45) then (bif decide (0 ≤ x3) then (bif decide (x3 < (x0.size : Int)) then (bif ((bt x0 (x3 : Int).toNat) != 39) then (some (.inl false)) else (bif decide (0 ≤ (IntKind.wrap .i64 (x3 - 1))) then (bif decide ((IntKind.wrap .i64 (x3 - 1)) < (x0.size : Int)) then ((impl_isLetter.F (bt x0 ((IntKind.wrap .i64 (x3 - 1)) : Int).toNat)).bind fun r5 => bif (!r5) then (some (.inl false)) else (impl_isNameWord.l0 k x0 (IntKind.wrap .i64 (x3 + 1)))) else none) else none)) else none) else none) else (bif decide (0 ≤ (IntKind.wrap .i64 (x3 - 1))) then (bif decide ((IntKind.wrap .i64 (x3 - 1)) < (x0.size : Int)) then ((impl_isLetter.F (bt x0 ((IntKind.wrap .i64 (x3 - 1)) : Int).toNat)).bind fun r6 => bif (!r6) then (some (.inl false)) else (impl_isNameWord.l0 k x0 (IntKind.wrap .i64 (x3 + 1)))) else none) else none)) else none) else none) else (impl_isNameWord.l0 k x0 (IntKind.wrap .i64 (x3 + 1)))) else none) else none) else (some (.inr ()))
def impl_isNameWord.F (k : Nat) (a0 : ByteArray) : Option (Bool) := (impl_inside.F (a0.size : Int) 1 12).bind fun r1 => bif (!r1) then (some false) else (bif decide (0 ≤ (IntKind.wrap .i64 ((a0.size : Int) - 1))) then (bif decide ((IntKind.wrap .i64 ((a0.size : Int) - 1)) < (a0.size : Int)) then ((impl_isLetter.F (bt a0 ((IntKind.wrap .i64 ((a0.size : Int) - 1)) : Int).toNat)).bind fun r2 => bif (!r2) then (some false) else (bif decide (0 ≤ 0) then (bif decide (0 < (a0.size : Int)) then ((impl_isLetter.F (bt a0 (0 : Int).toNat)).bind fun r3 => bif (!r3) then (some false) else ((impl_isNameWord.l0 k a0 0).bind fun y7 => match y7 with | .inl z8 => some z8 | .inr z8 => some true)) else none) else none)) else none) else none)
def impl_isNameWord.C (k : Nat) : Cal → Option CArm := fun c => match c with
  | .f 59 => some (.p [(.int .i64), (.int .i64), (.int .i64)] _ (fun x => impl_inside.F x.1 x.2.1 x.2.2.1) (fun r => (.t .bool r)))
  | .f 211 => some (.p [(.int .u8)] _ (fun x => impl_isLetter.F x.1) (fun r => (.t .bool r)))
  | _ => none
def impl_isNameWord.sp0 : List Sp := [.t 0 .str, .t 3 (.int .i64)]
def impl_isNameWord.sp0_0 : List Sp := [.t 2 .bool]
def impl_isNameWord.sp0_1 : List Sp := []
def impl_isNameWord.A0 : LArm := .two impl_isNameWord.sp0 impl_isNameWord.sp0_0 impl_isNameWord.sp0_1 (Bool) (Unit) (fun k x => impl_isNameWord.l0 k x.1 x.2.1) .ret (.exit 0) (fun y => (y, ())) (fun x => x.1) (fun y => ()) (fun x => ())
def impl_isNameWord.L : Nat → Option LArm := fun b => match b with
  | 0 => some impl_isNameWord.A0
  | _ => none
theorem impl_isNameWord.run (k : Nat) (a0 : ByteArray) : runF envX (tabC (impl_isNameWord.C k)) (tabL 54 k impl_isNameWord.L) Tryz.f175 [.t .str a0] (viewR1 (.t .bool)) = impl_isNameWord.F k a0 := by kernel_rfl
theorem impl_isNameWord.step0 (k : Nat) (x0 : ByteArray) (x3 : Int) : runC envX (tabC (impl_isNameWord.C k)) (tabL 54 k impl_isNameWord.L) 0 (loopAt Tryz.f175 0) (stOf 54 impl_isNameWord.sp0 (x0, x3, ())) (impl_isNameWord.A0.cont 54 k) = impl_isNameWord.l0 (k + 1) x0 x3 := by kernel_rfl
theorem impl_isNameWord.G (hE : EnvOk Tryz.prog envX) (pv : Nat → Value) (k : Nat) : ∀ cal A, impl_isNameWord.C k cal = some A → ArmOk Tryz.prog envX pv cal A := by
  intro cal A h
  unfold impl_isNameWord.C at h
  split at h
  · cases h; exact fun x y hy => impl_inside.good hE pv x.1 x.2.1 x.2.2.1 hy
  · cases h; exact fun x y hy => impl_isLetter.good hE pv x.1 hy
  · cases h
theorem impl_isNameWord.good (hE : EnvOk Tryz.prog envX) (pv : Nat → Value) (k : Nat) (a0 : ByteArray) {y : _} (h : impl_isNameWord.F k a0 = some y) : Meets Tryz.prog envX pv (.f 175) (tvals [.str] (a0, ())) (.t .bool y) :=
  fun_loops hE (t := impl_isNameWord.C) k (fun k _ => impl_isNameWord.G hE pv k) (f := 175) (fn := Tryz.f175) (by kernel_rfl) rfl (by kernel_rfl) (by kernel_rfl) (lt := impl_isNameWord.L) (by kernel_rfl) (fun b A h => by
    unfold impl_isNameWord.L at h; split at h
    · cases h; exact ⟨by kernel_rfl, by kernel_rfl, by kernel_rfl, fun _ => rfl, fun _ => rfl, fun _ => rfl⟩
    · cases h) (fun b A h => by
    unfold impl_isNameWord.L at h; split at h
    · cases h; exact fun k x => impl_isNameWord.step0 k x.1 x.2.1
    · cases h) ((impl_isNameWord.run k a0).trans h) fun r hr => wk_view1 hr
/-! ### 173 loop.example/g00896/impl.isGreatWord -/
def impl_isGreatWord.F (k : Nat) (a0 : ByteArray) : Option (Bool) := (impl_isNameWord.F k a0).bind fun r1 => bif r1 then (bif decide (0 ≤ 0) then (bif decide (0 < (a0.size : Int)) then ((impl_isUpper.F (bt a0 (0 : Int).toNat)).bind fun r2 => some r2) else none) else none) else (some false)
def impl_isGreatWord.C (k : Nat) : Cal → Option CArm := fun c => match c with
  | .f 175 => some (.p [.str] _ (fun x => impl_isNameWord.F k x.1) (fun r => (.t .bool r)))
  | .f 161 => some (.p [(.int .u8)] _ (fun x => impl_isUpper.F x.1) (fun r => (.t .bool r)))
  | _ => none
theorem impl_isGreatWord.run (k : Nat) (a0 : ByteArray) : runF envX (tabC (impl_isGreatWord.C k)) (tabL 10 0 (fun _ => none)) Tryz.f173 [.t .str a0] (viewR1 (.t .bool)) = impl_isGreatWord.F k a0 := by kernel_rfl
theorem impl_isGreatWord.G (hE : EnvOk Tryz.prog envX) (pv : Nat → Value) (k : Nat) : ∀ cal A, impl_isGreatWord.C k cal = some A → ArmOk Tryz.prog envX pv cal A := by
  intro cal A h
  unfold impl_isGreatWord.C at h
  split at h
  · cases h; exact fun x y hy => impl_isNameWord.good hE pv k x.1 hy
  · cases h; exact fun x y hy => impl_isUpper.good hE pv x.1 hy
  · cases h
theorem impl_isGreatWord.good (hE : EnvOk Tryz.prog envX) (pv : Nat → Value) (k : Nat) (a0 : ByteArray) {y : _} (h : impl_isGreatWord.F k a0 = some y) : Meets Tryz.prog envX pv (.f 173) (tvals [.str] (a0, ())) (.t .bool y) :=
  fun_plain hE (impl_isGreatWord.G hE pv k) (f := 173) (fn := Tryz.f173) (by kernel_rfl) rfl (by kernel_rfl) (by kernel_rfl) ((impl_isGreatWord.run k a0).trans h) fun r hr => wk_view1 hr
/-! ### 172 loop.example/g00896/impl.IsValidName$1 -/
def impl_IsValidName_1.F (k : Nat) (a0 : ByteArray) : Option (Bool) := (impl_isGreatWord.F k a0).bind fun r1 => some (!r1)
def impl_IsValidName_1.C (k : Nat) : Cal → Option CArm := fun c => match c with
  | .f 173 => some (.p [.str] _ (fun x => impl_isGreatWord.F k x.1) (fun r => (.t .bool r)))
  | _ => none
theorem impl_IsValidName_1.run (k : Nat) (a0 : ByteArray) : runF envX (tabC (impl_IsValidName_1.C k)) (tabL 6 0 (fun _ => none)) Tryz.f172 [.t .str a0] (viewR1 (.t .bool)) = impl_IsValidName_1.F k a0 := by kernel_rfl
theorem impl_IsValidName_1.G (hE : EnvOk Tryz.prog envX) (pv : Nat → Value) (k : Nat) : ∀ cal A, impl_IsValidName_1.C k cal = some A → ArmOk Tryz.prog envX pv cal A := by
  intro cal A h
  unfold impl_IsValidName_1.C at h
  split at h
  · cases h; exact fun x y hy => impl_isGreatWord.good hE pv k x.1 hy
  · cases h
theorem impl_IsValidName_1.good (hE : EnvOk Tryz.prog envX) (pv : Nat → Value) (k : Nat) (a0 : ByteArray) {y : _} (h : impl_IsValidName_1.F k a0 = some y) : Meets Tryz.prog envX pv (.f 172) (tvals [.str] (a0, ())) (.t .bool y) :=
  fun_plain hE (impl_IsValidName_1.G hE pv k) (f := 172) (fn := Tryz.f172) (by kernel_rfl) rfl (by kernel_rfl) (by kernel_rfl) ((impl_IsValidName_1.run k a0).trans h) fun r hr => wk_view1 hr
/-! ### 166 strings.Split -/
def strings_Split.F (a0 : ByteArray) (a1 : ByteArray) : Option (List ByteArray) := xSplit a0 a1
theorem strings_Split.good (hE : EnvOk Tryz.prog envX) (pv : Nat → Value) (a0 : ByteArray) (a1 : ByteArray) {y : _} (h : strings_Split.F a0 a1 = some y) : Meets Tryz.prog envX pv (.f 166) (tvals [.str, .str] (a0, a1, ())) (.fr 9 .str y) :=
  ext_split (fn := Tryz.f166) (by kernel_rfl) rfl (by kernel_rfl) (mx := 0) (by kernel_rfl) Tryz.strings_Split h
/-! ### 174 loop.example/g00896/impl.isParticle -/
def impl_isParticle.l2 : Nat → (List ByteArray) → ByteArray → Int → Int → Int → Option (Sum Bool ((List ByteArray) × Int × Int))
  | 0, _, _, _, _, _ => none
  | k + 1, x3, x5, x6, x12, x13 => bif (decide (x6 < (x5.size : Int))) then (bif decide (0 ≤ x6) then (bif decide (x6 < (x5.size : Int)) then ((impl_isLower.F (bt x5 (x6 : Int).toNat)).bind fun r3 => bif (!r3) then (some (.inl false)) else (impl_isParticle.l2 k x3 x5 (IntKind.wrap .i64 (x6 + 1)) x12 x13)) else none) else none) else (some (.inr (x3, x12, x13)))
def impl_isParticle.l0 : Nat → (List ByteArray) → Int → Int → Option (Sum Bool (List ByteArray))
  | 0, _, _, _ => none
  | k + 1, x3, x12, x13 => bif (decide (x13 < x12)) then (bif decide (0 ≤ x13) then (bif decide (x13 < (x3.length : Int)) then ((impl_inside.F ((x3.getD ((x13 : Int).toNat) (⟨#[]⟩ : ByteArray)).size : Int) 1 12).bind fun r2 => bif (!r2) then (some (.inl false)) else ((impl_isParticle.l2 k x3 (x3.getD ((x13 : Int).toNat) (⟨#[]⟩ : ByteArray)) 0 x12 x13).bind fun y4 => match y4 with | .inl z5 => some (.inl z5) | .inr z5 => impl_isParticle.l0 k z5.1 z5.2.1 (IntKind.wrap .i64 (z5.2.2 + 1)))) else none) else none) else (some (.inr x3))
def impl_isParticle.F (k : Nat) (a0 : ByteArray) : Option (Bool) := bif (beqS a0 (⟨#[]⟩ : ByteArray)) then (some true) else ((strings_Split.F a0 (⟨#[32]⟩ : ByteArray)).bind fun r1 => (impl_isParticle.l0 k r1 (r1.length : Int) 0).bind fun y6 => match y6 with | .inl z7 => some z7 | .inr z7 => some (decide ((z7.length : Int) ≤ 2)))
def impl_isParticle.C (k : Nat) : Cal → Option CArm := fun c => match c with
  | .f 166 => some (.p [.str, .str] _ (fun x => strings_Split.F x.1 x.2.1) (fun r => (.fr 9 .str r)))
  | .f 59 => some (.p [(.int .i64), (.int .i64), (.int .i64)] _ (fun x => impl_inside.F x.1 x.2.1 x.2.2.1) (fun r => (.t .bool r)))
  | .f 121 => some (.p [(.int .u8)] _ (fun x => impl_isLower.F x.1) (fun r => (.t .bool r)))
  | _ => none
def impl_isParticle.sp2 : List Sp := [.own 3 3076 9 .str false true, .t 5 .str, .t 6 (.int .i64), .con 11 (.own 3076), .t 12 (.int .i64), .t 13 (.int .i64)]
def impl_isParticle.sp2_0 : List Sp := [.t 2 .bool]
def impl_isParticle.sp2_1 : List Sp := [.own 3 3076 9 .str false true, .con 11 (.own 3076), .t 12 (.int .i64), .t 13 (.int .i64)]
def impl_isParticle.A2 : LArm := .two impl_isParticle.sp2 impl_isParticle.sp2_0 impl_isParticle.sp2_1 (Bool) ((List ByteArray) × Int × Int) (fun k x => impl_isParticle.l2 k x.1 x.2.1 x.2.2.1 x.2.2.2.2.1 x.2.2.2.2.2.1) .ret (.exit 2) (fun y => (y, ())) (fun x => x.1) (fun y => (y.1, (), y.2.1, y.2.2, ())) (fun x => (x.1, x.2.2.1, x.2.2.2.1))
def impl_isParticle.sp0 : List Sp := [.own 3 3076 9 .str false true, .con 11 (.own 3076), .t 12 (.int .i64), .t 13 (.int .i64)]
def impl_isParticle.sp0_0 : List Sp := [.t 2 .bool]
def impl_isParticle.sp0_1 : List Sp := [.own 3 3076 9 .str false true]
def impl_isParticle.A0 : LArm := .two impl_isParticle.sp0 impl_isParticle.sp0_0 impl_isParticle.sp0_1 (Bool) ((List ByteArray)) (fun k x => impl_isParticle.l0 k x.1 x.2.2.1 x.2.2.2.1) .ret (.exit 0) (fun y => (y, ())) (fun x => x.1) (fun y => (y, ())) (fun x => x.1)
def impl_isParticle.L : Nat → Option LArm := fun b => match b with
  | 2 => some impl_isParticle.A2
  | 0 => some impl_isParticle.A0
  | _ => none
theorem impl_isParticle.run (k : Nat) (a0 : ByteArray) : runF envX (tabC (impl_isParticle.C k)) (tabL 36 k impl_isParticle.L) Tryz.f174 [.t .str a0] (viewR1 (.t .bool)) = impl_isParticle.F k a0 := by kernel_rfl
theorem impl_isParticle.step2 (k : Nat) (x3 : List ByteArray) (x5 : ByteArray) (x6 : Int) (x12 : Int) (x13 : Int) : runC envX (tabC (impl_isParticle.C k)) (tabL 36 k impl_isParticle.L) 2 (loopAt Tryz.f174 2) (stOf 36 impl_isParticle.sp2 (x3, x5, x6, (), x12, x13, ())) (impl_isParticle.A2.cont 36 k) = impl_isParticle.l2 (k + 1) x3 x5 x6 x12 x13 := by kernel_rfl
theorem impl_isParticle.step0 (k : Nat) (x3 : List ByteArray) (x12 : Int) (x13 : Int) : runC envX (tabC (impl_isParticle.C k)) (tabL 36 k impl_isParticle.L) 0 (loopAt Tryz.f174 0) (stOf 36 impl_isParticle.sp0 (x3, (), x12, x13, ())) (impl_isParticle.A0.cont 36 k) = impl_isParticle.l0 (k + 1) x3 x12 x13 := by kernel_rfl
theorem impl_isParticle.G (hE : EnvOk Tryz.prog envX) (pv : Nat → Value) (k : Nat) : ∀ cal A, impl_isParticle.C k cal = some A → ArmOk Tryz.prog envX pv cal A := by
  intro cal A h
  unfold impl_isParticle.C at h
  split at h
  · cases h; exact fun x y hy => strings_Split.good hE pv x.1 x.2.1 hy
  · cases h; exact fun x y hy => impl_inside.good hE pv x.1 x.2.1 x.2.2.1 hy
  · cases h; exact fun x y hy => impl_isLower.good hE pv x.1 hy
  · cases h
theorem impl_isParticle.good (hE : EnvOk Tryz.prog envX) (pv : Nat → Value) (k : Nat) (a0 : ByteArray) {y : _} (h : impl_isParticle.F k a0 = some y) : Meets Tryz.prog envX pv (.f 174) (tvals [.str] (a0, ())) (.t .bool y) :=
  fun_loops hE (t := impl_isParticle.C) k (fun k _ => impl_isParticle.G hE pv k) (f := 174) (fn := Tryz.f174) (by kernel_rfl) rfl (by kernel_rfl) (by kernel_rfl) (lt := impl_isParticle.L) (by kernel_rfl) (fun b A h => by
    unfold impl_isParticle.L at h; split at h
    · cases h; exact ⟨by kernel_rfl, by kernel_rfl, by kernel_rfl, fun _ => rfl, fun _ => rfl, fun _ => rfl⟩
    · cases h; exact ⟨by kernel_rfl, by kernel_rfl, by kernel_rfl, fun _ => rfl, fun _ => rfl, fun _ => rfl⟩
    · cases h) (fun b A h => by
    unfold impl_isParticle.L at h; split at h
    · cases h; exact fun k x => impl_isParticle.step2 k x.1 x.2.1 x.2.2.1 x.2.2.2.2.1 x.2.2.2.2.2.1
    · cases h; exact fun k x => impl_isParticle.step0 k x.1 x.2.2.1 x.2.2.2.1
    · cases h) ((impl_isParticle.run k a0).trans h) fun r hr => wk_view1 hr
/-! ### 209 slices.IndexFunc[[]string,string] at loop.example/g00896/impl.IsValidName$1 -/
def slices_IndexFunc_string_f172.l0 : Nat → (List ByteArray) → Int → Int → Option (Sum Int Unit)
  | 0, _, _, _ => none
  | k + 1, x0, x7, x8 => bif (decide (x8 < x7)) then (bif decide (0 ≤ x8) then (bif decide (x8 < (x0.length : Int)) then ((impl_IsValidName_1.F k (x0.getD (x8 : Int).toNat (⟨#[]⟩ : ByteArray))).bind fun r1 => bif r1 then (some (.inl x8)) else (slices_IndexFunc_string_f172.l0 k x0 x7 (IntKind.wrap .i64 (x8 + 1)))) else none) else none) else (some (.inr ()))
def slices_IndexFunc_string_f172.F (k : Nat) (a0 : List ByteArray) : Option (Int) := (slices_IndexFunc_string_f172.l0 k a0 (a0.length : Int) 0).bind fun y2 => match y2 with | .inl z3 => some z3 | .inr z3 => some (-1)
def slices_IndexFunc_string_f172.C (k : Nat) : Cal → Option CArm := fun c => match c with
  | .f 172 => some (.p [.str] _ (fun x => impl_IsValidName_1.F k x.1) (fun r => (.t .bool r)))
  | _ => none
def slices_IndexFunc_string_f172.sp0 : List Sp := [.t 0 (.sl .str), .con 1 (.clo 172), .t 7 (.int .i64), .t 8 (.int .i64)]
def slices_IndexFunc_string_f172.sp0_0 : List Sp := [.t 4 (.int .i64)]
def slices_IndexFunc_string_f172.sp0_1 : List Sp := []
def slices_IndexFunc_string_f172.A0 : LArm := .two slices_IndexFunc_string_f172.sp0 slices_IndexFunc_string_f172.sp0_0 slices_IndexFunc_string_f172.sp0_1 (Int) (Unit) (fun k x => slices_IndexFunc_string_f172.l0 k x.1 x.2.2.1 x.2.2.2.1) .ret (.exit 0) (fun y => (y, ())) (fun x => x.1) (fun y => ()) (fun x => ())
def slices_IndexFunc_string_f172.L : Nat → Option LArm := fun b => match b with
  | 0 => some slices_IndexFunc_string_f172.A0
  | _ => none
theorem slices_IndexFunc_string_f172.run (k : Nat) (a0 : List ByteArray) : runF envX (tabC (slices_IndexFunc_string_f172.C k)) (tabL 19 k slices_IndexFunc_string_f172.L) Tryz.f209 [.t (.sl .str) a0, .clo 172 []] (viewR1 (.t (.int .i64))) = slices_IndexFunc_string_f172.F k a0 := by kernel_rfl
theorem slices_IndexFunc_string_f172.step0 (k : Nat) (x0 : List ByteArray) (x7 : Int) (x8 : Int) : runC envX (tabC (slices_IndexFunc_string_f172.C k)) (tabL 19 k slices_IndexFunc_string_f172.L) 0 (loopAt Tryz.f209 0) (stOf 19 slices_IndexFunc_string_f172.sp0 (x0, (), x7, x8, ())) (slices_IndexFunc_string_f172.A0.cont 19 k) = slices_IndexFunc_string_f172.l0 (k + 1) x0 x7 x8 := by kernel_rfl
theorem slices_IndexFunc_string_f172.G (hE : EnvOk Tryz.prog envX) (pv : Nat → Value) (k : Nat) : ∀ cal A, slices_IndexFunc_string_f172.C k cal = some A → ArmOk Tryz.prog envX pv cal A := by
  intro cal A h
  unfold slices_IndexFunc_string_f172.C at h
  split at h
  · cases h; exact fun x y hy => impl_IsValidName_1.good hE pv k x.1 hy
  · cases h
theorem slices_IndexFunc_string_f172.good (hE : EnvOk Tryz.prog envX) (pv : Nat → Value) (k : Nat) (a0 : List ByteArray) {y : _} (h : slices_IndexFunc_string_f172.F k a0 = some y) : Meets Tryz.prog envX pv (.f 209) (pvals [.t (.sl .str), .clo 172 []] (a0, (()), ())) (.t (.int .i64) y) :=
  fun_loops hE (t := slices_IndexFunc_string_f172.C) k (fun k _ => slices_IndexFunc_string_f172.G hE pv k) (f := 209) (fn := Tryz.f209) (by kernel_rfl) rfl (by kernel_rfl) (by kernel_rfl) (lt := slices_IndexFunc_string_f172.L) (by kernel_rfl) (fun b A h => by
    unfold slices_IndexFunc_string_f172.L at h; split at h
    · cases h; exact ⟨by kernel_rfl, by kernel_rfl, by kernel_rfl, fun _ => rfl, fun _ => rfl, fun _ => rfl⟩
    · cases h) (fun b A h => by
    unfold slices_IndexFunc_string_f172.L at h; split at h
    · cases h; exact fun k x => slices_IndexFunc_string_f172.step0 k x.1 x.2.2.1 x.2.2.2.1
    · cases h) ((slices_IndexFunc_string_f172.run k a0).trans h) fun r hr => wk_view1 hr
/-! ### 171 slices.ContainsFunc[[]string,string] at loop.example/g00896/impl.IsValidName$1 -/
def slices_ContainsFunc_string_f172.F (k : Nat) (a0 : List ByteArray) : Option (Bool) := (slices_IndexFunc_string_f172.F k a0).bind fun r1 => some (decide (r1 ≥ 0))
def slices_ContainsFunc_string_f172.C (k : Nat) : Cal → Option CArm := fun c => match c with
  | .f 209 => some (.q [.t (.sl .str), .clo 172 []] _ (fun x => slices_IndexFunc_string_f172.F k x.1) (fun r => (.t (.int .i64) r)))
  | _ => none
theorem slices_ContainsFunc_string_f172.run (k : Nat) (a0 : List ByteArray) : runF envX (tabC (slices_ContainsFunc_string_f172.C k)) (tabL 9 0 (fun _ => none)) Tryz.f171 [.t (.sl .str) a0, .clo 172 []] (viewR1 (.t .bool)) = slices_ContainsFunc_string_f172.F k a0 := by kernel_rfl
theorem slices_ContainsFunc_string_f172.G (hE : EnvOk Tryz.prog envX) (pv : Nat → Value) (k : Nat) : ∀ cal A, slices_ContainsFunc_string_f172.C k cal = some A → ArmOk Tryz.prog envX pv cal A := by
  intro cal A h
  unfold slices_ContainsFunc_string_f172.C at h
  split at h
  · cases h; exact fun x y hy => slices_IndexFunc_string_f172.good hE pv k x.1 hy
  · cases h
theorem slices_ContainsFunc_string_f172.good (hE : EnvOk Tryz.prog envX) (pv : Nat → Value) (k : Nat) (a0 : List ByteArray) {y : _} (h : slices_ContainsFunc_string_f172.F k a0 = some y) : Meets Tryz.prog envX pv (.f 171) (pvals [.t (.sl .str), .clo 172 []] (a0, (()), ())) (.t .bool y) :=
  fun_plain hE (slices_ContainsFunc_string_f172.G hE pv k) (f := 171) (fn := Tryz.f171) (by kernel_rfl) rfl (by kernel_rfl) (by kernel_rfl) ((slices_ContainsFunc_string_f172.run k a0).trans h) fun r hr => wk_view1 hr
/-! ### 135 loop.example/g00896/impl.IsValidName -/
def impl_IsValidName.F (k : Nat) (a0 : Name) : Option (Bool) := bif (decide ((a0.given.length : Int) > 3)) then (some false) else ((slices_ContainsFunc_string_f172.F k a0.given).bind fun r1 => bif r1 then (some false) else ((impl_isParticle.F k a0.particle).bind fun r2 => bif r2 then ((impl_isGreatWord.F k a0.family).bind fun r3 => bif r3 then (bif (beqS a0.suffix (⟨#[]⟩ : ByteArray)) then (some true) else ((impl_isNameWord.F k a0.suffix).bind fun r4 => some r4)) else (some false)) else (some false)))
def impl_IsValidName.C (k : Nat) : Cal → Option CArm := fun c => match c with
  | .f 171 => some (.q [.t (.sl .str), .clo 172 []] _ (fun x => slices_ContainsFunc_string_f172.F k x.1) (fun r => (.t .bool r)))
  | .f 174 => some (.p [.str] _ (fun x => impl_isParticle.F k x.1) (fun r => (.t .bool r)))
  | .f 173 => some (.p [.str] _ (fun x => impl_isGreatWord.F k x.1) (fun r => (.t .bool r)))
  | .f 175 => some (.p [.str] _ (fun x => impl_isNameWord.F k x.1) (fun r => (.t .bool r)))
  | _ => none
theorem impl_IsValidName.run (k : Nat) (a0 : Name) : runF envX (tabC (impl_IsValidName.C k)) (tabL 30 0 (fun _ => none)) Tryz.f135 [.t .name a0] (viewR1 (.t .bool)) = impl_IsValidName.F k a0 := by kernel_rfl
theorem impl_IsValidName.G (hE : EnvOk Tryz.prog envX) (pv : Nat → Value) (k : Nat) : ∀ cal A, impl_IsValidName.C k cal = some A → ArmOk Tryz.prog envX pv cal A := by
  intro cal A h
  unfold impl_IsValidName.C at h
  split at h
  · cases h; exact fun x y hy => slices_ContainsFunc_string_f172.good hE pv k x.1 hy
  · cases h; exact fun x y hy => impl_isParticle.good hE pv k x.1 hy
  · cases h; exact fun x y hy => impl_isGreatWord.good hE pv k x.1 hy
  · cases h; exact fun x y hy => impl_isNameWord.good hE pv k x.1 hy
  · cases h
theorem impl_IsValidName.good (hE : EnvOk Tryz.prog envX) (pv : Nat → Value) (k : Nat) (a0 : Name) {y : _} (h : impl_IsValidName.F k a0 = some y) : Meets Tryz.prog envX pv (.f 135) (tvals [.name] (a0, ())) (.t .bool y) :=
  fun_plain hE (impl_IsValidName.G hE pv k) (f := 135) (fn := Tryz.f135) (by kernel_rfl) rfl (by kernel_rfl) (by kernel_rfl) ((impl_IsValidName.run k a0).trans h) fun r hr => wk_view1 hr
/-! ### 134 loop.example/g00896/impl.areNames$1 -/
def impl_areNames_1.F (k : Nat) (a0 : Name) : Option (Bool) := (impl_IsValidName.F k a0).bind fun r1 => some (!r1)
def impl_areNames_1.C (k : Nat) : Cal → Option CArm := fun c => match c with
  | .f 135 => some (.p [.name] _ (fun x => impl_IsValidName.F k x.1) (fun r => (.t .bool r)))
  | _ => none
theorem impl_areNames_1.run (k : Nat) (a0 : Name) : runF envX (tabC (impl_areNames_1.C k)) (tabL 6 0 (fun _ => none)) Tryz.f134 [.t .name a0] (viewR1 (.t .bool)) = impl_areNames_1.F k a0 := by kernel_rfl
theorem impl_areNames_1.G (hE : EnvOk Tryz.prog envX) (pv : Nat → Value) (k : Nat) : ∀ cal A, impl_areNames_1.C k cal = some A → ArmOk Tryz.prog envX pv cal A := by
  intro cal A h
  unfold impl_areNames_1.C at h
  split at h
  · cases h; exact fun x y hy => impl_IsValidName.good hE pv k x.1 hy
  · cases h
theorem impl_areNames_1.good (hE : EnvOk Tryz.prog envX) (pv : Nat → Value) (k : Nat) (a0 : Name) {y : _} (h : impl_areNames_1.F k a0 = some y) : Meets Tryz.prog envX pv (.f 134) (tvals [.name] (a0, ())) (.t .bool y) :=
  fun_plain hE (impl_areNames_1.G hE pv k) (f := 134) (fn := Tryz.f134) (by kernel_rfl) rfl (by kernel_rfl) (by kernel_rfl) ((impl_areNames_1.run k a0).trans h) fun r hr => wk_view1 hr
/-! ### 170 slices.IndexFunc[[]loop.example/g00896/impl.Name,loop.example/g00896/impl.Name] at loop.example/g00896/impl.areNames$1 -/
def slices_IndexFunc_Name_f134.l0 : Nat → (List Name) → Int → Int → Option (Sum Int Unit)
  | 0, _, _, _ => none
  | k + 1, x0, x7, x8 => bif (decide (x8 < x7)) then (bif decide (0 ≤ x8) then (bif decide (x8 < (x0.length : Int)) then ((impl_areNames_1.F k (x0.getD (x8 : Int).toNat (dflt .name))).bind fun r1 => bif r1 then (some (.inl x8)) else (slices_IndexFunc_Name_f134.l0 k x0 x7 (IntKind.wrap .i64 (x8 + 1)))) else none) else none) else (some (.inr ()))
def slices_IndexFunc_Name_f134.F (k : Nat) (a0 : List Name) : Option (Int) := (slices_IndexFunc_Name_f134.l0 k a0 (a0.length : Int) 0).bind fun y2 => match y2 with | .inl z3 => some z3 | .inr z3 => some (-1)
def slices_IndexFunc_Name_f134.C (k : Nat) : Cal → Option CArm := fun c => match c with
  | .f 134 => some (.p [.name] _ (fun x => impl_areNames_1.F k x.1) (fun r => (.t .bool r)))
  | _ => none
def slices_IndexFunc_Name_f134.sp0 : List Sp := [.t 0 (.sl .name), .con 1 (.clo 134), .t 7 (.int .i64), .t 8 (.int .i64)]
def slices_IndexFunc_Name_f134.sp0_0 : List Sp := [.t 4 (.int .i64)]
def slices_IndexFunc_Name_f134.sp0_1 : List Sp := []
def slices_IndexFunc_Name_f134.A0 : LArm := .two slices_IndexFunc_Name_f134.sp0 slices_IndexFunc_Name_f134.sp0_0 slices_IndexFunc_Name_f134.sp0_1 (Int) (Unit) (fun k x => slices_IndexFunc_Name_f134.l0 k x.1 x.2.2.1 x.2.2.2.1) .ret (.exit 0) (fun y => (y, ())) (fun x => x.1) (fun y => ()) (fun x => ())
def slices_IndexFunc_Name_f134.L : Nat → Option LArm := fun b => match b with
  | 0 => some slices_IndexFunc_Name_f134.A0
  | _ => none
theorem slices_IndexFunc_Name_f134.run (k : Nat) (a0 : List Name) : runF envX (tabC (slices_IndexFunc_Name_f134.C k)) (tabL 19 k slices_IndexFunc_Name_f134.L) Tryz.f170 [.t (.sl .name) a0, .clo 134 []] (viewR1 (.t (.int .i64))) = slices_IndexFunc_Name_f134.F k a0 := by kernel_rfl
theorem slices_IndexFunc_Name_f134.step0 (k : Nat) (x0 : List Name) (x7 : Int) (x8 : Int) : runC envX (tabC (slices_IndexFunc_Name_f134.C k)) (tabL 19 k slices_IndexFunc_Name_f134.L) 0 (loopAt Tryz.f170 0) (stOf 19 slices_IndexFunc_Name_f134.sp0 (x0, (), x7, x8, ())) (slices_IndexFunc_Name_f134.A0.cont 19 k) = slices_IndexFunc_Name_f134.l0 (k + 1) x0 x7 x8 := by kernel_rfl
theorem slices_IndexFunc_Name_f134.G (hE : EnvOk Tryz.prog envX) (pv : Nat → Value) (k : Nat) : ∀ cal A, slices_IndexFunc_Name_f134.C k cal = some A → ArmOk Tryz.prog envX pv cal A := by
  intro cal A h
  unfold slices_IndexFunc_Name_f134.C at h
  split at h
  · cases h; exact fun x y hy => impl_areNames_1.good hE pv k x.1 hy
  · cases h
theorem slices_IndexFunc_Name_f134.good (hE : EnvOk Tryz.prog envX) (pv : Nat → Value) (k : Nat) (a0 : List Name) {y : _} (h : slices_IndexFunc_Name_f134.F k a0 = some y) : Meets Tryz.prog envX pv (.f 170) (pvals [.t (.sl .name), .clo 134 []] (a0, (()), ())) (.t (.int .i64) y) :=
  fun_loops hE (t := slices_IndexFunc_Name_f134.C) k (fun k _ => slices_IndexFunc_Name_f134.G hE pv k) (f := 170) (fn := Tryz.f170) (by kernel_rfl) rfl (by kernel_rfl) (by kernel_rfl) (lt := slices_IndexFunc_Name_f134.L) (by kernel_rfl) (fun b A h => by
    unfold slices_IndexFunc_Name_f134.L at h; split at h
    · cases h; exact ⟨by kernel_rfl, by kernel_rfl, by kernel_rfl, fun _ => rfl, fun _ => rfl, fun _ => rfl⟩
    · cases h) (fun b A h => by
    unfold slices_IndexFunc_Name_f134.L at h; split at h
    · cases h; exact fun k x => slices_IndexFunc_Name_f134.step0 k x.1 x.2.2.1 x.2.2.2.1
    · cases h) ((slices_IndexFunc_Name_f134.run k a0).trans h) fun r hr => wk_view1 hr
/-! ### 133 slices.ContainsFunc[[]loop.example/g00896/impl.Name,loop.example/g00896/impl.Name] at loop.example/g00896/impl.areNames$1 -/
def slices_ContainsFunc_Name_f134.F (k : Nat) (a0 : List Name) : Option (Bool) := (slices_IndexFunc_Name_f134.F k a0).bind fun r1 => some (decide (r1 ≥ 0))
def slices_ContainsFunc_Name_f134.C (k : Nat) : Cal → Option CArm := fun c => match c with
  | .f 170 => some (.q [.t (.sl .name), .clo 134 []] _ (fun x => slices_IndexFunc_Name_f134.F k x.1) (fun r => (.t (.int .i64) r)))
  | _ => none
theorem slices_ContainsFunc_Name_f134.run (k : Nat) (a0 : List Name) : runF envX (tabC (slices_ContainsFunc_Name_f134.C k)) (tabL 9 0 (fun _ => none)) Tryz.f133 [.t (.sl .name) a0, .clo 134 []] (viewR1 (.t .bool)) = slices_ContainsFunc_Name_f134.F k a0 := by kernel_rfl
theorem slices_ContainsFunc_Name_f134.G (hE : EnvOk Tryz.prog envX) (pv : Nat → Value) (k : Nat) : ∀ cal A, slices_ContainsFunc_Name_f134.C k cal = some A → ArmOk Tryz.prog envX pv cal A := by
  intro cal A h
  unfold slices_ContainsFunc_Name_f134.C at h
  split at h
  · cases h; exact fun x y hy => slices_IndexFunc_Name_f134.good hE pv k x.1 hy
  · cases h
theorem slices_ContainsFunc_Name_f134.good (hE : EnvOk Tryz.prog envX) (pv : Nat → Value) (k : Nat) (a0 : List Name) {y : _} (h : slices_ContainsFunc_Name_f134.F k a0 = some y) : Meets Tryz.prog envX pv (.f 133) (pvals [.t (.sl .name), .clo 134 []] (a0, (()), ())) (.t .bool y) :=
  fun_plain hE (slices_ContainsFunc_Name_f134.G hE pv k) (f := 133) (fn := Tryz.f133) (by kernel_rfl) rfl (by kernel_rfl) (by kernel_rfl) ((slices_ContainsFunc_Name_f134.run k a0).trans h) fun r hr => wk_view1 hr
/-! ### 98 loop.example/g00896/impl.areNames -/
def impl_areNames.F (k : Nat) (a0 : List Name) : Option (Bool) := bif (decide ((a0.length : Int) ≤ 4)) then ((slices_ContainsFunc_Name_f134.F k a0).bind fun r1 => some (!r1)) else (some false)
def impl_areNames.C (k : Nat) : Cal → Option CArm := fun c => match c with
  | .f 133 => some (.q [.t (.sl .name), .clo 134 []] _ (fun x => slices_ContainsFunc_Name_f134.F k x.1) (fun r => (.t .bool r)))
  | _ => none
theorem impl_areNames.run (k : Nat) (a0 : List Name) : runF envX (tabC (impl_areNames.C k)) (tabL 11 0 (fun _ => none)) Tryz.f98 [.t (.sl .name) a0] (viewR1 (.t .bool)) = impl_areNames.F k a0 := by kernel_rfl
theorem impl_areNames.G (hE : EnvOk Tryz.prog envX) (pv : Nat → Value) (k : Nat) : ∀ cal A, impl_areNames.C k cal = some A → ArmOk Tryz.prog envX pv cal A := by
  intro cal A h
  unfold impl_areNames.C at h
  split at h
  · cases h; exact fun x y hy => slices_ContainsFunc_Name_f134.good hE pv k x.1 hy
  · cases h
theorem impl_areNames.good (hE : EnvOk Tryz.prog envX) (pv : Nat → Value) (k : Nat) (a0 : List Name) {y : _} (h : impl_areNames.F k a0 = some y) : Meets Tryz.prog envX pv (.f 98) (tvals [(.sl .name)] (a0, ())) (.t .bool y) :=
  fun_plain hE (impl_areNames.G hE pv k) (f := 98) (fn := Tryz.f98) (by kernel_rfl) rfl (by kernel_rfl) (by kernel_rfl) ((impl_areNames.run k a0).trans h) fun r hr => wk_view1 hr
/-! ### 58 loop.example/g00896/impl.IsValidEntry -/
def impl_IsValidEntry.F (k : Nat) (a0 : Entry) : Option (Bool) := (impl_isKey.F k a0.key).bind fun r1 => bif (!r1) then (some false) else ((impl_isKind.F a0.kind).bind fun r2 => bif (!r2) then (some false) else ((impl_areNames.F k a0.authors).bind fun r3 => bif (!r3) then (some false) else ((impl_areNames.F k a0.editors).bind fun r4 => bif (!r4) then (some false) else ((impl_IsValidDate.F a0.date).bind fun r5 => bif (!r5) then (some false) else ((impl_inside.F a0.volume 0 9999).bind fun r6 => bif (!r6) then (some false) else ((impl_isText.F k a0.title).bind fun r7 => bif r7 then ((impl_isText.F k a0.container).bind fun r8 => bif r8 then ((impl_isText.F k a0.publisher).bind fun r9 => bif r9 then ((impl_isText.F k a0.pages).bind fun r10 => bif r10 then (bif (beqS a0.cross (⟨#[]⟩ : ByteArray)) then (some true) else ((impl_isKey.F k a0.cross).bind fun r11 => bif r11 then (some (!beqS a0.cross a0.key)) else (some false))) else (some false)) else (some false)) else (some false)) else (some false)))))))
def impl_IsValidEntry.C (k : Nat) : Cal → Option CArm := fun c => match c with
  | .f 96 => some (.p [.str] _ (fun x => impl_isKey.F k x.1) (fun r => (.t .bool r)))
  | .f 97 => some (.p [(.int .i64)] _ (fun x => impl_isKind.F x.1) (fun r => (.t .bool r)))
  | .f 98 => some (.p [(.sl .name)] _ (fun x => impl_areNames.F k x.1) (fun r => (.t .bool r)))
  | .f 65 => some (.p [.date] _ (fun x => impl_IsValidDate.F x.1) (fun r => (.t .bool r)))
  | .f 59 => some (.p [(.int .i64), (.int .i64), (.int .i64)] _ (fun x => impl_inside.F x.1 x.2.1 x.2.2.1) (fun r => (.t .bool r)))
  | .f 50 => some (.p [.str] _ (fun x => impl_isText.F k x.1) (fun r => (.t .bool r)))
  | _ => none
theorem impl_IsValidEntry.run (k : Nat) (a0 : Entry) : runF envX (tabC (impl_IsValidEntry.C k)) (tabL 72 0 (fun _ => none)) Tryz.f58 [.t .entry a0] (viewR1 (.t .bool)) = impl_IsValidEntry.F k a0 := by kernel_rfl
theorem impl_IsValidEntry.G (hE : EnvOk Tryz.prog envX) (pv : Nat → Value) (k : Nat) : ∀ cal A, impl_IsValidEntry.C k cal = some A → ArmOk Tryz.prog envX pv cal A := by
  intro cal A h
  unfold impl_IsValidEntry.C at h
  split at h
  · cases h; exact fun x y hy => impl_isKey.good hE pv k x.1 hy
  · cases h; exact fun x y hy => impl_isKind.good hE pv x.1 hy
  · cases h; exact fun x y hy => impl_areNames.good hE pv k x.1 hy
  · cases h; exact fun x y hy => impl_IsValidDate.good hE pv x.1 hy
  · cases h; exact fun x y hy => impl_inside.good hE pv x.1 x.2.1 x.2.2.1 hy
  · cases h; exact fun x y hy => impl_isText.good hE pv k x.1 hy
  · cases h
theorem impl_IsValidEntry.good (hE : EnvOk Tryz.prog envX) (pv : Nat → Value) (k : Nat) (a0 : Entry) {y : _} (h : impl_IsValidEntry.F k a0 = some y) : Meets Tryz.prog envX pv (.f 58) (tvals [.entry] (a0, ())) (.t .bool y) :=
  fun_plain hE (impl_IsValidEntry.G hE pv k) (f := 58) (fn := Tryz.f58) (by kernel_rfl) rfl (by kernel_rfl) (by kernel_rfl) ((impl_IsValidEntry.run k a0).trans h) fun r hr => wk_view1 hr
/-! ### 37 loop.example/g00896/impl.IsValidLibrary -/
def impl_IsValidLibrary.l0 : Nat → Library → (List Entry) → Int → Int → Option (Sum Bool Library)
  | 0, _, _, _, _ => none
  | k + 1, x1, x6, x7, x8 => bif (decide (x8 < x7)) then (bif decide (0 ≤ x8) then (bif decide (x8 < (x6.length : Int)) then ((impl_IsValidEntry.F k (x6.getD (x8 : Int).toNat (dflt .entry))).bind fun r1 => bif (!r1) then (some (.inl false)) else (bif (decide (x8 > 0)) then (bif decide (0 ≤ (IntKind.wrap .i64 (x8 - 1))) then (bif decide ((IntKind.wrap .i64 (x8 - 1)) < (x1.entries.length : Int)) then (bif (!ltS ((x1.entries.getD ((IntKind.wrap .i64 (x8 - 1)) : Int).toNat (dflt .entry)).key) ((x6.getD (x8 : Int).toNat (dflt .entry)).key)) then (some (.inl false)) else (impl_IsValidLibrary.l0 k x1 x6 x7 (IntKind.wrap .i64 (x8 + 1)))) else none) else none) else (impl_IsValidLibrary.l0 k x1 x6 x7 (IntKind.wrap .i64 (x8 + 1))))) else none) else none) else (some (.inr x1))
def impl_IsValidLibrary.F (k : Nat) (a0 : Library) : Option (Bool) := (impl_IsValidLibrary.l0 k a0 a0.entries (a0.entries.length : Int) 0).bind fun y2 => match y2 with | .inl z3 => some z3 | .inr z3 => some (decide ((z3.entries.length : Int) ≤ 8))
def impl_IsValidLibrary.C (k : Nat) : Cal → Option CArm := fun c => match c with
  | .f 58 => some (.p [.entry] _ (fun x => impl_IsValidEntry.F k x.1) (fun r => (.t .bool r)))
  | _ => none
def impl_IsValidLibrary.sp0 : List Sp := [.boxT 1 0 .lib, .t 6 (.sl .entry), .t 7 (.int .i64), .t 8 (.int .i64)]
def impl_IsValidLibrary.sp0_0 : List Sp := [.t 2 .bool]
def impl_IsValidLibrary.sp0_1 : List Sp := [.boxT 1 0 .lib]
def impl_IsValidLibrary.A0 : LArm := .two impl_IsValidLibrary.sp0 impl_IsValidLibrary.sp0_0 impl_IsValidLibrary.sp0_1 (Bool) (Library) (fun k x => impl_IsValidLibrary.l0 k x.1 x.2.1 x.2.2.1 x.2.2.2.1) .ret (.exit 0) (fun y => (y, ())) (fun x => x.1) (fun y => (y, ())) (fun x => x.1)
def impl_IsValidLibrary.L : Nat → Option LArm := fun b => match b with
  | 0 => some impl_IsValidLibrary.A0
  | _ => none
theorem impl_IsValidLibrary.run (k : Nat) (a0 : Library) : runF envX (tabC (impl_IsValidLibrary.C k)) (tabL 37 k impl_IsValidLibrary.L) Tryz.f37 [.t .lib a0] (viewR1 (.t .bool)) = impl_IsValidLibrary.F k a0 := by kernel_rfl
theorem impl_IsValidLibrary.step0 (k : Nat) (x1 : Library) (x6 : List Entry) (x7 : Int) (x8 : Int) : runC envX (tabC (impl_IsValidLibrary.C k)) (tabL 37 k impl_IsValidLibrary.L) 0 (loopAt Tryz.f37 0) (stOf 37 impl_IsValidLibrary.sp0 (x1, x6, x7, x8, ())) (impl_IsValidLibrary.A0.cont 37 k) = impl_IsValidLibrary.l0 (k + 1) x1 x6 x7 x8 := by kernel_rfl
theorem impl_IsValidLibrary.G (hE : EnvOk Tryz.prog envX) (pv : Nat → Value) (k : Nat) : ∀ cal A, impl_IsValidLibrary.C k cal = some A → ArmOk Tryz.prog envX pv cal A := by
  intro cal A h
  unfold impl_IsValidLibrary.C at h
  split at h
  · cases h; exact fun x y hy => impl_IsValidEntry.good hE pv k x.1 hy
  · cases h
theorem impl_IsValidLibrary.good (hE : EnvOk Tryz.prog envX) (pv : Nat → Value) (k : Nat) (a0 : Library) {y : _} (h : impl_IsValidLibrary.F k a0 = some y) : Meets Tryz.prog envX pv (.f 37) (tvals [.lib] (a0, ())) (.t .bool y) :=
  fun_loops hE (t := impl_IsValidLibrary.C) k (fun k _ => impl_IsValidLibrary.G hE pv k) (f := 37) (fn := Tryz.f37) (by kernel_rfl) rfl (by kernel_rfl) (by kernel_rfl) (lt := impl_IsValidLibrary.L) (by kernel_rfl) (fun b A h => by
    unfold impl_IsValidLibrary.L at h; split at h
    · cases h; exact ⟨by kernel_rfl, by kernel_rfl, by kernel_rfl, fun _ => rfl, fun _ => rfl, fun _ => rfl⟩
    · cases h) (fun b A h => by
    unfold impl_IsValidLibrary.L at h; split at h
    · cases h; exact fun k x => impl_IsValidLibrary.step0 k x.1 x.2.1 x.2.2.1 x.2.2.2.1
    · cases h) ((impl_IsValidLibrary.run k a0).trans h) fun r hr => wk_view1 hr
/-! ### 43 loop.example/g00896/impl.parentIndex -/
def impl_parentIndex.F (k : Nat) (a0 : Library) (a1 : Int) : Option (Int) := bif decide (0 ≤ a1) then (bif decide (a1 < (a0.entries.length : Int)) then (bif (beqS ((a0.entries.getD (a1 : Int).toNat (dflt .entry)).cross) (⟨#[]⟩ : ByteArray)) then (some (-1)) else (bif decide (0 ≤ a1) then (bif decide (a1 < (a0.entries.length : Int)) then ((impl_entryIndex.F k a0 ((a0.entries.getD (a1 : Int).toNat (dflt .entry)).cross)).bind fun r1 => some r1) else none) else none)) else none) else none
def impl_parentIndex.C (k : Nat) : Cal → Option CArm := fun c => match c with
  | .f 36 => some (.p [.lib, .str] _ (fun x => impl_entryIndex.F k x.1 x.2.1) (fun r => (.t (.int .i64) r)))
  | _ => none
theorem impl_parentIndex.run (k : Nat) (a0 : Library) (a1 : Int) : runF envX (tabC (impl_parentIndex.C k)) (tabL 20 0 (fun _ => none)) Tryz.f43 [.t .lib a0, .t (.int .i64) a1] (viewR1 (.t (.int .i64))) = impl_parentIndex.F k a0 a1 := by kernel_rfl
theorem impl_parentIndex.G (hE : EnvOk Tryz.prog envX) (pv : Nat → Value) (k : Nat) : ∀ cal A, impl_parentIndex.C k cal = some A → ArmOk Tryz.prog envX pv cal A := by
  intro cal A h
  unfold impl_parentIndex.C at h
  split at h
  · cases h; exact fun x y hy => impl_entryIndex.good hE pv k x.1 x.2.1 hy
  · cases h
theorem impl_parentIndex.good (hE : EnvOk Tryz.prog envX) (pv : Nat → Value) (k : Nat) (a0 : Library) (a1 : Int) {y : _} (h : impl_parentIndex.F k a0 a1 = some y) : Meets Tryz.prog envX pv (.f 43) (tvals [.lib, (.int .i64)] (a0, a1, ())) (.t (.int .i64) y) :=
  fun_plain hE (impl_parentIndex.G hE pv k) (f := 43) (fn := Tryz.f43) (by kernel_rfl) rfl (by kernel_rfl) (by kernel_rfl) ((impl_parentIndex.run k a0 a1).trans h) fun r hr => wk_view1 hr
/-! ### 83 slices.Index[[]int,int] -/
def slices_Index_int.l0 : Nat → (List Int) → Int → Int → Int → Option (Sum Int Unit)
  | 0, _, _, _, _ => none
  | k + 1, x0, x1, x7, x8 => bif (decide (x8 < x7)) then (bif decide (0 ≤ x8) then (bif decide (x8 < (x0.length : Int)) then (bif (x1 == (x0.getD (x8 : Int).toNat 0)) then (some (.inl x8)) else (slices_Index_int.l0 k x0 x1 x7 (IntKind.wrap .i64 (x8 + 1)))) else none) else none) else (some (.inr ()))
def slices_Index_int.F (k : Nat) (a0 : List Int) (a1 : Int) : Option (Int) := (slices_Index_int.l0 k a0 a1 (a0.length : Int) 0).bind fun y1 => match y1 with | .inl z2 => some z2 | .inr z2 => some (-1)
def slices_Index_int.C (k : Nat) : Cal → Option CArm := fun c => match c with
  | _ => none
def slices_Index_int.sp0 : List Sp := [.t 0 (.sl (.int .i64)), .t 1 (.int .i64), .t 7 (.int .i64), .t 8 (.int .i64)]
def slices_Index_int.sp0_0 : List Sp := [.t 4 (.int .i64)]
def slices_Index_int.sp0_1 : List Sp := []
def slices_Index_int.A0 : LArm := .two slices_Index_int.sp0 slices_Index_int.sp0_0 slices_Index_int.sp0_1 (Int) (Unit) (fun k x => slices_Index_int.l0 k x.1 x.2.1 x.2.2.1 x.2.2.2.1) .ret (.exit 0) (fun y => (y, ())) (fun x => x.1) (fun y => ()) (fun x => ())
def slices_Index_int.L : Nat → Option LArm := fun b => match b with
  | 0 => some slices_Index_int.A0
  | _ => none
theorem slices_Index_int.run (k : Nat) (a0 : List Int) (a1 : Int) : runF envX (tabC (slices_Index_int.C k)) (tabL 19 k slices_Index_int.L) Tryz.f83 [.t (.sl (.int .i64)) a0, .t (.int .i64) a1] (viewR1 (.t (.int .i64))) = slices_Index_int.F k a0 a1 := by kernel_rfl
theorem slices_Index_int.step0 (k : Nat) (x0 : List Int) (x1 : Int) (x7 : Int) (x8 : Int) : runC envX (tabC (slices_Index_int.C k)) (tabL 19 k slices_Index_int.L) 0 (loopAt Tryz.f83 0) (stOf 19 slices_Index_int.sp0 (x0, x1, x7, x8, ())) (slices_Index_int.A0.cont 19 k) = slices_Index_int.l0 (k + 1) x0 x1 x7 x8 := by kernel_rfl
theorem slices_Index_int.G (hE : EnvOk Tryz.prog envX) (pv : Nat → Value) (k : Nat) : ∀ cal A, slices_Index_int.C k cal = some A → ArmOk Tryz.prog envX pv cal A := by
  intro cal A h
  unfold slices_Index_int.C at h
  cases h
theorem slices_Index_int.good (hE : EnvOk Tryz.prog envX) (pv : Nat → Value) (k : Nat) (a0 : List Int) (a1 : Int) {y : _} (h : slices_Index_int.F k a0 a1 = some y) : Meets Tryz.prog envX pv (.f 83) (tvals [(.sl (.int .i64)), (.int .i64)] (a0, a1, ())) (.t (.int .i64) y) :=
  fun_loops hE (t := slices_Index_int.C) k (fun k _ => slices_Index_int.G hE pv k) (f := 83) (fn := Tryz.f83) (by kernel_rfl) rfl (by kernel_rfl) (by kernel_rfl) (lt := slices_Index_int.L) (by kernel_rfl) (fun b A h => by
    unfold slices_Index_int.L at h; split at h
    · cases h; exact ⟨by kernel_rfl, by kernel_rfl, by kernel_rfl, fun _ => rfl, fun _ => rfl, fun _ => rfl⟩
    · cases h) (fun b A h => by
    unfold slices_Index_int.L at h; split at h
    · cases h; exact fun k x => slices_Index_int.step0 k x.1 x.2.1 x.2.2.1 x.2.2.2.1
    · cases h) ((slices_Index_int.run k a0 a1).trans h) fun r hr => wk_view1 hr
/-! ### 44 slices.Contains[[]int,int] -/
def slices_Contains_int.F (k : Nat) (a0 : List Int) (a1 : Int) : Option (Bool) := (slices_Index_int.F k a0 a1).bind fun r1 => some (decide (r1 ≥ 0))
def slices_Contains_int.C (k : Nat) : Cal → Option CArm := fun c => match c with
  | .f 83 => some (.p [(.sl (.int .i64)), (.int .i64)] _ (fun x => slices_Index_int.F k x.1 x.2.1) (fun r => (.t (.int .i64) r)))
  | _ => none
theorem slices_Contains_int.run (k : Nat) (a0 : List Int) (a1 : Int) : runF envX (tabC (slices_Contains_int.C k)) (tabL 9 0 (fun _ => none)) Tryz.f44 [.t (.sl (.int .i64)) a0, .t (.int .i64) a1] (viewR1 (.t .bool)) = slices_Contains_int.F k a0 a1 := by kernel_rfl
theorem slices_Contains_int.G (hE : EnvOk Tryz.prog envX) (pv : Nat → Value) (k : Nat) : ∀ cal A, slices_Contains_int.C k cal = some A → ArmOk Tryz.prog envX pv cal A := by
  intro cal A h
  unfold slices_Contains_int.C at h
  split at h
  · cases h; exact fun x y hy => slices_Index_int.good hE pv k x.1 x.2.1 hy
  · cases h
theorem slices_Contains_int.good (hE : EnvOk Tryz.prog envX) (pv : Nat → Value) (k : Nat) (a0 : List Int) (a1 : Int) {y : _} (h : slices_Contains_int.F k a0 a1 = some y) : Meets Tryz.prog envX pv (.f 44) (tvals [(.sl (.int .i64)), (.int .i64)] (a0, a1, ())) (.t .bool y) :=
  fun_plain hE (slices_Contains_int.G hE pv k) (f := 44) (fn := Tryz.f44) (by kernel_rfl) rfl (by kernel_rfl) (by kernel_rfl) ((slices_Contains_int.run k a0 a1).trans h) fun r hr => wk_view1 hr
/-! ### 38 loop.example/g00896/impl.chainOf -/
def impl_chainOf.l0 : Nat → Int → Library → (List Int) → Option (Sum ((List Int) × Bool) (List Int))
  | 0, _, _, _ => none
  | k + 1, x1, x2, x6 => bif (decide (x1 ≥ 0)) then ((slices_Contains_int.F k x6 x1).bind fun r1 => bif r1 then (some (.inl (x6, true))) else (bif room (x6.length + ([x1] : List Int).length) (.int .i64) then ((impl_parentIndex.F k x2 x1).bind fun r2 => impl_chainOf.l0 k r2 x2 (x6 ++ ([x1] : List Int))) else none)) else (some (.inr x6))
def impl_chainOf.F (k : Nat) (a0 : Library) (a1 : Int) : Option ((List Int) × Bool) := (impl_chainOf.l0 k a1 a0 ([] : List Int)).bind fun y3 => match y3 with | .inl z4 => some (z4.1, z4.2) | .inr z4 => some (z4, false)
def impl_chainOf.C (k : Nat) : Cal → Option CArm := fun c => match c with
  | .f 44 => some (.p [(.sl (.int .i64)), (.int .i64)] _ (fun x => slices_Contains_int.F k x.1 x.2.1) (fun r => (.t .bool r)))
  | .f 43 => some (.p [.lib, (.int .i64)] _ (fun x => impl_parentIndex.F k x.1 x.2.1) (fun r => (.t (.int .i64) r)))
  | _ => none
def impl_chainOf.sp0 : List Sp := [.t 1 (.int .i64), .boxT 2 0 .lib, .own 6 1024 3 (.int .i64) false true]
def impl_chainOf.sp0_0 : List Sp := [.own 4 1024 3 (.int .i64) false true, .t 5 .bool]
def impl_chainOf.sp0_1 : List Sp := [.own 6 1024 3 (.int .i64) false true]
def impl_chainOf.A0 : LArm := .two impl_chainOf.sp0 impl_chainOf.sp0_0 impl_chainOf.sp0_1 ((List Int) × Bool) ((List Int)) (fun k x => impl_chainOf.l0 k x.1 x.2.1 x.2.2.1) .ret (.exit 0) (fun y => (y.1, y.2, ())) (fun x => (x.1, x.2.1)) (fun y => (y, ())) (fun x => x.1)
def impl_chainOf.L : Nat → Option LArm := fun b => match b with
  | 0 => some impl_chainOf.A0
  | _ => none
theorem impl_chainOf.run (k : Nat) (a0 : Library) (a1 : Int) : runF envX (tabC (impl_chainOf.C k)) (tabL 22 k impl_chainOf.L) Tryz.f38 [.t .lib a0, .t (.int .i64) a1] (viewR2 (.fr 3 (.int .i64)) (.t .bool)) = impl_chainOf.F k a0 a1 := by kernel_rfl
theorem impl_chainOf.step0 (k : Nat) (x1 : Int) (x2 : Library) (x6 : List Int) : runC envX (tabC (impl_chainOf.C k)) (tabL 22 k impl_chainOf.L) 0 (loopAt Tryz.f38 0) (stOf 22 impl_chainOf.sp0 (x1, x2, x6, ())) (impl_chainOf.A0.cont 22 k) = impl_chainOf.l0 (k + 1) x1 x2 x6 := by kernel_rfl
theorem impl_chainOf.G (hE : EnvOk Tryz.prog envX) (pv : Nat → Value) (k : Nat) : ∀ cal A, impl_chainOf.C k cal = some A → ArmOk Tryz.prog envX pv cal A := by
  intro cal A h
  unfold impl_chainOf.C at h
  split at h
  · cases h; exact fun x y hy => slices_Contains_int.good hE pv k x.1 x.2.1 hy
  · cases h; exact fun x y hy => impl_parentIndex.good hE pv k x.1 x.2.1 hy
  · cases h
theorem impl_chainOf.good (hE : EnvOk Tryz.prog envX) (pv : Nat → Value) (k : Nat) (a0 : Library) (a1 : Int) {y : _} (h : impl_chainOf.F k a0 a1 = some y) : Meets Tryz.prog envX pv (.f 38) (tvals [.lib, (.int .i64)] (a0, a1, ())) (.tup [.fr 3 (.int .i64) y.1, .t .bool y.2]) :=
  fun_loops hE (t := impl_chainOf.C) k (fun k _ => impl_chainOf.G hE pv k) (f := 38) (fn := Tryz.f38) (by kernel_rfl) rfl (by kernel_rfl) (by kernel_rfl) (lt := impl_chainOf.L) (by kernel_rfl) (fun b A h => by
    unfold impl_chainOf.L at h; split at h
    · cases h; exact ⟨by kernel_rfl, by kernel_rfl, by kernel_rfl, fun _ => rfl, fun _ => rfl, fun _ => rfl⟩
    · cases h) (fun b A h => by
    unfold impl_chainOf.L at h; split at h
    · cases h; exact fun k x => impl_chainOf.step0 k x.1 x.2.1 x.2.2.1
    · cases h) ((impl_chainOf.run k a0 a1).trans h) fun r hr => wk_view2 hr
/-! ### 39 loop.example/g00896/impl.keysOf -/
def impl_keysOf.l0 : Nat → Library → (List ByteArray) → (List Int) → Int → Int → Option ((List ByteArray))
  | 0, _, _, _, _, _ => none
  | k + 1, x2, x5, x9, x10, x11 => bif (decide (x11 < x10)) then (bif decide (0 ≤ x11) then (bif decide (x11 < (x9.length : Int)) then (bif decide (0 ≤ (x9.getD (x11 : Int).toNat 0)) then (bif decide ((x9.getD (x11 : Int).toNat 0) < (x2.entries.length : Int)) then (bif room (x5.length + ([(x2.entries.getD ((x9.getD (x11 : Int).toNat 0) : Int).toNat (dflt .entry)).key] : List ByteArray).length) .str then (impl_keysOf.l0 k x2 (x5 ++ ([(x2.entries.getD ((x9.getD (x11 : Int).toNat 0) : Int).toNat (dflt .entry)).key] : List ByteArray)) x9 x10 (IntKind.wrap .i64 (x11 + 1))) else none) else none) else none) else none) else none) else (some x5)
def impl_keysOf.F (k : Nat) (a0 : Library) (a1 : List Int) : Option (List ByteArray) := (impl_keysOf.l0 k a0 ([] : List ByteArray) a1 (a1.length : Int) 0).bind fun y1 => some y1
def impl_keysOf.C (k : Nat) : Cal → Option CArm := fun c => match c with
  | _ => none
def impl_keysOf.sp0 : List Sp := [.boxT 2 0 .lib, .own 5 1024 9 .str false true, .t 9 (.sl (.int .i64)), .t 10 (.int .i64), .t 11 (.int .i64)]
def impl_keysOf.sp0_0 : List Sp := [.own 5 1024 9 .str false true]
def impl_keysOf.A0 : LArm := .one impl_keysOf.sp0 impl_keysOf.sp0_0 ((List ByteArray)) (fun k x => impl_keysOf.l0 k x.1 x.2.1 x.2.2.1 x.2.2.2.1 x.2.2.2.2.1) (.exit 0) (fun y => (y, ())) (fun x => x.1)
def impl_keysOf.L : Nat → Option LArm := fun b => match b with
  | 0 => some impl_keysOf.A0
  | _ => none
theorem impl_keysOf.run (k : Nat) (a0 : Library) (a1 : List Int) : runF envX (tabC (impl_keysOf.C k)) (tabL 26 k impl_keysOf.L) Tryz.f39 [.t .lib a0, .t (.sl (.int .i64)) a1] (viewR1 (.fr 9 .str)) = impl_keysOf.F k a0 a1 := by kernel_rfl
theorem impl_keysOf.step0 (k : Nat) (x2 : Library) (x5 : List ByteArray) (x9 : List Int) (x10 : Int) (x11 : Int) : runC envX (tabC (impl_keysOf.C k)) (tabL 26 k impl_keysOf.L) 0 (loopAt Tryz.f39 0) (stOf 26 impl_keysOf.sp0 (x2, x5, x9, x10, x11, ())) (impl_keysOf.A0.cont 26 k) = impl_keysOf.l0 (k + 1) x2 x5 x9 x10 x11 := by kernel_rfl
theorem impl_keysOf.G (hE : EnvOk Tryz.prog envX) (pv : Nat → Value) (k : Nat) : ∀ cal A, impl_keysOf.C k cal = some A → ArmOk Tryz.prog envX pv cal A := by
  intro cal A h
  unfold impl_keysOf.C at h
  cases h
theorem impl_keysOf.good (hE : EnvOk Tryz.prog envX) (pv : Nat → Value) (k : Nat) (a0 : Library) (a1 : List Int) {y : _} (h : impl_keysOf.F k a0 a1 = some y) : Meets Tryz.prog envX pv (.f 39) (tvals [.lib, (.sl (.int .i64))] (a0, a1, ())) (.fr 9 .str y) :=
  fun_loops hE (t := impl_keysOf.C) k (fun k _ => impl_keysOf.G hE pv k) (f := 39) (fn := Tryz.f39) (by kernel_rfl) rfl (by kernel_rfl) (by kernel_rfl) (lt := impl_keysOf.L) (by kernel_rfl) (fun b A h => by
    unfold impl_keysOf.L at h; split at h
    · cases h; exact ⟨by kernel_rfl, by kernel_rfl, fun _ => rfl, fun _ => rfl⟩
    · cases h) (fun b A h => by
    unfold impl_keysOf.L at h; split at h
    · cases h; exact fun k x => impl_keysOf.step0 k x.1 x.2.1 x.2.2.1 x.2.2.2.1 x.2.2.2.2.1
    · cases h) ((impl_keysOf.run k a0 a1).trans h) fun r hr => wk_view1 hr
/-! ### 8 loop.example/g00896/impl.CrossChain -/
def impl_CrossChain.F (k : Nat) (a0 : Library) (a1 : ByteArray) : Option ((List ByteArray) × Bool × Bool) := (impl_entryIndex.F k a0 a1).bind fun r1 => (impl_IsValidLibrary.F k a0).bind fun r2 => bif (!r2) then (some ([], false, false)) else (bif (decide (r1 < 0)) then (some ([], false, false)) else ((impl_chainOf.F k a0 r1).bind fun r3 => (impl_keysOf.F k a0 r3.1).bind fun r4 => some (r4, r3.2, true)))
def impl_CrossChain.C (k : Nat) : Cal → Option CArm := fun c => match c with
  | .f 36 => some (.p [.lib, .str] _ (fun x => impl_entryIndex.F k x.1 x.2.1) (fun r => (.t (.int .i64) r)))
  | .f 37 => some (.p [.lib] _ (fun x => impl_IsValidLibrary.F k x.1) (fun r => (.t .bool r)))
  | .f 38 => some (.p [.lib, (.int .i64)] _ (fun x => impl_chainOf.F k x.1 x.2.1) (fun r => (.tup [.fr 3 (.int .i64) r.1, .t .bool r.2])))
  | .f 39 => some (.p [.lib, (.sl (.int .i64))] _ (fun x => impl_keysOf.F k x.1 x.2.1) (fun r => (.fr 9 .str r)))
  | _ => none
theorem impl_CrossChain.run (k : Nat) (a0 : Library) (a1 : ByteArray) : runF envX (tabC (impl_CrossChain.C k)) (tabL 30 0 (fun _ => none)) Tryz.f8 [.t .lib a0, .t .str a1] (viewR3 (.fr 9 .str) (.t .bool) (.t .bool)) = impl_CrossChain.F k a0 a1 := by kernel_rfl
theorem impl_CrossChain.G (hE : EnvOk Tryz.prog envX) (pv : Nat → Value) (k : Nat) : ∀ cal A, impl_CrossChain.C k cal = some A → ArmOk Tryz.prog envX pv cal A := by
  intro cal A h
  unfold impl_CrossChain.C at h
  split at h
  · cases h; exact fun x y hy => impl_entryIndex.good hE pv k x.1 x.2.1 hy
  · cases h; exact fun x y hy => impl_IsValidLibrary.good hE pv k x.1 hy
  · cases h; exact fun x y hy => impl_chainOf.good hE pv k x.1 x.2.1 hy
  · cases h; exact fun x y hy => impl_keysOf.good hE pv k x.1 x.2.1 hy
  · cases h
theorem impl_CrossChain.good (hE : EnvOk Tryz.prog envX) (pv : Nat → Value) (k : Nat) (a0 : Library) (a1 : ByteArray) {y : _} (h : impl_CrossChain.F k a0 a1 = some y) : Meets Tryz.prog envX pv (.f 8) (tvals [.lib, .str] (a0, a1, ())) (.tup [.fr 9 .str y.1, .t .bool y.2.1, .t .bool y.2.2]) :=
  fun_plain hE (impl_CrossChain.G hE pv k) (f := 8) (fn := Tryz.f8) (by kernel_rfl) rfl (by kernel_rfl) (by kernel_rfl) ((impl_CrossChain.run k a0 a1).trans h) fun r hr => wk_view3 hr
/-! ### 42 loop.example/g00896/spec.l4Find -/
def spec_l4Find.l0 : Nat → ByteArray → Library → Int → Option (Sum Int Unit)
  | 0, _, _, _ => none
  | k + 1, x1, x2, x5 => bif (decide (x5 < (x2.entries.length : Int))) then (bif decide (0 ≤ x5) then (bif decide (x5 < (x2.entries.length : Int)) then (bif (beqS ((x2.entries.getD (x5 : Int).toNat (dflt .entry)).key) x1) then (some (.inl x5)) else (spec_l4Find.l0 k x1 x2 (IntKind.wrap .i64 (x5 + 1)))) else none) else none) else (some (.inr ()))
def spec_l4Find.F (k : Nat) (a0 : Library) (a1 : ByteArray) : Option (Int) := (spec_l4Find.l0 k a1 a0 0).bind fun y1 => match y1 with | .inl z2 => some z2 | .inr z2 => some (-1)
def spec_l4Find.C (k : Nat) : Cal → Option CArm := fun c => match c with
  | _ => none
def spec_l4Find.sp0 : List Sp := [.t 1 .str, .boxT 2 0 .lib, .t 5 (.int .i64)]
def spec_l4Find.sp0_0 : List Sp := [.t 4 (.int .i64)]
def spec_l4Find.sp0_1 : List Sp := []
def spec_l4Find.A0 : LArm := .two spec_l4Find.sp0 spec_l4Find.sp0_0 spec_l4Find.sp0_1 (Int) (Unit) (fun k x => spec_l4Find.l0 k x.1 x.2.1 x.2.2.1) .ret (.exit 0) (fun y => (y, ())) (fun x => x.1) (fun y => ()) (fun x => ())
def spec_l4Find.L : Nat → Option LArm := fun b => match b with
  | 0 => some spec_l4Find.A0
  | _ => none
theorem spec_l4Find.run (k : Nat) (a0 : Library) (a1 : ByteArray) : runF envX (tabC (spec_l4Find.C k)) (tabL 22 k spec_l4Find.L) Tryz.f42 [.t .lib a0, .t .str a1] (viewR1 (.t (.int .i64))) = spec_l4Find.F k a0 a1 := by kernel_rfl
theorem spec_l4Find.step0 (k : Nat) (x1 : ByteArray) (x2 : Library) (x5 : Int) : runC envX (tabC (spec_l4Find.C k)) (tabL 22 k spec_l4Find.L) 0 (loopAt Tryz.f42 0) (stOf 22 spec_l4Find.sp0 (x1, x2, x5, ())) (spec_l4Find.A0.cont 22 k) = spec_l4Find.l0 (k + 1) x1 x2 x5 := by kernel_rfl
theorem spec_l4Find.G (hE : EnvOk Tryz.prog envX) (pv : Nat → Value) (k : Nat) : ∀ cal A, spec_l4Find.C k cal = some A → ArmOk Tryz.prog envX pv cal A := by
  intro cal A h
  unfold spec_l4Find.C at h
  cases h
theorem spec_l4Find.good (hE : EnvOk Tryz.prog envX) (pv : Nat → Value) (k : Nat) (a0 : Library) (a1 : ByteArray) {y : _} (h : spec_l4Find.F k a0 a1 = some y) : Meets Tryz.prog envX pv (.f 42) (tvals [.lib, .str] (a0, a1, ())) (.t (.int .i64) y) :=
  fun_loops hE (t := spec_l4Find.C) k (fun k _ => spec_l4Find.G hE pv k) (f := 42) (fn := Tryz.f42) (by kernel_rfl) rfl (by kernel_rfl) (by kernel_rfl) (lt := spec_l4Find.L) (by kernel_rfl) (fun b A h => by
    unfold spec_l4Find.L at h; split at h
    · cases h; exact ⟨by kernel_rfl, by kernel_rfl, by kernel_rfl, fun _ => rfl, fun _ => rfl, fun _ => rfl⟩
    · cases h) (fun b A h => by
    unfold spec_l4Find.L at h; split at h
    · cases h; exact fun k x => spec_l4Find.step0 k x.1 x.2.1 x.2.2.1
    · cases h) ((spec_l4Find.run k a0 a1).trans h) fun r hr => wk_view1 hr
/-! ### 40 loop.example/g00896/spec.l21Asked -/
def spec_l21Asked.F (k : Nat) (a0 : Library) (a1 : ByteArray) : Option (Bool) := (spec_l4Good.F k a0).bind fun r1 => bif r1 then ((spec_l4Find.F k a0 a1).bind fun r2 => some (decide (r2 ≥ 0))) else (some false)
def spec_l21Asked.C (k : Nat) : Cal → Option CArm := fun c => match c with
  | .f 81 => some (.p [.lib] _ (fun x => spec_l4Good.F k x.1) (fun r => (.t .bool r)))
  | .f 42 => some (.p [.lib, .str] _ (fun x => spec_l4Find.F k x.1 x.2.1) (fun r => (.t (.int .i64) r)))
  | _ => none
theorem spec_l21Asked.run (k : Nat) (a0 : Library) (a1 : ByteArray) : runF envX (tabC (spec_l21Asked.C k)) (tabL 13 0 (fun _ => none)) Tryz.f40 [.t .lib a0, .t .str a1] (viewR1 (.t .bool)) = spec_l21Asked.F k a0 a1 := by kernel_rfl
theorem spec_l21Asked.G (hE : EnvOk Tryz.prog envX) (pv : Nat → Value) (k : Nat) : ∀ cal A, spec_l21Asked.C k cal = some A → ArmOk Tryz.prog envX pv cal A := by
  intro cal A h
  unfold spec_l21Asked.C at h
  split at h
  · cases h; exact fun x y hy => spec_l4Good.good hE pv k x.1 hy
  · cases h; exact fun x y hy => spec_l4Find.good hE pv k x.1 x.2.1 hy
  · cases h
theorem spec_l21Asked.good (hE : EnvOk Tryz.prog envX) (pv : Nat → Value) (k : Nat) (a0 : Library) (a1 : ByteArray) {y : _} (h : spec_l21Asked.F k a0 a1 = some y) : Meets Tryz.prog envX pv (.f 40) (tvals [.lib, .str] (a0, a1, ())) (.t .bool y) :=
  fun_plain hE (spec_l21Asked.G hE pv k) (f := 40) (fn := Tryz.f40) (by kernel_rfl) rfl (by kernel_rfl) (by kernel_rfl) ((spec_l21Asked.run k a0 a1).trans h) fun r hr => wk_view1 hr
/-! ### 45 loop.example/g00896/spec.l1Has -/
def spec_l1Has.l0 : Nat → (List Int) → Int → Int → Option (Sum Bool Unit)
  | 0, _, _, _ => none
  | k + 1, x0, x1, x5 => bif (decide (x5 < (x0.length : Int))) then (bif decide (0 ≤ x5) then (bif decide (x5 < (x0.length : Int)) then (bif ((x0.getD (x5 : Int).toNat 0) == x1) then (some (.inl true)) else (spec_l1Has.l0 k x0 x1 (IntKind.wrap .i64 (x5 + 1)))) else none) else none) else (some (.inr ()))
def spec_l1Has.F (k : Nat) (a0 : List Int) (a1 : Int) : Option (Bool) := (spec_l1Has.l0 k a0 a1 0).bind fun y1 => match y1 with | .inl z2 => some z2 | .inr z2 => some false
def spec_l1Has.C (k : Nat) : Cal → Option CArm := fun c => match c with
  | _ => none
def spec_l1Has.sp0 : List Sp := [.t 0 (.sl (.int .i64)), .t 1 (.int .i64), .t 5 (.int .i64)]
def spec_l1Has.sp0_0 : List Sp := [.t 4 .bool]
def spec_l1Has.sp0_1 : List Sp := []
def spec_l1Has.A0 : LArm := .two spec_l1Has.sp0 spec_l1Has.sp0_0 spec_l1Has.sp0_1 (Bool) (Unit) (fun k x => spec_l1Has.l0 k x.1 x.2.1 x.2.2.1) .ret (.exit 0) (fun y => (y, ())) (fun x => x.1) (fun y => ()) (fun x => ())
def spec_l1Has.L : Nat → Option LArm := fun b => match b with
  | 0 => some spec_l1Has.A0
  | _ => none
theorem spec_l1Has.run (k : Nat) (a0 : List Int) (a1 : Int) : runF envX (tabC (spec_l1Has.C k)) (tabL 18 k spec_l1Has.L) Tryz.f45 [.t (.sl (.int .i64)) a0, .t (.int .i64) a1] (viewR1 (.t .bool)) = spec_l1Has.F k a0 a1 := by kernel_rfl
theorem spec_l1Has.step0 (k : Nat) (x0 : List Int) (x1 : Int) (x5 : Int) : runC envX (tabC (spec_l1Has.C k)) (tabL 18 k spec_l1Has.L) 0 (loopAt Tryz.f45 0) (stOf 18 spec_l1Has.sp0 (x0, x1, x5, ())) (spec_l1Has.A0.cont 18 k) = spec_l1Has.l0 (k + 1) x0 x1 x5 := by kernel_rfl
theorem spec_l1Has.G (hE : EnvOk Tryz.prog envX) (pv : Nat → Value) (k : Nat) : ∀ cal A, spec_l1Has.C k cal = some A → ArmOk Tryz.prog envX pv cal A := by
  intro cal A h
  unfold spec_l1Has.C at h
  cases h
theorem spec_l1Has.good (hE : EnvOk Tryz.prog envX) (pv : Nat → Value) (k : Nat) (a0 : List Int) (a1 : Int) {y : _} (h : spec_l1Has.F k a0 a1 = some y) : Meets Tryz.prog envX pv (.f 45) (tvals [(.sl (.int .i64)), (.int .i64)] (a0, a1, ())) (.t .bool y) :=
  fun_loops hE (t := spec_l1Has.C) k (fun k _ => spec_l1Has.G hE pv k) (f := 45) (fn := Tryz.f45) (by kernel_rfl) rfl (by kernel_rfl) (by kernel_rfl) (lt := spec_l1Has.L) (by kernel_rfl) (fun b A h => by
    unfold spec_l1Has.L at h; split at h
    · cases h; exact ⟨by kernel_rfl, by kernel_rfl, by kernel_rfl, fun _ => rfl, fun _ => rfl, fun _ => rfl⟩
    · cases h) (fun b A h => by
    unfold spec_l1Has.L at h; split at h
    · cases h; exact fun k x => spec_l1Has.step0 k x.1 x.2.1 x.2.2.1
    · cases h) ((spec_l1Has.run k a0 a1).trans h) fun r hr => wk_view1 hr
/-! ### 82 loop.example/g00896/spec.l21Parent -/
def spec_l21Parent.F (k : Nat) (a0 : Library) (a1 : Int) : Option (Int) := bif decide (0 ≤ a1) then (bif decide (a1 < (a0.entries.length : Int)) then (bif (beqS ((a0.entries.getD (a1 : Int).toNat (dflt .entry)).cross) (⟨#[]⟩ : ByteArray)) then (some (-1)) else (bif decide (0 ≤ a1) then (bif decide (a1 < (a0.entries.length : Int)) then ((spec_l4Find.F k a0 ((a0.entries.getD (a1 : Int).toNat (dflt .entry)).cross)).bind fun r1 => some r1) else none) else none)) else none) else none
def spec_l21Parent.C (k : Nat) : Cal → Option CArm := fun c => match c with
  | .f 42 => some (.p [.lib, .str] _ (fun x => spec_l4Find.F k x.1 x.2.1) (fun r => (.t (.int .i64) r)))
  | _ => none
theorem spec_l21Parent.run (k : Nat) (a0 : Library) (a1 : Int) : runF envX (tabC (spec_l21Parent.C k)) (tabL 20 0 (fun _ => none)) Tryz.f82 [.t .lib a0, .t (.int .i64) a1] (viewR1 (.t (.int .i64))) = spec_l21Parent.F k a0 a1 := by kernel_rfl
theorem spec_l21Parent.G (hE : EnvOk Tryz.prog envX) (pv : Nat → Value) (k : Nat) : ∀ cal A, spec_l21Parent.C k cal = some A → ArmOk Tryz.prog envX pv cal A := by
  intro cal A h
  unfold spec_l21Parent.C at h
  split at h
  · cases h; exact fun x y hy => spec_l4Find.good hE pv k x.1 x.2.1 hy
  · cases h
theorem spec_l21Parent.good (hE : EnvOk Tryz.prog envX) (pv : Nat → Value) (k : Nat) (a0 : Library) (a1 : Int) {y : _} (h : spec_l21Parent.F k a0 a1 = some y) : Meets Tryz.prog envX pv (.f 82) (tvals [.lib, (.int .i64)] (a0, a1, ())) (.t (.int .i64) y) :=
  fun_plain hE (spec_l21Parent.G hE pv k) (f := 82) (fn := Tryz.f82) (by kernel_rfl) rfl (by kernel_rfl) (by kernel_rfl) ((spec_l21Parent.run k a0 a1).trans h) fun r hr => wk_view1 hr
/-! ### 41 loop.example/g00896/spec.l21Chain -/
def spec_l21Chain.l0 : Nat → Int → Library → (List Int) → Option (Sum ((List Int) × Bool) (List Int))
  | 0, _, _, _ => none
  | k + 1, x1, x2, x6 => bif (decide (x1 ≥ 0)) then ((spec_l1Has.F k x6 x1).bind fun r1 => bif r1 then (some (.inl (x6, true))) else (bif room (x6.length + ([x1] : List Int).length) (.int .i64) then ((spec_l21Parent.F k x2 x1).bind fun r2 => spec_l21Chain.l0 k r2 x2 (x6 ++ ([x1] : List Int))) else none)) else (some (.inr x6))
def spec_l21Chain.F (k : Nat) (a0 : Library) (a1 : Int) : Option ((List Int) × Bool) := (spec_l21Chain.l0 k a1 a0 ([] : List Int)).bind fun y3 => match y3 with | .inl z4 => some (z4.1, z4.2) | .inr z4 => some (z4, false)
def spec_l21Chain.C (k : Nat) : Cal → Option CArm := fun c => match c with
  | .f 45 => some (.p [(.sl (.int .i64)), (.int .i64)] _ (fun x => spec_l1Has.F k x.1 x.2.1) (fun r => (.t .bool r)))
  | .f 82 => some (.p [.lib, (.int .i64)] _ (fun x => spec_l21Parent.F k x.1 x.2.1) (fun r => (.t (.int .i64) r)))
  | _ => none
def spec_l21Chain.sp0 : List Sp := [.t 1 (.int .i64), .boxT 2 0 .lib, .own 6 1024 3 (.int .i64) false true]
def spec_l21Chain.sp0_0 : List Sp := [.own 4 1024 3 (.int .i64) false true, .t 5 .bool]
def spec_l21Chain.sp0_1 : List Sp := [.own 6 1024 3 (.int .i64) false true]
def spec_l21Chain.A0 : LArm := .two spec_l21Chain.sp0 spec_l21Chain.sp0_0 spec_l21Chain.sp0_1 ((List Int) × Bool) ((List Int)) (fun k x => spec_l21Chain.l0 k x.1 x.2.1 x.2.2.1) .ret (.exit 0) (fun y => (y.1, y.2, ())) (fun x => (x.1, x.2.1)) (fun y => (y, ())) (fun x => x.1)
def spec_l21Chain.L : Nat → Option LArm := fun b => match b with
  | 0 => some spec_l21Chain.A0
  | _ => none
theorem spec_l21Chain.run (k : Nat) (a0 : Library) (a1 : Int) : runF envX (tabC (spec_l21Chain.C k)) (tabL 22 k spec_l21Chain.L) Tryz.f41 [.t .lib a0, .t (.int .i64) a1] (viewR2 (.fr 3 (.int .i64)) (.t .bool)) = spec_l21Chain.F k a0 a1 := by kernel_rfl
theorem spec_l21Chain.step0 (k : Nat) (x1 : Int) (x2 : Library) (x6 : List Int) : runC envX (tabC (spec_l21Chain.C k)) (tabL 22 k spec_l21Chain.L) 0 (loopAt Tryz.f41 0) (stOf 22 spec_l21Chain.sp0 (x1, x2, x6, ())) (spec_l21Chain.A0.cont 22 k) = spec_l21Chain.l0 (k + 1) x1 x2 x6 := by kernel_rfl
theorem spec_l21Chain.G (hE : EnvOk Tryz.prog envX) (pv : Nat → Value) (k : Nat) : ∀ cal A, spec_l21Chain.C k cal = some A → ArmOk Tryz.prog envX pv cal A := by
  intro cal A h
  unfold spec_l21Chain.C at h
  split at h
  · cases h; exact fun x y hy => spec_l1Has.good hE pv k x.1 x.2.1 hy
  · cases h; exact fun x y hy => spec_l21Parent.good hE pv k x.1 x.2.1 hy
  · cases h
theorem spec_l21Chain.good (hE : EnvOk Tryz.prog envX) (pv : Nat → Value) (k : Nat) (a0 : Library) (a1 : Int) {y : _} (h : spec_l21Chain.F k a0 a1 = some y) : Meets Tryz.prog envX pv (.f 41) (tvals [.lib, (.int .i64)] (a0, a1, ())) (.tup [.fr 3 (.int .i64) y.1, .t .bool y.2]) :=
  fun_loops hE (t := spec_l21Chain.C) k (fun k _ => spec_l21Chain.G hE pv k) (f := 41) (fn := Tryz.f41) (by kernel_rfl) rfl (by kernel_rfl) (by kernel_rfl) (lt := spec_l21Chain.L) (by kernel_rfl) (fun b A h => by
    unfold spec_l21Chain.L at h; split at h
    · cases h; exact ⟨by kernel_rfl, by kernel_rfl, by kernel_rfl, fun _ => rfl, fun _ => rfl, fun _ => rfl⟩
    · cases h) (fun b A h => by
    unfold spec_l21Chain.L at h; split at h
    · cases h; exact fun k x => spec_l21Chain.step0 k x.1 x.2.1 x.2.2.1
    · cases h) ((spec_l21Chain.run k a0 a1).trans h) fun r hr => wk_view2 hr
/-! ### 9 loop.example/g00896/spec.CrossChain -/
def spec_CrossChain.l0 : Nat → Library → (List ByteArray) → (List Int) → Bool → Int → Option ((List ByteArray) × Bool)
  | 0, _, _, _, _, _ => none
  | k + 1, x2, x7, x8, x9, x10 => bif (decide (x10 < (x8.length : Int))) then (bif decide (0 ≤ x10) then (bif decide (x10 < (x8.length : Int)) then (bif decide (0 ≤ (x8.getD ((x10 : Int).toNat) 0)) then (bif decide ((x8.getD ((x10 : Int).toNat) 0) < (x2.entries.length : Int)) then (bif room (x7.length + ([(x2.entries.getD ((x8.getD ((x10 : Int).toNat) 0) : Int).toNat (dflt .entry)).key] : List ByteArray).length) .str then (spec_CrossChain.l0 k x2 (x7 ++ ([(x2.entries.getD ((x8.getD ((x10 : Int).toNat) 0) : Int).toNat (dflt .entry)).key] : List ByteArray)) x8 x9 (IntKind.wrap .i64 (x10 + 1))) else none) else none) else none) else none) else none) else (some (x7, x9))
def spec_CrossChain.F (k : Nat) (a0 : Library) (a1 : ByteArray) : Option ((List ByteArray) × Bool × Bool) := (spec_l21Asked.F k a0 a1).bind fun r1 => bif (!r1) then (some (([] : List ByteArray), false, false)) else ((spec_l4Find.F k a0 a1).bind fun r2 => (spec_l21Chain.F k a0 r2).bind fun r3 => (spec_CrossChain.l0 k a0 ([] : List ByteArray) r3.1 r3.2 0).bind fun y4 => some (y4.1, y4.2, true))
def spec_CrossChain.C (k : Nat) : Cal → Option CArm := fun c => match c with
  | .f 40 => some (.p [.lib, .str] _ (fun x => spec_l21Asked.F k x.1 x.2.1) (fun r => (.t .bool r)))
  | .f 42 => some (.p [.lib, .str] _ (fun x => spec_l4Find.F k x.1 x.2.1) (fun r => (.t (.int .i64) r)))
  | .f 41 => some (.p [.lib, (.int .i64)] _ (fun x => spec_l21Chain.F k x.1 x.2.1) (fun r => (.tup [.fr 3 (.int .i64) r.1, .t .bool r.2])))
  | _ => none
def spec_CrossChain.sp0 : List Sp := [.boxT 2 0 .lib, .own 7 1024 9 .str false true, .own 8 4112 3 (.int .i64) false true, .t 9 .bool, .t 10 (.int .i64)]
def spec_CrossChain.sp0_0 : List Sp := [.own 7 1024 9 .str false true, .t 9 .bool]
def spec_CrossChain.A0 : LArm := .one spec_CrossChain.sp0 spec_CrossChain.sp0_0 ((List ByteArray) × Bool) (fun k x => spec_CrossChain.l0 k x.1 x.2.1 x.2.2.1 x.2.2.2.1 x.2.2.2.2.1) (.exit 0) (fun y => (y.1, y.2, ())) (fun x => (x.1, x.2.1))
def spec_CrossChain.L : Nat → Option LArm := fun b => match b with
  | 0 => some spec_CrossChain.A0
  | _ => none
theorem spec_CrossChain.run (k : Nat) (a0 : Library) (a1 : ByteArray) : runF envX (tabC (spec_CrossChain.C k)) (tabL 45 k spec_CrossChain.L) Tryz.f9 [.t .lib a0, .t .str a1] (viewR3 (.fr 9 .str) (.t .bool) (.t .bool)) = spec_CrossChain.F k a0 a1 := by kernel_rfl
theorem spec_CrossChain.step0 (k : Nat) (x2 : Library) (x7 : List ByteArray) (x8 : List Int) (x9 : Bool) (x10 : Int) : runC envX (tabC (spec_CrossChain.C k)) (tabL 45 k spec_CrossChain.L) 0 (loopAt Tryz.f9 0) (stOf 45 spec_CrossChain.sp0 (x2, x7, x8, x9, x10, ())) (spec_CrossChain.A0.cont 45 k) = spec_CrossChain.l0 (k + 1) x2 x7 x8 x9 x10 := by kernel_rfl
theorem spec_CrossChain.G (hE : EnvOk Tryz.prog envX) (pv : Nat → Value) (k : Nat) : ∀ cal A, spec_CrossChain.C k cal = some A → ArmOk Tryz.prog envX pv cal A := by
  intro cal A h
  unfold spec_CrossChain.C at h
  split at h
  · cases h; exact fun x y hy => spec_l21Asked.good hE pv k x.1 x.2.1 hy
  · cases h; exact fun x y hy => spec_l4Find.good hE pv k x.1 x.2.1 hy
  · cases h; exact fun x y hy => spec_l21Chain.good hE pv k x.1 x.2.1 hy
  · cases h
theorem spec_CrossChain.good (hE : EnvOk Tryz.prog envX) (pv : Nat → Value) (k : Nat) (a0 : Library) (a1 : ByteArray) {y : _} (h : spec_CrossChain.F k a0 a1 = some y) : Meets Tryz.prog envX pv (.f 9) (tvals [.lib, .str] (a0, a1, ())) (.tup [.fr 9 .str y.1, .t .bool y.2.1, .t .bool y.2.2]) :=
  fun_loops hE (t := spec_CrossChain.C) k (fun k _ => spec_CrossChain.G hE pv k) (f := 9) (fn := Tryz.f9) (by kernel_rfl) rfl (by kernel_rfl) (by kernel_rfl) (lt := spec_CrossChain.L) (by kernel_rfl) (fun b A h => by
    unfold spec_CrossChain.L at h; split at h
    · cases h; exact ⟨by kernel_rfl, by kernel_rfl, fun _ => rfl, fun _ => rfl⟩
    · cases h) (fun b A h => by
    unfold spec_CrossChain.L at h; split at h
    · cases h; exact fun k x => spec_CrossChain.step0 k x.1 x.2.1 x.2.2.1 x.2.2.2.1 x.2.2.2.2.1
    · cases h) ((spec_CrossChain.run k a0 a1).trans h) fun r hr => wk_view3 hr
/-! ### 10 loop.example/g00896/laws.rTexts -/
def laws_rTexts.l0 : Nat → (List ByteArray) → (List ByteArray) → Int → Option (Sum Bool Unit)
  | 0, _, _, _ => none
  | k + 1, x0, x1, x5 => bif (decide (x5 < (x0.length : Int))) then (bif decide (0 ≤ x5) then (bif decide (x5 < (x0.length : Int)) then (bif decide (0 ≤ x5) then (bif decide (x5 < (x1.length : Int)) then (bif (!beqS (x0.getD (x5 : Int).toNat (⟨#[]⟩ : ByteArray)) (x1.getD (x5 : Int).toNat (⟨#[]⟩ : ByteArray))) then (some (.inl false)) else (laws_rTexts.l0 k x0 x1 (IntKind.wrap .i64 (x5 + 1)))) else none) else none) else none) else none) else (some (.inr ()))
def laws_rTexts.F (k : Nat) (a0 : List ByteArray) (a1 : List ByteArray) : Option (Bool) := bif ((a0.length : Int) != (a1.length : Int)) then (some false) else ((laws_rTexts.l0 k a0 a1 0).bind fun y1 => match y1 with | .inl z2 => some z2 | .inr z2 => some true)
def laws_rTexts.C (k : Nat) : Cal → Option CArm := fun c => match c with
  | _ => none
def laws_rTexts.sp0 : List Sp := [.t 0 (.sl .str), .t 1 (.sl .str), .t 5 (.int .i64)]
def laws_rTexts.sp0_0 : List Sp := [.t 4 .bool]
def laws_rTexts.sp0_1 : List Sp := []
def laws_rTexts.A0 : LArm := .two laws_rTexts.sp0 laws_rTexts.sp0_0 laws_rTexts.sp0_1 (Bool) (Unit) (fun k x => laws_rTexts.l0 k x.1 x.2.1 x.2.2.1) .ret (.exit 0) (fun y => (y, ())) (fun x => x.1) (fun y => ()) (fun x => ())
def laws_rTexts.L : Nat → Option LArm := fun b => match b with
  | 0 => some laws_rTexts.A0
  | _ => none
theorem laws_rTexts.run (k : Nat) (a0 : List ByteArray) (a1 : List ByteArray) : runF envX (tabC (laws_rTexts.C k)) (tabL 26 k laws_rTexts.L) Tryz.f10 [.t (.sl .str) a0, .t (.sl .str) a1] (viewR1 (.t .bool)) = laws_rTexts.F k a0 a1 := by kernel_rfl
theorem laws_rTexts.step0 (k : Nat) (x0 : List ByteArray) (x1 : List ByteArray) (x5 : Int) : runC envX (tabC (laws_rTexts.C k)) (tabL 26 k laws_rTexts.L) 0 (loopAt Tryz.f10 0) (stOf 26 laws_rTexts.sp0 (x0, x1, x5, ())) (laws_rTexts.A0.cont 26 k) = laws_rTexts.l0 (k + 1) x0 x1 x5 := by kernel_rfl
theorem laws_rTexts.G (hE : EnvOk Tryz.prog envX) (pv : Nat → Value) (k : Nat) : ∀ cal A, laws_rTexts.C k cal = some A → ArmOk Tryz.prog envX pv cal A := by
  intro cal A h
  unfold laws_rTexts.C at h
  cases h
theorem laws_rTexts.good (hE : EnvOk Tryz.prog envX) (pv : Nat → Value) (k : Nat) (a0 : List ByteArray) (a1 : List ByteArray) {y : _} (h : laws_rTexts.F k a0 a1 = some y) : Meets Tryz.prog envX pv (.f 10) (tvals [(.sl .str), (.sl .str)] (a0, a1, ())) (.t .bool y) :=
  fun_loops hE (t := laws_rTexts.C) k (fun k _ => laws_rTexts.G hE pv k) (f := 10) (fn := Tryz.f10) (by kernel_rfl) rfl (by kernel_rfl) (by kernel_rfl) (lt := laws_rTexts.L) (by kernel_rfl) (fun b A h => by
    unfold laws_rTexts.L at h; split at h
    · cases h; exact ⟨by kernel_rfl, by kernel_rfl, by kernel_rfl, fun _ => rfl, fun _ => rfl, fun _ => rfl⟩
    · cases h) (fun b A h => by
    unfold laws_rTexts.L at h; split at h
    · cases h; exact fun k x => laws_rTexts.step0 k x.1 x.2.1 x.2.2.1
    · cases h) ((laws_rTexts.run k a0 a1).trans h) fun r hr => wk_view1 hr
/-! ### 11 loop.example/g00896/impl.ParentOf -/
def impl_ParentOf.F (k : Nat) (a0 : Library) (a1 : ByteArray) : Option (ByteArray × Bool × Bool) := (impl_entryIndex.F k a0 a1).bind fun r1 => (impl_IsValidLibrary.F k a0).bind fun r2 => bif (!r2) then (some ((⟨#[]⟩ : ByteArray), false, false)) else (bif (decide (r1 < 0)) then (some ((⟨#[]⟩ : ByteArray), false, false)) else ((impl_parentIndex.F k a0 r1).bind fun r3 => bif (decide (r3 < 0)) then (some ((⟨#[]⟩ : ByteArray), false, true)) else (bif decide (0 ≤ r3) then (bif decide (r3 < (a0.entries.length : Int)) then (some ((a0.entries.getD (r3 : Int).toNat (dflt .entry)).key, true, true)) else none) else none)))
def impl_ParentOf.C (k : Nat) : Cal → Option CArm := fun c => match c with
  | .f 36 => some (.p [.lib, .str] _ (fun x => impl_entryIndex.F k x.1 x.2.1) (fun r => (.t (.int .i64) r)))
  | .f 37 => some (.p [.lib] _ (fun x => impl_IsValidLibrary.F k x.1) (fun r => (.t .bool r)))
  | .f 43 => some (.p [.lib, (.int .i64)] _ (fun x => impl_parentIndex.F k x.1 x.2.1) (fun r => (.t (.int .i64) r)))
  | _ => none
theorem impl_ParentOf.run (k : Nat) (a0 : Library) (a1 : ByteArray) : runF envX (tabC (impl_ParentOf.C k)) (tabL 30 0 (fun _ => none)) Tryz.f11 [.t .lib a0, .t .str a1] (viewR3 (.t .str) (.t .bool) (.t .bool)) = impl_ParentOf.F k a0 a1 := by kernel_rfl
theorem impl_ParentOf.G (hE : EnvOk Tryz.prog envX) (pv : Nat → Value) (k : Nat) : ∀ cal A, impl_ParentOf.C k cal = some A → ArmOk Tryz.prog envX pv cal A := by
  intro cal A h
  unfold impl_ParentOf.C at h
  split at h
  · cases h; exact fun x y hy => impl_entryIndex.good hE pv k x.1 x.2.1 hy
  · cases h; exact fun x y hy => impl_IsValidLibrary.good hE pv k x.1 hy
  · cases h; exact fun x y hy => impl_parentIndex.good hE pv k x.1 x.2.1 hy
  · cases h
theorem impl_ParentOf.good (hE : EnvOk Tryz.prog envX) (pv : Nat → Value) (k : Nat) (a0 : Library) (a1 : ByteArray) {y : _} (h : impl_ParentOf.F k a0 a1 = some y) : Meets Tryz.prog envX pv (.f 11) (tvals [.lib, .str] (a0, a1, ())) (.tup [.t .str y.1, .t .bool y.2.1, .t .bool y.2.2]) :=
  fun_plain hE (impl_ParentOf.G hE pv k) (f := 11) (fn := Tryz.f11) (by kernel_rfl) rfl (by kernel_rfl) (by kernel_rfl) ((impl_ParentOf.run k a0 a1).trans h) fun r hr => wk_view3 hr
/-! ### 12 loop.example/g00896/impl.ChildrenOf -/
def impl_ChildrenOf.l0 : Nat → ByteArray → (List ByteArray) → (List Entry) → Int → Int → Option ((List ByteArray))
  | 0, _, _, _, _, _ => none
  | k + 1, x1, x6, x20, x21, x22 => bif (decide (x22 < x21)) then (bif decide (0 ≤ x22) then (bif decide (x22 < (x20.length : Int)) then (bif (beqS ((x20.getD (x22 : Int).toNat (dflt .entry)).cross) x1) then (bif room (x6.length + ([(x20.getD (x22 : Int).toNat (dflt .entry)).key] : List ByteArray).length) .str then (impl_ChildrenOf.l0 k x1 (x6 ++ ([(x20.getD (x22 : Int).toNat (dflt .entry)).key] : List ByteArray)) x20 x21 (IntKind.wrap .i64 (x22 + 1))) else none) else (impl_ChildrenOf.l0 k x1 x6 x20 x21 (IntKind.wrap .i64 (x22 + 1)))) else none) else none) else (some x6)
def impl_ChildrenOf.F (k : Nat) (a0 : Library) (a1 : ByteArray) : Option ((List ByteArray) × Bool) := (impl_IsValidLibrary.F k a0).bind fun r1 => bif (!r1) then (some ([], false)) else ((impl_entryIndex.F k a0 a1).bind fun r2 => bif (decide (r2 < 0)) then (some ([], false)) else ((impl_ChildrenOf.l0 k a1 ([] : List ByteArray) a0.entries (a0.entries.length : Int) 0).bind fun y3 => some (y3, true)))
def impl_ChildrenOf.C (k : Nat) : Cal → Option CArm := fun c => match c with
  | .f 37 => some (.p [.lib] _ (fun x => impl_IsValidLibrary.F k x.1) (fun r => (.t .bool r)))
  | .f 36 => some (.p [.lib, .str] _ (fun x => impl_entryIndex.F k x.1 x.2.1) (fun r => (.t (.int .i64) r)))
  | _ => none
def impl_ChildrenOf.sp0 : List Sp := [.t 1 .str, .own 6 3072 9 .str false true, .t 20 (.sl .entry), .t 21 (.int .i64), .t 22 (.int .i64)]
def impl_ChildrenOf.sp0_0 : List Sp := [.own 6 3072 9 .str false true]
def impl_ChildrenOf.A0 : LArm := .one impl_ChildrenOf.sp0 impl_ChildrenOf.sp0_0 ((List ByteArray)) (fun k x => impl_ChildrenOf.l0 k x.1 x.2.1 x.2.2.1 x.2.2.2.1 x.2.2.2.2.1) (.exit 0) (fun y => (y, ())) (fun x => x.1)
def impl_ChildrenOf.L : Nat → Option LArm := fun b => match b with
  | 0 => some impl_ChildrenOf.A0
  | _ => none
theorem impl_ChildrenOf.run (k : Nat) (a0 : Library) (a1 : ByteArray) : runF envX (tabC (impl_ChildrenOf.C k)) (tabL 37 k impl_ChildrenOf.L) Tryz.f12 [.t .lib a0, .t .str a1] (viewR2 (.fr 9 .str) (.t .bool)) = impl_ChildrenOf.F k a0 a1 := by kernel_rfl
theorem impl_ChildrenOf.step0 (k : Nat) (x1 : ByteArray) (x6 : List ByteArray) (x20 : List Entry) (x21 : Int) (x22 : Int) : runC envX (tabC (impl_ChildrenOf.C k)) (tabL 37 k impl_ChildrenOf.L) 0 (loopAt Tryz.f12 0) (stOf 37 impl_ChildrenOf.sp0 (x1, x6, x20, x21, x22, ())) (impl_ChildrenOf.A0.cont 37 k) = impl_ChildrenOf.l0 (k + 1) x1 x6 x20 x21 x22 := by kernel_rfl
theorem impl_ChildrenOf.G (hE : EnvOk Tryz.prog envX) (pv : Nat → Value) (k : Nat) : ∀ cal A, impl_ChildrenOf.C k cal = some A → ArmOk Tryz.prog envX pv cal A := by
  intro cal A h
  unfold impl_ChildrenOf.C at h
  split at h
  · cases h; exact fun x y hy => impl_IsValidLibrary.good hE pv k x.1 hy
  · cases h; exact fun x y hy => impl_entryIndex.good hE pv k x.1 x.2.1 hy
  · cases h
theorem impl_ChildrenOf.good (hE : EnvOk Tryz.prog envX) (pv : Nat → Value) (k : Nat) (a0 : Library) (a1 : ByteArray) {y : _} (h : impl_ChildrenOf.F k a0 a1 = some y) : Meets Tryz.prog envX pv (.f 12) (tvals [.lib, .str] (a0, a1, ())) (.tup [.fr 9 .str y.1, .t .bool y.2]) :=
  fun_loops hE (t := impl_ChildrenOf.C) k (fun k _ => impl_ChildrenOf.G hE pv k) (f := 12) (fn := Tryz.f12) (by kernel_rfl) rfl (by kernel_rfl) (by kernel_rfl) (lt := impl_ChildrenOf.L) (by kernel_rfl) (fun b A h => by
    unfold impl_ChildrenOf.L at h; split at h
    · cases h; exact ⟨by kernel_rfl, by kernel_rfl, fun _ => rfl, fun _ => rfl⟩
    · cases h) (fun b A h => by
    unfold impl_ChildrenOf.L at h; split at h
    · cases h; exact fun k x => impl_ChildrenOf.step0 k x.1 x.2.1 x.2.2.1 x.2.2.2.1 x.2.2.2.2.1
    · cases h) ((impl_ChildrenOf.run k a0 a1).trans h) fun r hr => wk_view2 hr
/-! ### 13 loop.example/g00896/impl.DependentsOf -/
def impl_DependentsOf.l0 : Nat → Library → Int → (List ByteArray) → (List Entry) → Int → Int → Option ((List ByteArray))
  | 0, _, _, _, _, _, _ => none
  | k + 1, x2, x6, x7, x24, x25, x26 => bif (decide (x26 < x25)) then (bif decide (0 ≤ x26) then (bif decide (x26 < (x24.length : Int)) then ((impl_chainOf.F k x2 x26).bind fun r3 => bif (x26 != x6) then ((slices_Contains_int.F k r3.1 x6).bind fun r4 => bif r4 then (bif room (x7.length + ([(x24.getD (x26 : Int).toNat (dflt .entry)).key] : List ByteArray).length) .str then (impl_DependentsOf.l0 k x2 x6 (x7 ++ ([(x24.getD (x26 : Int).toNat (dflt .entry)).key] : List ByteArray)) x24 x25 (IntKind.wrap .i64 (x26 + 1))) else none) else (impl_DependentsOf.l0 k x2 x6 x7 x24 x25 (IntKind.wrap .i64 (x26 + 1)))) else (impl_DependentsOf.l0 k x2 x6 x7 x24 x25 (IntKind.wrap .i64 (x26 + 1)))) else none) else none) else (some x7)
def impl_DependentsOf.F (k : Nat) (a0 : Library) (a1 : ByteArray) : Option ((List ByteArray) × Bool) := (impl_entryIndex.F k a0 a1).bind fun r1 => (impl_IsValidLibrary.F k a0).bind fun r2 => bif (!r2) then (some ([], false)) else (bif (decide (r1 < 0)) then (some ([], false)) else ((impl_DependentsOf.l0 k a0 r1 ([] : List ByteArray) a0.entries (a0.entries.length : Int) 0).bind fun y5 => some (y5, true)))
def impl_DependentsOf.C (k : Nat) : Cal → Option CArm := fun c => match c with
  | .f 36 => some (.p [.lib, .str] _ (fun x => impl_entryIndex.F k x.1 x.2.1) (fun r => (.t (.int .i64) r)))
  | .f 37 => some (.p [.lib] _ (fun x => impl_IsValidLibrary.F k x.1) (fun r => (.t .bool r)))
  | .f 38 => some (.p [.lib, (.int .i64)] _ (fun x => impl_chainOf.F k x.1 x.2.1) (fun r => (.tup [.fr 3 (.int .i64) r.1, .t .bool r.2])))
  | .f 44 => some (.p [(.sl (.int .i64)), (.int .i64)] _ (fun x => slices_Contains_int.F k x.1 x.2.1) (fun r => (.t .bool r)))
  | _ => none
def impl_DependentsOf.sp0 : List Sp := [.boxT 2 0 .lib, .t 6 (.int .i64), .own 7 4096 9 .str false true, .t 24 (.sl .entry), .t 25 (.int .i64), .t 26 (.int .i64)]
def impl_DependentsOf.sp0_0 : List Sp := [.own 7 4096 9 .str false true]
def impl_DependentsOf.A0 : LArm := .one impl_DependentsOf.sp0 impl_DependentsOf.sp0_0 ((List ByteArray)) (fun k x => impl_DependentsOf.l0 k x.1 x.2.1 x.2.2.1 x.2.2.2.1 x.2.2.2.2.1 x.2.2.2.2.2.1) (.exit 0) (fun y => (y, ())) (fun x => x.1)
def impl_DependentsOf.L : Nat → Option LArm := fun b => match b with
  | 0 => some impl_DependentsOf.A0
  | _ => none
theorem impl_DependentsOf.run (k : Nat) (a0 : Library) (a1 : ByteArray) : runF envX (tabC (impl_DependentsOf.C k)) (tabL 52 k impl_DependentsOf.L) Tryz.f13 [.t .lib a0, .t .str a1] (viewR2 (.fr 9 .str) (.t .bool)) = impl_DependentsOf.F k a0 a1 := by kernel_rfl
theorem impl_DependentsOf.step0 (k : Nat) (x2 : Library) (x6 : Int) (x7 : List ByteArray) (x24 : List Entry) (x25 : Int) (x26 : Int) : runC envX (tabC (impl_DependentsOf.C k)) (tabL 52 k impl_DependentsOf.L) 0 (loopAt Tryz.f13 0) (stOf 52 impl_DependentsOf.sp0 (x2, x6, x7, x24, x25, x26, ())) (impl_DependentsOf.A0.cont 52 k) = impl_DependentsOf.l0 (k + 1) x2 x6 x7 x24 x25 x26 := by kernel_rfl
theorem impl_DependentsOf.G (hE : EnvOk Tryz.prog envX) (pv : Nat → Value) (k : Nat) : ∀ cal A, impl_DependentsOf.C k cal = some A → ArmOk Tryz.prog envX pv cal A := by
  intro cal A h
  unfold impl_DependentsOf.C at h
  split at h
  · cases h; exact fun x y hy => impl_entryIndex.good hE pv k x.1 x.2.1 hy
  · cases h; exact fun x y hy => impl_IsValidLibrary.good hE pv k x.1 hy
  · cases h; exact fun x y hy => impl_chainOf.good hE pv k x.1 x.2.1 hy
  · cases h; exact fun x y hy => slices_Contains_int.good hE pv k x.1 x.2.1 hy
  · cases h
theorem impl_DependentsOf.good (hE : EnvOk Tryz.prog envX) (pv : Nat → Value) (k : Nat) (a0 : Library) (a1 : ByteArray) {y : _} (h : impl_DependentsOf.F k a0 a1 = some y) : Meets Tryz.prog envX pv (.f 13) (tvals [.lib, .str] (a0, a1, ())) (.tup [.fr 9 .str y.1, .t .bool y.2]) :=
  fun_loops hE (t := impl_DependentsOf.C) k (fun k _ => impl_DependentsOf.G hE pv k) (f := 13) (fn := Tryz.f13) (by kernel_rfl) rfl (by kernel_rfl) (by kernel_rfl) (lt := impl_DependentsOf.L) (by kernel_rfl) (fun b A h => by
    unfold impl_DependentsOf.L at h; split at h
    · cases h; exact ⟨by kernel_rfl, by kernel_rfl, fun _ => rfl, fun _ => rfl⟩
    · cases h) (fun b A h => by
    unfold impl_DependentsOf.L at h; split at h
    · cases h; exact fun k x => impl_DependentsOf.step0 k x.1 x.2.1 x.2.2.1 x.2.2.2.1 x.2.2.2.2.1 x.2.2.2.2.2.1
    · cases h) ((impl_DependentsOf.run k a0 a1).trans h) fun r hr => wk_view2 hr
/-! ### 14 loop.example/g00896/impl.BrokenCrosses -/
def impl_BrokenCrosses.l0 : Nat → Library → (List ByteArray) → (List Entry) → Int → Int → Option ((List ByteArray))
  | 0, _, _, _, _, _ => none
  | k + 1, x1, x4, x12, x13, x14 => bif (decide (x14 < x13)) then (bif decide (0 ≤ x14) then (bif decide (x14 < (x12.length : Int)) then (bif (!beqS ((x12.getD (x14 : Int).toNat (dflt .entry)).cross) (⟨#[]⟩ : ByteArray)) then ((impl_parentIndex.F k x1 x14).bind fun r2 => bif (decide (r2 < 0)) then (bif room (x4.length + ([(x12.getD (x14 : Int).toNat (dflt .entry)).key] : List ByteArray).length) .str then (impl_BrokenCrosses.l0 k x1 (x4 ++ ([(x12.getD (x14 : Int).toNat (dflt .entry)).key] : List ByteArray)) x12 x13 (IntKind.wrap .i64 (x14 + 1))) else none) else (impl_BrokenCrosses.l0 k x1 x4 x12 x13 (IntKind.wrap .i64 (x14 + 1)))) else (impl_BrokenCrosses.l0 k x1 x4 x12 x13 (IntKind.wrap .i64 (x14 + 1)))) else none) else none) else (some x4)
def impl_BrokenCrosses.F (k : Nat) (a0 : Library) : Option ((List ByteArray) × Bool) := (impl_IsValidLibrary.F k a0).bind fun r1 => bif (!r1) then (some ([], false)) else ((impl_BrokenCrosses.l0 k a0 ([] : List ByteArray) a0.entries (a0.entries.length : Int) 0).bind fun y3 => some (y3, true))
def impl_BrokenCrosses.C (k : Nat) : Cal → Option CArm := fun c => match c with
  | .f 37 => some (.p [.lib] _ (fun x => impl_IsValidLibrary.F k x.1) (fun r => (.t .bool r)))
  | .f 43 => some (.p [.lib, (.int .i64)] _ (fun x => impl_parentIndex.F k x.1 x.2.1) (fun r => (.t (.int .i64) r)))
  | _ => none
def impl_BrokenCrosses.sp0 : List Sp := [.boxT 1 0 .lib, .own 4 3072 9 .str false true, .t 12 (.sl .entry), .t 13 (.int .i64), .t 14 (.int .i64)]
def impl_BrokenCrosses.sp0_0 : List Sp := [.own 4 3072 9 .str false true]
def impl_BrokenCrosses.A0 : LArm := .one impl_BrokenCrosses.sp0 impl_BrokenCrosses.sp0_0 ((List ByteArray)) (fun k x => impl_BrokenCrosses.l0 k x.1 x.2.1 x.2.2.1 x.2.2.2.1 x.2.2.2.2.1) (.exit 0) (fun y => (y, ())) (fun x => x.1)
def impl_BrokenCrosses.L : Nat → Option LArm := fun b => match b with
  | 0 => some impl_BrokenCrosses.A0
  | _ => none
theorem impl_BrokenCrosses.run (k : Nat) (a0 : Library) : runF envX (tabC (impl_BrokenCrosses.C k)) (tabL 35 k impl_BrokenCrosses.L) Tryz.f14 [.t .lib a0] (viewR2 (.fr 9 .str) (.t .bool)) = impl_BrokenCrosses.F k a0 := by kernel_rfl
theorem impl_BrokenCrosses.step0 (k : Nat) (x1 : Library) (x4 : List ByteArray) (x12 : List Entry) (x13 : Int) (x14 : Int) : runC envX (tabC (impl_BrokenCrosses.C k)) (tabL 35 k impl_BrokenCrosses.L) 0 (loopAt Tryz.f14 0) (stOf 35 impl_BrokenCrosses.sp0 (x1, x4, x12, x13, x14, ())) (impl_BrokenCrosses.A0.cont 35 k) = impl_BrokenCrosses.l0 (k + 1) x1 x4 x12 x13 x14 := by kernel_rfl
theorem impl_BrokenCrosses.G (hE : EnvOk Tryz.prog envX) (pv : Nat → Value) (k : Nat) : ∀ cal A, impl_BrokenCrosses.C k cal = some A → ArmOk Tryz.prog envX pv cal A := by
  intro cal A h
  unfold impl_BrokenCrosses.C at h
  split at h
  · cases h; exact fun x y hy => impl_IsValidLibrary.good hE pv k x.1 hy
  · cases h; exact fun x y hy => impl_parentIndex.good hE pv k x.1 x.2.1 hy
  · cases h
theorem impl_BrokenCrosses.good (hE : EnvOk Tryz.prog envX) (pv : Nat → Value) (k : Nat) (a0 : Library) {y : _} (h : impl_BrokenCrosses.F k a0 = some y) : Meets Tryz.prog envX pv (.f 14) (tvals [.lib] (a0, ())) (.tup [.fr 9 .str y.1, .t .bool y.2]) :=
  fun_loops hE (t := impl_BrokenCrosses.C) k (fun k _ => impl_BrokenCrosses.G hE pv k) (f := 14) (fn := Tryz.f14) (by kernel_rfl) rfl (by kernel_rfl) (by kernel_rfl) (lt := impl_BrokenCrosses.L) (by kernel_rfl) (fun b A h => by
    unfold impl_BrokenCrosses.L at h; split at h
    · cases h; exact ⟨by kernel_rfl, by kernel_rfl, fun _ => rfl, fun _ => rfl⟩
    · cases h) (fun b A h => by
    unfold impl_BrokenCrosses.L at h; split at h
    · cases h; exact fun k x => impl_BrokenCrosses.step0 k x.1 x.2.1 x.2.2.1 x.2.2.2.1 x.2.2.2.2.1
    · cases h) ((impl_BrokenCrosses.run k a0).trans h) fun r hr => wk_view2 hr
/-! ### 15 loop.example/g00896/spec.DependentsOf -/
def spec_DependentsOf.l0 : Nat → ByteArray → Library → (List ByteArray) → Int → Option ((List ByteArray))
  | 0, _, _, _, _ => none
  | k + 1, x1, x2, x6, x7 => bif (decide (x7 < (x2.entries.length : Int))) then ((spec_l21Chain.F k x2 x7).bind fun r2 => bif decide (0 ≤ x7) then (bif decide (x7 < (x2.entries.length : Int)) then (bif (!beqS ((x2.entries.getD (x7 : Int).toNat (dflt .entry)).key) x1) then ((spec_l4Find.F k x2 x1).bind fun r3 => (spec_l1Has.F k r2.1 r3).bind fun r4 => bif r4 then (bif decide (0 ≤ x7) then (bif decide (x7 < (x2.entries.length : Int)) then (bif room (x6.length + ([(x2.entries.getD (x7 : Int).toNat (dflt .entry)).key] : List ByteArray).length) .str then (spec_DependentsOf.l0 k x1 x2 (x6 ++ ([(x2.entries.getD (x7 : Int).toNat (dflt .entry)).key] : List ByteArray)) (IntKind.wrap .i64 (x7 + 1))) else none) else none) else none) else (spec_DependentsOf.l0 k x1 x2 x6 (IntKind.wrap .i64 (x7 + 1)))) else (spec_DependentsOf.l0 k x1 x2 x6 (IntKind.wrap .i64 (x7 + 1)))) else none) else none) else (some x6)
def spec_DependentsOf.F (k : Nat) (a0 : Library) (a1 : ByteArray) : Option ((List ByteArray) × Bool) := (spec_l21Asked.F k a0 a1).bind fun r1 => bif (!r1) then (some (([] : List ByteArray), false)) else ((spec_DependentsOf.l0 k a1 a0 ([] : List ByteArray) 0).bind fun y5 => some (y5, true))
def spec_DependentsOf.C (k : Nat) : Cal → Option CArm := fun c => match c with
  | .f 40 => some (.p [.lib, .str] _ (fun x => spec_l21Asked.F k x.1 x.2.1) (fun r => (.t .bool r)))
  | .f 41 => some (.p [.lib, (.int .i64)] _ (fun x => spec_l21Chain.F k x.1 x.2.1) (fun r => (.tup [.fr 3 (.int .i64) r.1, .t .bool r.2])))
  | .f 42 => some (.p [.lib, .str] _ (fun x => spec_l4Find.F k x.1 x.2.1) (fun r => (.t (.int .i64) r)))
  | .f 45 => some (.p [(.sl (.int .i64)), (.int .i64)] _ (fun x => spec_l1Has.F k x.1 x.2.1) (fun r => (.t .bool r)))
  | _ => none
def spec_DependentsOf.sp0 : List Sp := [.t 1 .str, .boxT 2 0 .lib, .own 6 1024 9 .str false true, .t 7 (.int .i64)]
def spec_DependentsOf.sp0_0 : List Sp := [.own 6 1024 9 .str false true]
def spec_DependentsOf.A0 : LArm := .one spec_DependentsOf.sp0 spec_DependentsOf.sp0_0 ((List ByteArray)) (fun k x => spec_DependentsOf.l0 k x.1 x.2.1 x.2.2.1 x.2.2.2.1) (.exit 0) (fun y => (y, ())) (fun x => x.1)
def spec_DependentsOf.L : Nat → Option LArm := fun b => match b with
  | 0 => some spec_DependentsOf.A0
  | _ => none
theorem spec_DependentsOf.run (k : Nat) (a0 : Library) (a1 : ByteArray) : runF envX (tabC (spec_DependentsOf.C k)) (tabL 54 k spec_DependentsOf.L) Tryz.f15 [.t .lib a0, .t .str a1] (viewR2 (.fr 9 .str) (.t .bool)) = spec_DependentsOf.F k a0 a1 := by kernel_rfl
theorem spec_DependentsOf.step0 (k : Nat) (x1 : ByteArray) (x2 : Library) (x6 : List ByteArray) (x7 : Int) : runC envX (tabC (spec_DependentsOf.C k)) (tabL 54 k spec_DependentsOf.L) 0 (loopAt Tryz.f15 0) (stOf 54 spec_DependentsOf.sp0 (x1, x2, x6, x7, ())) (spec_DependentsOf.A0.cont 54 k) = spec_DependentsOf.l0 (k + 1) x1 x2 x6 x7 := by kernel_rfl
theorem spec_DependentsOf.G (hE : EnvOk Tryz.prog envX) (pv : Nat → Value) (k : Nat) : ∀ cal A, spec_DependentsOf.C k cal = some A → ArmOk Tryz.prog envX pv cal A := by
  intro cal A h
  unfold spec_DependentsOf.C at h
  split at h
  · cases h; exact fun x y hy => spec_l21Asked.good hE pv k x.1 x.2.1 hy
  · cases h; exact fun x y hy => spec_l21Chain.good hE pv k x.1 x.2.1 hy
  · cases h; exact fun x y hy => spec_l4Find.good hE pv k x.1 x.2.1 hy
  · cases h; exact fun x y hy => spec_l1Has.good hE pv k x.1 x.2.1 hy
  · cases h
theorem spec_DependentsOf.good (hE : EnvOk Tryz.prog envX) (pv : Nat → Value) (k : Nat) (a0 : Library) (a1 : ByteArray) {y : _} (h : spec_DependentsOf.F k a0 a1 = some y) : Meets Tryz.prog envX pv (.f 15) (tvals [.lib, .str] (a0, a1, ())) (.tup [.fr 9 .str y.1, .t .bool y.2]) :=
  fun_loops hE (t := spec_DependentsOf.C) k (fun k _ => spec_DependentsOf.G hE pv k) (f := 15) (fn := Tryz.f15) (by kernel_rfl) rfl (by kernel_rfl) (by kernel_rfl) (lt := spec_DependentsOf.L) (by kernel_rfl) (fun b A h => by
    unfold spec_DependentsOf.L at h; split at h
    · cases h; exact ⟨by kernel_rfl, by kernel_rfl, fun _ => rfl, fun _ => rfl⟩
    · cases h) (fun b A h => by
    unfold spec_DependentsOf.L at h; split at h
    · cases h; exact fun k x => spec_DependentsOf.step0 k x.1 x.2.1 x.2.2.1 x.2.2.2.1
    · cases h) ((spec_DependentsOf.run k a0 a1).trans h) fun r hr => wk_view2 hr
/-! ### 16 loop.example/g00896/laws.rHas -/
def laws_rHas.l0 : Nat → (List ByteArray) → ByteArray → Int → Option (Sum Bool Unit)
  | 0, _, _, _ => none
  | k + 1, x0, x1, x5 => bif (decide (x5 < (x0.length : Int))) then (bif decide (0 ≤ x5) then (bif decide (x5 < (x0.length : Int)) then (bif (beqS (x0.getD (x5 : Int).toNat (⟨#[]⟩ : ByteArray)) x1) then (some (.inl true)) else (laws_rHas.l0 k x0 x1 (IntKind.wrap .i64 (x5 + 1)))) else none) else none) else (some (.inr ()))
def laws_rHas.F (k : Nat) (a0 : List ByteArray) (a1 : ByteArray) : Option (Bool) := (laws_rHas.l0 k a0 a1 0).bind fun y1 => match y1 with | .inl z2 => some z2 | .inr z2 => some false
def laws_rHas.C (k : Nat) : Cal → Option CArm := fun c => match c with
  | _ => none
def laws_rHas.sp0 : List Sp := [.t 0 (.sl .str), .t 1 .str, .t 5 (.int .i64)]
def laws_rHas.sp0_0 : List Sp := [.t 4 .bool]
def laws_rHas.sp0_1 : List Sp := []
def laws_rHas.A0 : LArm := .two laws_rHas.sp0 laws_rHas.sp0_0 laws_rHas.sp0_1 (Bool) (Unit) (fun k x => laws_rHas.l0 k x.1 x.2.1 x.2.2.1) .ret (.exit 0) (fun y => (y, ())) (fun x => x.1) (fun y => ()) (fun x => ())
def laws_rHas.L : Nat → Option LArm := fun b => match b with
  | 0 => some laws_rHas.A0
  | _ => none
theorem laws_rHas.run (k : Nat) (a0 : List ByteArray) (a1 : ByteArray) : runF envX (tabC (laws_rHas.C k)) (tabL 18 k laws_rHas.L) Tryz.f16 [.t (.sl .str) a0, .t .str a1] (viewR1 (.t .bool)) = laws_rHas.F k a0 a1 := by kernel_rfl
theorem laws_rHas.step0 (k : Nat) (x0 : List ByteArray) (x1 : ByteArray) (x5 : Int) : runC envX (tabC (laws_rHas.C k)) (tabL 18 k laws_rHas.L) 0 (loopAt Tryz.f16 0) (stOf 18 laws_rHas.sp0 (x0, x1, x5, ())) (laws_rHas.A0.cont 18 k) = laws_rHas.l0 (k + 1) x0 x1 x5 := by kernel_rfl
theorem laws_rHas.G (hE : EnvOk Tryz.prog envX) (pv : Nat → Value) (k : Nat) : ∀ cal A, laws_rHas.C k cal = some A → ArmOk Tryz.prog envX pv cal A := by
  intro cal A h
  unfold laws_rHas.C at h
  cases h
theorem laws_rHas.good (hE : EnvOk Tryz.prog envX) (pv : Nat → Value) (k : Nat) (a0 : List ByteArray) (a1 : ByteArray) {y : _} (h : laws_rHas.F k a0 a1 = some y) : Meets Tryz.prog envX pv (.f 16) (tvals [(.sl .str), .str] (a0, a1, ())) (.t .bool y) :=
  fun_loops hE (t := laws_rHas.C) k (fun k _ => laws_rHas.G hE pv k) (f := 16) (fn := Tryz.f16) (by kernel_rfl) rfl (by kernel_rfl) (by kernel_rfl) (lt := laws_rHas.L) (by kernel_rfl) (fun b A h => by
    unfold laws_rHas.L at h; split at h
    · cases h; exact ⟨by kernel_rfl, by kernel_rfl, by kernel_rfl, fun _ => rfl, fun _ => rfl, fun _ => rfl⟩
    · cases h) (fun b A h => by
    unfold laws_rHas.L at h; split at h
    · cases h; exact fun k x => laws_rHas.step0 k x.1 x.2.1 x.2.2.1
    · cases h) ((laws_rHas.run k a0 a1).trans h) fun r hr => wk_view1 hr
/-! ### 46 slices.Min[[]int,int] -/
def slices_Min_int.l0 : Nat → (List Int) → Int → Int → Option (Int)
  | 0, _, _, _ => none
  | k + 1, x0, x3, x4 => bif (decide (x4 < (x0.length : Int))) then (bif decide (0 ≤ x4) then (bif decide (x4 < (x0.length : Int)) then (slices_Min_int.l0 k x0 (if (x0.getD (x4 : Int).toNat 0) < x3 then (x0.getD (x4 : Int).toNat 0) else x3) (IntKind.wrap .i64 (x4 + 1))) else none) else none) else (some x3)
def slices_Min_int.F (k : Nat) (a0 : List Int) : Option (Int) := bif (decide ((a0.length : Int) < 1)) then (none) else (bif decide (0 ≤ 0) then (bif decide (0 < (a0.length : Int)) then ((slices_Min_int.l0 k a0 (a0.getD (0 : Int).toNat 0) 1).bind fun y1 => some y1) else none) else none)
def slices_Min_int.C (k : Nat) : Cal → Option CArm := fun c => match c with
  | _ => none
def slices_Min_int.sp0 : List Sp := [.t 0 (.sl (.int .i64)), .t 3 (.int .i64), .t 4 (.int .i64)]
def slices_Min_int.sp0_0 : List Sp := [.t 3 (.int .i64)]
def slices_Min_int.A0 : LArm := .one slices_Min_int.sp0 slices_Min_int.sp0_0 (Int) (fun k x => slices_Min_int.l0 k x.1 x.2.1 x.2.2.1) (.exit 0) (fun y => (y, ())) (fun x => x.1)
def slices_Min_int.L : Nat → Option LArm := fun b => match b with
  | 0 => some slices_Min_int.A0
  | _ => none
theorem slices_Min_int.run (k : Nat) (a0 : List Int) : runF envX (tabC (slices_Min_int.C k)) (tabL 25 k slices_Min_int.L) Tryz.f46 [.t (.sl (.int .i64)) a0] (viewR1 (.t (.int .i64))) = slices_Min_int.F k a0 := by kernel_rfl
theorem slices_Min_int.step0 (k : Nat) (x0 : List Int) (x3 : Int) (x4 : Int) : runC envX (tabC (slices_Min_int.C k)) (tabL 25 k slices_Min_int.L) 0 (loopAt Tryz.f46 0) (stOf 25 slices_Min_int.sp0 (x0, x3, x4, ())) (slices_Min_int.A0.cont 25 k) = slices_Min_int.l0 (k + 1) x0 x3 x4 := by kernel_rfl
theorem slices_Min_int.G (hE : EnvOk Tryz.prog envX) (pv : Nat → Value) (k : Nat) : ∀ cal A, slices_Min_int.C k cal = some A → ArmOk Tryz.prog envX pv cal A := by
  intro cal A h
  unfold slices_Min_int.C at h
  cases h
theorem slices_Min_int.good (hE : EnvOk Tryz.prog envX) (pv : Nat → Value) (k : Nat) (a0 : List Int) {y : _} (h : slices_Min_int.F k a0 = some y) : Meets Tryz.prog envX pv (.f 46) (tvals [(.sl (.int .i64))] (a0, ())) (.t (.int .i64) y) :=
  fun_loops hE (t := slices_Min_int.C) k (fun k _ => slices_Min_int.G hE pv k) (f := 46) (fn := Tryz.f46) (by kernel_rfl) rfl (by kernel_rfl) (by kernel_rfl) (lt := slices_Min_int.L) (by kernel_rfl) (fun b A h => by
    unfold slices_Min_int.L at h; split at h
    · cases h; exact ⟨by kernel_rfl, by kernel_rfl, fun _ => rfl, fun _ => rfl⟩
    · cases h) (fun b A h => by
    unfold slices_Min_int.L at h; split at h
    · cases h; exact fun k x => slices_Min_int.step0 k x.1 x.2.1 x.2.2.1
    · cases h) ((slices_Min_int.run k a0).trans h) fun r hr => wk_view1 hr
/-! ### 17 loop.example/g00896/impl.CrossCycles -/
def impl_CrossCycles.l0 : Nat → Library → (List (List ByteArray)) → Int → Int → Option ((List (List ByteArray)))
  | 0, _, _, _, _ => none
  | k + 1, x1, x4, x14, x15 => bif (decide (x15 < x14)) then ((impl_chainOf.F k x1 x15).bind fun r2 => bif r2.2 then (bif decide (0 ≤ (IntKind.wrap .i64 ((r2.1.length : Int) - 1))) then (bif decide ((IntKind.wrap .i64 ((r2.1.length : Int) - 1)) < (r2.1.length : Int)) then ((impl_parentIndex.F k x1 (r2.1.getD (((IntKind.wrap .i64 ((r2.1.length : Int) - 1)) : Int).toNat) 0)).bind fun r3 => bif (r3 == x15) then ((slices_Min_int.F k r2.1).bind fun r4 => bif (r4 == x15) then ((impl_keysOf.F k x1 r2.1).bind fun r5 => bif room (x4.length + ([r5] : List (List ByteArray)).length) (.sl .str) then (impl_CrossCycles.l0 k x1 (x4 ++ ([r5] : List (List ByteArray))) x14 (IntKind.wrap .i64 (x15 + 1))) else none) else (impl_CrossCycles.l0 k x1 x4 x14 (IntKind.wrap .i64 (x15 + 1)))) else (impl_CrossCycles.l0 k x1 x4 x14 (IntKind.wrap .i64 (x15 + 1)))) else none) else none) else (impl_CrossCycles.l0 k x1 x4 x14 (IntKind.wrap .i64 (x15 + 1)))) else (some x4)
def impl_CrossCycles.F (k : Nat) (a0 : Library) : Option ((List (List ByteArray)) × Bool) := (impl_IsValidLibrary.F k a0).bind fun r1 => bif (!r1) then (some ([], false)) else ((impl_CrossCycles.l0 k a0 ([] : List (List ByteArray)) (a0.entries.length : Int) 0).bind fun y6 => some (y6, true))
def impl_CrossCycles.C (k : Nat) : Cal → Option CArm := fun c => match c with
  | .f 37 => some (.p [.lib] _ (fun x => impl_IsValidLibrary.F k x.1) (fun r => (.t .bool r)))
  | .f 38 => some (.p [.lib, (.int .i64)] _ (fun x => impl_chainOf.F k x.1 x.2.1) (fun r => (.tup [.fr 3 (.int .i64) r.1, .t .bool r.2])))
  | .f 43 => some (.p [.lib, (.int .i64)] _ (fun x => impl_parentIndex.F k x.1 x.2.1) (fun r => (.t (.int .i64) r)))
  | .f 46 => some (.p [(.sl (.int .i64))] _ (fun x => slices_Min_int.F k x.1) (fun r => (.t (.int .i64) r)))
  | .f 39 => some (.p [.lib, (.sl (.int .i64))] _ (fun x => impl_keysOf.F k x.1 x.2.1) (fun r => (.fr 9 .str r)))
  | _ => none
def impl_CrossCycles.sp0 : List Sp := [.boxT 1 0 .lib, .own 4 3072 29 (.sl .str) false true, .t 14 (.int .i64), .t 15 (.int .i64)]
def impl_CrossCycles.sp0_0 : List Sp := [.own 4 3072 29 (.sl .str) false true]
def impl_CrossCycles.A0 : LArm := .one impl_CrossCycles.sp0 impl_CrossCycles.sp0_0 ((List (List ByteArray))) (fun k x => impl_CrossCycles.l0 k x.1 x.2.1 x.2.2.1 x.2.2.2.1) (.exit 0) (fun y => (y, ())) (fun x => x.1)
def impl_CrossCycles.L : Nat → Option LArm := fun b => match b with
  | 0 => some impl_CrossCycles.A0
  | _ => none
theorem impl_CrossCycles.run (k : Nat) (a0 : Library) : runF envX (tabC (impl_CrossCycles.C k)) (tabL 51 k impl_CrossCycles.L) Tryz.f17 [.t .lib a0] (viewR2 (.fr 29 (.sl .str)) (.t .bool)) = impl_CrossCycles.F k a0 := by kernel_rfl
theorem impl_CrossCycles.step0 (k : Nat) (x1 : Library) (x4 : List (List ByteArray)) (x14 : Int) (x15 : Int) : runC envX (tabC (impl_CrossCycles.C k)) (tabL 51 k impl_CrossCycles.L) 0 (loopAt Tryz.f17 0) (stOf 51 impl_CrossCycles.sp0 (x1, x4, x14, x15, ())) (impl_CrossCycles.A0.cont 51 k) = impl_CrossCycles.l0 (k + 1) x1 x4 x14 x15 := by kernel_rfl
theorem impl_CrossCycles.G (hE : EnvOk Tryz.prog envX) (pv : Nat → Value) (k : Nat) : ∀ cal A, impl_CrossCycles.C k cal = some A → ArmOk Tryz.prog envX pv cal A := by
  intro cal A h
  unfold impl_CrossCycles.C at h
  split at h
  · cases h; exact fun x y hy => impl_IsValidLibrary.good hE pv k x.1 hy
  · cases h; exact fun x y hy => impl_chainOf.good hE pv k x.1 x.2.1 hy
  · cases h; exact fun x y hy => impl_parentIndex.good hE pv k x.1 x.2.1 hy
  · cases h; exact fun x y hy => slices_Min_int.good hE pv k x.1 hy
  · cases h; exact fun x y hy => impl_keysOf.good hE pv k x.1 x.2.1 hy
  · cases h
theorem impl_CrossCycles.good (hE : EnvOk Tryz.prog envX) (pv : Nat → Value) (k : Nat) (a0 : Library) {y : _} (h : impl_CrossCycles.F k a0 = some y) : Meets Tryz.prog envX pv (.f 17) (tvals [.lib] (a0, ())) (.tup [.fr 29 (.sl .str) y.1, .t .bool y.2]) :=
  fun_loops hE (t := impl_CrossCycles.C) k (fun k _ => impl_CrossCycles.G hE pv k) (f := 17) (fn := Tryz.f17) (by kernel_rfl) rfl (by kernel_rfl) (by kernel_rfl) (lt := impl_CrossCycles.L) (by kernel_rfl) (fun b A h => by
    unfold impl_CrossCycles.L at h; split at h
    · cases h; exact ⟨by kernel_rfl, by kernel_rfl, fun _ => rfl, fun _ => rfl⟩
    · cases h) (fun b A h => by
    unfold impl_CrossCycles.L at h; split at h
    · cases h; exact fun k x => impl_CrossCycles.step0 k x.1 x.2.1 x.2.2.1 x.2.2.2.1
    · cases h) ((impl_CrossCycles.run k a0).trans h) fun r hr => wk_view2 hr
/-! ### 3 loop.example/g00896/laws.FnCrosses -/
def laws_FnCrosses.l0 : Nat → Library → (List ByteArray) → (List ByteArray) → (List ByteArray) → Int → Option (Sum Bool (Library × (List ByteArray)))
  | 0, _, _, _, _, _ => none
  | k + 1, x3, x14, x16, x18, x22 => bif (decide (x22 < (x14.length : Int))) then (bif decide (0 ≤ x22) then (bif decide (x22 < (x14.length : Int)) then ((laws_rHas.F k x16 (x14.getD ((x22 : Int).toNat) (⟨#[]⟩ : ByteArray))).bind fun r33 => bif (!r33) then (some (.inl false)) else (laws_FnCrosses.l0 k x3 x14 x16 x18 (IntKind.wrap .i64 (x22 + 1)))) else none) else none) else (some (.inr (x3, x18)))
def laws_FnCrosses.l2 : Nat → Library → (List ByteArray) → Int → Option (Sum Bool Library)
  | 0, _, _, _ => none
  | k + 1, x3, x18, x23 => bif (decide (x23 < (x18.length : Int))) then (bif decide (0 ≤ x23) then (bif decide (x23 < (x18.length : Int)) then ((impl_ParentOf.F k x3 (x18.getD ((x23 : Int).toNat) (⟨#[]⟩ : ByteArray))).bind fun r36 => bif r36.2.1 then (some (.inl false)) else (bif (!r36.2.2) then (some (.inl false)) else (laws_FnCrosses.l2 k x3 x18 (IntKind.wrap .i64 (x23 + 1))))) else none) else none) else (some (.inr x3))
def laws_FnCrosses.l6 : Nat → Library → (List (List ByteArray)) → Bool → Int → Int → Option (Sum Bool (Library × (List (List ByteArray)) × Bool × Int))
  | 0, _, _, _, _, _ => none
  | k + 1, x3, x27, x28, x29, x30 => bif decide (0 ≤ x29) then (bif decide (x29 < (x27.length : Int)) then (bif (decide (x30 < ((x27.getD ((x29 : Int).toNat) []).length : Int))) then (bif decide (0 ≤ x29) then (bif decide (x29 < (x27.length : Int)) then (bif decide (0 ≤ x30) then (bif decide (x30 < ((x27.getD ((x29 : Int).toNat) []).length : Int)) then ((impl_ParentOf.F k x3 ((x27.getD ((x29 : Int).toNat) []).getD (x30 : Int).toNat (⟨#[]⟩ : ByteArray))).bind fun r40 => bif (!r40.2.1) then (some (.inl false)) else (bif (!r40.2.2) then (some (.inl false)) else (bif decide (0 ≤ x29) then (bif decide (x29 < (x27.length : Int)) then (bif decide (0 ≤ x29) then (bif decide (x29 < (x27.length : Int)) then (bif (((x27.getD ((x29 : Int).toNat) []).length : Int) == 0) then (none) else (bif decide (0 ≤ (Int.tmod (IntKind.wrap .i64 (x30 + 1)) ((x27.getD ((x29 : Int).toNat) []).length : Int))) then (bif decide ((Int.tmod (IntKind.wrap .i64 (x30 + 1)) ((x27.getD ((x29 : Int).toNat) []).length : Int)) < ((x27.getD ((x29 : Int).toNat) []).length : Int)) then (bif (!beqS r40.1 ((x27.getD ((x29 : Int).toNat) []).getD ((Int.tmod (IntKind.wrap .i64 (x30 + 1)) ((x27.getD ((x29 : Int).toNat) []).length : Int)) : Int).toNat (⟨#[]⟩ : ByteArray))) then (some (.inl false)) else (laws_FnCrosses.l6 k x3 x27 x28 x29 (IntKind.wrap .i64 (x30 + 1)))) else none) else none)) else none) else none) else none) else none))) else none) else none) else none) else none) else (some (.inr (x3, x27, x28, x29)))) else none) else none
def laws_FnCrosses.l4 : Nat → Library → (List (List ByteArray)) → Bool → Int → Option (Sum Bool Bool)
  | 0, _, _, _, _ => none
  | k + 1, x3, x27, x28, x29 => bif (decide (x29 < (x27.length : Int))) then ((laws_FnCrosses.l6 k x3 x27 x28 x29 0).bind fun y41 => match y41 with | .inl z42 => some (.inl z42) | .inr z42 => laws_FnCrosses.l4 k z42.1 z42.2.1 z42.2.2.1 (IntKind.wrap .i64 (z42.2.2.2 + 1))) else (some (.inr x28))
def laws_FnCrosses.F (k : Nat) (a0 : List Int) : Option (Bool) := (laws_rBig.F a0).bind fun r1 => bif r1 then (some true) else ((spec_DrawCrossChain.F k a0).bind fun r2 => (impl_CrossChain.F k r2.1 r2.2).bind fun r3 => (spec_CrossChain.F k r2.1 r2.2).bind fun r4 => bif (!(r3.2.2 == r4.2.2)) then (bif (r3.2.2 == r4.2.2) then (bif (r3.2.1 == r4.2.1) then ((laws_rTexts.F k r3.1 r4.1).bind fun r5 => some r5) else (some false)) else (some false)) else (bif (!(r3.2.1 == r4.2.1)) then (bif (r3.2.2 == r4.2.2) then (bif (r3.2.1 == r4.2.1) then ((laws_rTexts.F k r3.1 r4.1).bind fun r6 => some r6) else (some false)) else (some false)) else ((laws_rTexts.F k r3.1 r4.1).bind fun r7 => bif (!r7) then (bif (r3.2.2 == r4.2.2) then (bif (r3.2.1 == r4.2.1) then ((laws_rTexts.F k r3.1 r4.1).bind fun r8 => some r8) else (some false)) else (some false)) else (bif (!r3.2.2) then (bif (r3.2.2 == r4.2.2) then (bif (r3.2.1 == r4.2.1) then ((laws_rTexts.F k r3.1 r4.1).bind fun r9 => some r9) else (some false)) else (some false)) else ((impl_ParentOf.F k r2.1 r2.2).bind fun r10 => bif (!r10.2.2) then (some false) else (bif (decide ((r3.1.length : Int) < 1)) then (some false) else (bif decide (0 ≤ 0) then (bif decide (0 < (r3.1.length : Int)) then (bif (!beqS (r3.1.getD ((0 : Int).toNat) (⟨#[]⟩ : ByteArray)) r2.2) then (some false) else (bif (decide ((r3.1.length : Int) > 1)) then (bif (!r10.2.1) then (some false) else (bif decide (0 ≤ 1) then (bif decide (1 < (r3.1.length : Int)) then (bif (!beqS (r3.1.getD ((1 : Int).toNat) (⟨#[]⟩ : ByteArray)) r10.1) then (some false) else ((impl_ChildrenOf.F k r2.1 r2.2).bind fun r11 => (impl_DependentsOf.F k r2.1 r2.2).bind fun r12 => (impl_BrokenCrosses.F k r2.1).bind fun r13 => (spec_DependentsOf.F k r2.1 r2.2).bind fun r14 => bif (!r11.2) then (some false) else (bif (!r12.2) then (some false) else (bif (!r13.2) then (some false) else ((laws_rTexts.F k r12.1 r14.1).bind fun r15 => bif (!r15) then (some false) else ((laws_FnCrosses.l0 k r2.1 r11.1 r12.1 r13.1 0).bind fun y17 => match y17 with | .inl z18 => some z18 | .inr z18 => (laws_FnCrosses.l2 k z18.1 z18.2 0).bind fun y20 => match y20 with | .inl z21 => some z21 | .inr z21 => (impl_CrossCycles.F k z21).bind fun r22 => (laws_FnCrosses.l4 k z21 r22.1 r22.2 0).bind fun y26 => match y26 with | .inl z27 => some z27 | .inr z27 => some z27)))))) else none) else none)) else ((impl_ChildrenOf.F k r2.1 r2.2).bind fun r28 => (impl_DependentsOf.F k r2.1 r2.2).bind fun r29 => (impl_BrokenCrosses.F k r2.1).bind fun r30 => (spec_DependentsOf.F k r2.1 r2.2).bind fun r31 => bif (!r28.2) then (some false) else (bif (!r29.2) then (some false) else (bif (!r30.2) then (some false) else ((laws_rTexts.F k r29.1 r31.1).bind fun r32 => bif (!r32) then (some false) else ((laws_FnCrosses.l0 k r2.1 r28.1 r29.1 r30.1 0).bind fun y34 => match y34 with | .inl z35 => some z35 | .inr z35 => (laws_FnCrosses.l2 k z35.1 z35.2 0).bind fun y37 => match y37 with | .inl z38 => some z38 | .inr z38 => (impl_CrossCycles.F k z38).bind fun r39 => (laws_FnCrosses.l4 k z38 r39.1 r39.2 0).bind fun y43 => match y43 with | .inl z44 => some z44 | .inr z44 => some z44))))))) else none) else none)))))))
def laws_FnCrosses.C (k : Nat) : Cal → Option CArm := fun c => match c with
  | .f 6 => some (.p [(.sl (.int .u8))] _ (fun x => laws_rBig.F x.1) (fun r => (.t .bool r)))
  | .f 7 => some (.p [(.sl (.int .u8))] _ (fun x => spec_DrawCrossChain.F k x.1) (fun r => (.tup [.t .lib r.1, .t .str r.2])))
  | .f 8 => some (.p [.lib, .str] _ (fun x => impl_CrossChain.F k x.1 x.2.1) (fun r => (.tup [.fr 9 .str r.1, .t .bool r.2.1, .t .bool r.2.2])))
  | .f 9 => some (.p [.lib, .str] _ (fun x => spec_CrossChain.F k x.1 x.2.1) (fun r => (.tup [.fr 9 .str r.1, .t .bool r.2.1, .t .bool r.2.2])))
  | .f 10 => some (.p [(.sl .str), (.sl .str)] _ (fun x => laws_rTexts.F k x.1 x.2.1) (fun r => (.t .bool r)))
  | .f 11 => some (.p [.lib, .str] _ (fun x => impl_ParentOf.F k x.1 x.2.1) (fun r => (.tup [.t .str r.1, .t .bool r.2.1, .t .bool r.2.2])))
  | .f 12 => some (.p [.lib, .str] _ (fun x => impl_ChildrenOf.F k x.1 x.2.1) (fun r => (.tup [.fr 9 .str r.1, .t .bool r.2])))
  | .f 13 => some (.p [.lib, .str] _ (fun x => impl_DependentsOf.F k x.1 x.2.1) (fun r => (.tup [.fr 9 .str r.1, .t .bool r.2])))
  | .f 14 => some (.p [.lib] _ (fun x => impl_BrokenCrosses.F k x.1) (fun r => (.tup [.fr 9 .str r.1, .t .bool r.2])))
  | .f 15 => some (.p [.lib, .str] _ (fun x => spec_DependentsOf.F k x.1 x.2.1) (fun r => (.tup [.fr 9 .str r.1, .t .bool r.2])))
  | .f 16 => some (.p [(.sl .str), .str] _ (fun x => laws_rHas.F k x.1 x.2.1) (fun r => (.t .bool r)))
  | .f 17 => some (.p [.lib] _ (fun x => impl_CrossCycles.F k x.1) (fun r => (.tup [.fr 29 (.sl .str) r.1, .t .bool r.2])))
  | _ => none
def laws_FnCrosses.sp0 : List Sp := [.boxT 3 3092 .lib, .own 14 11272 9 .str false true, .own 16 12296 9 .str false true, .own 18 13316 9 .str false true, .t 22 (.int .i64)]
def laws_FnCrosses.sp0_0 : List Sp := [.t 2 .bool]
def laws_FnCrosses.sp0_1 : List Sp := [.boxT 3 3092 .lib, .own 18 13316 9 .str false true]
def laws_FnCrosses.A0 : LArm := .two laws_FnCrosses.sp0 laws_FnCrosses.sp0_0 laws_FnCrosses.sp0_1 (Bool) (Library × (List ByteArray)) (fun k x => laws_FnCrosses.l0 k x.1 x.2.1 x.2.2.1 x.2.2.2.1 x.2.2.2.2.1) .ret (.exit 0) (fun y => (y, ())) (fun x => x.1) (fun y => (y.1, y.2, ())) (fun x => (x.1, x.2.1))
def laws_FnCrosses.sp2 : List Sp := [.boxT 3 3092 .lib, .own 18 13316 9 .str false true, .t 23 (.int .i64)]
def laws_FnCrosses.sp2_0 : List Sp := [.t 2 .bool]
def laws_FnCrosses.sp2_1 : List Sp := [.boxT 3 3092 .lib]
def laws_FnCrosses.A2 : LArm := .two laws_FnCrosses.sp2 laws_FnCrosses.sp2_0 laws_FnCrosses.sp2_1 (Bool) (Library) (fun k x => laws_FnCrosses.l2 k x.1 x.2.1 x.2.2.1) .ret (.exit 2) (fun y => (y, ())) (fun x => x.1) (fun y => (y, ())) (fun x => x.1)
def laws_FnCrosses.sp6 : List Sp := [.boxT 3 3092 .lib, .own 27 28676 29 (.sl .str) false true, .t 28 .bool, .t 29 (.int .i64), .t 30 (.int .i64)]
def laws_FnCrosses.sp6_0 : List Sp := [.t 2 .bool]
def laws_FnCrosses.sp6_1 : List Sp := [.boxT 3 3092 .lib, .own 27 28676 29 (.sl .str) false true, .t 28 .bool, .t 29 (.int .i64)]
def laws_FnCrosses.A6 : LArm := .two laws_FnCrosses.sp6 laws_FnCrosses.sp6_0 laws_FnCrosses.sp6_1 (Bool) (Library × (List (List ByteArray)) × Bool × Int) (fun k x => laws_FnCrosses.l6 k x.1 x.2.1 x.2.2.1 x.2.2.2.1 x.2.2.2.2.1) .ret (.exit 6) (fun y => (y, ())) (fun x => x.1) (fun y => (y.1, y.2.1, y.2.2.1, y.2.2.2, ())) (fun x => (x.1, x.2.1, x.2.2.1, x.2.2.2.1))
def laws_FnCrosses.sp4 : List Sp := [.boxT 3 3092 .lib, .own 27 28676 29 (.sl .str) false true, .t 28 .bool, .t 29 (.int .i64)]
def laws_FnCrosses.sp4_0 : List Sp := [.t 2 .bool]
def laws_FnCrosses.sp4_1 : List Sp := [.t 28 .bool]
def laws_FnCrosses.A4 : LArm := .two laws_FnCrosses.sp4 laws_FnCrosses.sp4_0 laws_FnCrosses.sp4_1 (Bool) (Bool) (fun k x => laws_FnCrosses.l4 k x.1 x.2.1 x.2.2.1 x.2.2.2.1) .ret (.exit 4) (fun y => (y, ())) (fun x => x.1) (fun y => (y, ())) (fun x => x.1)
def laws_FnCrosses.L : Nat → Option LArm := fun b => match b with
  | 0 => some laws_FnCrosses.A0
  | 2 => some laws_FnCrosses.A2
  | 6 => some laws_FnCrosses.A6
  | 4 => some laws_FnCrosses.A4
  | _ => none
theorem laws_FnCrosses.run (k : Nat) (a0 : List Int) : runF envX (tabC (laws_FnCrosses.C k)) (tabL 254 k laws_FnCrosses.L) Tryz.f3 [.t (.sl (.int .u8)) a0] (viewR1 (.t .bool)) = laws_FnCrosses.F k a0 := by kernel_rfl
theorem laws_FnCrosses.step0 (k : Nat) (x3 : Library) (x14 : List ByteArray) (x16 : List ByteArray) (x18 : List ByteArray) (x22 : Int) : runC envX (tabC (laws_FnCrosses.C k)) (tabL 254 k laws_FnCrosses.L) 0 (loopAt Tryz.f3 0) (stOf 254 laws_FnCrosses.sp0 (x3, x14, x16, x18, x22, ())) (laws_FnCrosses.A0.cont 254 k) = laws_FnCrosses.l0 (k + 1) x3 x14 x16 x18 x22 := by kernel_rfl
theorem laws_FnCrosses.step2 (k : Nat) (x3 : Library) (x18 : List ByteArray) (x23 : Int) : runC envX (tabC (laws_FnCrosses.C k)) (tabL 254 k laws_FnCrosses.L) 2 (loopAt Tryz.f3 2) (stOf 254 laws_FnCrosses.sp2 (x3, x18, x23, ())) (laws_FnCrosses.A2.cont 254 k) = laws_FnCrosses.l2 (k + 1) x3 x18 x23 := by kernel_rfl
theorem laws_FnCrosses.step6 (k : Nat) (x3 : Library) (x27 : List (List ByteArray)) (x28 : Bool) (x29 : Int) (x30 : Int) : runC envX (tabC (laws_FnCrosses.C k)) (tabL 254 k laws_FnCrosses.L) 6 (loopAt Tryz.f3 6) (stOf 254 laws_FnCrosses.sp6 (x3, x27, x28, x29, x30, ())) (laws_FnCrosses.A6.cont 254 k) = laws_FnCrosses.l6 (k + 1) x3 x27 x28 x29 x30 := by kernel_rfl
theorem laws_FnCrosses.step4 (k : Nat) (x3 : Library) (x27 : List (List ByteArray)) (x28 : Bool) (x29 : Int) : runC envX (tabC (laws_FnCrosses.C k)) (tabL 254 k laws_FnCrosses.L) 4 (loopAt Tryz.f3 4) (stOf 254 laws_FnCrosses.sp4 (x3, x27, x28, x29, ())) (laws_FnCrosses.A4.cont 254 k) = laws_FnCrosses.l4 (k + 1) x3 x27 x28 x29 := by kernel_rfl
theorem laws_FnCrosses.G (hE : EnvOk Tryz.prog envX) (pv : Nat → Value) (k : Nat) : ∀ cal A, laws_FnCrosses.C k cal = some A → ArmOk Tryz.prog envX pv cal A := by
  intro cal A h
  unfold laws_FnCrosses.C at h
  split at h
  · cases h; exact fun x y hy => laws_rBig.good hE pv x.1 hy
  · cases h; exact fun x y hy => spec_DrawCrossChain.good hE pv k x.1 hy
  · cases h; exact fun x y hy => impl_CrossChain.good hE pv k x.1 x.2.1 hy
  · cases h; exact fun x y hy => spec_CrossChain.good hE pv k x.1 x.2.1 hy
  · cases h; exact fun x y hy => laws_rTexts.good hE pv k x.1 x.2.1 hy
  · cases h; exact fun x y hy => impl_ParentOf.good hE pv k x.1 x.2.1 hy
  · cases h; exact fun x y hy => impl_ChildrenOf.good hE pv k x.1 x.2.1 hy
  · cases h; exact fun x y hy => impl_DependentsOf.good hE pv k x.1 x.2.1 hy
  · cases h; exact fun x y hy => impl_BrokenCrosses.good hE pv k x.1 hy
  · cases h; exact fun x y hy => spec_DependentsOf.good hE pv k x.1 x.2.1 hy
  · cases h; exact fun x y hy => laws_rHas.good hE pv k x.1 x.2.1 hy
  · cases h; exact fun x y hy => impl_CrossCycles.good hE pv k x.1 hy
  · cases h
theorem laws_FnCrosses.good (hE : EnvOk Tryz.prog envX) (pv : Nat → Value) (k : Nat) (a0 : List Int) {y : _} (h : laws_FnCrosses.F k a0 = some y) : Meets Tryz.prog envX pv (.f 3) (tvals [(.sl (.int .u8))] (a0, ())) (.t .bool y) :=
  fun_loops hE (t := laws_FnCrosses.C) k (fun k _ => laws_FnCrosses.G hE pv k) (f := 3) (fn := Tryz.f3) (by kernel_rfl) rfl (by kernel_rfl) (by kernel_rfl) (lt := laws_FnCrosses.L) (by kernel_rfl) (fun b A h => by
    unfold laws_FnCrosses.L at h; split at h
    · cases h; exact ⟨by kernel_rfl, by kernel_rfl, by kernel_rfl, fun _ => rfl, fun _ => rfl, fun _ => rfl⟩
    · cases h; exact ⟨by kernel_rfl, by kernel_rfl, by kernel_rfl, fun _ => rfl, fun _ => rfl, fun _ => rfl⟩
    · cases h; exact ⟨by kernel_rfl, by kernel_rfl, by kernel_rfl, fun _ => rfl, fun _ => rfl, fun _ => rfl⟩
    · cases h; exact ⟨by kernel_rfl, by kernel_rfl, by kernel_rfl, fun _ => rfl, fun _ => rfl, fun _ => rfl⟩
    · cases h) (fun b A h => by
    unfold laws_FnCrosses.L at h; split at h
    · cases h; exact fun k x => laws_FnCrosses.step0 k x.1 x.2.1 x.2.2.1 x.2.2.2.1 x.2.2.2.2.1
    · cases h; exact fun k x => laws_FnCrosses.step2 k x.1 x.2.1 x.2.2.1
    · cases h; exact fun k x => laws_FnCrosses.step6 k x.1 x.2.1 x.2.2.1 x.2.2.2.1 x.2.2.2.2.1
    · cases h; exact fun k x => laws_FnCrosses.step4 k x.1 x.2.1 x.2.2.1 x.2.2.2.1
    · cases h) ((laws_FnCrosses.run k a0).trans h) fun r hr => wk_view1 hr
end Go.Proofs.YtckcichnmiifkaaGreatDoor
end
