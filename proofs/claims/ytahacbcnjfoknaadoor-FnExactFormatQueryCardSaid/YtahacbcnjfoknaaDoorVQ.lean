import Derived.Test.YtahacbcnjfoknaaDoorProg
import Derived.Test.YtahacbcnjfoknaaDoorGxTab
import Derived.Test.YtahacbcnjfoknaaDoorGxEq
import Derived.KernelRfl
namespace Go.Proofs.YtahacbcnjfoknaaDoor
open Go.Gx
set_option linter.unusedVariables false
set_option maxRecDepth 100000
def tyT (t : Nat) : Option Ty := match t with
  | 2 => some (.int .i64)
  | 3 => some (.int .i64)
  | 4 => some .bool
  | 5 => some (.int .u8)
  | 6 => some (.int .u8)
  | 9 => some .str
  | 10 => some .str
  | 11 => some .str
  | 21 => some (.int .i32)
  | 22 => some (.sl .query)
  | 24 => some .query
  | 27 => some (.sl .query)
  | 29 => some .query
  | 38 => some (.sl .str)
  | 46 => some (.sl (.int .u8))
  | 68 => some (.int .u64)
  | 83 => some (.sl (.int .i64))
  | 92 => some (.arr 8 .str)
  | 94 => some (.int .u64)
  | 109 => some (.arr 256 .bool)
  | 118 => some (.int .u32)
  | 141 => some (.arr 256 (.int .u8))
  | 151 => some (.int .u8)
  | _ => none
def elT (t : Nat) : Nat := match t with
  | 22 => 24
  | 27 => 29
  | 38 => 9
  | 46 => 5
  | 83 => 3
  | _ => 0
def mdT (f : Nat) : Bool := match f with
  | 25 => true
  | 45 => true
  | 55 => true
  | 70 => true
  | 71 => true
  | 72 => true
  | 132 => true
  | _ => false
def glV0 : List ByteArray := [⟨#[97, 117, 116, 104, 111, 114, 115]⟩, ⟨#[101, 100, 105, 116, 111, 114, 115]⟩, ⟨#[116, 105, 116, 108, 101]⟩, ⟨#[99, 111, 110, 116, 97, 105, 110, 101, 114]⟩, ⟨#[112, 117, 98, 108, 105, 115, 104, 101, 114]⟩, ⟨#[100, 97, 116, 101]⟩, ⟨#[118, 111, 108, 117, 109, 101]⟩, ⟨#[112, 97, 103, 101, 115]⟩]
def glT (g : Nat) : Option AV := match g with
  | 0 => some (.t (.arr 8 .str) glV0)
  | _ => none
def envX : Env := ⟨tyT, elT, glT, mdT⟩
theorem env_ty : ∀ T τ, envX.ty T = some τ → TyOk Tryd.prog envX T τ := fun T τ h => by
  dsimp only [envX, tyT] at h
  split at h <;> first
    | (cases h; done)
    | (cases h; exact tyOk_of (by kernel_rfl) (by kernel_rfl))
theorem envOk : EnvOk Tryd.prog envX := ⟨env_ty, by kernel_rfl, fun T h => by
  dsimp only [envX, tyT] at h
  split at h <;> first
    | (cases h; done)
    | exact date_eq env_ty rfl (by kernel_rfl) (by kernel_rfl) (by kernel_rfl), fun T h => by
  dsimp only [envX, tyT] at h
  split at h <;> first
    | (cases h; done)
    | exact abbr_eq env_ty rfl (by kernel_rfl) (by kernel_rfl) (by kernel_rfl)⟩
/-! ### 11 loop.example/g00896/laws.szQuery, 36 loop.example/g00896/laws.szQueryS -/
mutual
def laws_szQuery.F : Nat → Query → Int → Option (Int)
  | 0, _, _ => none
  | k + 1, a0, a1 => bif (decide ((IntKind.wrap .i64 (a1 - (a0.field.size : Int))) < 0)) then (some (-1)) else (bif (decide ((IntKind.wrap .i64 ((IntKind.wrap .i64 (a1 - (a0.field.size : Int))) - (a0.word.size : Int))) < 0)) then (some (-1)) else ((laws_szQueryS.F k a0.parts (IntKind.wrap .i64 ((IntKind.wrap .i64 (a1 - (a0.field.size : Int))) - (a0.word.size : Int)))).bind fun r1 => bif (decide (r1 < 0)) then (some (-1)) else (some r1)))
def laws_szQueryS.F : Nat → (List Query) → Int → Option (Int)
  | 0, _, _ => none
  | k + 1, a0, a1 => bif (decide ((IntKind.wrap .i64 (a1 - (a0.length : Int))) < 0)) then (some (-1)) else ((laws_szQueryS.l0 k a0 (IntKind.wrap .i64 (a1 - (a0.length : Int))) 0).bind fun y2 => match y2 with | .inl z3 => some z3 | .inr z3 => some z3)
def laws_szQueryS.l0 : Nat → (List Query) → Int → Int → Option (Sum Int Int)
  | 0, _, _, _ => none
  | k + 1, x0, x1, x5 => bif (decide (x5 < (x0.length : Int))) then (bif decide (0 ≤ x5) then (bif decide (x5 < (x0.length : Int)) then ((laws_szQuery.F k (x0.getD (x5 : Int).toNat (dflt .query)) x1).bind fun r1 => bif (decide (r1 < 0)) then (some (.inl (-1))) else (laws_szQueryS.l0 k x0 r1 (IntKind.wrap .i64 (x5 + 1)))) else none) else none) else (some (.inr x1))
end
def laws_szQuery.C (k : Nat) : Cal → Option CArm := fun c => match c with
  | .f 36 => some (.p [(.sl .query), (.int .i64)] _ (fun x => laws_szQueryS.F k x.1 x.2.1) (fun r => (.t (.int .i64) r)))
  | _ => none
theorem laws_szQuery.run (k : Nat) (a0 : Query) (a1 : Int) : runF envX (tabC (laws_szQuery.C k)) (tabL 26 0 (fun _ => none)) Tryd.f11 [.t .query a0, .t (.int .i64) a1] (viewR1 (.t (.int .i64))) = laws_szQuery.F (k + 1) a0 a1 := by kernel_rfl
def laws_szQueryS.C (k : Nat) : Cal → Option CArm := fun c => match c with
  | .f 11 => some (.p [.query, (.int .i64)] _ (fun x => laws_szQuery.F k x.1 x.2.1) (fun r => (.t (.int .i64) r)))
  | _ => none
def laws_szQueryS.sp0 : List Sp := [.t 0 (.sl .query), .t 1 (.int .i64), .t 5 (.int .i64)]
def laws_szQueryS.sp0_0 : List Sp := [.t 4 (.int .i64)]
def laws_szQueryS.sp0_1 : List Sp := [.t 1 (.int .i64)]
def laws_szQueryS.A0 : LArm := .two laws_szQueryS.sp0 laws_szQueryS.sp0_0 laws_szQueryS.sp0_1 (Int) (Int) (fun k x => laws_szQueryS.l0 k x.1 x.2.1 x.2.2.1) .ret (.exit 0) (fun y => (y, ())) (fun x => x.1) (fun y => (y, ())) (fun x => x.1)
def laws_szQueryS.L : Nat → Option LArm := fun b => match b with
  | 0 => some laws_szQueryS.A0
  | _ => none
theorem laws_szQueryS.run (k : Nat) (a0 : List Query) (a1 : Int) : runF envX (tabC (laws_szQueryS.C k)) (tabL 27 k laws_szQueryS.L) Tryd.f36 [.t (.sl .query) a0, .t (.int .i64) a1] (viewR1 (.t (.int .i64))) = laws_szQueryS.F (k + 1) a0 a1 := by kernel_rfl
theorem laws_szQueryS.step0 (k : Nat) (x0 : List Query) (x1 : Int) (x5 : Int) : runC envX (tabC (laws_szQueryS.C k)) (tabL 27 k laws_szQueryS.L) 0 (loopAt Tryd.f36 0) (stOf 27 laws_szQueryS.sp0 (x0, x1, x5, ())) (laws_szQueryS.A0.cont 27 k) = laws_szQueryS.l0 (k + 1) x0 x1 x5 := by kernel_rfl
def laws_szQuery.Gd (pv : Nat → Value) (k : Nat) : Prop := (∀ (a0 : Query) (a1 : Int) {y : _}, laws_szQuery.F k a0 a1 = some y → Meets Tryd.prog envX pv (.f 11) (tvals [.query, (.int .i64)] (a0, a1, ())) (.t (.int .i64) y)) ∧ (∀ (a0 : List Query) (a1 : Int) {y : _}, laws_szQueryS.F k a0 a1 = some y → Meets Tryd.prog envX pv (.f 36) (tvals [(.sl .query), (.int .i64)] (a0, a1, ())) (.t (.int .i64) y))
theorem laws_szQuery.G (hE : EnvOk Tryd.prog envX) (pv : Nat → Value) (k : Nat) (hI : laws_szQuery.Gd pv k) : ∀ cal A, laws_szQuery.C k cal = some A → ArmOk Tryd.prog envX pv cal A := by
  intro cal A h
  unfold laws_szQuery.C at h
  split at h
  · cases h; exact fun x y hy => hI.2 x.1 x.2.1 hy
  · cases h
theorem laws_szQuery.gd (hE : EnvOk Tryd.prog envX) (pv : Nat → Value) (k : Nat) (hI : ∀ k', k' ≤ k → laws_szQuery.Gd pv k') (a0 : Query) (a1 : Int) {y : _} (h : laws_szQuery.F (k + 1) a0 a1 = some y) : Meets Tryd.prog envX pv (.f 11) (tvals [.query, (.int .i64)] (a0, a1, ())) (.t (.int .i64) y) :=
  fun_plain hE (laws_szQuery.G hE pv k (hI k (Nat.le_refl k))) (f := 11) (fn := Tryd.f11) (by kernel_rfl) rfl (by kernel_rfl) (by kernel_rfl) ((laws_szQuery.run k a0 a1).trans h) fun r hr => wk_view1 hr
theorem laws_szQueryS.G (hE : EnvOk Tryd.prog envX) (pv : Nat → Value) (k : Nat) (hI : laws_szQuery.Gd pv k) : ∀ cal A, laws_szQueryS.C k cal = some A → ArmOk Tryd.prog envX pv cal A := by
  intro cal A h
  unfold laws_szQueryS.C at h
  split at h
  · cases h; exact fun x y hy => hI.1 x.1 x.2.1 hy
  · cases h
theorem laws_szQueryS.gd (hE : EnvOk Tryd.prog envX) (pv : Nat → Value) (k : Nat) (hI : ∀ k', k' ≤ k → laws_szQuery.Gd pv k') (a0 : List Query) (a1 : Int) {y : _} (h : laws_szQueryS.F (k + 1) a0 a1 = some y) : Meets Tryd.prog envX pv (.f 36) (tvals [(.sl .query), (.int .i64)] (a0, a1, ())) (.t (.int .i64) y) :=
  fun_loops hE (t := laws_szQueryS.C) k (fun k hk => laws_szQueryS.G hE pv k (hI k hk)) (f := 36) (fn := Tryd.f36) (by kernel_rfl) rfl (by kernel_rfl) (by kernel_rfl) (lt := laws_szQueryS.L) (by kernel_rfl) (fun b A h => by
    unfold laws_szQueryS.L at h; split at h
    · cases h; exact ⟨by kernel_rfl, by kernel_rfl, by kernel_rfl, fun _ => rfl, fun _ => rfl, fun _ => rfl⟩
    · cases h) (fun b A h => by
    unfold laws_szQueryS.L at h; split at h
    · cases h; exact fun k x => laws_szQueryS.step0 k x.1 x.2.1 x.2.2.1
    · cases h) ((laws_szQueryS.run k a0 a1).trans h) fun r hr => wk_view1 hr
theorem laws_szQuery.all (hE : EnvOk Tryd.prog envX) (pv : Nat → Value) : ∀ k k', k' ≤ k → laws_szQuery.Gd pv k' := by
  intro k
  induction k with
  | zero =>
    intro k' hk
    obtain rfl : k' = 0 := by omega
    exact ⟨fun _ _ y h => (by cases (show (none : Option _) = some y from h)), fun _ _ y h => (by cases (show (none : Option _) = some y from h))⟩
  | succ k ih =>
    intro k' hk
    rcases Nat.lt_or_ge k' (k + 1) with hlt | hge
    · exact ih k' (by omega)
    · obtain rfl : k' = k + 1 := by omega
      exact ⟨fun a0 a1 y h => laws_szQuery.gd hE pv k ih a0 a1 h, fun a0 a1 y h => laws_szQueryS.gd hE pv k ih a0 a1 h⟩
theorem laws_szQuery.good (hE : EnvOk Tryd.prog envX) (pv : Nat → Value) (k : Nat) (a0 : Query) (a1 : Int) {y : _} (h : laws_szQuery.F k a0 a1 = some y) : Meets Tryd.prog envX pv (.f 11) (tvals [.query, (.int .i64)] (a0, a1, ())) (.t (.int .i64) y) :=
  (laws_szQuery.all hE pv k k (Nat.le_refl k)).1 a0 a1 h
theorem laws_szQueryS.good (hE : EnvOk Tryd.prog envX) (pv : Nat → Value) (k : Nat) (a0 : List Query) (a1 : Int) {y : _} (h : laws_szQueryS.F k a0 a1 = some y) : Meets Tryd.prog envX pv (.f 36) (tvals [(.sl .query), (.int .i64)] (a0, a1, ())) (.t (.int .i64) y) :=
  (laws_szQuery.all hE pv k k (Nat.le_refl k)).2 a0 a1 h
/-! ### 48 loop.example/g00896/spec.l1In -/
def spec_l1In.F (a0 : Int) (a1 : Int) (a2 : Int) : Option (Bool) := bif (decide (a0 ≥ a1)) then (some (decide (a0 ≤ a2))) else (some false)
def spec_l1In.C : Cal → Option CArm := fun c => match c with
  | _ => none
theorem spec_l1In.run (a0 : Int) (a1 : Int) (a2 : Int) : runF envX (tabC spec_l1In.C) (tabL 15 0 (fun _ => none)) Tryd.f48 [.t (.int .i64) a0, .t (.int .i64) a1, .t (.int .i64) a2] (viewR1 (.t .bool)) = spec_l1In.F a0 a1 a2 := by kernel_rfl
theorem spec_l1In.G (hE : EnvOk Tryd.prog envX) (pv : Nat → Value) : ∀ cal A, spec_l1In.C cal = some A → ArmOk Tryd.prog envX pv cal A := by
  intro cal A h
  unfold spec_l1In.C at h
  cases h
theorem spec_l1In.good (hE : EnvOk Tryd.prog envX) (pv : Nat → Value) (a0 : Int) (a1 : Int) (a2 : Int) {y : _} (h : spec_l1In.F a0 a1 a2 = some y) : Meets Tryd.prog envX pv (.f 48) (tvals [(.int .i64), (.int .i64), (.int .i64)] (a0, a1, a2, ())) (.t .bool y) :=
  fun_plain hE (spec_l1In.G hE pv) (f := 48) (fn := Tryd.f48) (by kernel_rfl) rfl (by kernel_rfl) (by kernel_rfl) ((spec_l1In.run a0 a1 a2).trans h) fun r hr => wk_view1 hr
/-! ### 93 loop.example/g00896/spec.l6Digit -/
def spec_l6Digit.F (a0 : Int) : Option (Bool) := bif (decide (a0 ≥ 48)) then (some (decide (a0 ≤ 57))) else (some false)
def spec_l6Digit.C : Cal → Option CArm := fun c => match c with
  | _ => none
theorem spec_l6Digit.run (a0 : Int) : runF envX (tabC spec_l6Digit.C) (tabL 9 0 (fun _ => none)) Tryd.f93 [.t (.int .u8) a0] (viewR1 (.t .bool)) = spec_l6Digit.F a0 := by kernel_rfl
theorem spec_l6Digit.G (hE : EnvOk Tryd.prog envX) (pv : Nat → Value) : ∀ cal A, spec_l6Digit.C cal = some A → ArmOk Tryd.prog envX pv cal A := by
  intro cal A h
  unfold spec_l6Digit.C at h
  cases h
theorem spec_l6Digit.good (hE : EnvOk Tryd.prog envX) (pv : Nat → Value) (a0 : Int) {y : _} (h : spec_l6Digit.F a0 = some y) : Meets Tryd.prog envX pv (.f 93) (tvals [(.int .u8)] (a0, ())) (.t .bool y) :=
  fun_plain hE (spec_l6Digit.G hE pv) (f := 93) (fn := Tryd.f93) (by kernel_rfl) rfl (by kernel_rfl) (by kernel_rfl) ((spec_l6Digit.run a0).trans h) fun r hr => wk_view1 hr
/-! ### 74 loop.example/g00896/spec.l22Sign -/
def spec_l22Sign.F (a0 : Int) : Option (Bool) := bif (decide (a0 ≥ 97)) then (bif (decide (a0 ≤ 122)) then (some true) else ((spec_l6Digit.F a0).bind fun r1 => some r1)) else ((spec_l6Digit.F a0).bind fun r2 => some r2)
def spec_l22Sign.C : Cal → Option CArm := fun c => match c with
  | .f 93 => some (.p [(.int .u8)] _ (fun x => spec_l6Digit.F x.1) (fun r => (.t .bool r)))
  | _ => none
theorem spec_l22Sign.run (a0 : Int) : runF envX (tabC spec_l22Sign.C) (tabL 13 0 (fun _ => none)) Tryd.f74 [.t (.int .u8) a0] (viewR1 (.t .bool)) = spec_l22Sign.F a0 := by kernel_rfl
theorem spec_l22Sign.G (hE : EnvOk Tryd.prog envX) (pv : Nat → Value) : ∀ cal A, spec_l22Sign.C cal = some A → ArmOk Tryd.prog envX pv cal A := by
  intro cal A h
  unfold spec_l22Sign.C at h
  split at h
  · cases h; exact fun x y hy => spec_l6Digit.good hE pv x.1 hy
  · cases h
theorem spec_l22Sign.good (hE : EnvOk Tryd.prog envX) (pv : Nat → Value) (a0 : Int) {y : _} (h : spec_l22Sign.F a0 = some y) : Meets Tryd.prog envX pv (.f 74) (tvals [(.int .u8)] (a0, ())) (.t .bool y) :=
  fun_plain hE (spec_l22Sign.G hE pv) (f := 74) (fn := Tryd.f74) (by kernel_rfl) rfl (by kernel_rfl) (by kernel_rfl) ((spec_l22Sign.run a0).trans h) fun r hr => wk_view1 hr
/-! ### 107 loop.example/g00896/spec.l22Word -/
def spec_l22Word.l0 : Nat → ByteArray → Int → Option (Sum Bool ByteArray)
  | 0, _, _ => none
  | k + 1, x0, x3 => bif (decide (x3 < (x0.size : Int))) then (bif decide (0 ≤ x3) then (bif decide (x3 < (x0.size : Int)) then ((spec_l22Sign.F (bt x0 (x3 : Int).toNat)).bind fun r1 => bif (!r1) then (some (.inl false)) else (spec_l22Word.l0 k x0 (IntKind.wrap .i64 (x3 + 1)))) else none) else none) else (some (.inr x0))
def spec_l22Word.F (k : Nat) (a0 : ByteArray) : Option (Bool) := (spec_l22Word.l0 k a0 0).bind fun y2 => match y2 with | .inl z3 => some z3 | .inr z3 => (spec_l1In.F (z3.size : Int) 1 15).bind fun r4 => bif r4 then (bif (!beqS z3 (⟨#[110, 111, 116]⟩ : ByteArray)) then (bif (!beqS z3 (⟨#[97, 110, 100]⟩ : ByteArray)) then (some (!beqS z3 (⟨#[111, 114]⟩ : ByteArray))) else (some false)) else (some false)) else (some false)
def spec_l22Word.C (k : Nat) : Cal → Option CArm := fun c => match c with
  | .f 74 => some (.p [(.int .u8)] _ (fun x => spec_l22Sign.F x.1) (fun r => (.t .bool r)))
  | .f 48 => some (.p [(.int .i64), (.int .i64), (.int .i64)] _ (fun x => spec_l1In.F x.1 x.2.1 x.2.2.1) (fun r => (.t .bool r)))
  | _ => none
def spec_l22Word.sp0 : List Sp := [.t 0 .str, .t 3 (.int .i64)]
def spec_l22Word.sp0_0 : List Sp := [.t 2 .bool]
def spec_l22Word.sp0_1 : List Sp := [.t 0 .str]
def spec_l22Word.A0 : LArm := .two spec_l22Word.sp0 spec_l22Word.sp0_0 spec_l22Word.sp0_1 (Bool) (ByteArray) (fun k x => spec_l22Word.l0 k x.1 x.2.1) .ret (.exit 0) (fun y => (y, ())) (fun x => x.1) (fun y => (y, ())) (fun x => x.1)
def spec_l22Word.L : Nat → Option LArm := fun b => match b with
  | 0 => some spec_l22Word.A0
  | _ => none
theorem spec_l22Word.run (k : Nat) (a0 : ByteArray) : runF envX (tabC (spec_l22Word.C k)) (tabL 30 k spec_l22Word.L) Tryd.f107 [.t .str a0] (viewR1 (.t .bool)) = spec_l22Word.F k a0 := by kernel_rfl
theorem spec_l22Word.step0 (k : Nat) (x0 : ByteArray) (x3 : Int) : runC envX (tabC (spec_l22Word.C k)) (tabL 30 k spec_l22Word.L) 0 (loopAt Tryd.f107 0) (stOf 30 spec_l22Word.sp0 (x0, x3, ())) (spec_l22Word.A0.cont 30 k) = spec_l22Word.l0 (k + 1) x0 x3 := by kernel_rfl
theorem spec_l22Word.G (hE : EnvOk Tryd.prog envX) (pv : Nat → Value) (k : Nat) : ∀ cal A, spec_l22Word.C k cal = some A → ArmOk Tryd.prog envX pv cal A := by
  intro cal A h
  unfold spec_l22Word.C at h
  split at h
  · cases h; exact fun x y hy => spec_l22Sign.good hE pv x.1 hy
  · cases h; exact fun x y hy => spec_l1In.good hE pv x.1 x.2.1 x.2.2.1 hy
  · cases h
theorem spec_l22Word.good (hE : EnvOk Tryd.prog envX) (pv : Nat → Value) (k : Nat) (a0 : ByteArray) {y : _} (h : spec_l22Word.F k a0 = some y) : Meets Tryd.prog envX pv (.f 107) (tvals [.str] (a0, ())) (.t .bool y) :=
  fun_loops hE (t := spec_l22Word.C) k (fun k _ => spec_l22Word.G hE pv k) (f := 107) (fn := Tryd.f107) (by kernel_rfl) rfl (by kernel_rfl) (by kernel_rfl) (lt := spec_l22Word.L) (by kernel_rfl) (fun b A h => by
    unfold spec_l22Word.L at h; split at h
    · cases h; exact ⟨by kernel_rfl, by kernel_rfl, by kernel_rfl, fun _ => rfl, fun _ => rfl, fun _ => rfl⟩
    · cases h) (fun b A h => by
    unfold spec_l22Word.L at h; split at h
    · cases h; exact fun k x => spec_l22Word.step0 k x.1 x.2.1
    · cases h) ((spec_l22Word.run k a0).trans h) fun r hr => wk_view1 hr
/-! ### 134 loop.example/g00896/spec.l4Fields -/
def spec_l4Fields.F : Option (List ByteArray) := some ([(⟨#[97, 117, 116, 104, 111, 114, 115]⟩ : ByteArray), (⟨#[101, 100, 105, 116, 111, 114, 115]⟩ : ByteArray), (⟨#[116, 105, 116, 108, 101]⟩ : ByteArray), (⟨#[99, 111, 110, 116, 97, 105, 110, 101, 114]⟩ : ByteArray), (⟨#[112, 117, 98, 108, 105, 115, 104, 101, 114]⟩ : ByteArray), (⟨#[100, 97, 116, 101]⟩ : ByteArray), (⟨#[118, 111, 108, 117, 109, 101]⟩ : ByteArray), (⟨#[112, 97, 103, 101, 115]⟩ : ByteArray)] : List ByteArray)
def spec_l4Fields.C : Cal → Option CArm := fun c => match c with
  | _ => none
theorem spec_l4Fields.run : runF envX (tabC spec_l4Fields.C) (tabL 2 0 (fun _ => none)) Tryd.f134 [] (viewR1 (.fr 9 .str)) = spec_l4Fields.F := by kernel_rfl
theorem spec_l4Fields.G (hE : EnvOk Tryd.prog envX) (pv : Nat → Value) : ∀ cal A, spec_l4Fields.C cal = some A → ArmOk Tryd.prog envX pv cal A := by
  intro cal A h
  unfold spec_l4Fields.C at h
  cases h
theorem spec_l4Fields.good (hE : EnvOk Tryd.prog envX) (pv : Nat → Value) {y : _} (h : spec_l4Fields.F = some y) : Meets Tryd.prog envX pv (.f 134) (tvals [] (())) (.fr 9 .str y) :=
  fun_plain hE (spec_l4Fields.G hE pv) (f := 134) (fn := Tryd.f134) (by kernel_rfl) rfl (by kernel_rfl) (by kernel_rfl) ((spec_l4Fields.run).trans h) fun r hr => wk_view1 hr
/-! ### 108 loop.example/g00896/spec.l22Field -/
def spec_l22Field.l0 : Nat → ByteArray → (List ByteArray) → Int → Option (Sum Bool ByteArray)
  | 0, _, _, _ => none
  | k + 1, x0, x3, x4 => bif (decide (x4 < (x3.length : Int))) then (bif decide (0 ≤ x4) then (bif decide (x4 < (x3.length : Int)) then (bif (beqS (x3.getD ((x4 : Int).toNat) (⟨#[]⟩ : ByteArray)) x0) then (some (.inl true)) else (spec_l22Field.l0 k x0 x3 (IntKind.wrap .i64 (x4 + 1)))) else none) else none) else (some (.inr x0))
def spec_l22Field.F (k : Nat) (a0 : ByteArray) : Option (Bool) := (spec_l4Fields.F).bind fun r1 => (spec_l22Field.l0 k a0 r1 0).bind fun y2 => match y2 with | .inl z3 => some z3 | .inr z3 => some (beqS z3 (⟨#[]⟩ : ByteArray))
def spec_l22Field.C (k : Nat) : Cal → Option CArm := fun c => match c with
  | .f 134 => some (.p [] _ (fun x => spec_l4Fields.F) (fun r => (.fr 9 .str r)))
  | _ => none
def spec_l22Field.sp0 : List Sp := [.t 0 .str, .own 3 1024 9 .str false true, .t 4 (.int .i64)]
def spec_l22Field.sp0_0 : List Sp := [.t 2 .bool]
def spec_l22Field.sp0_1 : List Sp := [.t 0 .str]
def spec_l22Field.A0 : LArm := .two spec_l22Field.sp0 spec_l22Field.sp0_0 spec_l22Field.sp0_1 (Bool) (ByteArray) (fun k x => spec_l22Field.l0 k x.1 x.2.1 x.2.2.1) .ret (.exit 0) (fun y => (y, ())) (fun x => x.1) (fun y => (y, ())) (fun x => x.1)
def spec_l22Field.L : Nat → Option LArm := fun b => match b with
  | 0 => some spec_l22Field.A0
  | _ => none
theorem spec_l22Field.run (k : Nat) (a0 : ByteArray) : runF envX (tabC (spec_l22Field.C k)) (tabL 20 k spec_l22Field.L) Tryd.f108 [.t .str a0] (viewR1 (.t .bool)) = spec_l22Field.F k a0 := by kernel_rfl
theorem spec_l22Field.step0 (k : Nat) (x0 : ByteArray) (x3 : List ByteArray) (x4 : Int) : runC envX (tabC (spec_l22Field.C k)) (tabL 20 k spec_l22Field.L) 0 (loopAt Tryd.f108 0) (stOf 20 spec_l22Field.sp0 (x0, x3, x4, ())) (spec_l22Field.A0.cont 20 k) = spec_l22Field.l0 (k + 1) x0 x3 x4 := by kernel_rfl
theorem spec_l22Field.G (hE : EnvOk Tryd.prog envX) (pv : Nat → Value) (k : Nat) : ∀ cal A, spec_l22Field.C k cal = some A → ArmOk Tryd.prog envX pv cal A := by
  intro cal A h
  unfold spec_l22Field.C at h
  split at h
  · cases h; exact fun x y hy => spec_l4Fields.good hE pv hy
  · cases h
theorem spec_l22Field.good (hE : EnvOk Tryd.prog envX) (pv : Nat → Value) (k : Nat) (a0 : ByteArray) {y : _} (h : spec_l22Field.F k a0 = some y) : Meets Tryd.prog envX pv (.f 108) (tvals [.str] (a0, ())) (.t .bool y) :=
  fun_loops hE (t := spec_l22Field.C) k (fun k _ => spec_l22Field.G hE pv k) (f := 108) (fn := Tryd.f108) (by kernel_rfl) rfl (by kernel_rfl) (by kernel_rfl) (lt := spec_l22Field.L) (by kernel_rfl) (fun b A h => by
    unfold spec_l22Field.L at h; split at h
    · cases h; exact ⟨by kernel_rfl, by kernel_rfl, by kernel_rfl, fun _ => rfl, fun _ => rfl, fun _ => rfl⟩
    · cases h) (fun b A h => by
    unfold spec_l22Field.L at h; split at h
    · cases h; exact fun k x => spec_l22Field.step0 k x.1 x.2.1 x.2.2.1
    · cases h) ((spec_l22Field.run k a0).trans h) fun r hr => wk_view1 hr
/-! ### 82 loop.example/g00896/spec.l22Form -/
def spec_l22Form.F (k : Nat) (a0 : Query) : Option (Bool) := bif (a0.op == 1) then ((spec_l22Word.F k a0.word).bind fun r1 => bif r1 then ((spec_l22Field.F k a0.field).bind fun r2 => bif r2 then (some ((a0.parts.length : Int) == 0)) else (some false)) else (some false)) else (bif (a0.op == 2) then (bif (beqS a0.word (⟨#[]⟩ : ByteArray)) then (bif (beqS a0.field (⟨#[]⟩ : ByteArray)) then (some ((a0.parts.length : Int) == 1)) else (some false)) else (some false)) else (bif (a0.op == 3) then (bif (a0.op == 3) then (bif (beqS a0.word (⟨#[]⟩ : ByteArray)) then (bif (beqS a0.field (⟨#[]⟩ : ByteArray)) then (some ((a0.parts.length : Int) == 2)) else (some false)) else (some false)) else (some false)) else (bif (a0.op == 4) then (bif (beqS a0.word (⟨#[]⟩ : ByteArray)) then (bif (beqS a0.field (⟨#[]⟩ : ByteArray)) then (some ((a0.parts.length : Int) == 2)) else (some false)) else (some false)) else (some false))))
def spec_l22Form.C (k : Nat) : Cal → Option CArm := fun c => match c with
  | .f 107 => some (.p [.str] _ (fun x => spec_l22Word.F k x.1) (fun r => (.t .bool r)))
  | .f 108 => some (.p [.str] _ (fun x => spec_l22Field.F k x.1) (fun r => (.t .bool r)))
  | _ => none
theorem spec_l22Form.run (k : Nat) (a0 : Query) : runF envX (tabC (spec_l22Form.C k)) (tabL 54 0 (fun _ => none)) Tryd.f82 [.t .query a0] (viewR1 (.t .bool)) = spec_l22Form.F k a0 := by kernel_rfl
theorem spec_l22Form.G (hE : EnvOk Tryd.prog envX) (pv : Nat → Value) (k : Nat) : ∀ cal A, spec_l22Form.C k cal = some A → ArmOk Tryd.prog envX pv cal A := by
  intro cal A h
  unfold spec_l22Form.C at h
  split at h
  · cases h; exact fun x y hy => spec_l22Word.good hE pv k x.1 hy
  · cases h; exact fun x y hy => spec_l22Field.good hE pv k x.1 hy
  · cases h
theorem spec_l22Form.good (hE : EnvOk Tryd.prog envX) (pv : Nat → Value) (k : Nat) (a0 : Query) {y : _} (h : spec_l22Form.F k a0 = some y) : Meets Tryd.prog envX pv (.f 82) (tvals [.query] (a0, ())) (.t .bool y) :=
  fun_plain hE (spec_l22Form.G hE pv k) (f := 82) (fn := Tryd.f82) (by kernel_rfl) rfl (by kernel_rfl) (by kernel_rfl) ((spec_l22Form.run k a0).trans h) fun r hr => wk_view1 hr
/-! ### 62 loop.example/g00896/spec.l22Forms -/
mutual
def spec_l22Forms.F : Nat → Query → Option (Bool)
  | 0, _ => none
  | k + 1, a0 => (spec_l22Form.F k a0).bind fun r1 => bif (!r1) then (some false) else ((spec_l22Forms.l0 k a0 0).bind fun y3 => match y3 with | .inl z4 => some z4 | .inr z4 => some true)
def spec_l22Forms.l0 : Nat → Query → Int → Option (Sum Bool Unit)
  | 0, _, _ => none
  | k + 1, x1, x3 => bif (decide (x3 < (x1.parts.length : Int))) then (bif decide (0 ≤ x3) then (bif decide (x3 < (x1.parts.length : Int)) then ((spec_l22Forms.F k (x1.parts.getD (x3 : Int).toNat (dflt .query))).bind fun r2 => bif (!r2) then (some (.inl false)) else (spec_l22Forms.l0 k x1 (IntKind.wrap .i64 (x3 + 1)))) else none) else none) else (some (.inr ()))
end
def spec_l22Forms.C (k : Nat) : Cal → Option CArm := fun c => match c with
  | .f 82 => some (.p [.query] _ (fun x => spec_l22Form.F k x.1) (fun r => (.t .bool r)))
  | .f 62 => some (.p [.query] _ (fun x => spec_l22Forms.F k x.1) (fun r => (.t .bool r)))
  | _ => none
def spec_l22Forms.sp0 : List Sp := [.boxT 1 0 .query, .t 3 (.int .i64)]
def spec_l22Forms.sp0_0 : List Sp := [.t 2 .bool]
def spec_l22Forms.sp0_1 : List Sp := []
def spec_l22Forms.A0 : LArm := .two spec_l22Forms.sp0 spec_l22Forms.sp0_0 spec_l22Forms.sp0_1 (Bool) (Unit) (fun k x => spec_l22Forms.l0 k x.1 x.2.1) .ret (.exit 0) (fun y => (y, ())) (fun x => x.1) (fun y => ()) (fun x => ())
def spec_l22Forms.L : Nat → Option LArm := fun b => match b with
  | 0 => some spec_l22Forms.A0
  | _ => none
theorem spec_l22Forms.run (k : Nat) (a0 : Query) : runF envX (tabC (spec_l22Forms.C k)) (tabL 21 k spec_l22Forms.L) Tryd.f62 [.t .query a0] (viewR1 (.t .bool)) = spec_l22Forms.F (k + 1) a0 := by kernel_rfl
theorem spec_l22Forms.step0 (k : Nat) (x1 : Query) (x3 : Int) : runC envX (tabC (spec_l22Forms.C k)) (tabL 21 k spec_l22Forms.L) 0 (loopAt Tryd.f62 0) (stOf 21 spec_l22Forms.sp0 (x1, x3, ())) (spec_l22Forms.A0.cont 21 k) = spec_l22Forms.l0 (k + 1) x1 x3 := by kernel_rfl
def spec_l22Forms.Gd (pv : Nat → Value) (k : Nat) : Prop := (∀ (a0 : Query) {y : _}, spec_l22Forms.F k a0 = some y → Meets Tryd.prog envX pv (.f 62) (tvals [.query] (a0, ())) (.t .bool y))
theorem spec_l22Forms.G (hE : EnvOk Tryd.prog envX) (pv : Nat → Value) (k : Nat) (hI : spec_l22Forms.Gd pv k) : ∀ cal A, spec_l22Forms.C k cal = some A → ArmOk Tryd.prog envX pv cal A := by
  intro cal A h
  unfold spec_l22Forms.C at h
  split at h
  · cases h; exact fun x y hy => spec_l22Form.good hE pv k x.1 hy
  · cases h; exact fun x y hy => hI x.1 hy
  · cases h
theorem spec_l22Forms.gd (hE : EnvOk Tryd.prog envX) (pv : Nat → Value) (k : Nat) (hI : ∀ k', k' ≤ k → spec_l22Forms.Gd pv k') (a0 : Query) {y : _} (h : spec_l22Forms.F (k + 1) a0 = some y) : Meets Tryd.prog envX pv (.f 62) (tvals [.query] (a0, ())) (.t .bool y) :=
  fun_loops hE (t := spec_l22Forms.C) k (fun k hk => spec_l22Forms.G hE pv k (hI k hk)) (f := 62) (fn := Tryd.f62) (by kernel_rfl) rfl (by kernel_rfl) (by kernel_rfl) (lt := spec_l22Forms.L) (by kernel_rfl) (fun b A h => by
    unfold spec_l22Forms.L at h; split at h
    · cases h; exact ⟨by kernel_rfl, by kernel_rfl, by kernel_rfl, fun _ => rfl, fun _ => rfl, fun _ => rfl⟩
    · cases h) (fun b A h => by
    unfold spec_l22Forms.L at h; split at h
    · cases h; exact fun k x => spec_l22Forms.step0 k x.1 x.2.1
    · cases h) ((spec_l22Forms.run k a0).trans h) fun r hr => wk_view1 hr
theorem spec_l22Forms.all (hE : EnvOk Tryd.prog envX) (pv : Nat → Value) : ∀ k k', k' ≤ k → spec_l22Forms.Gd pv k' := by
  intro k
  induction k with
  | zero =>
    intro k' hk
    obtain rfl : k' = 0 := by omega
    exact fun _ y h => by cases (show (none : Option _) = some y from h)
  | succ k ih =>
    intro k' hk
    rcases Nat.lt_or_ge k' (k + 1) with hlt | hge
    · exact ih k' (by omega)
    · obtain rfl : k' = k + 1 := by omega
      exact fun a0 y h => spec_l22Forms.gd hE pv k ih a0 h
theorem spec_l22Forms.good (hE : EnvOk Tryd.prog envX) (pv : Nat → Value) (k : Nat) (a0 : Query) {y : _} (h : spec_l22Forms.F k a0 = some y) : Meets Tryd.prog envX pv (.f 62) (tvals [.query] (a0, ())) (.t .bool y) :=
  (spec_l22Forms.all hE pv k k (Nat.le_refl k)) a0 h
/-! ### 63 loop.example/g00896/spec.l22Size -/
mutual
def spec_l22Size.F : Nat → Query → Option (Int)
  | 0, _ => none
  | k + 1, a0 => (spec_l22Size.l0 k a0 1 0).bind fun y2 => some y2
def spec_l22Size.l0 : Nat → Query → Int → Int → Option (Int)
  | 0, _, _, _ => none
  | k + 1, x1, x3, x4 => bif (decide (x4 < (x1.parts.length : Int))) then (bif decide (0 ≤ x4) then (bif decide (x4 < (x1.parts.length : Int)) then ((spec_l22Size.F k (x1.parts.getD (x4 : Int).toNat (dflt .query))).bind fun r1 => spec_l22Size.l0 k x1 (IntKind.wrap .i64 (x3 + r1)) (IntKind.wrap .i64 (x4 + 1))) else none) else none) else (some x3)
end
def spec_l22Size.C (k : Nat) : Cal → Option CArm := fun c => match c with
  | .f 63 => some (.p [.query] _ (fun x => spec_l22Size.F k x.1) (fun r => (.t (.int .i64) r)))
  | _ => none
def spec_l22Size.sp0 : List Sp := [.boxT 1 0 .query, .t 3 (.int .i64), .t 4 (.int .i64)]
def spec_l22Size.sp0_0 : List Sp := [.t 3 (.int .i64)]
def spec_l22Size.A0 : LArm := .one spec_l22Size.sp0 spec_l22Size.sp0_0 (Int) (fun k x => spec_l22Size.l0 k x.1 x.2.1 x.2.2.1) (.exit 0) (fun y => (y, ())) (fun x => x.1)
def spec_l22Size.L : Nat → Option LArm := fun b => match b with
  | 0 => some spec_l22Size.A0
  | _ => none
theorem spec_l22Size.run (k : Nat) (a0 : Query) : runF envX (tabC (spec_l22Size.C k)) (tabL 21 k spec_l22Size.L) Tryd.f63 [.t .query a0] (viewR1 (.t (.int .i64))) = spec_l22Size.F (k + 1) a0 := by kernel_rfl
theorem spec_l22Size.step0 (k : Nat) (x1 : Query) (x3 : Int) (x4 : Int) : runC envX (tabC (spec_l22Size.C k)) (tabL 21 k spec_l22Size.L) 0 (loopAt Tryd.f63 0) (stOf 21 spec_l22Size.sp0 (x1, x3, x4, ())) (spec_l22Size.A0.cont 21 k) = spec_l22Size.l0 (k + 1) x1 x3 x4 := by kernel_rfl
def spec_l22Size.Gd (pv : Nat → Value) (k : Nat) : Prop := (∀ (a0 : Query) {y : _}, spec_l22Size.F k a0 = some y → Meets Tryd.prog envX pv (.f 63) (tvals [.query] (a0, ())) (.t (.int .i64) y))
theorem spec_l22Size.G (hE : EnvOk Tryd.prog envX) (pv : Nat → Value) (k : Nat) (hI : spec_l22Size.Gd pv k) : ∀ cal A, spec_l22Size.C k cal = some A → ArmOk Tryd.prog envX pv cal A := by
  intro cal A h
  unfold spec_l22Size.C at h
  split at h
  · cases h; exact fun x y hy => hI x.1 hy
  · cases h
theorem spec_l22Size.gd (hE : EnvOk Tryd.prog envX) (pv : Nat → Value) (k : Nat) (hI : ∀ k', k' ≤ k → spec_l22Size.Gd pv k') (a0 : Query) {y : _} (h : spec_l22Size.F (k + 1) a0 = some y) : Meets Tryd.prog envX pv (.f 63) (tvals [.query] (a0, ())) (.t (.int .i64) y) :=
  fun_loops hE (t := spec_l22Size.C) k (fun k hk => spec_l22Size.G hE pv k (hI k hk)) (f := 63) (fn := Tryd.f63) (by kernel_rfl) rfl (by kernel_rfl) (by kernel_rfl) (lt := spec_l22Size.L) (by kernel_rfl) (fun b A h => by
    unfold spec_l22Size.L at h; split at h
    · cases h; exact ⟨by kernel_rfl, by kernel_rfl, fun _ => rfl, fun _ => rfl⟩
    · cases h) (fun b A h => by
    unfold spec_l22Size.L at h; split at h
    · cases h; exact fun k x => spec_l22Size.step0 k x.1 x.2.1 x.2.2.1
    · cases h) ((spec_l22Size.run k a0).trans h) fun r hr => wk_view1 hr
theorem spec_l22Size.all (hE : EnvOk Tryd.prog envX) (pv : Nat → Value) : ∀ k k', k' ≤ k → spec_l22Size.Gd pv k' := by
  intro k
  induction k with
  | zero =>
    intro k' hk
    obtain rfl : k' = 0 := by omega
    exact fun _ y h => by cases (show (none : Option _) = some y from h)
  | succ k ih =>
    intro k' hk
    rcases Nat.lt_or_ge k' (k + 1) with hlt | hge
    · exact ih k' (by omega)
    · obtain rfl : k' = k + 1 := by omega
      exact fun a0 y h => spec_l22Size.gd hE pv k ih a0 h
theorem spec_l22Size.good (hE : EnvOk Tryd.prog envX) (pv : Nat → Value) (k : Nat) (a0 : Query) {y : _} (h : spec_l22Size.F k a0 = some y) : Meets Tryd.prog envX pv (.f 63) (tvals [.query] (a0, ())) (.t (.int .i64) y) :=
  (spec_l22Size.all hE pv k k (Nat.le_refl k)) a0 h
/-! ### 37 loop.example/g00896/spec.l22Good -/
def spec_l22Good.F (k : Nat) (a0 : Query) : Option (Bool) := (spec_l22Forms.F k a0).bind fun r1 => bif r1 then ((spec_l22Size.F k a0).bind fun r2 => some (decide (r2 ≤ 15))) else (some false)
def spec_l22Good.C (k : Nat) : Cal → Option CArm := fun c => match c with
  | .f 62 => some (.p [.query] _ (fun x => spec_l22Forms.F k x.1) (fun r => (.t .bool r)))
  | .f 63 => some (.p [.query] _ (fun x => spec_l22Size.F k x.1) (fun r => (.t (.int .i64) r)))
  | _ => none
theorem spec_l22Good.run (k : Nat) (a0 : Query) : runF envX (tabC (spec_l22Good.C k)) (tabL 10 0 (fun _ => none)) Tryd.f37 [.t .query a0] (viewR1 (.t .bool)) = spec_l22Good.F k a0 := by kernel_rfl
theorem spec_l22Good.G (hE : EnvOk Tryd.prog envX) (pv : Nat → Value) (k : Nat) : ∀ cal A, spec_l22Good.C k cal = some A → ArmOk Tryd.prog envX pv cal A := by
  intro cal A h
  unfold spec_l22Good.C at h
  split at h
  · cases h; exact fun x y hy => spec_l22Forms.good hE pv k x.1 hy
  · cases h; exact fun x y hy => spec_l22Size.good hE pv k x.1 hy
  · cases h
theorem spec_l22Good.good (hE : EnvOk Tryd.prog envX) (pv : Nat → Value) (k : Nat) (a0 : Query) {y : _} (h : spec_l22Good.F k a0 = some y) : Meets Tryd.prog envX pv (.f 37) (tvals [.query] (a0, ())) (.t .bool y) :=
  fun_plain hE (spec_l22Good.G hE pv k) (f := 37) (fn := Tryd.f37) (by kernel_rfl) rfl (by kernel_rfl) (by kernel_rfl) ((spec_l22Good.run k a0).trans h) fun r hr => wk_view1 hr
/-! ### 12 loop.example/g00896/spec.IsValidQuery -/
def spec_IsValidQuery.F (k : Nat) (a0 : Query) : Option (Bool) := (spec_l22Good.F k a0).bind fun r1 => some r1
def spec_IsValidQuery.C (k : Nat) : Cal → Option CArm := fun c => match c with
  | .f 37 => some (.p [.query] _ (fun x => spec_l22Good.F k x.1) (fun r => (.t .bool r)))
  | _ => none
theorem spec_IsValidQuery.run (k : Nat) (a0 : Query) : runF envX (tabC (spec_IsValidQuery.C k)) (tabL 5 0 (fun _ => none)) Tryd.f12 [.t .query a0] (viewR1 (.t .bool)) = spec_IsValidQuery.F k a0 := by kernel_rfl
theorem spec_IsValidQuery.G (hE : EnvOk Tryd.prog envX) (pv : Nat → Value) (k : Nat) : ∀ cal A, spec_IsValidQuery.C k cal = some A → ArmOk Tryd.prog envX pv cal A := by
  intro cal A h
  unfold spec_IsValidQuery.C at h
  split at h
  · cases h; exact fun x y hy => spec_l22Good.good hE pv k x.1 hy
  · cases h
theorem spec_IsValidQuery.good (hE : EnvOk Tryd.prog envX) (pv : Nat → Value) (k : Nat) (a0 : Query) {y : _} (h : spec_IsValidQuery.F k a0 = some y) : Meets Tryd.prog envX pv (.f 12) (tvals [.query] (a0, ())) (.t .bool y) :=
  fun_plain hE (spec_IsValidQuery.G hE pv k) (f := 12) (fn := Tryd.f12) (by kernel_rfl) rfl (by kernel_rfl) (by kernel_rfl) ((spec_IsValidQuery.run k a0).trans h) fun r hr => wk_view1 hr
/-! ### 13 loop.example/g00896/laws.toQuery, 38 loop.example/g00896/laws.toQueryS -/
mutual
def laws_toQuery.F : Nat → Query → Option (Query)
  | 0, _ => none
  | k + 1, a0 => (laws_toQueryS.F k a0.parts).bind fun r1 => some (Query.mk a0.op a0.field a0.word r1)
def laws_toQueryS.F : Nat → (List Query) → Option (List Query)
  | 0, _ => none
  | k + 1, a0 => bif ((a0.length : Int) == (a0.length : Int)) then (bif decide (0 ≤ (a0.length : Int)) then (bif Nat.ble (((a0.length : Int) : Int).toNat * nb .query) 140737488355328 then ((laws_toQueryS.l0 k a0 (List.replicate ((a0.length : Int) : Int).toNat (dflt .query)) 0).bind fun y2 => some y2) else none) else none) else none
def laws_toQueryS.l0 : Nat → (List Query) → (List Query) → Int → Option ((List Query))
  | 0, _, _, _ => none
  | k + 1, x0, x3, x4 => bif (decide (x4 < (x0.length : Int))) then (bif decide (0 ≤ x4) then (bif decide (x4 < (x0.length : Int)) then ((laws_toQuery.F k (x0.getD (x4 : Int).toNat (dflt .query))).bind fun r1 => bif decide (0 ≤ x4) then (bif decide (x4 < (x3.length : Int)) then (laws_toQueryS.l0 k x0 (x3.set ((x4 : Int).toNat) r1) (IntKind.wrap .i64 (x4 + 1))) else none) else none) else none) else none) else (some x3)
end
def laws_toQuery.C (k : Nat) : Cal → Option CArm := fun c => match c with
  | .f 38 => some (.p [(.sl .query)] _ (fun x => laws_toQueryS.F k x.1) (fun r => (.t (.sl .query) r)))
  | _ => none
theorem laws_toQuery.run (k : Nat) (a0 : Query) : runF envX (tabC (laws_toQuery.C k)) (tabL 18 0 (fun _ => none)) Tryd.f13 [.t .query a0] (viewR1 (.t .query)) = laws_toQuery.F (k + 1) a0 := by kernel_rfl
def laws_toQueryS.C (k : Nat) : Cal → Option CArm := fun c => match c with
  | .f 13 => some (.p [.query] _ (fun x => laws_toQuery.F k x.1) (fun r => (.t .query r)))
  | _ => none
def laws_toQueryS.sp0 : List Sp := [.t 0 (.sl .query), .own 3 1032 29 .query false true, .t 4 (.int .i64)]
def laws_toQueryS.sp0_0 : List Sp := [.own 3 1032 29 .query false true]
def laws_toQueryS.A0 : LArm := .one laws_toQueryS.sp0 laws_toQueryS.sp0_0 ((List Query)) (fun k x => laws_toQueryS.l0 k x.1 x.2.1 x.2.2.1) (.exit 0) (fun y => (y, ())) (fun x => x.1)
def laws_toQueryS.L : Nat → Option LArm := fun b => match b with
  | 0 => some laws_toQueryS.A0
  | _ => none
theorem laws_toQueryS.run (k : Nat) (a0 : List Query) : runF envX (tabC (laws_toQueryS.C k)) (tabL 23 k laws_toQueryS.L) Tryd.f38 [.t (.sl .query) a0] (viewR1 (.t (.sl .query))) = laws_toQueryS.F (k + 1) a0 := by kernel_rfl
theorem laws_toQueryS.step0 (k : Nat) (x0 : List Query) (x3 : List Query) (x4 : Int) : runC envX (tabC (laws_toQueryS.C k)) (tabL 23 k laws_toQueryS.L) 0 (loopAt Tryd.f38 0) (stOf 23 laws_toQueryS.sp0 (x0, x3, x4, ())) (laws_toQueryS.A0.cont 23 k) = laws_toQueryS.l0 (k + 1) x0 x3 x4 := by kernel_rfl
def laws_toQuery.Gd (pv : Nat → Value) (k : Nat) : Prop := (∀ (a0 : Query) {y : _}, laws_toQuery.F k a0 = some y → Meets Tryd.prog envX pv (.f 13) (tvals [.query] (a0, ())) (.t .query y)) ∧ (∀ (a0 : List Query) {y : _}, laws_toQueryS.F k a0 = some y → Meets Tryd.prog envX pv (.f 38) (tvals [(.sl .query)] (a0, ())) (.t (.sl .query) y))
theorem laws_toQuery.G (hE : EnvOk Tryd.prog envX) (pv : Nat → Value) (k : Nat) (hI : laws_toQuery.Gd pv k) : ∀ cal A, laws_toQuery.C k cal = some A → ArmOk Tryd.prog envX pv cal A := by
  intro cal A h
  unfold laws_toQuery.C at h
  split at h
  · cases h; exact fun x y hy => hI.2 x.1 hy
  · cases h
theorem laws_toQuery.gd (hE : EnvOk Tryd.prog envX) (pv : Nat → Value) (k : Nat) (hI : ∀ k', k' ≤ k → laws_toQuery.Gd pv k') (a0 : Query) {y : _} (h : laws_toQuery.F (k + 1) a0 = some y) : Meets Tryd.prog envX pv (.f 13) (tvals [.query] (a0, ())) (.t .query y) :=
  fun_plain hE (laws_toQuery.G hE pv k (hI k (Nat.le_refl k))) (f := 13) (fn := Tryd.f13) (by kernel_rfl) rfl (by kernel_rfl) (by kernel_rfl) ((laws_toQuery.run k a0).trans h) fun r hr => wk_view1 hr
theorem laws_toQueryS.G (hE : EnvOk Tryd.prog envX) (pv : Nat → Value) (k : Nat) (hI : laws_toQuery.Gd pv k) : ∀ cal A, laws_toQueryS.C k cal = some A → ArmOk Tryd.prog envX pv cal A := by
  intro cal A h
  unfold laws_toQueryS.C at h
  split at h
  · cases h; exact fun x y hy => hI.1 x.1 hy
  · cases h
theorem laws_toQueryS.gd (hE : EnvOk Tryd.prog envX) (pv : Nat → Value) (k : Nat) (hI : ∀ k', k' ≤ k → laws_toQuery.Gd pv k') (a0 : List Query) {y : _} (h : laws_toQueryS.F (k + 1) a0 = some y) : Meets Tryd.prog envX pv (.f 38) (tvals [(.sl .query)] (a0, ())) (.t (.sl .query) y) :=
  fun_loops hE (t := laws_toQueryS.C) k (fun k hk => laws_toQueryS.G hE pv k (hI k hk)) (f := 38) (fn := Tryd.f38) (by kernel_rfl) rfl (by kernel_rfl) (by kernel_rfl) (lt := laws_toQueryS.L) (by kernel_rfl) (fun b A h => by
    unfold laws_toQueryS.L at h; split at h
    · cases h; exact ⟨by kernel_rfl, by kernel_rfl, fun _ => rfl, fun _ => rfl⟩
    · cases h) (fun b A h => by
    unfold laws_toQueryS.L at h; split at h
    · cases h; exact fun k x => laws_toQueryS.step0 k x.1 x.2.1 x.2.2.1
    · cases h) ((laws_toQueryS.run k a0).trans h) fun r hr => wk_view1 hr
theorem laws_toQuery.all (hE : EnvOk Tryd.prog envX) (pv : Nat → Value) : ∀ k k', k' ≤ k → laws_toQuery.Gd pv k' := by
  intro k
  induction k with
  | zero =>
    intro k' hk
    obtain rfl : k' = 0 := by omega
    exact ⟨fun _ y h => (by cases (show (none : Option _) = some y from h)), fun _ y h => (by cases (show (none : Option _) = some y from h))⟩
  | succ k ih =>
    intro k' hk
    rcases Nat.lt_or_ge k' (k + 1) with hlt | hge
    · exact ih k' (by omega)
    · obtain rfl : k' = k + 1 := by omega
      exact ⟨fun a0 y h => laws_toQuery.gd hE pv k ih a0 h, fun a0 y h => laws_toQueryS.gd hE pv k ih a0 h⟩
theorem laws_toQuery.good (hE : EnvOk Tryd.prog envX) (pv : Nat → Value) (k : Nat) (a0 : Query) {y : _} (h : laws_toQuery.F k a0 = some y) : Meets Tryd.prog envX pv (.f 13) (tvals [.query] (a0, ())) (.t .query y) :=
  (laws_toQuery.all hE pv k k (Nat.le_refl k)).1 a0 h
theorem laws_toQueryS.good (hE : EnvOk Tryd.prog envX) (pv : Nat → Value) (k : Nat) (a0 : List Query) {y : _} (h : laws_toQueryS.F k a0 = some y) : Meets Tryd.prog envX pv (.f 38) (tvals [(.sl .query)] (a0, ())) (.t (.sl .query) y) :=
  (laws_toQuery.all hE pv k k (Nat.le_refl k)).2 a0 h
/-! ### 51 loop.example/g00896/impl.inside -/
def impl_inside.F (a0 : Int) (a1 : Int) (a2 : Int) : Option (Bool) := bif (decide (a0 ≥ a1)) then (some (decide (a0 ≤ a2))) else (some false)
def impl_inside.C : Cal → Option CArm := fun c => match c with
  | _ => none
theorem impl_inside.run (a0 : Int) (a1 : Int) (a2 : Int) : runF envX (tabC impl_inside.C) (tabL 15 0 (fun _ => none)) Tryd.f51 [.t (.int .i64) a0, .t (.int .i64) a1, .t (.int .i64) a2] (viewR1 (.t .bool)) = impl_inside.F a0 a1 a2 := by kernel_rfl
theorem impl_inside.G (hE : EnvOk Tryd.prog envX) (pv : Nat → Value) : ∀ cal A, impl_inside.C cal = some A → ArmOk Tryd.prog envX pv cal A := by
  intro cal A h
  unfold impl_inside.C at h
  cases h
theorem impl_inside.good (hE : EnvOk Tryd.prog envX) (pv : Nat → Value) (a0 : Int) (a1 : Int) (a2 : Int) {y : _} (h : impl_inside.F a0 a1 a2 = some y) : Meets Tryd.prog envX pv (.f 51) (tvals [(.int .i64), (.int .i64), (.int .i64)] (a0, a1, a2, ())) (.t .bool y) :=
  fun_plain hE (impl_inside.G hE pv) (f := 51) (fn := Tryd.f51) (by kernel_rfl) rfl (by kernel_rfl) (by kernel_rfl) ((impl_inside.run a0 a1 a2).trans h) fun r hr => wk_view1 hr
/-! ### 83 loop.example/g00896/impl.isLower -/
def impl_isLower.F (a0 : Int) : Option (Bool) := bif (decide (a0 ≥ 97)) then (some (decide (a0 ≤ 122))) else (some false)
def impl_isLower.C : Cal → Option CArm := fun c => match c with
  | _ => none
theorem impl_isLower.run (a0 : Int) : runF envX (tabC impl_isLower.C) (tabL 9 0 (fun _ => none)) Tryd.f83 [.t (.int .u8) a0] (viewR1 (.t .bool)) = impl_isLower.F a0 := by kernel_rfl
theorem impl_isLower.G (hE : EnvOk Tryd.prog envX) (pv : Nat → Value) : ∀ cal A, impl_isLower.C cal = some A → ArmOk Tryd.prog envX pv cal A := by
  intro cal A h
  unfold impl_isLower.C at h
  cases h
theorem impl_isLower.good (hE : EnvOk Tryd.prog envX) (pv : Nat → Value) (a0 : Int) {y : _} (h : impl_isLower.F a0 = some y) : Meets Tryd.prog envX pv (.f 83) (tvals [(.int .u8)] (a0, ())) (.t .bool y) :=
  fun_plain hE (impl_isLower.G hE pv) (f := 83) (fn := Tryd.f83) (by kernel_rfl) rfl (by kernel_rfl) (by kernel_rfl) ((impl_isLower.run a0).trans h) fun r hr => wk_view1 hr
/-! ### 84 loop.example/g00896/impl.isDigit -/
def impl_isDigit.F (a0 : Int) : Option (Bool) := bif (decide (a0 ≥ 48)) then (some (decide (a0 ≤ 57))) else (some false)
def impl_isDigit.C : Cal → Option CArm := fun c => match c with
  | _ => none
theorem impl_isDigit.run (a0 : Int) : runF envX (tabC impl_isDigit.C) (tabL 9 0 (fun _ => none)) Tryd.f84 [.t (.int .u8) a0] (viewR1 (.t .bool)) = impl_isDigit.F a0 := by kernel_rfl
theorem impl_isDigit.G (hE : EnvOk Tryd.prog envX) (pv : Nat → Value) : ∀ cal A, impl_isDigit.C cal = some A → ArmOk Tryd.prog envX pv cal A := by
  intro cal A h
  unfold impl_isDigit.C at h
  cases h
theorem impl_isDigit.good (hE : EnvOk Tryd.prog envX) (pv : Nat → Value) (a0 : Int) {y : _} (h : impl_isDigit.F a0 = some y) : Meets Tryd.prog envX pv (.f 84) (tvals [(.int .u8)] (a0, ())) (.t .bool y) :=
  fun_plain hE (impl_isDigit.G hE pv) (f := 84) (fn := Tryd.f84) (by kernel_rfl) rfl (by kernel_rfl) (by kernel_rfl) ((impl_isDigit.run a0).trans h) fun r hr => wk_view1 hr
/-! ### 64 loop.example/g00896/impl.isQueryWord -/
def impl_isQueryWord.l0 : Nat → ByteArray → Int → Option (Sum Bool ByteArray)
  | 0, _, _ => none
  | k + 1, x0, x3 => bif (decide (x3 < (x0.size : Int))) then (bif decide (0 ≤ x3) then (bif decide (x3 < (x0.size : Int)) then ((impl_isLower.F (bt x0 (x3 : Int).toNat)).bind fun r1 => bif (!r1) then (bif decide (0 ≤ x3) then (bif decide (x3 < (x0.size : Int)) then ((impl_isDigit.F (bt x0 (x3 : Int).toNat)).bind fun r2 => bif (!r2) then (some (.inl false)) else (impl_isQueryWord.l0 k x0 (IntKind.wrap .i64 (x3 + 1)))) else none) else none) else (impl_isQueryWord.l0 k x0 (IntKind.wrap .i64 (x3 + 1)))) else none) else none) else (some (.inr x0))
def impl_isQueryWord.F (k : Nat) (a0 : ByteArray) : Option (Bool) := (impl_isQueryWord.l0 k a0 0).bind fun y3 => match y3 with | .inl z4 => some z4 | .inr z4 => (impl_inside.F (z4.size : Int) 1 15).bind fun r5 => bif r5 then (bif (!beqS z4 (⟨#[110, 111, 116]⟩ : ByteArray)) then (bif (!beqS z4 (⟨#[97, 110, 100]⟩ : ByteArray)) then (some (!beqS z4 (⟨#[111, 114]⟩ : ByteArray))) else (some false)) else (some false)) else (some false)
def impl_isQueryWord.C (k : Nat) : Cal → Option CArm := fun c => match c with
  | .f 83 => some (.p [(.int .u8)] _ (fun x => impl_isLower.F x.1) (fun r => (.t .bool r)))
  | .f 84 => some (.p [(.int .u8)] _ (fun x => impl_isDigit.F x.1) (fun r => (.t .bool r)))
  | .f 51 => some (.p [(.int .i64), (.int .i64), (.int .i64)] _ (fun x => impl_inside.F x.1 x.2.1 x.2.2.1) (fun r => (.t .bool r)))
  | _ => none
def impl_isQueryWord.sp0 : List Sp := [.t 0 .str, .t 3 (.int .i64)]
def impl_isQueryWord.sp0_0 : List Sp := [.t 2 .bool]
def impl_isQueryWord.sp0_1 : List Sp := [.t 0 .str]
def impl_isQueryWord.A0 : LArm := .two impl_isQueryWord.sp0 impl_isQueryWord.sp0_0 impl_isQueryWord.sp0_1 (Bool) (ByteArray) (fun k x => impl_isQueryWord.l0 k x.1 x.2.1) .ret (.exit 0) (fun y => (y, ())) (fun x => x.1) (fun y => (y, ())) (fun x => x.1)
def impl_isQueryWord.L : Nat → Option LArm := fun b => match b with
  | 0 => some impl_isQueryWord.A0
  | _ => none
theorem impl_isQueryWord.run (k : Nat) (a0 : ByteArray) : runF envX (tabC (impl_isQueryWord.C k)) (tabL 37 k impl_isQueryWord.L) Tryd.f64 [.t .str a0] (viewR1 (.t .bool)) = impl_isQueryWord.F k a0 := by kernel_rfl
theorem impl_isQueryWord.step0 (k : Nat) (x0 : ByteArray) (x3 : Int) : runC envX (tabC (impl_isQueryWord.C k)) (tabL 37 k impl_isQueryWord.L) 0 (loopAt Tryd.f64 0) (stOf 37 impl_isQueryWord.sp0 (x0, x3, ())) (impl_isQueryWord.A0.cont 37 k) = impl_isQueryWord.l0 (k + 1) x0 x3 := by kernel_rfl
theorem impl_isQueryWord.G (hE : EnvOk Tryd.prog envX) (pv : Nat → Value) (k : Nat) : ∀ cal A, impl_isQueryWord.C k cal = some A → ArmOk Tryd.prog envX pv cal A := by
  intro cal A h
  unfold impl_isQueryWord.C at h
  split at h
  · cases h; exact fun x y hy => impl_isLower.good hE pv x.1 hy
  · cases h; exact fun x y hy => impl_isDigit.good hE pv x.1 hy
  · cases h; exact fun x y hy => impl_inside.good hE pv x.1 x.2.1 x.2.2.1 hy
  · cases h
theorem impl_isQueryWord.good (hE : EnvOk Tryd.prog envX) (pv : Nat → Value) (k : Nat) (a0 : ByteArray) {y : _} (h : impl_isQueryWord.F k a0 = some y) : Meets Tryd.prog envX pv (.f 64) (tvals [.str] (a0, ())) (.t .bool y) :=
  fun_loops hE (t := impl_isQueryWord.C) k (fun k _ => impl_isQueryWord.G hE pv k) (f := 64) (fn := Tryd.f64) (by kernel_rfl) rfl (by kernel_rfl) (by kernel_rfl) (lt := impl_isQueryWord.L) (by kernel_rfl) (fun b A h => by
    unfold impl_isQueryWord.L at h; split at h
    · cases h; exact ⟨by kernel_rfl, by kernel_rfl, by kernel_rfl, fun _ => rfl, fun _ => rfl, fun _ => rfl⟩
    · cases h) (fun b A h => by
    unfold impl_isQueryWord.L at h; split at h
    · cases h; exact fun k x => impl_isQueryWord.step0 k x.1 x.2.1
    · cases h) ((impl_isQueryWord.run k a0).trans h) fun r hr => wk_view1 hr
/-! ### 109 slices.Index[[]string,string] -/
def slices_Index_string.l0 : Nat → (List ByteArray) → ByteArray → Int → Int → Option (Sum Int Unit)
  | 0, _, _, _, _ => none
  | k + 1, x0, x1, x7, x8 => bif (decide (x8 < x7)) then (bif decide (0 ≤ x8) then (bif decide (x8 < (x0.length : Int)) then (bif (beqS x1 (x0.getD (x8 : Int).toNat (⟨#[]⟩ : ByteArray))) then (some (.inl x8)) else (slices_Index_string.l0 k x0 x1 x7 (IntKind.wrap .i64 (x8 + 1)))) else none) else none) else (some (.inr ()))
def slices_Index_string.F (k : Nat) (a0 : List ByteArray) (a1 : ByteArray) : Option (Int) := (slices_Index_string.l0 k a0 a1 (a0.length : Int) 0).bind fun y1 => match y1 with | .inl z2 => some z2 | .inr z2 => some (-1)
def slices_Index_string.C (k : Nat) : Cal → Option CArm := fun c => match c with
  | _ => none
def slices_Index_string.sp0 : List Sp := [.t 0 (.sl .str), .t 1 .str, .t 7 (.int .i64), .t 8 (.int .i64)]
def slices_Index_string.sp0_0 : List Sp := [.t 4 (.int .i64)]
def slices_Index_string.sp0_1 : List Sp := []
def slices_Index_string.A0 : LArm := .two slices_Index_string.sp0 slices_Index_string.sp0_0 slices_Index_string.sp0_1 (Int) (Unit) (fun k x => slices_Index_string.l0 k x.1 x.2.1 x.2.2.1 x.2.2.2.1) .ret (.exit 0) (fun y => (y, ())) (fun x => x.1) (fun y => ()) (fun x => ())
def slices_Index_string.L : Nat → Option LArm := fun b => match b with
  | 0 => some slices_Index_string.A0
  | _ => none
theorem slices_Index_string.run (k : Nat) (a0 : List ByteArray) (a1 : ByteArray) : runF envX (tabC (slices_Index_string.C k)) (tabL 19 k slices_Index_string.L) Tryd.f109 [.t (.sl .str) a0, .t .str a1] (viewR1 (.t (.int .i64))) = slices_Index_string.F k a0 a1 := by kernel_rfl
theorem slices_Index_string.step0 (k : Nat) (x0 : List ByteArray) (x1 : ByteArray) (x7 : Int) (x8 : Int) : runC envX (tabC (slices_Index_string.C k)) (tabL 19 k slices_Index_string.L) 0 (loopAt Tryd.f109 0) (stOf 19 slices_Index_string.sp0 (x0, x1, x7, x8, ())) (slices_Index_string.A0.cont 19 k) = slices_Index_string.l0 (k + 1) x0 x1 x7 x8 := by kernel_rfl
theorem slices_Index_string.G (hE : EnvOk Tryd.prog envX) (pv : Nat → Value) (k : Nat) : ∀ cal A, slices_Index_string.C k cal = some A → ArmOk Tryd.prog envX pv cal A := by
  intro cal A h
  unfold slices_Index_string.C at h
  cases h
theorem slices_Index_string.good (hE : EnvOk Tryd.prog envX) (pv : Nat → Value) (k : Nat) (a0 : List ByteArray) (a1 : ByteArray) {y : _} (h : slices_Index_string.F k a0 a1 = some y) : Meets Tryd.prog envX pv (.f 109) (tvals [(.sl .str), .str] (a0, a1, ())) (.t (.int .i64) y) :=
  fun_loops hE (t := slices_Index_string.C) k (fun k _ => slices_Index_string.G hE pv k) (f := 109) (fn := Tryd.f109) (by kernel_rfl) rfl (by kernel_rfl) (by kernel_rfl) (lt := slices_Index_string.L) (by kernel_rfl) (fun b A h => by
    unfold slices_Index_string.L at h; split at h
    · cases h; exact ⟨by kernel_rfl, by kernel_rfl, by kernel_rfl, fun _ => rfl, fun _ => rfl, fun _ => rfl⟩
    · cases h) (fun b A h => by
    unfold slices_Index_string.L at h; split at h
    · cases h; exact fun k x => slices_Index_string.step0 k x.1 x.2.1 x.2.2.1 x.2.2.2.1
    · cases h) ((slices_Index_string.run k a0 a1).trans h) fun r hr => wk_view1 hr
/-! ### 85 slices.Contains[[]string,string] -/
def slices_Contains_string.F (k : Nat) (a0 : List ByteArray) (a1 : ByteArray) : Option (Bool) := (slices_Index_string.F k a0 a1).bind fun r1 => some (decide (r1 ≥ 0))
def slices_Contains_string.C (k : Nat) : Cal → Option CArm := fun c => match c with
  | .f 109 => some (.p [(.sl .str), .str] _ (fun x => slices_Index_string.F k x.1 x.2.1) (fun r => (.t (.int .i64) r)))
  | _ => none
theorem slices_Contains_string.run (k : Nat) (a0 : List ByteArray) (a1 : ByteArray) : runF envX (tabC (slices_Contains_string.C k)) (tabL 9 0 (fun _ => none)) Tryd.f85 [.t (.sl .str) a0, .t .str a1] (viewR1 (.t .bool)) = slices_Contains_string.F k a0 a1 := by kernel_rfl
theorem slices_Contains_string.G (hE : EnvOk Tryd.prog envX) (pv : Nat → Value) (k : Nat) : ∀ cal A, slices_Contains_string.C k cal = some A → ArmOk Tryd.prog envX pv cal A := by
  intro cal A h
  unfold slices_Contains_string.C at h
  split at h
  · cases h; exact fun x y hy => slices_Index_string.good hE pv k x.1 x.2.1 hy
  · cases h
theorem slices_Contains_string.good (hE : EnvOk Tryd.prog envX) (pv : Nat → Value) (k : Nat) (a0 : List ByteArray) (a1 : ByteArray) {y : _} (h : slices_Contains_string.F k a0 a1 = some y) : Meets Tryd.prog envX pv (.f 85) (tvals [(.sl .str), .str] (a0, a1, ())) (.t .bool y) :=
  fun_plain hE (slices_Contains_string.G hE pv k) (f := 85) (fn := Tryd.f85) (by kernel_rfl) rfl (by kernel_rfl) (by kernel_rfl) ((slices_Contains_string.run k a0 a1).trans h) fun r hr => wk_view1 hr
/-! ### 65 loop.example/g00896/impl.isField -/
def impl_isField.F (k : Nat) (a0 : ByteArray) : Option (Bool) := (slices_Contains_string.F k glV0 a0).bind fun r1 => some r1
def impl_isField.C (k : Nat) : Cal → Option CArm := fun c => match c with
  | .f 85 => some (.p [(.sl .str), .str] _ (fun x => slices_Contains_string.F k x.1 x.2.1) (fun r => (.t .bool r)))
  | _ => none
theorem impl_isField.run (k : Nat) (a0 : ByteArray) : runF envX (tabC (impl_isField.C k)) (tabL 6 0 (fun _ => none)) Tryd.f65 [.t .str a0] (viewR1 (.t .bool)) = impl_isField.F k a0 := by kernel_rfl
theorem impl_isField.G (hE : EnvOk Tryd.prog envX) (pv : Nat → Value) (k : Nat) : ∀ cal A, impl_isField.C k cal = some A → ArmOk Tryd.prog envX pv cal A := by
  intro cal A h
  unfold impl_isField.C at h
  split at h
  · cases h; exact fun x y hy => slices_Contains_string.good hE pv k x.1 x.2.1 hy
  · cases h
theorem impl_isField.good (hE : EnvOk Tryd.prog envX) (pv : Nat → Value) (k : Nat) (a0 : ByteArray) {y : _} (h : impl_isField.F k a0 = some y) : Meets Tryd.prog envX pv (.f 65) (tvals [.str] (a0, ())) (.t .bool y) :=
  fun_plain hE (impl_isField.G hE pv k) (f := 65) (fn := Tryd.f65) (by kernel_rfl) rfl (by kernel_rfl) (by kernel_rfl) ((impl_isField.run k a0).trans h) fun r hr => wk_view1 hr
/-! ### 39 loop.example/g00896/impl.queries -/
mutual
def impl_queries.F : Nat → Query → Int → Option (Int × Bool)
  | 0, _, _ => none
  | k + 1, a0, a1 => bif (decide (a1 < 1)) then (some (0, false)) else (bif (a0.op == 1) then ((impl_isQueryWord.F k a0.word).bind fun r1 => bif r1 then (bif (beqS a0.field (⟨#[]⟩ : ByteArray)) then ((impl_queries.l1 k a1 ((a0.parts.length : Int) == 0) 1 a0.parts (a0.parts.length : Int) 0).bind fun y3 => match y3 with | .inl z4 => some (z4.1, z4.2) | .inr z4 => some (z4.2, z4.1)) else ((impl_isField.F k a0.field).bind fun r5 => bif r5 then ((impl_queries.l1 k a1 ((a0.parts.length : Int) == 0) 1 a0.parts (a0.parts.length : Int) 0).bind fun y7 => match y7 with | .inl z8 => some (z8.1, z8.2) | .inr z8 => some (z8.2, z8.1)) else ((impl_queries.l1 k a1 false 1 a0.parts (a0.parts.length : Int) 0).bind fun y10 => match y10 with | .inl z11 => some (z11.1, z11.2) | .inr z11 => some (z11.2, z11.1)))) else ((impl_queries.l1 k a1 false 1 a0.parts (a0.parts.length : Int) 0).bind fun y13 => match y13 with | .inl z14 => some (z14.1, z14.2) | .inr z14 => some (z14.2, z14.1))) else (bif (a0.op == 2) then (bif (beqS a0.word (⟨#[]⟩ : ByteArray)) then (bif (beqS a0.field (⟨#[]⟩ : ByteArray)) then ((impl_queries.l1 k a1 ((a0.parts.length : Int) == 1) 1 a0.parts (a0.parts.length : Int) 0).bind fun y16 => match y16 with | .inl z17 => some (z17.1, z17.2) | .inr z17 => some (z17.2, z17.1)) else ((impl_queries.l1 k a1 false 1 a0.parts (a0.parts.length : Int) 0).bind fun y19 => match y19 with | .inl z20 => some (z20.1, z20.2) | .inr z20 => some (z20.2, z20.1))) else ((impl_queries.l1 k a1 false 1 a0.parts (a0.parts.length : Int) 0).bind fun y22 => match y22 with | .inl z23 => some (z23.1, z23.2) | .inr z23 => some (z23.2, z23.1))) else (bif (a0.op == 3) then (bif (a0.op == 3) then (bif (beqS a0.word (⟨#[]⟩ : ByteArray)) then (bif (beqS a0.field (⟨#[]⟩ : ByteArray)) then ((impl_queries.l1 k a1 ((a0.parts.length : Int) == 2) 1 a0.parts (a0.parts.length : Int) 0).bind fun y25 => match y25 with | .inl z26 => some (z26.1, z26.2) | .inr z26 => some (z26.2, z26.1)) else ((impl_queries.l1 k a1 false 1 a0.parts (a0.parts.length : Int) 0).bind fun y28 => match y28 with | .inl z29 => some (z29.1, z29.2) | .inr z29 => some (z29.2, z29.1))) else ((impl_queries.l1 k a1 false 1 a0.parts (a0.parts.length : Int) 0).bind fun y31 => match y31 with | .inl z32 => some (z32.1, z32.2) | .inr z32 => some (z32.2, z32.1))) else ((impl_queries.l1 k a1 false 1 a0.parts (a0.parts.length : Int) 0).bind fun y34 => match y34 with | .inl z35 => some (z35.1, z35.2) | .inr z35 => some (z35.2, z35.1))) else (bif (a0.op == 4) then (bif (beqS a0.word (⟨#[]⟩ : ByteArray)) then (bif (beqS a0.field (⟨#[]⟩ : ByteArray)) then ((impl_queries.l1 k a1 ((a0.parts.length : Int) == 2) 1 a0.parts (a0.parts.length : Int) 0).bind fun y37 => match y37 with | .inl z38 => some (z38.1, z38.2) | .inr z38 => some (z38.2, z38.1)) else ((impl_queries.l1 k a1 false 1 a0.parts (a0.parts.length : Int) 0).bind fun y40 => match y40 with | .inl z41 => some (z41.1, z41.2) | .inr z41 => some (z41.2, z41.1))) else ((impl_queries.l1 k a1 false 1 a0.parts (a0.parts.length : Int) 0).bind fun y43 => match y43 with | .inl z44 => some (z44.1, z44.2) | .inr z44 => some (z44.2, z44.1))) else ((impl_queries.l1 k a1 false 1 a0.parts (a0.parts.length : Int) 0).bind fun y46 => match y46 with | .inl z47 => some (z47.1, z47.2) | .inr z47 => some (z47.2, z47.1))))))
def impl_queries.l1 : Nat → Int → Bool → Int → (List Query) → Int → Int → Option (Sum (Int × Bool) (Bool × Int))
  | 0, _, _, _, _, _, _ => none
  | k + 1, x1, x6, x7, x71, x72, x73 => bif (decide (x73 < x72)) then (bif decide (0 ≤ x73) then (bif decide (x73 < (x71.length : Int)) then (bif (!x6) then (some (.inl (0, false))) else ((impl_queries.F k (x71.getD (x73 : Int).toNat (dflt .query)) (IntKind.wrap .i64 (x1 - x7))).bind fun r45 => impl_queries.l1 k x1 r45.2 (IntKind.wrap .i64 (x7 + r45.1)) x71 x72 (IntKind.wrap .i64 (x73 + 1)))) else none) else none) else (some (.inr (x6, x7)))
end
def impl_queries.C (k : Nat) : Cal → Option CArm := fun c => match c with
  | .f 64 => some (.p [.str] _ (fun x => impl_isQueryWord.F k x.1) (fun r => (.t .bool r)))
  | .f 39 => some (.p [.query, (.int .i64)] _ (fun x => impl_queries.F k x.1 x.2.1) (fun r => (.tup [.t (.int .i64) r.1, .t .bool r.2])))
  | .f 65 => some (.p [.str] _ (fun x => impl_isField.F k x.1) (fun r => (.t .bool r)))
  | _ => none
def impl_queries.sp1 : List Sp := [.t 1 (.int .i64), .t 6 .bool, .t 7 (.int .i64), .t 71 (.sl .query), .t 72 (.int .i64), .t 73 (.int .i64)]
def impl_queries.sp1_0 : List Sp := [.t 4 (.int .i64), .t 5 .bool]
def impl_queries.sp1_1 : List Sp := [.t 6 .bool, .t 7 (.int .i64)]
def impl_queries.A1 : LArm := .two impl_queries.sp1 impl_queries.sp1_0 impl_queries.sp1_1 (Int × Bool) (Bool × Int) (fun k x => impl_queries.l1 k x.1 x.2.1 x.2.2.1 x.2.2.2.1 x.2.2.2.2.1 x.2.2.2.2.2.1) .ret (.exit 1) (fun y => (y.1, y.2, ())) (fun x => (x.1, x.2.1)) (fun y => (y.1, y.2, ())) (fun x => (x.1, x.2.1))
def impl_queries.L : Nat → Option LArm := fun b => match b with
  | 1 => some impl_queries.A1
  | _ => none
theorem impl_queries.run (k : Nat) (a0 : Query) (a1 : Int) : runF envX (tabC (impl_queries.C k)) (tabL 94 k impl_queries.L) Tryd.f39 [.t .query a0, .t (.int .i64) a1] (viewR2 (.t (.int .i64)) (.t .bool)) = impl_queries.F (k + 1) a0 a1 := by kernel_rfl
theorem impl_queries.step1 (k : Nat) (x1 : Int) (x6 : Bool) (x7 : Int) (x71 : List Query) (x72 : Int) (x73 : Int) : runC envX (tabC (impl_queries.C k)) (tabL 94 k impl_queries.L) 1 (loopAt Tryd.f39 1) (stOf 94 impl_queries.sp1 (x1, x6, x7, x71, x72, x73, ())) (impl_queries.A1.cont 94 k) = impl_queries.l1 (k + 1) x1 x6 x7 x71 x72 x73 := by kernel_rfl
def impl_queries.Gd (pv : Nat → Value) (k : Nat) : Prop := (∀ (a0 : Query) (a1 : Int) {y : _}, impl_queries.F k a0 a1 = some y → Meets Tryd.prog envX pv (.f 39) (tvals [.query, (.int .i64)] (a0, a1, ())) (.tup [.t (.int .i64) y.1, .t .bool y.2]))
theorem impl_queries.G (hE : EnvOk Tryd.prog envX) (pv : Nat → Value) (k : Nat) (hI : impl_queries.Gd pv k) : ∀ cal A, impl_queries.C k cal = some A → ArmOk Tryd.prog envX pv cal A := by
  intro cal A h
  unfold impl_queries.C at h
  split at h
  · cases h; exact fun x y hy => impl_isQueryWord.good hE pv k x.1 hy
  · cases h; exact fun x y hy => hI x.1 x.2.1 hy
  · cases h; exact fun x y hy => impl_isField.good hE pv k x.1 hy
  · cases h
theorem impl_queries.gd (hE : EnvOk Tryd.prog envX) (pv : Nat → Value) (k : Nat) (hI : ∀ k', k' ≤ k → impl_queries.Gd pv k') (a0 : Query) (a1 : Int) {y : _} (h : impl_queries.F (k + 1) a0 a1 = some y) : Meets Tryd.prog envX pv (.f 39) (tvals [.query, (.int .i64)] (a0, a1, ())) (.tup [.t (.int .i64) y.1, .t .bool y.2]) :=
  fun_loops hE (t := impl_queries.C) k (fun k hk => impl_queries.G hE pv k (hI k hk)) (f := 39) (fn := Tryd.f39) (by kernel_rfl) rfl (by kernel_rfl) (by kernel_rfl) (lt := impl_queries.L) (by kernel_rfl) (fun b A h => by
    unfold impl_queries.L at h; split at h
    · cases h; exact ⟨by kernel_rfl, by kernel_rfl, by kernel_rfl, fun _ => rfl, fun _ => rfl, fun _ => rfl⟩
    · cases h) (fun b A h => by
    unfold impl_queries.L at h; split at h
    · cases h; exact fun k x => impl_queries.step1 k x.1 x.2.1 x.2.2.1 x.2.2.2.1 x.2.2.2.2.1 x.2.2.2.2.2.1
    · cases h) ((impl_queries.run k a0 a1).trans h) fun r hr => wk_view2 hr
theorem impl_queries.all (hE : EnvOk Tryd.prog envX) (pv : Nat → Value) : ∀ k k', k' ≤ k → impl_queries.Gd pv k' := by
  intro k
  induction k with
  | zero =>
    intro k' hk
    obtain rfl : k' = 0 := by omega
    exact fun _ _ y h => by cases (show (none : Option _) = some y from h)
  | succ k ih =>
    intro k' hk
    rcases Nat.lt_or_ge k' (k + 1) with hlt | hge
    · exact ih k' (by omega)
    · obtain rfl : k' = k + 1 := by omega
      exact fun a0 a1 y h => impl_queries.gd hE pv k ih a0 a1 h
theorem impl_queries.good (hE : EnvOk Tryd.prog envX) (pv : Nat → Value) (k : Nat) (a0 : Query) (a1 : Int) {y : _} (h : impl_queries.F k a0 a1 = some y) : Meets Tryd.prog envX pv (.f 39) (tvals [.query, (.int .i64)] (a0, a1, ())) (.tup [.t (.int .i64) y.1, .t .bool y.2]) :=
  (impl_queries.all hE pv k k (Nat.le_refl k)) a0 a1 h
/-! ### 14 loop.example/g00896/impl.IsValidQuery -/
def impl_IsValidQuery.F (k : Nat) (a0 : Query) : Option (Bool) := (impl_queries.F k a0 15).bind fun r1 => some r1.2
def impl_IsValidQuery.C (k : Nat) : Cal → Option CArm := fun c => match c with
  | .f 39 => some (.p [.query, (.int .i64)] _ (fun x => impl_queries.F k x.1 x.2.1) (fun r => (.tup [.t (.int .i64) r.1, .t .bool r.2])))
  | _ => none
theorem impl_IsValidQuery.run (k : Nat) (a0 : Query) : runF envX (tabC (impl_IsValidQuery.C k)) (tabL 11 0 (fun _ => none)) Tryd.f14 [.t .query a0] (viewR1 (.t .bool)) = impl_IsValidQuery.F k a0 := by kernel_rfl
theorem impl_IsValidQuery.G (hE : EnvOk Tryd.prog envX) (pv : Nat → Value) (k : Nat) : ∀ cal A, impl_IsValidQuery.C k cal = some A → ArmOk Tryd.prog envX pv cal A := by
  intro cal A h
  unfold impl_IsValidQuery.C at h
  split at h
  · cases h; exact fun x y hy => impl_queries.good hE pv k x.1 x.2.1 hy
  · cases h
theorem impl_IsValidQuery.good (hE : EnvOk Tryd.prog envX) (pv : Nat → Value) (k : Nat) (a0 : Query) {y : _} (h : impl_IsValidQuery.F k a0 = some y) : Meets Tryd.prog envX pv (.f 14) (tvals [.query] (a0, ())) (.t .bool y) :=
  fun_plain hE (impl_IsValidQuery.G hE pv k) (f := 14) (fn := Tryd.f14) (by kernel_rfl) rfl (by kernel_rfl) (by kernel_rfl) ((impl_IsValidQuery.run k a0).trans h) fun r hr => wk_view1 hr
/-! ### 15 loop.example/g00896/laws.eqQuery, 40 loop.example/g00896/laws.eqQueryS -/
mutual
def laws_eqQuery.F : Nat → Query → Query → Option (Bool)
  | 0, _, _ => none
  | k + 1, a0, a1 => bif (a0.op != a1.op) then (some false) else (bif (!beqS a0.field a1.field) then (some false) else (bif (!beqS a0.word a1.word) then (some false) else ((laws_eqQueryS.F k a0.parts a1.parts).bind fun r1 => bif (!r1) then (some false) else (some true))))
def laws_eqQueryS.F : Nat → (List Query) → (List Query) → Option (Bool)
  | 0, _, _ => none
  | k + 1, a0, a1 => bif ((a0.length : Int) != (a1.length : Int)) then (some false) else ((laws_eqQueryS.l0 k a0 a1 0).bind fun y2 => match y2 with | .inl z3 => some z3 | .inr z3 => some true)
def laws_eqQueryS.l0 : Nat → (List Query) → (List Query) → Int → Option (Sum Bool Unit)
  | 0, _, _, _ => none
  | k + 1, x0, x1, x5 => bif (decide (x5 < (x0.length : Int))) then (bif decide (0 ≤ x5) then (bif decide (x5 < (x0.length : Int)) then (bif decide (0 ≤ x5) then (bif decide (x5 < (x1.length : Int)) then ((laws_eqQuery.F k (x0.getD (x5 : Int).toNat (dflt .query)) (x1.getD (x5 : Int).toNat (dflt .query))).bind fun r1 => bif (!r1) then (some (.inl false)) else (laws_eqQueryS.l0 k x0 x1 (IntKind.wrap .i64 (x5 + 1)))) else none) else none) else none) else none) else (some (.inr ()))
end
def laws_eqQuery.C (k : Nat) : Cal → Option CArm := fun c => match c with
  | .f 40 => some (.p [(.sl .query), (.sl .query)] _ (fun x => laws_eqQueryS.F k x.1 x.2.1) (fun r => (.t .bool r)))
  | _ => none
theorem laws_eqQuery.run (k : Nat) (a0 : Query) (a1 : Query) : runF envX (tabC (laws_eqQuery.C k)) (tabL 26 0 (fun _ => none)) Tryd.f15 [.t .query a0, .t .query a1] (viewR1 (.t .bool)) = laws_eqQuery.F (k + 1) a0 a1 := by kernel_rfl
def laws_eqQueryS.C (k : Nat) : Cal → Option CArm := fun c => match c with
  | .f 15 => some (.p [.query, .query] _ (fun x => laws_eqQuery.F k x.1 x.2.1) (fun r => (.t .bool r)))
  | _ => none
def laws_eqQueryS.sp0 : List Sp := [.t 0 (.sl .query), .t 1 (.sl .query), .t 5 (.int .i64)]
def laws_eqQueryS.sp0_0 : List Sp := [.t 4 .bool]
def laws_eqQueryS.sp0_1 : List Sp := []
def laws_eqQueryS.A0 : LArm := .two laws_eqQueryS.sp0 laws_eqQueryS.sp0_0 laws_eqQueryS.sp0_1 (Bool) (Unit) (fun k x => laws_eqQueryS.l0 k x.1 x.2.1 x.2.2.1) .ret (.exit 0) (fun y => (y, ())) (fun x => x.1) (fun y => ()) (fun x => ())
def laws_eqQueryS.L : Nat → Option LArm := fun b => match b with
  | 0 => some laws_eqQueryS.A0
  | _ => none
theorem laws_eqQueryS.run (k : Nat) (a0 : List Query) (a1 : List Query) : runF envX (tabC (laws_eqQueryS.C k)) (tabL 27 k laws_eqQueryS.L) Tryd.f40 [.t (.sl .query) a0, .t (.sl .query) a1] (viewR1 (.t .bool)) = laws_eqQueryS.F (k + 1) a0 a1 := by kernel_rfl
theorem laws_eqQueryS.step0 (k : Nat) (x0 : List Query) (x1 : List Query) (x5 : Int) : runC envX (tabC (laws_eqQueryS.C k)) (tabL 27 k laws_eqQueryS.L) 0 (loopAt Tryd.f40 0) (stOf 27 laws_eqQueryS.sp0 (x0, x1, x5, ())) (laws_eqQueryS.A0.cont 27 k) = laws_eqQueryS.l0 (k + 1) x0 x1 x5 := by kernel_rfl
def laws_eqQuery.Gd (pv : Nat → Value) (k : Nat) : Prop := (∀ (a0 : Query) (a1 : Query) {y : _}, laws_eqQuery.F k a0 a1 = some y → Meets Tryd.prog envX pv (.f 15) (tvals [.query, .query] (a0, a1, ())) (.t .bool y)) ∧ (∀ (a0 : List Query) (a1 : List Query) {y : _}, laws_eqQueryS.F k a0 a1 = some y → Meets Tryd.prog envX pv (.f 40) (tvals [(.sl .query), (.sl .query)] (a0, a1, ())) (.t .bool y))
theorem laws_eqQuery.G (hE : EnvOk Tryd.prog envX) (pv : Nat → Value) (k : Nat) (hI : laws_eqQuery.Gd pv k) : ∀ cal A, laws_eqQuery.C k cal = some A → ArmOk Tryd.prog envX pv cal A := by
  intro cal A h
  unfold laws_eqQuery.C at h
  split at h
  · cases h; exact fun x y hy => hI.2 x.1 x.2.1 hy
  · cases h
theorem laws_eqQuery.gd (hE : EnvOk Tryd.prog envX) (pv : Nat → Value) (k : Nat) (hI : ∀ k', k' ≤ k → laws_eqQuery.Gd pv k') (a0 : Query) (a1 : Query) {y : _} (h : laws_eqQuery.F (k + 1) a0 a1 = some y) : Meets Tryd.prog envX pv (.f 15) (tvals [.query, .query] (a0, a1, ())) (.t .bool y) :=
  fun_plain hE (laws_eqQuery.G hE pv k (hI k (Nat.le_refl k))) (f := 15) (fn := Tryd.f15) (by kernel_rfl) rfl (by kernel_rfl) (by kernel_rfl) ((laws_eqQuery.run k a0 a1).trans h) fun r hr => wk_view1 hr
theorem laws_eqQueryS.G (hE : EnvOk Tryd.prog envX) (pv : Nat → Value) (k : Nat) (hI : laws_eqQuery.Gd pv k) : ∀ cal A, laws_eqQueryS.C k cal = some A → ArmOk Tryd.prog envX pv cal A := by
  intro cal A h
  unfold laws_eqQueryS.C at h
  split at h
  · cases h; exact fun x y hy => hI.1 x.1 x.2.1 hy
  · cases h
theorem laws_eqQueryS.gd (hE : EnvOk Tryd.prog envX) (pv : Nat → Value) (k : Nat) (hI : ∀ k', k' ≤ k → laws_eqQuery.Gd pv k') (a0 : List Query) (a1 : List Query) {y : _} (h : laws_eqQueryS.F (k + 1) a0 a1 = some y) : Meets Tryd.prog envX pv (.f 40) (tvals [(.sl .query), (.sl .query)] (a0, a1, ())) (.t .bool y) :=
  fun_loops hE (t := laws_eqQueryS.C) k (fun k hk => laws_eqQueryS.G hE pv k (hI k hk)) (f := 40) (fn := Tryd.f40) (by kernel_rfl) rfl (by kernel_rfl) (by kernel_rfl) (lt := laws_eqQueryS.L) (by kernel_rfl) (fun b A h => by
    unfold laws_eqQueryS.L at h; split at h
    · cases h; exact ⟨by kernel_rfl, by kernel_rfl, by kernel_rfl, fun _ => rfl, fun _ => rfl, fun _ => rfl⟩
    · cases h) (fun b A h => by
    unfold laws_eqQueryS.L at h; split at h
    · cases h; exact fun k x => laws_eqQueryS.step0 k x.1 x.2.1 x.2.2.1
    · cases h) ((laws_eqQueryS.run k a0 a1).trans h) fun r hr => wk_view1 hr
theorem laws_eqQuery.all (hE : EnvOk Tryd.prog envX) (pv : Nat → Value) : ∀ k k', k' ≤ k → laws_eqQuery.Gd pv k' := by
  intro k
  induction k with
  | zero =>
    intro k' hk
    obtain rfl : k' = 0 := by omega
    exact ⟨fun _ _ y h => (by cases (show (none : Option _) = some y from h)), fun _ _ y h => (by cases (show (none : Option _) = some y from h))⟩
  | succ k ih =>
    intro k' hk
    rcases Nat.lt_or_ge k' (k + 1) with hlt | hge
    · exact ih k' (by omega)
    · obtain rfl : k' = k + 1 := by omega
      exact ⟨fun a0 a1 y h => laws_eqQuery.gd hE pv k ih a0 a1 h, fun a0 a1 y h => laws_eqQueryS.gd hE pv k ih a0 a1 h⟩
theorem laws_eqQuery.good (hE : EnvOk Tryd.prog envX) (pv : Nat → Value) (k : Nat) (a0 : Query) (a1 : Query) {y : _} (h : laws_eqQuery.F k a0 a1 = some y) : Meets Tryd.prog envX pv (.f 15) (tvals [.query, .query] (a0, a1, ())) (.t .bool y) :=
  (laws_eqQuery.all hE pv k k (Nat.le_refl k)).1 a0 a1 h
theorem laws_eqQueryS.good (hE : EnvOk Tryd.prog envX) (pv : Nat → Value) (k : Nat) (a0 : List Query) (a1 : List Query) {y : _} (h : laws_eqQueryS.F k a0 a1 = some y) : Meets Tryd.prog envX pv (.f 40) (tvals [(.sl .query), (.sl .query)] (a0, a1, ())) (.t .bool y) :=
  (laws_eqQuery.all hE pv k k (Nat.le_refl k)).2 a0 a1 h
/-! ### 3 loop.example/g00896/laws.FnExactIsValidQuery -/
def laws_FnExactIsValidQuery.F (k : Nat) (a0 : Query) : Option (Bool) := (laws_szQuery.F k a0 1048576).bind fun r1 => bif (decide (r1 < 0)) then (some true) else ((laws_toQuery.F k a0).bind fun r2 => (spec_IsValidQuery.F k r2).bind fun r3 => (laws_toQuery.F k a0).bind fun r4 => (impl_IsValidQuery.F k r4).bind fun r5 => bif (!(r5 == r3)) then (some false) else ((laws_toQuery.F k a0).bind fun r6 => (laws_eqQuery.F k r4 r6).bind fun r7 => bif (!r7) then (some false) else (some true)))
def laws_FnExactIsValidQuery.C (k : Nat) : Cal → Option CArm := fun c => match c with
  | .f 11 => some (.p [.query, (.int .i64)] _ (fun x => laws_szQuery.F k x.1 x.2.1) (fun r => (.t (.int .i64) r)))
  | .f 13 => some (.p [.query] _ (fun x => laws_toQuery.F k x.1) (fun r => (.t .query r)))
  | .f 12 => some (.p [.query] _ (fun x => spec_IsValidQuery.F k x.1) (fun r => (.t .bool r)))
  | .f 14 => some (.p [.query] _ (fun x => impl_IsValidQuery.F k x.1) (fun r => (.t .bool r)))
  | .f 15 => some (.p [.query, .query] _ (fun x => laws_eqQuery.F k x.1 x.2.1) (fun r => (.t .bool r)))
  | _ => none
theorem laws_FnExactIsValidQuery.run (k : Nat) (a0 : Query) : runF envX (tabC (laws_FnExactIsValidQuery.C k)) (tabL 27 0 (fun _ => none)) Tryd.f3 [.t .query a0] (viewR1 (.t .bool)) = laws_FnExactIsValidQuery.F k a0 := by kernel_rfl
theorem laws_FnExactIsValidQuery.G (hE : EnvOk Tryd.prog envX) (pv : Nat → Value) (k : Nat) : ∀ cal A, laws_FnExactIsValidQuery.C k cal = some A → ArmOk Tryd.prog envX pv cal A := by
  intro cal A h
  unfold laws_FnExactIsValidQuery.C at h
  split at h
  · cases h; exact fun x y hy => laws_szQuery.good hE pv k x.1 x.2.1 hy
  · cases h; exact fun x y hy => laws_toQuery.good hE pv k x.1 hy
  · cases h; exact fun x y hy => spec_IsValidQuery.good hE pv k x.1 hy
  · cases h; exact fun x y hy => impl_IsValidQuery.good hE pv k x.1 hy
  · cases h; exact fun x y hy => laws_eqQuery.good hE pv k x.1 x.2.1 hy
  · cases h
theorem laws_FnExactIsValidQuery.good (hE : EnvOk Tryd.prog envX) (pv : Nat → Value) (k : Nat) (a0 : Query) {y : _} (h : laws_FnExactIsValidQuery.F k a0 = some y) : Meets Tryd.prog envX pv (.f 3) (tvals [.query] (a0, ())) (.t .bool y) :=
  fun_plain hE (laws_FnExactIsValidQuery.G hE pv k) (f := 3) (fn := Tryd.f3) (by kernel_rfl) rfl (by kernel_rfl) (by kernel_rfl) ((laws_FnExactIsValidQuery.run k a0).trans h) fun r hr => wk_view1 hr
/-! ### 41 loop.example/g00896/spec.l22Text -/
mutual
def spec_l22Text.F : Nat → Query → Option (ByteArray)
  | 0, _ => none
  | k + 1, a0 => bif (a0.op == 1) then (bif (beqS a0.field (⟨#[]⟩ : ByteArray)) then (some a0.word) else (bif Nat.ble (a0.field.size + (⟨#[58]⟩ : ByteArray).size) 9223372036854775807 then (bif Nat.ble ((a0.field ++ (⟨#[58]⟩ : ByteArray)).size + a0.word.size) 9223372036854775807 then (some ((a0.field ++ (⟨#[58]⟩ : ByteArray)) ++ a0.word)) else none) else none)) else (bif (a0.op == 2) then (bif decide (0 ≤ 0) then (bif decide (0 < (a0.parts.length : Int)) then ((spec_l22Text.F k (a0.parts.getD (0 : Int).toNat (dflt .query))).bind fun r1 => bif Nat.ble ((⟨#[110, 111, 116, 32]⟩ : ByteArray).size + r1.size) 9223372036854775807 then (some ((⟨#[110, 111, 116, 32]⟩ : ByteArray) ++ r1)) else none) else none) else none) else (bif (a0.op == 3) then (bif decide (0 ≤ 0) then (bif decide (0 < (a0.parts.length : Int)) then ((spec_l22Text.F k (a0.parts.getD (0 : Int).toNat (dflt .query))).bind fun r2 => bif Nat.ble ((⟨#[40]⟩ : ByteArray).size + r2.size) 9223372036854775807 then (bif Nat.ble (((⟨#[40]⟩ : ByteArray) ++ r2).size + (⟨#[32, 97, 110, 100, 32]⟩ : ByteArray).size) 9223372036854775807 then (bif decide (0 ≤ 1) then (bif decide (1 < (a0.parts.length : Int)) then ((spec_l22Text.F k (a0.parts.getD (1 : Int).toNat (dflt .query))).bind fun r3 => bif Nat.ble ((((⟨#[40]⟩ : ByteArray) ++ r2) ++ (⟨#[32, 97, 110, 100, 32]⟩ : ByteArray)).size + r3.size) 9223372036854775807 then (bif Nat.ble (((((⟨#[40]⟩ : ByteArray) ++ r2) ++ (⟨#[32, 97, 110, 100, 32]⟩ : ByteArray)) ++ r3).size + (⟨#[41]⟩ : ByteArray).size) 9223372036854775807 then (some (((((⟨#[40]⟩ : ByteArray) ++ r2) ++ (⟨#[32, 97, 110, 100, 32]⟩ : ByteArray)) ++ r3) ++ (⟨#[41]⟩ : ByteArray))) else none) else none) else none) else none) else none) else none) else none) else none) else (bif decide (0 ≤ 0) then (bif decide (0 < (a0.parts.length : Int)) then ((spec_l22Text.F k (a0.parts.getD (0 : Int).toNat (dflt .query))).bind fun r4 => bif Nat.ble ((⟨#[40]⟩ : ByteArray).size + r4.size) 9223372036854775807 then (bif Nat.ble (((⟨#[40]⟩ : ByteArray) ++ r4).size + (⟨#[32, 111, 114, 32]⟩ : ByteArray).size) 9223372036854775807 then (bif decide (0 ≤ 1) then (bif decide (1 < (a0.parts.length : Int)) then ((spec_l22Text.F k (a0.parts.getD (1 : Int).toNat (dflt .query))).bind fun r5 => bif Nat.ble ((((⟨#[40]⟩ : ByteArray) ++ r4) ++ (⟨#[32, 111, 114, 32]⟩ : ByteArray)).size + r5.size) 9223372036854775807 then (bif Nat.ble (((((⟨#[40]⟩ : ByteArray) ++ r4) ++ (⟨#[32, 111, 114, 32]⟩ : ByteArray)) ++ r5).size + (⟨#[41]⟩ : ByteArray).size) 9223372036854775807 then (some (((((⟨#[40]⟩ : ByteArray) ++ r4) ++ (⟨#[32, 111, 114, 32]⟩ : ByteArray)) ++ r5) ++ (⟨#[41]⟩ : ByteArray))) else none) else none) else none) else none) else none) else none) else none) else none)))
end
def spec_l22Text.C (k : Nat) : Cal → Option CArm := fun c => match c with
  | .f 41 => some (.p [.query] _ (fun x => spec_l22Text.F k x.1) (fun r => (.t .str r)))
  | _ => none
theorem spec_l22Text.run (k : Nat) (a0 : Query) : runF envX (tabC (spec_l22Text.C k)) (tabL 56 0 (fun _ => none)) Tryd.f41 [.t .query a0] (viewR1 (.t .str)) = spec_l22Text.F (k + 1) a0 := by kernel_rfl
def spec_l22Text.Gd (pv : Nat → Value) (k : Nat) : Prop := (∀ (a0 : Query) {y : _}, spec_l22Text.F k a0 = some y → Meets Tryd.prog envX pv (.f 41) (tvals [.query] (a0, ())) (.t .str y))
theorem spec_l22Text.G (hE : EnvOk Tryd.prog envX) (pv : Nat → Value) (k : Nat) (hI : spec_l22Text.Gd pv k) : ∀ cal A, spec_l22Text.C k cal = some A → ArmOk Tryd.prog envX pv cal A := by
  intro cal A h
  unfold spec_l22Text.C at h
  split at h
  · cases h; exact fun x y hy => hI x.1 hy
  · cases h
theorem spec_l22Text.gd (hE : EnvOk Tryd.prog envX) (pv : Nat → Value) (k : Nat) (hI : ∀ k', k' ≤ k → spec_l22Text.Gd pv k') (a0 : Query) {y : _} (h : spec_l22Text.F (k + 1) a0 = some y) : Meets Tryd.prog envX pv (.f 41) (tvals [.query] (a0, ())) (.t .str y) :=
  fun_plain hE (spec_l22Text.G hE pv k (hI k (Nat.le_refl k))) (f := 41) (fn := Tryd.f41) (by kernel_rfl) rfl (by kernel_rfl) (by kernel_rfl) ((spec_l22Text.run k a0).trans h) fun r hr => wk_view1 hr
theorem spec_l22Text.all (hE : EnvOk Tryd.prog envX) (pv : Nat → Value) : ∀ k k', k' ≤ k → spec_l22Text.Gd pv k' := by
  intro k
  induction k with
  | zero =>
    intro k' hk
    obtain rfl : k' = 0 := by omega
    exact fun _ y h => by cases (show (none : Option _) = some y from h)
  | succ k ih =>
    intro k' hk
    rcases Nat.lt_or_ge k' (k + 1) with hlt | hge
    · exact ih k' (by omega)
    · obtain rfl : k' = k + 1 := by omega
      exact fun a0 y h => spec_l22Text.gd hE pv k ih a0 h
theorem spec_l22Text.good (hE : EnvOk Tryd.prog envX) (pv : Nat → Value) (k : Nat) (a0 : Query) {y : _} (h : spec_l22Text.F k a0 = some y) : Meets Tryd.prog envX pv (.f 41) (tvals [.query] (a0, ())) (.t .str y) :=
  (spec_l22Text.all hE pv k k (Nat.le_refl k)) a0 h
/-! ### 16 loop.example/g00896/spec.FormatQuery -/
def spec_FormatQuery.F (k : Nat) (a0 : Query) : Option (ByteArray × Bool) := (spec_l22Good.F k a0).bind fun r1 => bif (!r1) then (some ((⟨#[]⟩ : ByteArray), false)) else ((spec_l22Text.F k a0).bind fun r2 => some (r2, true))
def spec_FormatQuery.C (k : Nat) : Cal → Option CArm := fun c => match c with
  | .f 37 => some (.p [.query] _ (fun x => spec_l22Good.F k x.1) (fun r => (.t .bool r)))
  | .f 41 => some (.p [.query] _ (fun x => spec_l22Text.F k x.1) (fun r => (.t .str r)))
  | _ => none
theorem spec_FormatQuery.run (k : Nat) (a0 : Query) : runF envX (tabC (spec_FormatQuery.C k)) (tabL 9 0 (fun _ => none)) Tryd.f16 [.t .query a0] (viewR2 (.t .str) (.t .bool)) = spec_FormatQuery.F k a0 := by kernel_rfl
theorem spec_FormatQuery.G (hE : EnvOk Tryd.prog envX) (pv : Nat → Value) (k : Nat) : ∀ cal A, spec_FormatQuery.C k cal = some A → ArmOk Tryd.prog envX pv cal A := by
  intro cal A h
  unfold spec_FormatQuery.C at h
  split at h
  · cases h; exact fun x y hy => spec_l22Good.good hE pv k x.1 hy
  · cases h; exact fun x y hy => spec_l22Text.good hE pv k x.1 hy
  · cases h
theorem spec_FormatQuery.good (hE : EnvOk Tryd.prog envX) (pv : Nat → Value) (k : Nat) (a0 : Query) {y : _} (h : spec_FormatQuery.F k a0 = some y) : Meets Tryd.prog envX pv (.f 16) (tvals [.query] (a0, ())) (.tup [.t .str y.1, .t .bool y.2]) :=
  fun_plain hE (spec_FormatQuery.G hE pv k) (f := 16) (fn := Tryd.f16) (by kernel_rfl) rfl (by kernel_rfl) (by kernel_rfl) ((spec_FormatQuery.run k a0).trans h) fun r hr => wk_view2 hr
/-! ### 42 loop.example/g00896/impl.formatQuery -/
mutual
def impl_formatQuery.F : Nat → Query → Option (ByteArray)
  | 0, _ => none
  | k + 1, a0 => bif (a0.op == 1) then (bif (beqS a0.field (⟨#[]⟩ : ByteArray)) then (some a0.word) else (bif Nat.ble (a0.field.size + (⟨#[58]⟩ : ByteArray).size) 9223372036854775807 then (bif Nat.ble ((a0.field ++ (⟨#[58]⟩ : ByteArray)).size + a0.word.size) 9223372036854775807 then (some ((a0.field ++ (⟨#[58]⟩ : ByteArray)) ++ a0.word)) else none) else none)) else (bif (a0.op == 2) then (bif decide (0 ≤ 0) then (bif decide (0 < (a0.parts.length : Int)) then ((impl_formatQuery.F k (a0.parts.getD (0 : Int).toNat (dflt .query))).bind fun r1 => bif Nat.ble ((⟨#[110, 111, 116, 32]⟩ : ByteArray).size + r1.size) 9223372036854775807 then (some ((⟨#[110, 111, 116, 32]⟩ : ByteArray) ++ r1)) else none) else none) else none) else (bif (a0.op == 3) then (bif decide (0 ≤ 0) then (bif decide (0 < (a0.parts.length : Int)) then ((impl_formatQuery.F k (a0.parts.getD (0 : Int).toNat (dflt .query))).bind fun r2 => bif Nat.ble ((⟨#[40]⟩ : ByteArray).size + r2.size) 9223372036854775807 then (bif Nat.ble (((⟨#[40]⟩ : ByteArray) ++ r2).size + (⟨#[32, 97, 110, 100, 32]⟩ : ByteArray).size) 9223372036854775807 then (bif decide (0 ≤ 1) then (bif decide (1 < (a0.parts.length : Int)) then ((impl_formatQuery.F k (a0.parts.getD (1 : Int).toNat (dflt .query))).bind fun r3 => bif Nat.ble ((((⟨#[40]⟩ : ByteArray) ++ r2) ++ (⟨#[32, 97, 110, 100, 32]⟩ : ByteArray)).size + r3.size) 9223372036854775807 then (bif Nat.ble (((((⟨#[40]⟩ : ByteArray) ++ r2) ++ (⟨#[32, 97, 110, 100, 32]⟩ : ByteArray)) ++ r3).size + (⟨#[41]⟩ : ByteArray).size) 9223372036854775807 then (some (((((⟨#[40]⟩ : ByteArray) ++ r2) ++ (⟨#[32, 97, 110, 100, 32]⟩ : ByteArray)) ++ r3) ++ (⟨#[41]⟩ : ByteArray))) else none) else none) else none) else none) else none) else none) else none) else none) else (bif decide (0 ≤ 0) then (bif decide (0 < (a0.parts.length : Int)) then ((impl_formatQuery.F k (a0.parts.getD (0 : Int).toNat (dflt .query))).bind fun r4 => bif Nat.ble ((⟨#[40]⟩ : ByteArray).size + r4.size) 9223372036854775807 then (bif Nat.ble (((⟨#[40]⟩ : ByteArray) ++ r4).size + (⟨#[32, 111, 114, 32]⟩ : ByteArray).size) 9223372036854775807 then (bif decide (0 ≤ 1) then (bif decide (1 < (a0.parts.length : Int)) then ((impl_formatQuery.F k (a0.parts.getD (1 : Int).toNat (dflt .query))).bind fun r5 => bif Nat.ble ((((⟨#[40]⟩ : ByteArray) ++ r4) ++ (⟨#[32, 111, 114, 32]⟩ : ByteArray)).size + r5.size) 9223372036854775807 then (bif Nat.ble (((((⟨#[40]⟩ : ByteArray) ++ r4) ++ (⟨#[32, 111, 114, 32]⟩ : ByteArray)) ++ r5).size + (⟨#[41]⟩ : ByteArray).size) 9223372036854775807 then (some (((((⟨#[40]⟩ : ByteArray) ++ r4) ++ (⟨#[32, 111, 114, 32]⟩ : ByteArray)) ++ r5) ++ (⟨#[41]⟩ : ByteArray))) else none) else none) else none) else none) else none) else none) else none) else none)))
end
def impl_formatQuery.C (k : Nat) : Cal → Option CArm := fun c => match c with
  | .f 42 => some (.p [.query] _ (fun x => impl_formatQuery.F k x.1) (fun r => (.t .str r)))
  | _ => none
theorem impl_formatQuery.run (k : Nat) (a0 : Query) : runF envX (tabC (impl_formatQuery.C k)) (tabL 56 0 (fun _ => none)) Tryd.f42 [.t .query a0] (viewR1 (.t .str)) = impl_formatQuery.F (k + 1) a0 := by kernel_rfl
def impl_formatQuery.Gd (pv : Nat → Value) (k : Nat) : Prop := (∀ (a0 : Query) {y : _}, impl_formatQuery.F k a0 = some y → Meets Tryd.prog envX pv (.f 42) (tvals [.query] (a0, ())) (.t .str y))
theorem impl_formatQuery.G (hE : EnvOk Tryd.prog envX) (pv : Nat → Value) (k : Nat) (hI : impl_formatQuery.Gd pv k) : ∀ cal A, impl_formatQuery.C k cal = some A → ArmOk Tryd.prog envX pv cal A := by
  intro cal A h
  unfold impl_formatQuery.C at h
  split at h
  · cases h; exact fun x y hy => hI x.1 hy
  · cases h
theorem impl_formatQuery.gd (hE : EnvOk Tryd.prog envX) (pv : Nat → Value) (k : Nat) (hI : ∀ k', k' ≤ k → impl_formatQuery.Gd pv k') (a0 : Query) {y : _} (h : impl_formatQuery.F (k + 1) a0 = some y) : Meets Tryd.prog envX pv (.f 42) (tvals [.query] (a0, ())) (.t .str y) :=
  fun_plain hE (impl_formatQuery.G hE pv k (hI k (Nat.le_refl k))) (f := 42) (fn := Tryd.f42) (by kernel_rfl) rfl (by kernel_rfl) (by kernel_rfl) ((impl_formatQuery.run k a0).trans h) fun r hr => wk_view1 hr
theorem impl_formatQuery.all (hE : EnvOk Tryd.prog envX) (pv : Nat → Value) : ∀ k k', k' ≤ k → impl_formatQuery.Gd pv k' := by
  intro k
  induction k with
  | zero =>
    intro k' hk
    obtain rfl : k' = 0 := by omega
    exact fun _ y h => by cases (show (none : Option _) = some y from h)
  | succ k ih =>
    intro k' hk
    rcases Nat.lt_or_ge k' (k + 1) with hlt | hge
    · exact ih k' (by omega)
    · obtain rfl : k' = k + 1 := by omega
      exact fun a0 y h => impl_formatQuery.gd hE pv k ih a0 h
theorem impl_formatQuery.good (hE : EnvOk Tryd.prog envX) (pv : Nat → Value) (k : Nat) (a0 : Query) {y : _} (h : impl_formatQuery.F k a0 = some y) : Meets Tryd.prog envX pv (.f 42) (tvals [.query] (a0, ())) (.t .str y) :=
  (impl_formatQuery.all hE pv k k (Nat.le_refl k)) a0 h
/-! ### 17 loop.example/g00896/impl.FormatQuery -/
def impl_FormatQuery.F (k : Nat) (a0 : Query) : Option (ByteArray × Bool) := (impl_IsValidQuery.F k a0).bind fun r1 => bif (!r1) then (some ((⟨#[]⟩ : ByteArray), false)) else ((impl_formatQuery.F k a0).bind fun r2 => some (r2, true))
def impl_FormatQuery.C (k : Nat) : Cal → Option CArm := fun c => match c with
  | .f 14 => some (.p [.query] _ (fun x => impl_IsValidQuery.F k x.1) (fun r => (.t .bool r)))
  | .f 42 => some (.p [.query] _ (fun x => impl_formatQuery.F k x.1) (fun r => (.t .str r)))
  | _ => none
theorem impl_FormatQuery.run (k : Nat) (a0 : Query) : runF envX (tabC (impl_FormatQuery.C k)) (tabL 9 0 (fun _ => none)) Tryd.f17 [.t .query a0] (viewR2 (.t .str) (.t .bool)) = impl_FormatQuery.F k a0 := by kernel_rfl
theorem impl_FormatQuery.G (hE : EnvOk Tryd.prog envX) (pv : Nat → Value) (k : Nat) : ∀ cal A, impl_FormatQuery.C k cal = some A → ArmOk Tryd.prog envX pv cal A := by
  intro cal A h
  unfold impl_FormatQuery.C at h
  split at h
  · cases h; exact fun x y hy => impl_IsValidQuery.good hE pv k x.1 hy
  · cases h; exact fun x y hy => impl_formatQuery.good hE pv k x.1 hy
  · cases h
theorem impl_FormatQuery.good (hE : EnvOk Tryd.prog envX) (pv : Nat → Value) (k : Nat) (a0 : Query) {y : _} (h : impl_FormatQuery.F k a0 = some y) : Meets Tryd.prog envX pv (.f 17) (tvals [.query] (a0, ())) (.tup [.t .str y.1, .t .bool y.2]) :=
  fun_plain hE (impl_FormatQuery.G hE pv k) (f := 17) (fn := Tryd.f17) (by kernel_rfl) rfl (by kernel_rfl) (by kernel_rfl) ((impl_FormatQuery.run k a0).trans h) fun r hr => wk_view2 hr
/-! ### 4 loop.example/g00896/laws.FnExactFormatQuery -/
def laws_FnExactFormatQuery.F (k : Nat) (a0 : Query) : Option (Bool) := (laws_szQuery.F k a0 1048576).bind fun r1 => bif (decide (r1 < 0)) then (some true) else ((laws_toQuery.F k a0).bind fun r2 => (spec_FormatQuery.F k r2).bind fun r3 => (laws_toQuery.F k a0).bind fun r4 => (impl_FormatQuery.F k r4).bind fun r5 => bif (!beqS r5.1 r3.1) then (some false) else (bif (!(r5.2 == r3.2)) then (some false) else ((laws_toQuery.F k a0).bind fun r6 => (laws_eqQuery.F k r4 r6).bind fun r7 => bif (!r7) then (some false) else (some true))))
def laws_FnExactFormatQuery.C (k : Nat) : Cal → Option CArm := fun c => match c with
  | .f 11 => some (.p [.query, (.int .i64)] _ (fun x => laws_szQuery.F k x.1 x.2.1) (fun r => (.t (.int .i64) r)))
  | .f 13 => some (.p [.query] _ (fun x => laws_toQuery.F k x.1) (fun r => (.t .query r)))
  | .f 16 => some (.p [.query] _ (fun x => spec_FormatQuery.F k x.1) (fun r => (.tup [.t .str r.1, .t .bool r.2])))
  | .f 17 => some (.p [.query] _ (fun x => impl_FormatQuery.F k x.1) (fun r => (.tup [.t .str r.1, .t .bool r.2])))
  | .f 15 => some (.p [.query, .query] _ (fun x => laws_eqQuery.F k x.1 x.2.1) (fun r => (.t .bool r)))
  | _ => none
theorem laws_FnExactFormatQuery.run (k : Nat) (a0 : Query) : runF envX (tabC (laws_FnExactFormatQuery.C k)) (tabL 40 0 (fun _ => none)) Tryd.f4 [.t .query a0] (viewR1 (.t .bool)) = laws_FnExactFormatQuery.F k a0 := by kernel_rfl
theorem laws_FnExactFormatQuery.G (hE : EnvOk Tryd.prog envX) (pv : Nat → Value) (k : Nat) : ∀ cal A, laws_FnExactFormatQuery.C k cal = some A → ArmOk Tryd.prog envX pv cal A := by
  intro cal A h
  unfold laws_FnExactFormatQuery.C at h
  split at h
  · cases h; exact fun x y hy => laws_szQuery.good hE pv k x.1 x.2.1 hy
  · cases h; exact fun x y hy => laws_toQuery.good hE pv k x.1 hy
  · cases h; exact fun x y hy => spec_FormatQuery.good hE pv k x.1 hy
  · cases h; exact fun x y hy => impl_FormatQuery.good hE pv k x.1 hy
  · cases h; exact fun x y hy => laws_eqQuery.good hE pv k x.1 x.2.1 hy
  · cases h
theorem laws_FnExactFormatQuery.good (hE : EnvOk Tryd.prog envX) (pv : Nat → Value) (k : Nat) (a0 : Query) {y : _} (h : laws_FnExactFormatQuery.F k a0 = some y) : Meets Tryd.prog envX pv (.f 4) (tvals [.query] (a0, ())) (.t .bool y) :=
  fun_plain hE (laws_FnExactFormatQuery.G hE pv k) (f := 4) (fn := Tryd.f4) (by kernel_rfl) rfl (by kernel_rfl) (by kernel_rfl) ((laws_FnExactFormatQuery.run k a0).trans h) fun r hr => wk_view1 hr
end Go.Proofs.YtahacbcnjfoknaaDoor
