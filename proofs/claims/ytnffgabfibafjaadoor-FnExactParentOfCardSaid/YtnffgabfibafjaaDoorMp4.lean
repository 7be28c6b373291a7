/- What a printed function answers with rounds enough; plain lemmas. -/
import Derived.Test.YtnffgabfibafjaaDoorMp3
import Derived.Test.YtnffgabfibafjaaDoorProg
import Derived.KernelRfl
import Derived.Lib.Strings
import Derived.Lib.IndexBytes
import Derived.Lib.IndexLaws
import Derived.Lib.CountLaws
import Derived.Lib.Split
import Derived.Lib.SplitLaws
import Derived.Lib.TrimByte
import Derived.Lib.Join
section
namespace Go.Proofs.YtnffgabfibafjaaDoor
open Go.Gx
set_option linter.unusedVariables false
set_option maxRecDepth 100000
def tyT (t : Nat) : Option Ty := match t with
  | 2 => some (.int .i64)
  | 3 => some (.int .i64)
  | 4 => some .bool
  | 5 => some (.int .u8)
  | 6 => some (.int .u8)
  | 9 => some .str
  | 10 => some .str
  | 11 => some .str
  | 21 => some (.int .i32)
  | 22 => some (.sl .query)
  | 24 => some .query
  | 26 => some (.sl .str)
  | 29 => some (.sl .query)
  | 31 => some .query
  | 38 => some (.sl .abbr)
  | 41 => some (.sl .abbr)
  | 51 => some (.sl .entry)
  | 53 => some .lib
  | 57 => some (.sl .entry)
  | 59 => some .lib
  | 74 => some .abbr
  | 79 => some .abbr
  | 84 => some (.sl (.int .i64))
  | 94 => some (.sl .name)
  | 96 => some .date
  | 98 => some .entry
  | 108 => some (.int .u64)
  | 109 => some (.sl (.int .u8))
  | 123 => some (.sl .name)
  | 124 => some .date
  | 126 => some .entry
  | 132 => some (.int .i64)
  | 139 => some (.int .u32)
  | 141 => some (.int .u64)
  | 165 => some (.arr 8 .str)
  | 166 => some (.int .u64)
  | 173 => some (.arr 256 .bool)
  | 182 => some .name
  | 183 => some .name
  | 206 => some (.arr 256 (.int .u8))
  | 222 => some (.int .u8)
  | _ => none
def elT (t : Nat) : Nat := match t with
  | 22 => 24
  | 26 => 9
  | 29 => 31
  | 38 => 74
  | 41 => 79
  | 51 => 126
  | 57 => 98
  | 84 => 3
  | 94 => 183
  | 109 => 5
  | 123 => 182
  | _ => 0
def mdT (f : Nat) : Bool := match f with
  | 15 => true
  | 22 => true
  | 41 => true
  | 43 => true
  | 54 => true
  | _ => false
def glT (g : Nat) : Option AV := match g with
  | _ => none
def giT (g : Nat) : Bool := match g with
  | 1 => true
  | _ => false
def envX : Env := ⟨tyT, elT, glT, mdT, giT⟩
theorem env_ty : ∀ T τ, envX.ty T = some τ → TyOk Tryd.prog envX T τ := fun T τ h => by
  dsimp only [envX, tyT] at h
  split at h <;> first
    | (cases h; done)
    | (cases h; exact tyOk_of (by kernel_rfl) (by kernel_rfl))
theorem envOk : EnvOk Tryd.prog envX := ⟨env_ty, by kernel_rfl, fun T h => by
  dsimp only [envX, tyT] at h
  split at h <;> first
    | (cases h; done)
    | exact date_eq env_ty rfl (by kernel_rfl) (by kernel_rfl) (by kernel_rfl), fun T h => by
  dsimp only [envX, tyT] at h
  split at h <;> first
    | (cases h; done)
    | exact abbr_eq env_ty rfl (by kernel_rfl) (by kernel_rfl) (by kernel_rfl)⟩
/-! ### 23 loop.example/g00896/laws.szStringS -/
def laws_szStringS.l0 : Nat → (List ByteArray) → Int → Int → Option (Sum Int Int)
  | 0, _, _, _ => none
  | k + 1, x0, x1, x5 => bif (decide (x5 < (x0.length : Int))) then (bif decide (0 ≤ x5) then (bif decide (x5 < (x0.length : Int)) then (bif (decide ((IntKind.wrap .i64 (x1 - ((x0.getD (x5 : Int).toNat (⟨#[]⟩ : ByteArray)).size : Int))) < 0)) then (some (.inl (-1))) else (laws_szStringS.l0 k x0 (IntKind.wrap .i64 (x1 - ((x0.getD (x5 : Int).toNat (⟨#[]⟩ : ByteArray)).size : Int))) (IntKind.wrap .i64 (x5 + 1)))) else none) else none) else (some (.inr x1))
def laws_szStringS.F (k : Nat) (a0 : List ByteArray) (a1 : Int) : Option (Int) := bif (decide ((IntKind.wrap .i64 (a1 - (a0.length : Int))) < 0)) then (some (-1)) else ((laws_szStringS.l0 k a0 (IntKind.wrap .i64 (a1 - (a0.length : Int))) 0).bind fun y1 => match y1 with | .inl z2 => some z2 | .inr z2 => some z2)
def laws_szStringS.C (k : Nat) : Cal → Option CArm := fun c => match c with
  | _ => none
def laws_szStringS.sp0 : List Sp := [.t 0 (.sl .str), .t 1 (.int .i64), .t 5 (.int .i64)]
def laws_szStringS.sp0_0 : List Sp := [.t 4 (.int .i64)]
def laws_szStringS.sp0_1 : List Sp := [.t 1 (.int .i64)]
def laws_szStringS.A0 : LArm := .two laws_szStringS.sp0 laws_szStringS.sp0_0 laws_szStringS.sp0_1 (Int) (Int) (fun k x => laws_szStringS.l0 k x.1 x.2.1 x.2.2.1) .ret (.exit 0) (fun y => (y, ())) (fun x => x.1) (fun y => (y, ())) (fun x => x.1)
def laws_szStringS.L : Nat → Option LArm := fun b => match b with
  | 0 => some laws_szStringS.A0
  | _ => none
theorem laws_szStringS.run (k : Nat) (a0 : List ByteArray) (a1 : Int) : runF envX (tabC (laws_szStringS.C k)) (tabL 28 k laws_szStringS.L) Tryd.f23 [.t (.sl .str) a0, .t (.int .i64) a1] (viewR1 (.t (.int .i64))) = laws_szStringS.F k a0 a1 := by kernel_rfl
theorem laws_szStringS.step0 (k : Nat) (x0 : List ByteArray) (x1 : Int) (x5 : Int) : runC envX (tabC (laws_szStringS.C k)) (tabL 28 k laws_szStringS.L) 0 (loopAt Tryd.f23 0) (stOf 28 laws_szStringS.sp0 (x0, x1, x5, ())) (laws_szStringS.A0.cont 28 k) = laws_szStringS.l0 (k + 1) x0 x1 x5 := by kernel_rfl
theorem laws_szStringS.G (hE : EnvOk Tryd.prog envX) (pv : Nat → Value) (k : Nat) : ∀ cal A, laws_szStringS.C k cal = some A → ArmOk Tryd.prog envX pv cal A := by
  intro cal A h
  unfold laws_szStringS.C at h
  cases h
theorem laws_szStringS.good (hE : EnvOk Tryd.prog envX) (pv : Nat → Value) (k : Nat) (a0 : List ByteArray) (a1 : Int) {y : _} (h : laws_szStringS.F k a0 a1 = some y) : Meets Tryd.prog envX pv (.f 23) (tvals [(.sl .str), (.int .i64)] (a0, a1, ())) (.t (.int .i64) y) :=
  fun_loops hE (t := laws_szStringS.C) k (fun k _ => laws_szStringS.G hE pv k) (f := 23) (fn := Tryd.f23) (by kernel_rfl) rfl (by kernel_rfl) (by kernel_rfl) (lt := laws_szStringS.L) (by kernel_rfl) (fun b A h => by
    unfold laws_szStringS.L at h; split at h
    · cases h; exact ⟨by kernel_rfl, by kernel_rfl, by kernel_rfl, fun _ => rfl, fun _ => rfl, fun _ => rfl⟩
    · cases h) (fun b A h => by
    unfold laws_szStringS.L at h; split at h
    · cases h; exact fun k x => laws_szStringS.step0 k x.1 x.2.1 x.2.2.1
    · cases h) ((laws_szStringS.run k a0 a1).trans h) fun r hr => wk_view1 hr
/-! ### 174 loop.example/g00896/laws.szName -/
def laws_szName.F (k : Nat) (a0 : Name) (a1 : Int) : Option (Int) := (laws_szStringS.F k a0.given a1).bind fun r1 => bif (decide (r1 < 0)) then (some (-1)) else (bif (decide ((IntKind.wrap .i64 (r1 - (a0.particle.size : Int))) < 0)) then (some (-1)) else (bif (decide ((IntKind.wrap .i64 ((IntKind.wrap .i64 (r1 - (a0.particle.size : Int))) - (a0.family.size : Int))) < 0)) then (some (-1)) else (bif (decide ((IntKind.wrap .i64 ((IntKind.wrap .i64 ((IntKind.wrap .i64 (r1 - (a0.particle.size : Int))) - (a0.family.size : Int))) - (a0.suffix.size : Int))) < 0)) then (some (-1)) else (some (IntKind.wrap .i64 ((IntKind.wrap .i64 ((IntKind.wrap .i64 (r1 - (a0.particle.size : Int))) - (a0.family.size : Int))) - (a0.suffix.size : Int)))))))
def laws_szName.C (k : Nat) : Cal → Option CArm := fun c => match c with
  | .f 23 => some (.p [(.sl .str), (.int .i64)] _ (fun x => laws_szStringS.F k x.1 x.2.1) (fun r => (.t (.int .i64) r)))
  | _ => none
theorem laws_szName.run (k : Nat) (a0 : Name) (a1 : Int) : runF envX (tabC (laws_szName.C k)) (tabL 33 0 (fun _ => none)) Tryd.f174 [.t .name a0, .t (.int .i64) a1] (viewR1 (.t (.int .i64))) = laws_szName.F k a0 a1 := by kernel_rfl
theorem laws_szName.G (hE : EnvOk Tryd.prog envX) (pv : Nat → Value) (k : Nat) : ∀ cal A, laws_szName.C k cal = some A → ArmOk Tryd.prog envX pv cal A := by
  intro cal A h
  unfold laws_szName.C at h
  split at h
  · cases h; exact fun x y hy => laws_szStringS.good hE pv k x.1 x.2.1 hy
  · cases h
theorem laws_szName.good (hE : EnvOk Tryd.prog envX) (pv : Nat → Value) (k : Nat) (a0 : Name) (a1 : Int) {y : _} (h : laws_szName.F k a0 a1 = some y) : Meets Tryd.prog envX pv (.f 174) (tvals [.name, (.int .i64)] (a0, a1, ())) (.t (.int .i64) y) :=
  fun_plain hE (laws_szName.G hE pv k) (f := 174) (fn := Tryd.f174) (by kernel_rfl) rfl (by kernel_rfl) (by kernel_rfl) ((laws_szName.run k a0 a1).trans h) fun r hr => wk_view1 hr
/-! ### 141 loop.example/g00896/laws.szNameS -/
def laws_szNameS.l0 : Nat → (List Name) → Int → Int → Option (Sum Int Int)
  | 0, _, _, _ => none
  | k + 1, x0, x1, x5 => bif (decide (x5 < (x0.length : Int))) then (bif decide (0 ≤ x5) then (bif decide (x5 < (x0.length : Int)) then ((laws_szName.F k (x0.getD (x5 : Int).toNat (dflt .name)) x1).bind fun r1 => bif (decide (r1 < 0)) then (some (.inl (-1))) else (laws_szNameS.l0 k x0 r1 (IntKind.wrap .i64 (x5 + 1)))) else none) else none) else (some (.inr x1))
def laws_szNameS.F (k : Nat) (a0 : List Name) (a1 : Int) : Option (Int) := bif (decide ((IntKind.wrap .i64 (a1 - (a0.length : Int))) < 0)) then (some (-1)) else ((laws_szNameS.l0 k a0 (IntKind.wrap .i64 (a1 - (a0.length : Int))) 0).bind fun y2 => match y2 with | .inl z3 => some z3 | .inr z3 => some z3)
def laws_szNameS.C (k : Nat) : Cal → Option CArm := fun c => match c with
  | .f 174 => some (.p [.name, (.int .i64)] _ (fun x => laws_szName.F k x.1 x.2.1) (fun r => (.t (.int .i64) r)))
  | _ => none
def laws_szNameS.sp0 : List Sp := [.t 0 (.sl .name), .t 1 (.int .i64), .t 5 (.int .i64)]
def laws_szNameS.sp0_0 : List Sp := [.t 4 (.int .i64)]
def laws_szNameS.sp0_1 : List Sp := [.t 1 (.int .i64)]
def laws_szNameS.A0 : LArm := .two laws_szNameS.sp0 laws_szNameS.sp0_0 laws_szNameS.sp0_1 (Int) (Int) (fun k x => laws_szNameS.l0 k x.1 x.2.1 x.2.2.1) .ret (.exit 0) (fun y => (y, ())) (fun x => x.1) (fun y => (y, ())) (fun x => x.1)
def laws_szNameS.L : Nat → Option LArm := fun b => match b with
  | 0 => some laws_szNameS.A0
  | _ => none
theorem laws_szNameS.run (k : Nat) (a0 : List Name) (a1 : Int) : runF envX (tabC (laws_szNameS.C k)) (tabL 27 k laws_szNameS.L) Tryd.f141 [.t (.sl .name) a0, .t (.int .i64) a1] (viewR1 (.t (.int .i64))) = laws_szNameS.F k a0 a1 := by kernel_rfl
theorem laws_szNameS.step0 (k : Nat) (x0 : List Name) (x1 : Int) (x5 : Int) : runC envX (tabC (laws_szNameS.C k)) (tabL 27 k laws_szNameS.L) 0 (loopAt Tryd.f141 0) (stOf 27 laws_szNameS.sp0 (x0, x1, x5, ())) (laws_szNameS.A0.cont 27 k) = laws_szNameS.l0 (k + 1) x0 x1 x5 := by kernel_rfl
theorem laws_szNameS.G (hE : EnvOk Tryd.prog envX) (pv : Nat → Value) (k : Nat) : ∀ cal A, laws_szNameS.C k cal = some A → ArmOk Tryd.prog envX pv cal A := by
  intro cal A h
  unfold laws_szNameS.C at h
  split at h
  · cases h; exact fun x y hy => laws_szName.good hE pv k x.1 x.2.1 hy
  · cases h
theorem laws_szNameS.good (hE : EnvOk Tryd.prog envX) (pv : Nat → Value) (k : Nat) (a0 : List Name) (a1 : Int) {y : _} (h : laws_szNameS.F k a0 a1 = some y) : Meets Tryd.prog envX pv (.f 141) (tvals [(.sl .name), (.int .i64)] (a0, a1, ())) (.t (.int .i64) y) :=
  fun_loops hE (t := laws_szNameS.C) k (fun k _ => laws_szNameS.G hE pv k) (f := 141) (fn := Tryd.f141) (by kernel_rfl) rfl (by kernel_rfl) (by kernel_rfl) (lt := laws_szNameS.L) (by kernel_rfl) (fun b A h => by
    unfold laws_szNameS.L at h; split at h
    · cases h; exact ⟨by kernel_rfl, by kernel_rfl, by kernel_rfl, fun _ => rfl, fun _ => rfl, fun _ => rfl⟩
    · cases h) (fun b A h => by
    unfold laws_szNameS.L at h; split at h
    · cases h; exact fun k x => laws_szNameS.step0 k x.1 x.2.1 x.2.2.1
    · cases h) ((laws_szNameS.run k a0 a1).trans h) fun r hr => wk_view1 hr
/-! ### 104 loop.example/g00896/laws.szEntry -/
def laws_szEntry.F (k : Nat) (a0 : Entry) (a1 : Int) : Option (Int) := bif (decide ((IntKind.wrap .i64 (a1 - (a0.key.size : Int))) < 0)) then (some (-1)) else ((laws_szNameS.F k a0.authors (IntKind.wrap .i64 (a1 - (a0.key.size : Int)))).bind fun r1 => bif (decide (r1 < 0)) then (some (-1)) else ((laws_szNameS.F k a0.editors r1).bind fun r2 => bif (decide (r2 < 0)) then (some (-1)) else (bif (decide ((IntKind.wrap .i64 (r2 - (a0.title.size : Int))) < 0)) then (some (-1)) else (bif (decide ((IntKind.wrap .i64 ((IntKind.wrap .i64 (r2 - (a0.title.size : Int))) - (a0.container.size : Int))) < 0)) then (some (-1)) else (bif (decide ((IntKind.wrap .i64 ((IntKind.wrap .i64 ((IntKind.wrap .i64 (r2 - (a0.title.size : Int))) - (a0.container.size : Int))) - (a0.publisher.size : Int))) < 0)) then (some (-1)) else (bif (decide ((IntKind.wrap .i64 ((IntKind.wrap .i64 ((IntKind.wrap .i64 ((IntKind.wrap .i64 (r2 - (a0.title.size : Int))) - (a0.container.size : Int))) - (a0.publisher.size : Int))) - (a0.pages.size : Int))) < 0)) then (some (-1)) else (bif (decide ((IntKind.wrap .i64 ((IntKind.wrap .i64 ((IntKind.wrap .i64 ((IntKind.wrap .i64 ((IntKind.wrap .i64 (r2 - (a0.title.size : Int))) - (a0.container.size : Int))) - (a0.publisher.size : Int))) - (a0.pages.size : Int))) - (a0.cross.size : Int))) < 0)) then (some (-1)) else (some (IntKind.wrap .i64 ((IntKind.wrap .i64 ((IntKind.wrap .i64 ((IntKind.wrap .i64 ((IntKind.wrap .i64 (r2 - (a0.title.size : Int))) - (a0.container.size : Int))) - (a0.publisher.size : Int))) - (a0.pages.size : Int))) - (a0.cross.size : Int)))))))))))
def laws_szEntry.C (k : Nat) : Cal → Option CArm := fun c => match c with
  | .f 141 => some (.p [(.sl .name), (.int .i64)] _ (fun x => laws_szNameS.F k x.1 x.2.1) (fun r => (.t (.int .i64) r)))
  | _ => none
theorem laws_szEntry.run (k : Nat) (a0 : Entry) (a1 : Int) : runF envX (tabC (laws_szEntry.C k)) (tabL 60 0 (fun _ => none)) Tryd.f104 [.t .entry a0, .t (.int .i64) a1] (viewR1 (.t (.int .i64))) = laws_szEntry.F k a0 a1 := by kernel_rfl
theorem laws_szEntry.G (hE : EnvOk Tryd.prog envX) (pv : Nat → Value) (k : Nat) : ∀ cal A, laws_szEntry.C k cal = some A → ArmOk Tryd.prog envX pv cal A := by
  intro cal A h
  unfold laws_szEntry.C at h
  split at h
  · cases h; exact fun x y hy => laws_szNameS.good hE pv k x.1 x.2.1 hy
  · cases h
theorem laws_szEntry.good (hE : EnvOk Tryd.prog envX) (pv : Nat → Value) (k : Nat) (a0 : Entry) (a1 : Int) {y : _} (h : laws_szEntry.F k a0 a1 = some y) : Meets Tryd.prog envX pv (.f 104) (tvals [.entry, (.int .i64)] (a0, a1, ())) (.t (.int .i64) y) :=
  fun_plain hE (laws_szEntry.G hE pv k) (f := 104) (fn := Tryd.f104) (by kernel_rfl) rfl (by kernel_rfl) (by kernel_rfl) ((laws_szEntry.run k a0 a1).trans h) fun r hr => wk_view1 hr
/-! ### 66 loop.example/g00896/laws.szEntryS -/
def laws_szEntryS.l0 : Nat → (List Entry) → Int → Int → Option (Sum Int Int)
  | 0, _, _, _ => none
  | k + 1, x0, x1, x5 => bif (decide (x5 < (x0.length : Int))) then (bif decide (0 ≤ x5) then (bif decide (x5 < (x0.length : Int)) then ((laws_szEntry.F k (x0.getD (x5 : Int).toNat (dflt .entry)) x1).bind fun r1 => bif (decide (r1 < 0)) then (some (.inl (-1))) else (laws_szEntryS.l0 k x0 r1 (IntKind.wrap .i64 (x5 + 1)))) else none) else none) else (some (.inr x1))
def laws_szEntryS.F (k : Nat) (a0 : List Entry) (a1 : Int) : Option (Int) := bif (decide ((IntKind.wrap .i64 (a1 - (a0.length : Int))) < 0)) then (some (-1)) else ((laws_szEntryS.l0 k a0 (IntKind.wrap .i64 (a1 - (a0.length : Int))) 0).bind fun y2 => match y2 with | .inl z3 => some z3 | .inr z3 => some z3)
def laws_szEntryS.C (k : Nat) : Cal → Option CArm := fun c => match c with
  | .f 104 => some (.p [.entry, (.int .i64)] _ (fun x => laws_szEntry.F k x.1 x.2.1) (fun r => (.t (.int .i64) r)))
  | _ => none
def laws_szEntryS.sp0 : List Sp := [.t 0 (.sl .entry), .t 1 (.int .i64), .t 5 (.int .i64)]
def laws_szEntryS.sp0_0 : List Sp := [.t 4 (.int .i64)]
def laws_szEntryS.sp0_1 : List Sp := [.t 1 (.int .i64)]
def laws_szEntryS.A0 : LArm := .two laws_szEntryS.sp0 laws_szEntryS.sp0_0 laws_szEntryS.sp0_1 (Int) (Int) (fun k x => laws_szEntryS.l0 k x.1 x.2.1 x.2.2.1) .ret (.exit 0) (fun y => (y, ())) (fun x => x.1) (fun y => (y, ())) (fun x => x.1)
def laws_szEntryS.L : Nat → Option LArm := fun b => match b with
  | 0 => some laws_szEntryS.A0
  | _ => none
theorem laws_szEntryS.run (k : Nat) (a0 : List Entry) (a1 : Int) : runF envX (tabC (laws_szEntryS.C k)) (tabL 27 k laws_szEntryS.L) Tryd.f66 [.t (.sl .entry) a0, .t (.int .i64) a1] (viewR1 (.t (.int .i64))) = laws_szEntryS.F k a0 a1 := by kernel_rfl
theorem laws_szEntryS.step0 (k : Nat) (x0 : List Entry) (x1 : Int) (x5 : Int) : runC envX (tabC (laws_szEntryS.C k)) (tabL 27 k laws_szEntryS.L) 0 (loopAt Tryd.f66 0) (stOf 27 laws_szEntryS.sp0 (x0, x1, x5, ())) (laws_szEntryS.A0.cont 27 k) = laws_szEntryS.l0 (k + 1) x0 x1 x5 := by kernel_rfl
theorem laws_szEntryS.G (hE : EnvOk Tryd.prog envX) (pv : Nat → Value) (k : Nat) : ∀ cal A, laws_szEntryS.C k cal = some A → ArmOk Tryd.prog envX pv cal A := by
  intro cal A h
  unfold laws_szEntryS.C at h
  split at h
  · cases h; exact fun x y hy => laws_szEntry.good hE pv k x.1 x.2.1 hy
  · cases h
theorem laws_szEntryS.good (hE : EnvOk Tryd.prog envX) (pv : Nat → Value) (k : Nat) (a0 : List Entry) (a1 : Int) {y : _} (h : laws_szEntryS.F k a0 a1 = some y) : Meets Tryd.prog envX pv (.f 66) (tvals [(.sl .entry), (.int .i64)] (a0, a1, ())) (.t (.int .i64) y) :=
  fun_loops hE (t := laws_szEntryS.C) k (fun k _ => laws_szEntryS.G hE pv k) (f := 66) (fn := Tryd.f66) (by kernel_rfl) rfl (by kernel_rfl) (by kernel_rfl) (lt := laws_szEntryS.L) (by kernel_rfl) (fun b A h => by
    unfold laws_szEntryS.L at h; split at h
    · cases h; exact ⟨by kernel_rfl, by kernel_rfl, by kernel_rfl, fun _ => rfl, fun _ => rfl, fun _ => rfl⟩
    · cases h) (fun b A h => by
    unfold laws_szEntryS.L at h; split at h
    · cases h; exact fun k x => laws_szEntryS.step0 k x.1 x.2.1 x.2.2.1
    · cases h) ((laws_szEntryS.run k a0 a1).trans h) fun r hr => wk_view1 hr
/-! ### 29 loop.example/g00896/laws.szLibrary -/
def laws_szLibrary.F (k : Nat) (a0 : Library) (a1 : Int) : Option (Int) := (laws_szEntryS.F k a0.entries a1).bind fun r1 => bif (decide (r1 < 0)) then (some (-1)) else (some r1)
def laws_szLibrary.C (k : Nat) : Cal → Option CArm := fun c => match c with
  | .f 66 => some (.p [(.sl .entry), (.int .i64)] _ (fun x => laws_szEntryS.F k x.1 x.2.1) (fun r => (.t (.int .i64) r)))
  | _ => none
theorem laws_szLibrary.run (k : Nat) (a0 : Library) (a1 : Int) : runF envX (tabC (laws_szLibrary.C k)) (tabL 12 0 (fun _ => none)) Tryd.f29 [.t .lib a0, .t (.int .i64) a1] (viewR1 (.t (.int .i64))) = laws_szLibrary.F k a0 a1 := by kernel_rfl
theorem laws_szLibrary.G (hE : EnvOk Tryd.prog envX) (pv : Nat → Value) (k : Nat) : ∀ cal A, laws_szLibrary.C k cal = some A → ArmOk Tryd.prog envX pv cal A := by
  intro cal A h
  unfold laws_szLibrary.C at h
  split at h
  · cases h; exact fun x y hy => laws_szEntryS.good hE pv k x.1 x.2.1 hy
  · cases h
theorem laws_szLibrary.good (hE : EnvOk Tryd.prog envX) (pv : Nat → Value) (k : Nat) (a0 : Library) (a1 : Int) {y : _} (h : laws_szLibrary.F k a0 a1 = some y) : Meets Tryd.prog envX pv (.f 29) (tvals [.lib, (.int .i64)] (a0, a1, ())) (.t (.int .i64) y) :=
  fun_plain hE (laws_szLibrary.G hE pv k) (f := 29) (fn := Tryd.f29) (by kernel_rfl) rfl (by kernel_rfl) (by kernel_rfl) ((laws_szLibrary.run k a0 a1).trans h) fun r hr => wk_view1 hr
/-! ### 69 loop.example/g00896/spec.l4Find -/
def spec_l4Find.l0 : Nat → ByteArray → Library → Int → Option (Sum Int Unit)
  | 0, _, _, _ => none
  | k + 1, x1, x2, x5 => bif (decide (x5 < (x2.entries.length : Int))) then (bif decide (0 ≤ x5) then (bif decide (x5 < (x2.entries.length : Int)) then (bif (beqS ((x2.entries.getD (x5 : Int).toNat (dflt .entry)).key) x1) then (some (.inl x5)) else (spec_l4Find.l0 k x1 x2 (IntKind.wrap .i64 (x5 + 1)))) else none) else none) else (some (.inr ()))
def spec_l4Find.F (k : Nat) (a0 : Library) (a1 : ByteArray) : Option (Int) := (spec_l4Find.l0 k a1 a0 0).bind fun y1 => match y1 with | .inl z2 => some z2 | .inr z2 => some (-1)
def spec_l4Find.C (k : Nat) : Cal → Option CArm := fun c => match c with
  | _ => none
def spec_l4Find.sp0 : List Sp := [.t 1 .str, .boxT 2 0 .lib, .t 5 (.int .i64)]
def spec_l4Find.sp0_0 : List Sp := [.t 4 (.int .i64)]
def spec_l4Find.sp0_1 : List Sp := []
def spec_l4Find.A0 : LArm := .two spec_l4Find.sp0 spec_l4Find.sp0_0 spec_l4Find.sp0_1 (Int) (Unit) (fun k x => spec_l4Find.l0 k x.1 x.2.1 x.2.2.1) .ret (.exit 0) (fun y => (y, ())) (fun x => x.1) (fun y => ()) (fun x => ())
def spec_l4Find.L : Nat → Option LArm := fun b => match b with
  | 0 => some spec_l4Find.A0
  | _ => none
theorem spec_l4Find.run (k : Nat) (a0 : Library) (a1 : ByteArray) : runF envX (tabC (spec_l4Find.C k)) (tabL 22 k spec_l4Find.L) Tryd.f69 [.t .lib a0, .t .str a1] (viewR1 (.t (.int .i64))) = spec_l4Find.F k a0 a1 := by kernel_rfl
theorem spec_l4Find.step0 (k : Nat) (x1 : ByteArray) (x2 : Library) (x5 : Int) : runC envX (tabC (spec_l4Find.C k)) (tabL 22 k spec_l4Find.L) 0 (loopAt Tryd.f69 0) (stOf 22 spec_l4Find.sp0 (x1, x2, x5, ())) (spec_l4Find.A0.cont 22 k) = spec_l4Find.l0 (k + 1) x1 x2 x5 := by kernel_rfl
theorem spec_l4Find.G (hE : EnvOk Tryd.prog envX) (pv : Nat → Value) (k : Nat) : ∀ cal A, spec_l4Find.C k cal = some A → ArmOk Tryd.prog envX pv cal A := by
  intro cal A h
  unfold spec_l4Find.C at h
  cases h
theorem spec_l4Find.good (hE : EnvOk Tryd.prog envX) (pv : Nat → Value) (k : Nat) (a0 : Library) (a1 : ByteArray) {y : _} (h : spec_l4Find.F k a0 a1 = some y) : Meets Tryd.prog envX pv (.f 69) (tvals [.lib, .str] (a0, a1, ())) (.t (.int .i64) y) :=
  fun_loops hE (t := spec_l4Find.C) k (fun k _ => spec_l4Find.G hE pv k) (f := 69) (fn := Tryd.f69) (by kernel_rfl) rfl (by kernel_rfl) (by kernel_rfl) (lt := spec_l4Find.L) (by kernel_rfl) (fun b A h => by
    unfold spec_l4Find.L at h; split at h
    · cases h; exact ⟨by kernel_rfl, by kernel_rfl, by kernel_rfl, fun _ => rfl, fun _ => rfl, fun _ => rfl⟩
    · cases h) (fun b A h => by
    unfold spec_l4Find.L at h; split at h
    · cases h; exact fun k x => spec_l4Find.step0 k x.1 x.2.1 x.2.2.1
    · cases h) ((spec_l4Find.run k a0 a1).trans h) fun r hr => wk_view1 hr
/-! ### 47 loop.example/g00896/spec.l4Text -/
def spec_l4Text.l0 : Nat → ByteArray → Int → Option (Sum Bool ByteArray)
  | 0, _, _ => none
  | k + 1, x0, x3 => bif (decide (x3 < (x0.size : Int))) then (bif decide (0 ≤ x3) then (bif decide (x3 < (x0.size : Int)) then (bif (decide ((bt x0 (x3 : Int).toNat) < 32)) then (some (.inl false)) else (bif decide (0 ≤ x3) then (bif decide (x3 < (x0.size : Int)) then (bif (decide ((bt x0 (x3 : Int).toNat) > 126)) then (some (.inl false)) else (spec_l4Text.l0 k x0 (IntKind.wrap .i64 (x3 + 1)))) else none) else none)) else none) else none) else (some (.inr x0))
def spec_l4Text.F (k : Nat) (a0 : ByteArray) : Option (Bool) := bif (decide ((a0.size : Int) > 40)) then (some false) else ((spec_l4Text.l0 k a0 0).bind fun y1 => match y1 with | .inl z2 => some z2 | .inr z2 => bif (beqS z2 (⟨#[]⟩ : ByteArray)) then (some true) else (bif decide (0 ≤ 0) then (bif decide (0 < (z2.size : Int)) then (bif ((bt z2 (0 : Int).toNat) != 32) then (bif decide (0 ≤ (IntKind.wrap .i64 ((z2.size : Int) - 1))) then (bif decide ((IntKind.wrap .i64 ((z2.size : Int) - 1)) < (z2.size : Int)) then (some ((bt z2 ((IntKind.wrap .i64 ((z2.size : Int) - 1)) : Int).toNat) != 32)) else none) else none) else (some false)) else none) else none))
def spec_l4Text.C (k : Nat) : Cal → Option CArm := fun c => match c with
  | _ => none
def spec_l4Text.sp0 : List Sp := [.t 0 .str, .t 3 (.int .i64)]
def spec_l4Text.sp0_0 : List Sp := [.t 2 .bool]
def spec_l4Text.sp0_1 : List Sp := [.t 0 .str]
def spec_l4Text.A0 : LArm := .two spec_l4Text.sp0 spec_l4Text.sp0_0 spec_l4Text.sp0_1 (Bool) (ByteArray) (fun k x => spec_l4Text.l0 k x.1 x.2.1) .ret (.exit 0) (fun y => (y, ())) (fun x => x.1) (fun y => (y, ())) (fun x => x.1)
def spec_l4Text.L : Nat → Option LArm := fun b => match b with
  | 0 => some spec_l4Text.A0
  | _ => none
theorem spec_l4Text.run (k : Nat) (a0 : ByteArray) : runF envX (tabC (spec_l4Text.C k)) (tabL 38 k spec_l4Text.L) Tryd.f47 [.t .str a0] (viewR1 (.t .bool)) = spec_l4Text.F k a0 := by kernel_rfl
theorem spec_l4Text.step0 (k : Nat) (x0 : ByteArray) (x3 : Int) : runC envX (tabC (spec_l4Text.C k)) (tabL 38 k spec_l4Text.L) 0 (loopAt Tryd.f47 0) (stOf 38 spec_l4Text.sp0 (x0, x3, ())) (spec_l4Text.A0.cont 38 k) = spec_l4Text.l0 (k + 1) x0 x3 := by kernel_rfl
theorem spec_l4Text.G (hE : EnvOk Tryd.prog envX) (pv : Nat → Value) (k : Nat) : ∀ cal A, spec_l4Text.C k cal = some A → ArmOk Tryd.prog envX pv cal A := by
  intro cal A h
  unfold spec_l4Text.C at h
  cases h
theorem spec_l4Text.good (hE : EnvOk Tryd.prog envX) (pv : Nat → Value) (k : Nat) (a0 : ByteArray) {y : _} (h : spec_l4Text.F k a0 = some y) : Meets Tryd.prog envX pv (.f 47) (tvals [.str] (a0, ())) (.t .bool y) :=
  fun_loops hE (t := spec_l4Text.C) k (fun k _ => spec_l4Text.G hE pv k) (f := 47) (fn := Tryd.f47) (by kernel_rfl) rfl (by kernel_rfl) (by kernel_rfl) (lt := spec_l4Text.L) (by kernel_rfl) (fun b A h => by
    unfold spec_l4Text.L at h; split at h
    · cases h; exact ⟨by kernel_rfl, by kernel_rfl, by kernel_rfl, fun _ => rfl, fun _ => rfl, fun _ => rfl⟩
    · cases h) (fun b A h => by
    unfold spec_l4Text.L at h; split at h
    · cases h; exact fun k x => spec_l4Text.step0 k x.1 x.2.1
    · cases h) ((spec_l4Text.run k a0).trans h) fun r hr => wk_view1 hr
/-! ### 161 loop.example/g00896/spec.l1In -/
def spec_l1In.F (a0 : Int) (a1 : Int) (a2 : Int) : Option (Bool) := bif (decide (a0 ≥ a1)) then (some (decide (a0 ≤ a2))) else (some false)
def spec_l1In.C : Cal → Option CArm := fun c => match c with
  | _ => none
theorem spec_l1In.run (a0 : Int) (a1 : Int) (a2 : Int) : runF envX (tabC spec_l1In.C) (tabL 15 0 (fun _ => none)) Tryd.f161 [.t (.int .i64) a0, .t (.int .i64) a1, .t (.int .i64) a2] (viewR1 (.t .bool)) = spec_l1In.F a0 a1 a2 := by kernel_rfl
theorem spec_l1In.G (hE : EnvOk Tryd.prog envX) (pv : Nat → Value) : ∀ cal A, spec_l1In.C cal = some A → ArmOk Tryd.prog envX pv cal A := by
  intro cal A h
  unfold spec_l1In.C at h
  cases h
theorem spec_l1In.good (hE : EnvOk Tryd.prog envX) (pv : Nat → Value) (a0 : Int) (a1 : Int) (a2 : Int) {y : _} (h : spec_l1In.F a0 a1 a2 = some y) : Meets Tryd.prog envX pv (.f 161) (tvals [(.int .i64), (.int .i64), (.int .i64)] (a0, a1, a2, ())) (.t .bool y) :=
  fun_plain hE (spec_l1In.G hE pv) (f := 161) (fn := Tryd.f161) (by kernel_rfl) rfl (by kernel_rfl) (by kernel_rfl) ((spec_l1In.run a0 a1 a2).trans h) fun r hr => wk_view1 hr
/-! ### 197 loop.example/g00896/spec.l2Lower -/
def spec_l2Lower.F (a0 : Int) : Option (Bool) := bif (decide (a0 ≥ 97)) then (some (decide (a0 ≤ 122))) else (some false)
def spec_l2Lower.C : Cal → Option CArm := fun c => match c with
  | _ => none
theorem spec_l2Lower.run (a0 : Int) : runF envX (tabC spec_l2Lower.C) (tabL 9 0 (fun _ => none)) Tryd.f197 [.t (.int .u8) a0] (viewR1 (.t .bool)) = spec_l2Lower.F a0 := by kernel_rfl
theorem spec_l2Lower.G (hE : EnvOk Tryd.prog envX) (pv : Nat → Value) : ∀ cal A, spec_l2Lower.C cal = some A → ArmOk Tryd.prog envX pv cal A := by
  intro cal A h
  unfold spec_l2Lower.C at h
  cases h
theorem spec_l2Lower.good (hE : EnvOk Tryd.prog envX) (pv : Nat → Value) (a0 : Int) {y : _} (h : spec_l2Lower.F a0 = some y) : Meets Tryd.prog envX pv (.f 197) (tvals [(.int .u8)] (a0, ())) (.t .bool y) :=
  fun_plain hE (spec_l2Lower.G hE pv) (f := 197) (fn := Tryd.f197) (by kernel_rfl) rfl (by kernel_rfl) (by kernel_rfl) ((spec_l2Lower.run a0).trans h) fun r hr => wk_view1 hr
/-! ### 175 loop.example/g00896/spec.l4Key -/
def spec_l4Key.l0 : Nat → ByteArray → Int → Option (Sum Bool Unit)
  | 0, _, _ => none
  | k + 1, x0, x3 => bif (decide (x3 < (x0.size : Int))) then (bif decide (0 ≤ x3) then (bif decide (x3 < (x0.size : Int)) then ((spec_l2Lower.F (bt x0 (x3 : Int).toNat)).bind fun r3 => bif (!r3) then (bif decide (0 ≤ x3) then (bif decide (x3 < (x0.size : Int)) then (bif (decide ((bt x0 (x3 : Int).toNat) < 48)) then (some (.inl false)) else (bif decide (0 ≤ x3) then (bif decide (x3 < (x0.size : Int)) then (bif (decide ((bt x0 (x3 : Int).toNat) > 57)) then (some (.inl false)) else (spec_l4Key.l0 k x0 (IntKind.wrap .i64 (x3 + 1)))) else none) else none)) else none) else none) else (spec_l4Key.l0 k x0 (IntKind.wrap .i64 (x3 + 1)))) else none) else none) else (some (.inr ()))
def spec_l4Key.F (k : Nat) (a0 : ByteArray) : Option (Bool) := (spec_l1In.F (a0.size : Int) 1 10).bind fun r1 => bif (!r1) then (some false) else (bif decide (0 ≤ 0) then (bif decide (0 < (a0.size : Int)) then ((spec_l2Lower.F (bt a0 (0 : Int).toNat)).bind fun r2 => bif (!r2) then (some false) else ((spec_l4Key.l0 k a0 0).bind fun y4 => match y4 with | .inl z5 => some z5 | .inr z5 => some true)) else none) else none)
def spec_l4Key.C (k : Nat) : Cal → Option CArm := fun c => match c with
  | .f 161 => some (.p [(.int .i64), (.int .i64), (.int .i64)] _ (fun x => spec_l1In.F x.1 x.2.1 x.2.2.1) (fun r => (.t .bool r)))
  | .f 197 => some (.p [(.int .u8)] _ (fun x => spec_l2Lower.F x.1) (fun r => (.t .bool r)))
  | _ => none
def spec_l4Key.sp0 : List Sp := [.t 0 .str, .t 3 (.int .i64)]
def spec_l4Key.sp0_0 : List Sp := [.t 2 .bool]
def spec_l4Key.sp0_1 : List Sp := []
def spec_l4Key.A0 : LArm := .two spec_l4Key.sp0 spec_l4Key.sp0_0 spec_l4Key.sp0_1 (Bool) (Unit) (fun k x => spec_l4Key.l0 k x.1 x.2.1) .ret (.exit 0) (fun y => (y, ())) (fun x => x.1) (fun y => ()) (fun x => ())
def spec_l4Key.L : Nat → Option LArm := fun b => match b with
  | 0 => some spec_l4Key.A0
  | _ => none
theorem spec_l4Key.run (k : Nat) (a0 : ByteArray) : runF envX (tabC (spec_l4Key.C k)) (tabL 37 k spec_l4Key.L) Tryd.f175 [.t .str a0] (viewR1 (.t .bool)) = spec_l4Key.F k a0 := by kernel_rfl
theorem spec_l4Key.step0 (k : Nat) (x0 : ByteArray) (x3 : Int) : runC envX (tabC (spec_l4Key.C k)) (tabL 37 k spec_l4Key.L) 0 (loopAt Tryd.f175 0) (stOf 37 spec_l4Key.sp0 (x0, x3, ())) (spec_l4Key.A0.cont 37 k) = spec_l4Key.l0 (k + 1) x0 x3 := by kernel_rfl
theorem spec_l4Key.G (hE : EnvOk Tryd.prog envX) (pv : Nat → Value) (k : Nat) : ∀ cal A, spec_l4Key.C k cal = some A → ArmOk Tryd.prog envX pv cal A := by
  intro cal A h
  unfold spec_l4Key.C at h
  split at h
  · cases h; exact fun x y hy => spec_l1In.good hE pv x.1 x.2.1 x.2.2.1 hy
  · cases h; exact fun x y hy => spec_l2Lower.good hE pv x.1 hy
  · cases h
theorem spec_l4Key.good (hE : EnvOk Tryd.prog envX) (pv : Nat → Value) (k : Nat) (a0 : ByteArray) {y : _} (h : spec_l4Key.F k a0 = some y) : Meets Tryd.prog envX pv (.f 175) (tvals [.str] (a0, ())) (.t .bool y) :=
  fun_loops hE (t := spec_l4Key.C) k (fun k _ => spec_l4Key.G hE pv k) (f := 175) (fn := Tryd.f175) (by kernel_rfl) rfl (by kernel_rfl) (by kernel_rfl) (lt := spec_l4Key.L) (by kernel_rfl) (fun b A h => by
    unfold spec_l4Key.L at h; split at h
    · cases h; exact ⟨by kernel_rfl, by kernel_rfl, by kernel_rfl, fun _ => rfl, fun _ => rfl, fun _ => rfl⟩
    · cases h) (fun b A h => by
    unfold spec_l4Key.L at h; split at h
    · cases h; exact fun k x => spec_l4Key.step0 k x.1 x.2.1
    · cases h) ((spec_l4Key.run k a0).trans h) fun r hr => wk_view1 hr
/-! ### 213 loop.example/g00896/spec.l2Upper -/
def spec_l2Upper.F (a0 : Int) : Option (Bool) := bif (decide (a0 ≥ 65)) then (some (decide (a0 ≤ 90))) else (some false)
def spec_l2Upper.C : Cal → Option CArm := fun c => match c with
  | _ => none
theorem spec_l2Upper.run (a0 : Int) : runF envX (tabC spec_l2Upper.C) (tabL 9 0 (fun _ => none)) Tryd.f213 [.t (.int .u8) a0] (viewR1 (.t .bool)) = spec_l2Upper.F a0 := by kernel_rfl
theorem spec_l2Upper.G (hE : EnvOk Tryd.prog envX) (pv : Nat → Value) : ∀ cal A, spec_l2Upper.C cal = some A → ArmOk Tryd.prog envX pv cal A := by
  intro cal A h
  unfold spec_l2Upper.C at h
  cases h
theorem spec_l2Upper.good (hE : EnvOk Tryd.prog envX) (pv : Nat → Value) (a0 : Int) {y : _} (h : spec_l2Upper.F a0 = some y) : Meets Tryd.prog envX pv (.f 213) (tvals [(.int .u8)] (a0, ())) (.t .bool y) :=
  fun_plain hE (spec_l2Upper.G hE pv) (f := 213) (fn := Tryd.f213) (by kernel_rfl) rfl (by kernel_rfl) (by kernel_rfl) ((spec_l2Upper.run a0).trans h) fun r hr => wk_view1 hr
/-! ### 221 loop.example/g00896/spec.l2Letter -/
def spec_l2Letter.F (a0 : Int) : Option (Bool) := (spec_l2Upper.F a0).bind fun r1 => bif r1 then (some true) else ((spec_l2Lower.F a0).bind fun r2 => some r2)
def spec_l2Letter.C : Cal → Option CArm := fun c => match c with
  | .f 213 => some (.p [(.int .u8)] _ (fun x => spec_l2Upper.F x.1) (fun r => (.t .bool r)))
  | .f 197 => some (.p [(.int .u8)] _ (fun x => spec_l2Lower.F x.1) (fun r => (.t .bool r)))
  | _ => none
theorem spec_l2Letter.run (a0 : Int) : runF envX (tabC spec_l2Letter.C) (tabL 9 0 (fun _ => none)) Tryd.f221 [.t (.int .u8) a0] (viewR1 (.t .bool)) = spec_l2Letter.F a0 := by kernel_rfl
theorem spec_l2Letter.G (hE : EnvOk Tryd.prog envX) (pv : Nat → Value) : ∀ cal A, spec_l2Letter.C cal = some A → ArmOk Tryd.prog envX pv cal A := by
  intro cal A h
  unfold spec_l2Letter.C at h
  split at h
  · cases h; exact fun x y hy => spec_l2Upper.good hE pv x.1 hy
  · cases h; exact fun x y hy => spec_l2Lower.good hE pv x.1 hy
  · cases h
theorem spec_l2Letter.good (hE : EnvOk Tryd.prog envX) (pv : Nat → Value) (a0 : Int) {y : _} (h : spec_l2Letter.F a0 = some y) : Meets Tryd.prog envX pv (.f 221) (tvals [(.int .u8)] (a0, ())) (.t .bool y) :=
  fun_plain hE (spec_l2Letter.G hE pv) (f := 221) (fn := Tryd.f221) (by kernel_rfl) rfl (by kernel_rfl) (by kernel_rfl) ((spec_l2Letter.run a0).trans h) fun r hr => wk_view1 hr
/-! ### 212 loop.example/g00896/spec.l2Word -/
def spec_l2Word.l0 : Nat → ByteArray → Int → Option (Sum Bool Unit)
  | 0, _, _ => none
  | k + 1, x0, x3 => bif (decide (x3 < (x0.size : Int))) then (bif decide (0 ≤ x3) then (bif decide (x3 < (x0.size : Int)) then ((spec_l2Letter.F (bt x0 (x3 : Int).toNat)).bind fun r4 => bif (!r4) then (bif decide (0 ≤ x3) then (bif decide (x3 < (x0.size : Int)) then (bif ((bt x0 (x3 : Int).toNat) != 45) then (bif decide (0 ≤ x3) then (bif decide (x3 < (x0.size : Int)) then (bif ((bt x0 (x3 : Int).toNat) != 39) then (some (.inl false)) else (bif decide (0 ≤ (IntKind.wrap .i64 (x3 - 1))) then (bif decide ((IntKind.wrap .i64 (x3 - 1)) < (x0.size : Int)) then ((spec_l2Letter.F (bt x0 ((IntKind.wrap .i64 (x3 - 1)) : Int).toNat)).bind fun r5 => bif (!r5) then (some (.inl false)) else (spec_l2Word.l0 k x0 (IntKind.wrap .i64 (x3 + 1)))) else none) else none)) else none) else none) else (bif decide (0 ≤ (IntKind.wrap .i64 (x3 - 1))) then (bif decide ((IntKind.wrap .i64 (x3 - 1)) < (x0.size : Int)) then ((spec_l2Letter.F (bt x0 ((IntKind.wrap .i64 (x3 - 1)) : Int).toNat)).bind fun r6 => bif (!r6) then (some (.inl false)) else (spec_l2Word.l0 k x0 (IntKind.wrap .i64 (x3 + 1)))) else none) else none)) else none) else none) else (spec_l2Word.l0 k x0 (IntKind.wrap .i64 (x3 + 1)))) else none) else none) else (some (.inr ()))
def spec_l2Word.F (k : Nat) (a0 : ByteArray) : Option (Bool) := (spec_l1In.F (a0.size : Int) 1 12).bind fun r1 => bif (!r1) then (some false) else (bif decide (0 ≤ 0) then (bif decide (0 < (a0.size : Int)) then ((spec_l2Letter.F (bt a0 (0 : Int).toNat)).bind fun r2 => bif (!r2) then (some false) else (bif decide (0 ≤ (IntKind.wrap .i64 ((a0.size : Int) - 1))) then (bif decide ((IntKind.wrap .i64 ((a0.size : Int) - 1)) < (a0.size : Int)) then ((spec_l2Letter.F (bt a0 ((IntKind.wrap .i64 ((a0.size : Int) - 1)) : Int).toNat)).bind fun r3 => bif (!r3) then (some false) else ((spec_l2Word.l0 k a0 1).bind fun y7 => match y7 with | .inl z8 => some z8 | .inr z8 => some true)) else none) else none)) else none) else none)
def spec_l2Word.C (k : Nat) : Cal → Option CArm := fun c => match c with
  | .f 161 => some (.p [(.int .i64), (.int .i64), (.int .i64)] _ (fun x => spec_l1In.F x.1 x.2.1 x.2.2.1) (fun r => (.t .bool r)))
  | .f 221 => some (.p [(.int .u8)] _ (fun x => spec_l2Letter.F x.1) (fun r => (.t .bool r)))
  | _ => none
def spec_l2Word.sp0 : List Sp := [.t 0 .str, .t 3 (.int .i64)]
def spec_l2Word.sp0_0 : List Sp := [.t 2 .bool]
def spec_l2Word.sp0_1 : List Sp := []
def spec_l2Word.A0 : LArm := .two spec_l2Word.sp0 spec_l2Word.sp0_0 spec_l2Word.sp0_1 (Bool) (Unit) (fun k x => spec_l2Word.l0 k x.1 x.2.1) .ret (.exit 0) (fun y => (y, ())) (fun x => x.1) (fun y => ()) (fun x => ())
def spec_l2Word.L : Nat → Option LArm := fun b => match b with
  | 0 => some spec_l2Word.A0
  | _ => none
theorem spec_l2Word.run (k : Nat) (a0 : ByteArray) : runF envX (tabC (spec_l2Word.C k)) (tabL 54 k spec_l2Word.L) Tryd.f212 [.t .str a0] (viewR1 (.t .bool)) = spec_l2Word.F k a0 := by kernel_rfl
theorem spec_l2Word.step0 (k : Nat) (x0 : ByteArray) (x3 : Int) : runC envX (tabC (spec_l2Word.C k)) (tabL 54 k spec_l2Word.L) 0 (loopAt Tryd.f212 0) (stOf 54 spec_l2Word.sp0 (x0, x3, ())) (spec_l2Word.A0.cont 54 k) = spec_l2Word.l0 (k + 1) x0 x3 := by kernel_rfl
theorem spec_l2Word.G (hE : EnvOk Tryd.prog envX) (pv : Nat → Value) (k : Nat) : ∀ cal A, spec_l2Word.C k cal = some A → ArmOk Tryd.prog envX pv cal A := by
  intro cal A h
  unfold spec_l2Word.C at h
  split at h
  · cases h; exact fun x y hy => spec_l1In.good hE pv x.1 x.2.1 x.2.2.1 hy
  · cases h; exact fun x y hy => spec_l2Letter.good hE pv x.1 hy
  · cases h
theorem spec_l2Word.good (hE : EnvOk Tryd.prog envX) (pv : Nat → Value) (k : Nat) (a0 : ByteArray) {y : _} (h : spec_l2Word.F k a0 = some y) : Meets Tryd.prog envX pv (.f 212) (tvals [.str] (a0, ())) (.t .bool y) :=
  fun_loops hE (t := spec_l2Word.C) k (fun k _ => spec_l2Word.G hE pv k) (f := 212) (fn := Tryd.f212) (by kernel_rfl) rfl (by kernel_rfl) (by kernel_rfl) (lt := spec_l2Word.L) (by kernel_rfl) (fun b A h => by
    unfold spec_l2Word.L at h; split at h
    · cases h; exact ⟨by kernel_rfl, by kernel_rfl, by kernel_rfl, fun _ => rfl, fun _ => rfl, fun _ => rfl⟩
    · cases h) (fun b A h => by
    unfold spec_l2Word.L at h; split at h
    · cases h; exact fun k x => spec_l2Word.step0 k x.1 x.2.1
    · cases h) ((spec_l2Word.run k a0).trans h) fun r hr => wk_view1 hr
/-! ### 222 loop.example/g00896/spec.l1Split -/
def spec_l1Split.l0 : Nat → ByteArray → Int → (List ByteArray) → Int → Int → Option (ByteArray × (List ByteArray) × Int)
  | 0, _, _, _, _, _ => none
  | k + 1, x0, x1, x5, x6, x7 => bif (decide (x7 < (x0.size : Int))) then (bif decide (0 ≤ x7) then (bif decide (x7 < (x0.size : Int)) then (bif ((bt x0 (x7 : Int).toNat) == x1) then (bif decide (0 ≤ x7) then (bif decide (x7 ≤ (x0.size : Int)) then (bif decide (0 ≤ x6) then (bif decide (x6 ≤ x7) then (bif room (x5.length + ([(x0.extract (x6 : Int).toNat (x7 : Int).toNat)] : List ByteArray).length) .str then (spec_l1Split.l0 k x0 x1 (x5 ++ ([(x0.extract (x6 : Int).toNat (x7 : Int).toNat)] : List ByteArray)) (IntKind.wrap .i64 (x7 + 1)) (IntKind.wrap .i64 (x7 + 1))) else none) else none) else none) else none) else none) else (spec_l1Split.l0 k x0 x1 x5 x6 (IntKind.wrap .i64 (x7 + 1)))) else none) else none) else (some (x0, x5, x6))
def spec_l1Split.F (k : Nat) (a0 : ByteArray) (a1 : Int) : Option (List ByteArray) := (spec_l1Split.l0 k a0 a1 ([] : List ByteArray) 0 0).bind fun y1 => bif decide (0 ≤ y1.2.2) then (bif decide (y1.2.2 ≤ (y1.1.size : Int)) then (bif room (y1.2.1.length + ([(y1.1.extract (y1.2.2 : Int).toNat y1.1.size)] : List ByteArray).length) .str then (some (y1.2.1 ++ ([(y1.1.extract (y1.2.2 : Int).toNat y1.1.size)] : List ByteArray))) else none) else none) else none
def spec_l1Split.C (k : Nat) : Cal → Option CArm := fun c => match c with
  | _ => none
def spec_l1Split.sp0 : List Sp := [.t 0 .str, .t 1 (.int .u8), .own 5 1024 9 .str false true, .t 6 (.int .i64), .t 7 (.int .i64)]
def spec_l1Split.sp0_0 : List Sp := [.t 0 .str, .own 5 1024 9 .str false true, .t 6 (.int .i64)]
def spec_l1Split.A0 : LArm := .one spec_l1Split.sp0 spec_l1Split.sp0_0 (ByteArray × (List ByteArray) × Int) (fun k x => spec_l1Split.l0 k x.1 x.2.1 x.2.2.1 x.2.2.2.1 x.2.2.2.2.1) (.exit 0) (fun y => (y.1, y.2.1, y.2.2, ())) (fun x => (x.1, x.2.1, x.2.2.1))
def spec_l1Split.L : Nat → Option LArm := fun b => match b with
  | 0 => some spec_l1Split.A0
  | _ => none
theorem spec_l1Split.run (k : Nat) (a0 : ByteArray) (a1 : Int) : runF envX (tabC (spec_l1Split.C k)) (tabL 35 k spec_l1Split.L) Tryd.f222 [.t .str a0, .t (.int .u8) a1] (viewR1 (.fr 9 .str)) = spec_l1Split.F k a0 a1 := by kernel_rfl
theorem spec_l1Split.step0 (k : Nat) (x0 : ByteArray) (x1 : Int) (x5 : List ByteArray) (x6 : Int) (x7 : Int) : runC envX (tabC (spec_l1Split.C k)) (tabL 35 k spec_l1Split.L) 0 (loopAt Tryd.f222 0) (stOf 35 spec_l1Split.sp0 (x0, x1, x5, x6, x7, ())) (spec_l1Split.A0.cont 35 k) = spec_l1Split.l0 (k + 1) x0 x1 x5 x6 x7 := by kernel_rfl
theorem spec_l1Split.G (hE : EnvOk Tryd.prog envX) (pv : Nat → Value) (k : Nat) : ∀ cal A, spec_l1Split.C k cal = some A → ArmOk Tryd.prog envX pv cal A := by
  intro cal A h
  unfold spec_l1Split.C at h
  cases h
theorem spec_l1Split.good (hE : EnvOk Tryd.prog envX) (pv : Nat → Value) (k : Nat) (a0 : ByteArray) (a1 : Int) {y : _} (h : spec_l1Split.F k a0 a1 = some y) : Meets Tryd.prog envX pv (.f 222) (tvals [.str, (.int .u8)] (a0, a1, ())) (.fr 9 .str y) :=
  fun_loops hE (t := spec_l1Split.C) k (fun k _ => spec_l1Split.G hE pv k) (f := 222) (fn := Tryd.f222) (by kernel_rfl) rfl (by kernel_rfl) (by kernel_rfl) (lt := spec_l1Split.L) (by kernel_rfl) (fun b A h => by
    unfold spec_l1Split.L at h; split at h
    · cases h; exact ⟨by kernel_rfl, by kernel_rfl, fun _ => rfl, fun _ => rfl⟩
    · cases h) (fun b A h => by
    unfold spec_l1Split.L at h; split at h
    · cases h; exact fun k x => spec_l1Split.step0 k x.1 x.2.1 x.2.2.1 x.2.2.2.1 x.2.2.2.2.1
    · cases h) ((spec_l1Split.run k a0 a1).trans h) fun r hr => wk_view1 hr
/-! ### 214 loop.example/g00896/spec.l2Particle -/
def spec_l2Particle.l2 : Nat → (List ByteArray) → Int → Int → Option (Sum Bool ((List ByteArray) × Int))
  | 0, _, _, _ => none
  | k + 1, x3, x4, x5 => bif decide (0 ≤ x4) then (bif decide (x4 < (x3.length : Int)) then (bif (decide (x5 < ((x3.getD ((x4 : Int).toNat) (⟨#[]⟩ : ByteArray)).size : Int))) then (bif decide (0 ≤ x4) then (bif decide (x4 < (x3.length : Int)) then (bif decide (0 ≤ x5) then (bif decide (x5 < ((x3.getD ((x4 : Int).toNat) (⟨#[]⟩ : ByteArray)).size : Int)) then ((spec_l2Lower.F (bt (x3.getD ((x4 : Int).toNat) (⟨#[]⟩ : ByteArray)) (x5 : Int).toNat)).bind fun r3 => bif (!r3) then (some (.inl false)) else (spec_l2Particle.l2 k x3 x4 (IntKind.wrap .i64 (x5 + 1)))) else none) else none) else none) else none) else (some (.inr (x3, x4)))) else none) else none
def spec_l2Particle.l0 : Nat → (List ByteArray) → Int → Option (Sum Bool (List ByteArray))
  | 0, _, _ => none
  | k + 1, x3, x4 => bif (decide (x4 < (x3.length : Int))) then (bif decide (0 ≤ x4) then (bif decide (x4 < (x3.length : Int)) then ((spec_l2Word.F k (x3.getD ((x4 : Int).toNat) (⟨#[]⟩ : ByteArray))).bind fun r2 => bif (!r2) then (some (.inl false)) else ((spec_l2Particle.l2 k x3 x4 0).bind fun y4 => match y4 with | .inl z5 => some (.inl z5) | .inr z5 => spec_l2Particle.l0 k z5.1 (IntKind.wrap .i64 (z5.2 + 1)))) else none) else none) else (some (.inr x3))
def spec_l2Particle.F (k : Nat) (a0 : ByteArray) : Option (Bool) := bif (beqS a0 (⟨#[]⟩ : ByteArray)) then (some true) else ((spec_l1Split.F k a0 32).bind fun r1 => (spec_l2Particle.l0 k r1 0).bind fun y6 => match y6 with | .inl z7 => some z7 | .inr z7 => some (decide ((z7.length : Int) ≤ 2)))
def spec_l2Particle.C (k : Nat) : Cal → Option CArm := fun c => match c with
  | .f 222 => some (.p [.str, (.int .u8)] _ (fun x => spec_l1Split.F k x.1 x.2.1) (fun r => (.fr 9 .str r)))
  | .f 212 => some (.p [.str] _ (fun x => spec_l2Word.F k x.1) (fun r => (.t .bool r)))
  | .f 197 => some (.p [(.int .u8)] _ (fun x => spec_l2Lower.F x.1) (fun r => (.t .bool r)))
  | _ => none
def spec_l2Particle.sp2 : List Sp := [.own 3 3076 9 .str false true, .t 4 (.int .i64), .t 5 (.int .i64)]
def spec_l2Particle.sp2_0 : List Sp := [.t 2 .bool]
def spec_l2Particle.sp2_1 : List Sp := [.own 3 3076 9 .str false true, .t 4 (.int .i64)]
def spec_l2Particle.A2 : LArm := .two spec_l2Particle.sp2 spec_l2Particle.sp2_0 spec_l2Particle.sp2_1 (Bool) ((List ByteArray) × Int) (fun k x => spec_l2Particle.l2 k x.1 x.2.1 x.2.2.1) .ret (.exit 2) (fun y => (y, ())) (fun x => x.1) (fun y => (y.1, y.2, ())) (fun x => (x.1, x.2.1))
def spec_l2Particle.sp0 : List Sp := [.own 3 3076 9 .str false true, .t 4 (.int .i64)]
def spec_l2Particle.sp0_0 : List Sp := [.t 2 .bool]
def spec_l2Particle.sp0_1 : List Sp := [.own 3 3076 9 .str false true]
def spec_l2Particle.A0 : LArm := .two spec_l2Particle.sp0 spec_l2Particle.sp0_0 spec_l2Particle.sp0_1 (Bool) ((List ByteArray)) (fun k x => spec_l2Particle.l0 k x.1 x.2.1) .ret (.exit 0) (fun y => (y, ())) (fun x => x.1) (fun y => (y, ())) (fun x => x.1)
def spec_l2Particle.L : Nat → Option LArm := fun b => match b with
  | 2 => some spec_l2Particle.A2
  | 0 => some spec_l2Particle.A0
  | _ => none
theorem spec_l2Particle.run (k : Nat) (a0 : ByteArray) : runF envX (tabC (spec_l2Particle.C k)) (tabL 42 k spec_l2Particle.L) Tryd.f214 [.t .str a0] (viewR1 (.t .bool)) = spec_l2Particle.F k a0 := by kernel_rfl
theorem spec_l2Particle.step2 (k : Nat) (x3 : List ByteArray) (x4 : Int) (x5 : Int) : runC envX (tabC (spec_l2Particle.C k)) (tabL 42 k spec_l2Particle.L) 2 (loopAt Tryd.f214 2) (stOf 42 spec_l2Particle.sp2 (x3, x4, x5, ())) (spec_l2Particle.A2.cont 42 k) = spec_l2Particle.l2 (k + 1) x3 x4 x5 := by kernel_rfl
theorem spec_l2Particle.step0 (k : Nat) (x3 : List ByteArray) (x4 : Int) : runC envX (tabC (spec_l2Particle.C k)) (tabL 42 k spec_l2Particle.L) 0 (loopAt Tryd.f214 0) (stOf 42 spec_l2Particle.sp0 (x3, x4, ())) (spec_l2Particle.A0.cont 42 k) = spec_l2Particle.l0 (k + 1) x3 x4 := by kernel_rfl
theorem spec_l2Particle.G (hE : EnvOk Tryd.prog envX) (pv : Nat → Value) (k : Nat) : ∀ cal A, spec_l2Particle.C k cal = some A → ArmOk Tryd.prog envX pv cal A := by
  intro cal A h
  unfold spec_l2Particle.C at h
  split at h
  · cases h; exact fun x y hy => spec_l1Split.good hE pv k x.1 x.2.1 hy
  · cases h; exact fun x y hy => spec_l2Word.good hE pv k x.1 hy
  · cases h; exact fun x y hy => spec_l2Lower.good hE pv x.1 hy
  · cases h
theorem spec_l2Particle.good (hE : EnvOk Tryd.prog envX) (pv : Nat → Value) (k : Nat) (a0 : ByteArray) {y : _} (h : spec_l2Particle.F k a0 = some y) : Meets Tryd.prog envX pv (.f 214) (tvals [.str] (a0, ())) (.t .bool y) :=
  fun_loops hE (t := spec_l2Particle.C) k (fun k _ => spec_l2Particle.G hE pv k) (f := 214) (fn := Tryd.f214) (by kernel_rfl) rfl (by kernel_rfl) (by kernel_rfl) (lt := spec_l2Particle.L) (by kernel_rfl) (fun b A h => by
    unfold spec_l2Particle.L at h; split at h
    · cases h; exact ⟨by kernel_rfl, by kernel_rfl, by kernel_rfl, fun _ => rfl, fun _ => rfl, fun _ => rfl⟩
    · cases h; exact ⟨by kernel_rfl, by kernel_rfl, by kernel_rfl, fun _ => rfl, fun _ => rfl, fun _ => rfl⟩
    · cases h) (fun b A h => by
    unfold spec_l2Particle.L at h; split at h
    · cases h; exact fun k x => spec_l2Particle.step2 k x.1 x.2.1 x.2.2.1
    · cases h; exact fun k x => spec_l2Particle.step0 k x.1 x.2.1
    · cases h) ((spec_l2Particle.run k a0).trans h) fun r hr => wk_view1 hr
/-! ### 198 loop.example/g00896/spec.l2Good -/
def spec_l2Good.l0 : Nat → Name → Int → Option (Sum Bool Name)
  | 0, _, _ => none
  | k + 1, x1, x3 => bif (decide (x3 < (x1.given.length : Int))) then (bif decide (0 ≤ x3) then (bif decide (x3 < (x1.given.length : Int)) then ((spec_l2Word.F k (x1.given.getD (x3 : Int).toNat (⟨#[]⟩ : ByteArray))).bind fun r1 => bif (!r1) then (some (.inl false)) else (bif decide (0 ≤ x3) then (bif decide (x3 < (x1.given.length : Int)) then (bif decide (0 ≤ 0) then (bif decide (0 < ((x1.given.getD (x3 : Int).toNat (⟨#[]⟩ : ByteArray)).size : Int)) then ((spec_l2Upper.F (bt (x1.given.getD (x3 : Int).toNat (⟨#[]⟩ : ByteArray)) (0 : Int).toNat)).bind fun r2 => bif (!r2) then (some (.inl false)) else (spec_l2Good.l0 k x1 (IntKind.wrap .i64 (x3 + 1)))) else none) else none) else none) else none)) else none) else none) else (some (.inr x1))
def spec_l2Good.F (k : Nat) (a0 : Name) : Option (Bool) := (spec_l2Good.l0 k a0 0).bind fun y3 => match y3 with | .inl z4 => some z4 | .inr z4 => bif (decide ((z4.given.length : Int) ≤ 3)) then ((spec_l2Particle.F k z4.particle).bind fun r5 => bif r5 then ((spec_l2Word.F k z4.family).bind fun r6 => bif r6 then (bif decide (0 ≤ 0) then (bif decide (0 < (z4.family.size : Int)) then ((spec_l2Upper.F (bt z4.family (0 : Int).toNat)).bind fun r7 => bif r7 then (bif (beqS z4.suffix (⟨#[]⟩ : ByteArray)) then (some true) else ((spec_l2Word.F k z4.suffix).bind fun r8 => some r8)) else (some false)) else none) else none) else (some false)) else (some false)) else (some false)
def spec_l2Good.C (k : Nat) : Cal → Option CArm := fun c => match c with
  | .f 212 => some (.p [.str] _ (fun x => spec_l2Word.F k x.1) (fun r => (.t .bool r)))
  | .f 213 => some (.p [(.int .u8)] _ (fun x => spec_l2Upper.F x.1) (fun r => (.t .bool r)))
  | .f 214 => some (.p [.str] _ (fun x => spec_l2Particle.F k x.1) (fun r => (.t .bool r)))
  | _ => none
def spec_l2Good.sp0 : List Sp := [.boxT 1 0 .name, .t 3 (.int .i64)]
def spec_l2Good.sp0_0 : List Sp := [.t 2 .bool]
def spec_l2Good.sp0_1 : List Sp := [.boxT 1 0 .name]
def spec_l2Good.A0 : LArm := .two spec_l2Good.sp0 spec_l2Good.sp0_0 spec_l2Good.sp0_1 (Bool) (Name) (fun k x => spec_l2Good.l0 k x.1 x.2.1) .ret (.exit 0) (fun y => (y, ())) (fun x => x.1) (fun y => (y, ())) (fun x => x.1)
def spec_l2Good.L : Nat → Option LArm := fun b => match b with
  | 0 => some spec_l2Good.A0
  | _ => none
theorem spec_l2Good.run (k : Nat) (a0 : Name) : runF envX (tabC (spec_l2Good.C k)) (tabL 58 k spec_l2Good.L) Tryd.f198 [.t .name a0] (viewR1 (.t .bool)) = spec_l2Good.F k a0 := by kernel_rfl
theorem spec_l2Good.step0 (k : Nat) (x1 : Name) (x3 : Int) : runC envX (tabC (spec_l2Good.C k)) (tabL 58 k spec_l2Good.L) 0 (loopAt Tryd.f198 0) (stOf 58 spec_l2Good.sp0 (x1, x3, ())) (spec_l2Good.A0.cont 58 k) = spec_l2Good.l0 (k + 1) x1 x3 := by kernel_rfl
theorem spec_l2Good.G (hE : EnvOk Tryd.prog envX) (pv : Nat → Value) (k : Nat) : ∀ cal A, spec_l2Good.C k cal = some A → ArmOk Tryd.prog envX pv cal A := by
  intro cal A h
  unfold spec_l2Good.C at h
  split at h
  · cases h; exact fun x y hy => spec_l2Word.good hE pv k x.1 hy
  · cases h; exact fun x y hy => spec_l2Upper.good hE pv x.1 hy
  · cases h; exact fun x y hy => spec_l2Particle.good hE pv k x.1 hy
  · cases h
theorem spec_l2Good.good (hE : EnvOk Tryd.prog envX) (pv : Nat → Value) (k : Nat) (a0 : Name) {y : _} (h : spec_l2Good.F k a0 = some y) : Meets Tryd.prog envX pv (.f 198) (tvals [.name] (a0, ())) (.t .bool y) :=
  fun_loops hE (t := spec_l2Good.C) k (fun k _ => spec_l2Good.G hE pv k) (f := 198) (fn := Tryd.f198) (by kernel_rfl) rfl (by kernel_rfl) (by kernel_rfl) (lt := spec_l2Good.L) (by kernel_rfl) (fun b A h => by
    unfold spec_l2Good.L at h; split at h
    · cases h; exact ⟨by kernel_rfl, by kernel_rfl, by kernel_rfl, fun _ => rfl, fun _ => rfl, fun _ => rfl⟩
    · cases h) (fun b A h => by
    unfold spec_l2Good.L at h; split at h
    · cases h; exact fun k x => spec_l2Good.step0 k x.1 x.2.1
    · cases h) ((spec_l2Good.run k a0).trans h) fun r hr => wk_view1 hr
/-! ### 176 loop.example/g00896/spec.l2List -/
def spec_l2List.l0 : Nat → (List Name) → Int → Option (Sum Bool (List Name))
  | 0, _, _ => none
  | k + 1, x0, x3 => bif (decide (x3 < (x0.length : Int))) then (bif (decide (x3 ≤ 4)) then (bif decide (0 ≤ x3) then (bif decide (x3 < (x0.length : Int)) then ((spec_l2Good.F k (x0.getD (x3 : Int).toNat (dflt .name))).bind fun r1 => bif (!r1) then (some (.inl false)) else (spec_l2List.l0 k x0 (IntKind.wrap .i64 (x3 + 1)))) else none) else none) else (some (.inr x0))) else (some (.inr x0))
def spec_l2List.F (k : Nat) (a0 : List Name) : Option (Bool) := (spec_l2List.l0 k a0 0).bind fun y2 => match y2 with | .inl z3 => some z3 | .inr z3 => some (decide ((z3.length : Int) ≤ 4))
def spec_l2List.C (k : Nat) : Cal → Option CArm := fun c => match c with
  | .f 198 => some (.p [.name] _ (fun x => spec_l2Good.F k x.1) (fun r => (.t .bool r)))
  | _ => none
def spec_l2List.sp0 : List Sp := [.t 0 (.sl .name), .t 3 (.int .i64)]
def spec_l2List.sp0_0 : List Sp := [.t 2 .bool]
def spec_l2List.sp0_1 : List Sp := [.t 0 (.sl .name)]
def spec_l2List.A0 : LArm := .two spec_l2List.sp0 spec_l2List.sp0_0 spec_l2List.sp0_1 (Bool) ((List Name)) (fun k x => spec_l2List.l0 k x.1 x.2.1) .ret (.exit 0) (fun y => (y, ())) (fun x => x.1) (fun y => (y, ())) (fun x => x.1)
def spec_l2List.L : Nat → Option LArm := fun b => match b with
  | 0 => some spec_l2List.A0
  | _ => none
theorem spec_l2List.run (k : Nat) (a0 : List Name) : runF envX (tabC (spec_l2List.C k)) (tabL 23 k spec_l2List.L) Tryd.f176 [.t (.sl .name) a0] (viewR1 (.t .bool)) = spec_l2List.F k a0 := by kernel_rfl
theorem spec_l2List.step0 (k : Nat) (x0 : List Name) (x3 : Int) : runC envX (tabC (spec_l2List.C k)) (tabL 23 k spec_l2List.L) 0 (loopAt Tryd.f176 0) (stOf 23 spec_l2List.sp0 (x0, x3, ())) (spec_l2List.A0.cont 23 k) = spec_l2List.l0 (k + 1) x0 x3 := by kernel_rfl
theorem spec_l2List.G (hE : EnvOk Tryd.prog envX) (pv : Nat → Value) (k : Nat) : ∀ cal A, spec_l2List.C k cal = some A → ArmOk Tryd.prog envX pv cal A := by
  intro cal A h
  unfold spec_l2List.C at h
  split at h
  · cases h; exact fun x y hy => spec_l2Good.good hE pv k x.1 hy
  · cases h
theorem spec_l2List.good (hE : EnvOk Tryd.prog envX) (pv : Nat → Value) (k : Nat) (a0 : List Name) {y : _} (h : spec_l2List.F k a0 = some y) : Meets Tryd.prog envX pv (.f 176) (tvals [(.sl .name)] (a0, ())) (.t .bool y) :=
  fun_loops hE (t := spec_l2List.C) k (fun k _ => spec_l2List.G hE pv k) (f := 176) (fn := Tryd.f176) (by kernel_rfl) rfl (by kernel_rfl) (by kernel_rfl) (lt := spec_l2List.L) (by kernel_rfl) (fun b A h => by
    unfold spec_l2List.L at h; split at h
    · cases h; exact ⟨by kernel_rfl, by kernel_rfl, by kernel_rfl, fun _ => rfl, fun _ => rfl, fun _ => rfl⟩
    · cases h) (fun b A h => by
    unfold spec_l2List.L at h; split at h
    · cases h; exact fun k x => spec_l2List.step0 k x.1 x.2.1
    · cases h) ((spec_l2List.run k a0).trans h) fun r hr => wk_view1 hr
/-! ### 199 loop.example/g00896/spec.l3Days -/
def spec_l3Days.F (a0 : Int) (a1 : Int) : Option (Int) := bif (a1 == 2) then (bif (4 == 0) then (none) else (bif ((Int.tmod a0 4) == 0) then (bif (100 == 0) then (none) else (bif ((Int.tmod a0 100) != 0) then (some 29) else (bif (400 == 0) then (none) else (bif ((Int.tmod a0 400) == 0) then (some 29) else (some 28))))) else (bif (400 == 0) then (none) else (bif ((Int.tmod a0 400) == 0) then (some 29) else (some 28))))) else (bif (a1 == 4) then (some 30) else (bif (a1 == 6) then (some 30) else (bif (a1 == 9) then (some 30) else (bif (a1 == 11) then (some 30) else (some 31)))))
def spec_l3Days.C : Cal → Option CArm := fun c => match c with
  | _ => none
theorem spec_l3Days.run (a0 : Int) (a1 : Int) : runF envX (tabC spec_l3Days.C) (tabL 34 0 (fun _ => none)) Tryd.f199 [.t (.int .i64) a0, .t (.int .i64) a1] (viewR1 (.t (.int .i64))) = spec_l3Days.F a0 a1 := by kernel_rfl
theorem spec_l3Days.G (hE : EnvOk Tryd.prog envX) (pv : Nat → Value) : ∀ cal A, spec_l3Days.C cal = some A → ArmOk Tryd.prog envX pv cal A := by
  intro cal A h
  unfold spec_l3Days.C at h
  cases h
theorem spec_l3Days.good (hE : EnvOk Tryd.prog envX) (pv : Nat → Value) (a0 : Int) (a1 : Int) {y : _} (h : spec_l3Days.F a0 a1 = some y) : Meets Tryd.prog envX pv (.f 199) (tvals [(.int .i64), (.int .i64)] (a0, a1, ())) (.t (.int .i64) y) :=
  fun_plain hE (spec_l3Days.G hE pv) (f := 199) (fn := Tryd.f199) (by kernel_rfl) rfl (by kernel_rfl) (by kernel_rfl) ((spec_l3Days.run a0 a1).trans h) fun r hr => wk_view1 hr
/-! ### 177 loop.example/g00896/spec.l3Good -/
def spec_l3Good.F (a0 : Date) : Option (Bool) := bif ((a0.y == 0 && (a0.m == 0 && (a0.d == 0 && a0.c == false)))) then (some true) else ((spec_l1In.F a0.y 1 2999).bind fun r1 => bif (!r1) then (some false) else ((spec_l1In.F a0.m 0 12).bind fun r2 => bif (!r2) then (some false) else (bif a0.c then (bif (a0.m == 0) then (some (a0.d == 0)) else (some false)) else (bif (a0.m == 0) then (some (a0.d == 0)) else ((spec_l3Days.F a0.y a0.m).bind fun r3 => (spec_l1In.F a0.d 0 r3).bind fun r4 => some r4)))))
def spec_l3Good.C : Cal → Option CArm := fun c => match c with
  | .f 161 => some (.p [(.int .i64), (.int .i64), (.int .i64)] _ (fun x => spec_l1In.F x.1 x.2.1 x.2.2.1) (fun r => (.t .bool r)))
  | .f 199 => some (.p [(.int .i64), (.int .i64)] _ (fun x => spec_l3Days.F x.1 x.2.1) (fun r => (.t (.int .i64) r)))
  | _ => none
theorem spec_l3Good.run (a0 : Date) : runF envX (tabC spec_l3Good.C) (tabL 44 0 (fun _ => none)) Tryd.f177 [.t .date a0] (viewR1 (.t .bool)) = spec_l3Good.F a0 := by kernel_rfl
theorem spec_l3Good.G (hE : EnvOk Tryd.prog envX) (pv : Nat → Value) : ∀ cal A, spec_l3Good.C cal = some A → ArmOk Tryd.prog envX pv cal A := by
  intro cal A h
  unfold spec_l3Good.C at h
  split at h
  · cases h; exact fun x y hy => spec_l1In.good hE pv x.1 x.2.1 x.2.2.1 hy
  · cases h; exact fun x y hy => spec_l3Days.good hE pv x.1 x.2.1 hy
  · cases h
theorem spec_l3Good.good (hE : EnvOk Tryd.prog envX) (pv : Nat → Value) (a0 : Date) {y : _} (h : spec_l3Good.F a0 = some y) : Meets Tryd.prog envX pv (.f 177) (tvals [.date] (a0, ())) (.t .bool y) :=
  fun_plain hE (spec_l3Good.G hE pv) (f := 177) (fn := Tryd.f177) (by kernel_rfl) rfl (by kernel_rfl) (by kernel_rfl) ((spec_l3Good.run a0).trans h) fun r hr => wk_view1 hr
/-! ### 142 loop.example/g00896/spec.l4Entry -/
def spec_l4Entry.F (k : Nat) (a0 : Entry) : Option (Bool) := (spec_l4Key.F k a0.key).bind fun r1 => bif (!r1) then (some false) else ((spec_l1In.F a0.kind 1 4).bind fun r2 => bif (!r2) then (some false) else ((spec_l2List.F k a0.authors).bind fun r3 => bif (!r3) then (some false) else ((spec_l2List.F k a0.editors).bind fun r4 => bif (!r4) then (some false) else ((spec_l4Text.F k a0.title).bind fun r5 => bif (!r5) then (some false) else ((spec_l4Text.F k a0.container).bind fun r6 => bif (!r6) then (some false) else ((spec_l4Text.F k a0.publisher).bind fun r7 => bif (!r7) then (some false) else ((spec_l4Text.F k a0.pages).bind fun r8 => bif (!r8) then (some false) else ((spec_l3Good.F a0.date).bind fun r9 => bif r9 then ((spec_l1In.F a0.volume 0 9999).bind fun r10 => bif r10 then (bif (beqS a0.cross (⟨#[]⟩ : ByteArray)) then (some true) else ((spec_l4Key.F k a0.cross).bind fun r11 => bif r11 then (some (!beqS a0.cross a0.key)) else (some false))) else (some false)) else (some false)))))))))
def spec_l4Entry.C (k : Nat) : Cal → Option CArm := fun c => match c with
  | .f 175 => some (.p [.str] _ (fun x => spec_l4Key.F k x.1) (fun r => (.t .bool r)))
  | .f 161 => some (.p [(.int .i64), (.int .i64), (.int .i64)] _ (fun x => spec_l1In.F x.1 x.2.1 x.2.2.1) (fun r => (.t .bool r)))
  | .f 176 => some (.p [(.sl .name)] _ (fun x => spec_l2List.F k x.1) (fun r => (.t .bool r)))
  | .f 47 => some (.p [.str] _ (fun x => spec_l4Text.F k x.1) (fun r => (.t .bool r)))
  | .f 177 => some (.p [.date] _ (fun x => spec_l3Good.F x.1) (fun r => (.t .bool r)))
  | _ => none
theorem spec_l4Entry.run (k : Nat) (a0 : Entry) : runF envX (tabC (spec_l4Entry.C k)) (tabL 72 0 (fun _ => none)) Tryd.f142 [.t .entry a0] (viewR1 (.t .bool)) = spec_l4Entry.F k a0 := by kernel_rfl
theorem spec_l4Entry.G (hE : EnvOk Tryd.prog envX) (pv : Nat → Value) (k : Nat) : ∀ cal A, spec_l4Entry.C k cal = some A → ArmOk Tryd.prog envX pv cal A := by
  intro cal A h
  unfold spec_l4Entry.C at h
  split at h
  · cases h; exact fun x y hy => spec_l4Key.good hE pv k x.1 hy
  · cases h; exact fun x y hy => spec_l1In.good hE pv x.1 x.2.1 x.2.2.1 hy
  · cases h; exact fun x y hy => spec_l2List.good hE pv k x.1 hy
  · cases h; exact fun x y hy => spec_l4Text.good hE pv k x.1 hy
  · cases h; exact fun x y hy => spec_l3Good.good hE pv x.1 hy
  · cases h
theorem spec_l4Entry.good (hE : EnvOk Tryd.prog envX) (pv : Nat → Value) (k : Nat) (a0 : Entry) {y : _} (h : spec_l4Entry.F k a0 = some y) : Meets Tryd.prog envX pv (.f 142) (tvals [.entry] (a0, ())) (.t .bool y) :=
  fun_plain hE (spec_l4Entry.G hE pv k) (f := 142) (fn := Tryd.f142) (by kernel_rfl) rfl (by kernel_rfl) (by kernel_rfl) ((spec_l4Entry.run k a0).trans h) fun r hr => wk_view1 hr
/-! ### 105 loop.example/g00896/spec.l4Good -/
def spec_l4Good.l0 : Nat → Library → Int → Option (Sum Bool Unit)
  | 0, _, _ => none
  | k + 1, x1, x3 => bif (decide (x3 < (x1.entries.length : Int))) then (bif decide (0 ≤ x3) then (bif decide (x3 < (x1.entries.length : Int)) then ((spec_l4Entry.F k (x1.entries.getD (x3 : Int).toNat (dflt .entry))).bind fun r1 => bif (!r1) then (some (.inl false)) else (bif (decide (x3 > 0)) then (bif decide (0 ≤ (IntKind.wrap .i64 (x3 - 1))) then (bif decide ((IntKind.wrap .i64 (x3 - 1)) < (x1.entries.length : Int)) then (bif decide (0 ≤ x3) then (bif decide (x3 < (x1.entries.length : Int)) then (bif (!ltS ((x1.entries.getD ((IntKind.wrap .i64 (x3 - 1)) : Int).toNat (dflt .entry)).key) ((x1.entries.getD (x3 : Int).toNat (dflt .entry)).key)) then (some (.inl false)) else (spec_l4Good.l0 k x1 (IntKind.wrap .i64 (x3 + 1)))) else none) else none) else none) else none) else (spec_l4Good.l0 k x1 (IntKind.wrap .i64 (x3 + 1))))) else none) else none) else (some (.inr ()))
def spec_l4Good.F (k : Nat) (a0 : Library) : Option (Bool) := bif (decide ((a0.entries.length : Int) > 8)) then (some false) else ((spec_l4Good.l0 k a0 0).bind fun y2 => match y2 with | .inl z3 => some z3 | .inr z3 => some true)
def spec_l4Good.C (k : Nat) : Cal → Option CArm := fun c => match c with
  | .f 142 => some (.p [.entry] _ (fun x => spec_l4Entry.F k x.1) (fun r => (.t .bool r)))
  | _ => none
def spec_l4Good.sp0 : List Sp := [.boxT 1 0 .lib, .t 3 (.int .i64)]
def spec_l4Good.sp0_0 : List Sp := [.t 2 .bool]
def spec_l4Good.sp0_1 : List Sp := []
def spec_l4Good.A0 : LArm := .two spec_l4Good.sp0 spec_l4Good.sp0_0 spec_l4Good.sp0_1 (Bool) (Unit) (fun k x => spec_l4Good.l0 k x.1 x.2.1) .ret (.exit 0) (fun y => (y, ())) (fun x => x.1) (fun y => ()) (fun x => ())
def spec_l4Good.L : Nat → Option LArm := fun b => match b with
  | 0 => some spec_l4Good.A0
  | _ => none
theorem spec_l4Good.run (k : Nat) (a0 : Library) : runF envX (tabC (spec_l4Good.C k)) (tabL 42 k spec_l4Good.L) Tryd.f105 [.t .lib a0] (viewR1 (.t .bool)) = spec_l4Good.F k a0 := by kernel_rfl
theorem spec_l4Good.step0 (k : Nat) (x1 : Library) (x3 : Int) : runC envX (tabC (spec_l4Good.C k)) (tabL 42 k spec_l4Good.L) 0 (loopAt Tryd.f105 0) (stOf 42 spec_l4Good.sp0 (x1, x3, ())) (spec_l4Good.A0.cont 42 k) = spec_l4Good.l0 (k + 1) x1 x3 := by kernel_rfl
theorem spec_l4Good.G (hE : EnvOk Tryd.prog envX) (pv : Nat → Value) (k : Nat) : ∀ cal A, spec_l4Good.C k cal = some A → ArmOk Tryd.prog envX pv cal A := by
  intro cal A h
  unfold spec_l4Good.C at h
  split at h
  · cases h; exact fun x y hy => spec_l4Entry.good hE pv k x.1 hy
  · cases h
theorem spec_l4Good.good (hE : EnvOk Tryd.prog envX) (pv : Nat → Value) (k : Nat) (a0 : Library) {y : _} (h : spec_l4Good.F k a0 = some y) : Meets Tryd.prog envX pv (.f 105) (tvals [.lib] (a0, ())) (.t .bool y) :=
  fun_loops hE (t := spec_l4Good.C) k (fun k _ => spec_l4Good.G hE pv k) (f := 105) (fn := Tryd.f105) (by kernel_rfl) rfl (by kernel_rfl) (by kernel_rfl) (lt := spec_l4Good.L) (by kernel_rfl) (fun b A h => by
    unfold spec_l4Good.L at h; split at h
    · cases h; exact ⟨by kernel_rfl, by kernel_rfl, by kernel_rfl, fun _ => rfl, fun _ => rfl, fun _ => rfl⟩
    · cases h) (fun b A h => by
    unfold spec_l4Good.L at h; split at h
    · cases h; exact fun k x => spec_l4Good.step0 k x.1 x.2.1
    · cases h) ((spec_l4Good.run k a0).trans h) fun r hr => wk_view1 hr
/-! ### 67 loop.example/g00896/spec.l21Asked -/
def spec_l21Asked.F (k : Nat) (a0 : Library) (a1 : ByteArray) : Option (Bool) := (spec_l4Good.F k a0).bind fun r1 => bif r1 then ((spec_l4Find.F k a0 a1).bind fun r2 => some (decide (r2 ≥ 0))) else (some false)
def spec_l21Asked.C (k : Nat) : Cal → Option CArm := fun c => match c with
  | .f 105 => some (.p [.lib] _ (fun x => spec_l4Good.F k x.1) (fun r => (.t .bool r)))
  | .f 69 => some (.p [.lib, .str] _ (fun x => spec_l4Find.F k x.1 x.2.1) (fun r => (.t (.int .i64) r)))
  | _ => none
theorem spec_l21Asked.run (k : Nat) (a0 : Library) (a1 : ByteArray) : runF envX (tabC (spec_l21Asked.C k)) (tabL 13 0 (fun _ => none)) Tryd.f67 [.t .lib a0, .t .str a1] (viewR1 (.t .bool)) = spec_l21Asked.F k a0 a1 := by kernel_rfl
theorem spec_l21Asked.G (hE : EnvOk Tryd.prog envX) (pv : Nat → Value) (k : Nat) : ∀ cal A, spec_l21Asked.C k cal = some A → ArmOk Tryd.prog envX pv cal A := by
  intro cal A h
  unfold spec_l21Asked.C at h
  split at h
  · cases h; exact fun x y hy => spec_l4Good.good hE pv k x.1 hy
  · cases h; exact fun x y hy => spec_l4Find.good hE pv k x.1 x.2.1 hy
  · cases h
theorem spec_l21Asked.good (hE : EnvOk Tryd.prog envX) (pv : Nat → Value) (k : Nat) (a0 : Library) (a1 : ByteArray) {y : _} (h : spec_l21Asked.F k a0 a1 = some y) : Meets Tryd.prog envX pv (.f 67) (tvals [.lib, .str] (a0, a1, ())) (.t .bool y) :=
  fun_plain hE (spec_l21Asked.G hE pv k) (f := 67) (fn := Tryd.f67) (by kernel_rfl) rfl (by kernel_rfl) (by kernel_rfl) ((spec_l21Asked.run k a0 a1).trans h) fun r hr => wk_view1 hr
/-! ### 68 loop.example/g00896/spec.l21Parent -/
def spec_l21Parent.F (k : Nat) (a0 : Library) (a1 : Int) : Option (Int) := bif decide (0 ≤ a1) then (bif decide (a1 < (a0.entries.length : Int)) then (bif (beqS ((a0.entries.getD (a1 : Int).toNat (dflt .entry)).cross) (⟨#[]⟩ : ByteArray)) then (some (-1)) else (bif decide (0 ≤ a1) then (bif decide (a1 < (a0.entries.length : Int)) then ((spec_l4Find.F k a0 ((a0.entries.getD (a1 : Int).toNat (dflt .entry)).cross)).bind fun r1 => some r1) else none) else none)) else none) else none
def spec_l21Parent.C (k : Nat) : Cal → Option CArm := fun c => match c with
  | .f 69 => some (.p [.lib, .str] _ (fun x => spec_l4Find.F k x.1 x.2.1) (fun r => (.t (.int .i64) r)))
  | _ => none
theorem spec_l21Parent.run (k : Nat) (a0 : Library) (a1 : Int) : runF envX (tabC (spec_l21Parent.C k)) (tabL 20 0 (fun _ => none)) Tryd.f68 [.t .lib a0, .t (.int .i64) a1] (viewR1 (.t (.int .i64))) = spec_l21Parent.F k a0 a1 := by kernel_rfl
theorem spec_l21Parent.G (hE : EnvOk Tryd.prog envX) (pv : Nat → Value) (k : Nat) : ∀ cal A, spec_l21Parent.C k cal = some A → ArmOk Tryd.prog envX pv cal A := by
  intro cal A h
  unfold spec_l21Parent.C at h
  split at h
  · cases h; exact fun x y hy => spec_l4Find.good hE pv k x.1 x.2.1 hy
  · cases h
theorem spec_l21Parent.good (hE : EnvOk Tryd.prog envX) (pv : Nat → Value) (k : Nat) (a0 : Library) (a1 : Int) {y : _} (h : spec_l21Parent.F k a0 a1 = some y) : Meets Tryd.prog envX pv (.f 68) (tvals [.lib, (.int .i64)] (a0, a1, ())) (.t (.int .i64) y) :=
  fun_plain hE (spec_l21Parent.G hE pv k) (f := 68) (fn := Tryd.f68) (by kernel_rfl) rfl (by kernel_rfl) (by kernel_rfl) ((spec_l21Parent.run k a0 a1).trans h) fun r hr => wk_view1 hr
/-! ### 30 loop.example/g00896/spec.ParentOf -/
def spec_ParentOf.F (k : Nat) (a0 : Library) (a1 : ByteArray) : Option (ByteArray × Bool × Bool) := (spec_l21Asked.F k a0 a1).bind fun r1 => bif (!r1) then (some ((⟨#[]⟩ : ByteArray), false, false)) else ((spec_l4Find.F k a0 a1).bind fun r2 => (spec_l21Parent.F k a0 r2).bind fun r3 => bif (decide (r3 < 0)) then (some ((⟨#[]⟩ : ByteArray), false, true)) else (bif decide (0 ≤ r3) then (bif decide (r3 < (a0.entries.length : Int)) then (some ((a0.entries.getD (r3 : Int).toNat (dflt .entry)).key, true, true)) else none) else none))
def spec_ParentOf.C (k : Nat) : Cal → Option CArm := fun c => match c with
  | .f 67 => some (.p [.lib, .str] _ (fun x => spec_l21Asked.F k x.1 x.2.1) (fun r => (.t .bool r)))
  | .f 69 => some (.p [.lib, .str] _ (fun x => spec_l4Find.F k x.1 x.2.1) (fun r => (.t (.int .i64) r)))
  | .f 68 => some (.p [.lib, (.int .i64)] _ (fun x => spec_l21Parent.F k x.1 x.2.1) (fun r => (.t (.int .i64) r)))
  | _ => none
theorem spec_ParentOf.run (k : Nat) (a0 : Library) (a1 : ByteArray) : runF envX (tabC (spec_ParentOf.C k)) (tabL 25 0 (fun _ => none)) Tryd.f30 [.t .lib a0, .t .str a1] (viewR3 (.t .str) (.t .bool) (.t .bool)) = spec_ParentOf.F k a0 a1 := by kernel_rfl
theorem spec_ParentOf.G (hE : EnvOk Tryd.prog envX) (pv : Nat → Value) (k : Nat) : ∀ cal A, spec_ParentOf.C k cal = some A → ArmOk Tryd.prog envX pv cal A := by
  intro cal A h
  unfold spec_ParentOf.C at h
  split at h
  · cases h; exact fun x y hy => spec_l21Asked.good hE pv k x.1 x.2.1 hy
  · cases h; exact fun x y hy => spec_l4Find.good hE pv k x.1 x.2.1 hy
  · cases h; exact fun x y hy => spec_l21Parent.good hE pv k x.1 x.2.1 hy
  · cases h
theorem spec_ParentOf.good (hE : EnvOk Tryd.prog envX) (pv : Nat → Value) (k : Nat) (a0 : Library) (a1 : ByteArray) {y : _} (h : spec_ParentOf.F k a0 a1 = some y) : Meets Tryd.prog envX pv (.f 30) (tvals [.lib, .str] (a0, a1, ())) (.tup [.t .str y.1, .t .bool y.2.1, .t .bool y.2.2]) :=
  fun_plain hE (spec_ParentOf.G hE pv k) (f := 30) (fn := Tryd.f30) (by kernel_rfl) rfl (by kernel_rfl) (by kernel_rfl) ((spec_ParentOf.run k a0 a1).trans h) fun r hr => wk_view3 hr
/-! ### 25 loop.example/g00896/laws.toStringS -/
def laws_toStringS.l0 : Nat → (List ByteArray) → (List ByteArray) → Int → Option ((List ByteArray))
  | 0, _, _, _ => none
  | k + 1, x0, x3, x4 => bif (decide (x4 < (x0.length : Int))) then (bif decide (0 ≤ x4) then (bif decide (x4 < (x0.length : Int)) then (bif decide (0 ≤ x4) then (bif decide (x4 < (x3.length : Int)) then (laws_toStringS.l0 k x0 (x3.set ((x4 : Int).toNat) (x0.getD (x4 : Int).toNat (⟨#[]⟩ : ByteArray))) (IntKind.wrap .i64 (x4 + 1))) else none) else none) else none) else none) else (some x3)
def laws_toStringS.F (k : Nat) (a0 : List ByteArray) : Option (List ByteArray) := bif ((a0.length : Int) == (a0.length : Int)) then (bif decide (0 ≤ (a0.length : Int)) then (bif Nat.ble (((a0.length : Int) : Int).toNat * nb .str) 140737488355328 then ((laws_toStringS.l0 k a0 (List.replicate ((a0.length : Int) : Int).toNat (⟨#[]⟩ : ByteArray)) 0).bind fun y1 => some y1) else none) else none) else none
def laws_toStringS.C (k : Nat) : Cal → Option CArm := fun c => match c with
  | _ => none
def laws_toStringS.sp0 : List Sp := [.t 0 (.sl .str), .own 3 1032 9 .str false true, .t 4 (.int .i64)]
def laws_toStringS.sp0_0 : List Sp := [.own 3 1032 9 .str false true]
def laws_toStringS.A0 : LArm := .one laws_toStringS.sp0 laws_toStringS.sp0_0 ((List ByteArray)) (fun k x => laws_toStringS.l0 k x.1 x.2.1 x.2.2.1) (.exit 0) (fun y => (y, ())) (fun x => x.1)
def laws_toStringS.L : Nat → Option LArm := fun b => match b with
  | 0 => some laws_toStringS.A0
  | _ => none
theorem laws_toStringS.run (k : Nat) (a0 : List ByteArray) : runF envX (tabC (laws_toStringS.C k)) (tabL 22 k laws_toStringS.L) Tryd.f25 [.t (.sl .str) a0] (viewR1 (.fr 9 .str)) = laws_toStringS.F k a0 := by kernel_rfl
theorem laws_toStringS.step0 (k : Nat) (x0 : List ByteArray) (x3 : List ByteArray) (x4 : Int) : runC envX (tabC (laws_toStringS.C k)) (tabL 22 k laws_toStringS.L) 0 (loopAt Tryd.f25 0) (stOf 22 laws_toStringS.sp0 (x0, x3, x4, ())) (laws_toStringS.A0.cont 22 k) = laws_toStringS.l0 (k + 1) x0 x3 x4 := by kernel_rfl
theorem laws_toStringS.G (hE : EnvOk Tryd.prog envX) (pv : Nat → Value) (k : Nat) : ∀ cal A, laws_toStringS.C k cal = some A → ArmOk Tryd.prog envX pv cal A := by
  intro cal A h
  unfold laws_toStringS.C at h
  cases h
theorem laws_toStringS.good (hE : EnvOk Tryd.prog envX) (pv : Nat → Value) (k : Nat) (a0 : List ByteArray) {y : _} (h : laws_toStringS.F k a0 = some y) : Meets Tryd.prog envX pv (.f 25) (tvals [(.sl .str)] (a0, ())) (.fr 9 .str y) :=
  fun_loops hE (t := laws_toStringS.C) k (fun k _ => laws_toStringS.G hE pv k) (f := 25) (fn := Tryd.f25) (by kernel_rfl) rfl (by kernel_rfl) (by kernel_rfl) (lt := laws_toStringS.L) (by kernel_rfl) (fun b A h => by
    unfold laws_toStringS.L at h; split at h
    · cases h; exact ⟨by kernel_rfl, by kernel_rfl, fun _ => rfl, fun _ => rfl⟩
    · cases h) (fun b A h => by
    unfold laws_toStringS.L at h; split at h
    · cases h; exact fun k x => laws_toStringS.step0 k x.1 x.2.1 x.2.2.1
    · cases h) ((laws_toStringS.run k a0).trans h) fun r hr => wk_view1 hr
/-! ### 178 loop.example/g00896/laws.toName -/
def laws_toName.F (k : Nat) (a0 : Name) : Option (Name) := (laws_toStringS.F k a0.given).bind fun r1 => some (⟨r1, a0.particle, a0.family, a0.suffix⟩ : Name)
def laws_toName.C (k : Nat) : Cal → Option CArm := fun c => match c with
  | .f 25 => some (.p [(.sl .str)] _ (fun x => laws_toStringS.F k x.1) (fun r => (.fr 9 .str r)))
  | _ => none
theorem laws_toName.run (k : Nat) (a0 : Name) : runF envX (tabC (laws_toName.C k)) (tabL 18 0 (fun _ => none)) Tryd.f178 [.t .name a0] (viewR1 (.t .name)) = laws_toName.F k a0 := by kernel_rfl
theorem laws_toName.G (hE : EnvOk Tryd.prog envX) (pv : Nat → Value) (k : Nat) : ∀ cal A, laws_toName.C k cal = some A → ArmOk Tryd.prog envX pv cal A := by
  intro cal A h
  unfold laws_toName.C at h
  split at h
  · cases h; exact fun x y hy => laws_toStringS.good hE pv k x.1 hy
  · cases h
theorem laws_toName.good (hE : EnvOk Tryd.prog envX) (pv : Nat → Value) (k : Nat) (a0 : Name) {y : _} (h : laws_toName.F k a0 = some y) : Meets Tryd.prog envX pv (.f 178) (tvals [.name] (a0, ())) (.t .name y) :=
  fun_plain hE (laws_toName.G hE pv k) (f := 178) (fn := Tryd.f178) (by kernel_rfl) rfl (by kernel_rfl) (by kernel_rfl) ((laws_toName.run k a0).trans h) fun r hr => wk_view1 hr
/-! ### 143 loop.example/g00896/laws.toNameS -/
def laws_toNameS.l0 : Nat → (List Name) → (List Name) → Int → Option ((List Name))
  | 0, _, _, _ => none
  | k + 1, x0, x3, x4 => bif (decide (x4 < (x0.length : Int))) then (bif decide (0 ≤ x4) then (bif decide (x4 < (x0.length : Int)) then ((laws_toName.F k (x0.getD (x4 : Int).toNat (dflt .name))).bind fun r1 => bif decide (0 ≤ x4) then (bif decide (x4 < (x3.length : Int)) then (laws_toNameS.l0 k x0 (x3.set ((x4 : Int).toNat) r1) (IntKind.wrap .i64 (x4 + 1))) else none) else none) else none) else none) else (some x3)
def laws_toNameS.F (k : Nat) (a0 : List Name) : Option (List Name) := bif ((a0.length : Int) == (a0.length : Int)) then (bif decide (0 ≤ (a0.length : Int)) then (bif Nat.ble (((a0.length : Int) : Int).toNat * nb .name) 140737488355328 then ((laws_toNameS.l0 k a0 (List.replicate ((a0.length : Int) : Int).toNat (dflt .name)) 0).bind fun y2 => some y2) else none) else none) else none
def laws_toNameS.C (k : Nat) : Cal → Option CArm := fun c => match c with
  | .f 178 => some (.p [.name] _ (fun x => laws_toName.F k x.1) (fun r => (.t .name r)))
  | _ => none
def laws_toNameS.sp0 : List Sp := [.t 0 (.sl .name), .own 3 1032 183 .name false true, .t 4 (.int .i64)]
def laws_toNameS.sp0_0 : List Sp := [.own 3 1032 183 .name false true]
def laws_toNameS.A0 : LArm := .one laws_toNameS.sp0 laws_toNameS.sp0_0 ((List Name)) (fun k x => laws_toNameS.l0 k x.1 x.2.1 x.2.2.1) (.exit 0) (fun y => (y, ())) (fun x => x.1)
def laws_toNameS.L : Nat → Option LArm := fun b => match b with
  | 0 => some laws_toNameS.A0
  | _ => none
theorem laws_toNameS.run (k : Nat) (a0 : List Name) : runF envX (tabC (laws_toNameS.C k)) (tabL 23 k laws_toNameS.L) Tryd.f143 [.t (.sl .name) a0] (viewR1 (.fr 183 .name)) = laws_toNameS.F k a0 := by kernel_rfl
theorem laws_toNameS.step0 (k : Nat) (x0 : List Name) (x3 : List Name) (x4 : Int) : runC envX (tabC (laws_toNameS.C k)) (tabL 23 k laws_toNameS.L) 0 (loopAt Tryd.f143 0) (stOf 23 laws_toNameS.sp0 (x0, x3, x4, ())) (laws_toNameS.A0.cont 23 k) = laws_toNameS.l0 (k + 1) x0 x3 x4 := by kernel_rfl
theorem laws_toNameS.G (hE : EnvOk Tryd.prog envX) (pv : Nat → Value) (k : Nat) : ∀ cal A, laws_toNameS.C k cal = some A → ArmOk Tryd.prog envX pv cal A := by
  intro cal A h
  unfold laws_toNameS.C at h
  split at h
  · cases h; exact fun x y hy => laws_toName.good hE pv k x.1 hy
  · cases h
theorem laws_toNameS.good (hE : EnvOk Tryd.prog envX) (pv : Nat → Value) (k : Nat) (a0 : List Name) {y : _} (h : laws_toNameS.F k a0 = some y) : Meets Tryd.prog envX pv (.f 143) (tvals [(.sl .name)] (a0, ())) (.fr 183 .name y) :=
  fun_loops hE (t := laws_toNameS.C) k (fun k _ => laws_toNameS.G hE pv k) (f := 143) (fn := Tryd.f143) (by kernel_rfl) rfl (by kernel_rfl) (by kernel_rfl) (lt := laws_toNameS.L) (by kernel_rfl) (fun b A h => by
    unfold laws_toNameS.L at h; split at h
    · cases h; exact ⟨by kernel_rfl, by kernel_rfl, fun _ => rfl, fun _ => rfl⟩
    · cases h) (fun b A h => by
    unfold laws_toNameS.L at h; split at h
    · cases h; exact fun k x => laws_toNameS.step0 k x.1 x.2.1 x.2.2.1
    · cases h) ((laws_toNameS.run k a0).trans h) fun r hr => wk_view1 hr
/-! ### 144 loop.example/g00896/laws.toDate -/
def laws_toDate.F (a0 : Date) : Option (Date) := some (⟨a0.y, a0.m, a0.d, a0.c⟩ : Date)
def laws_toDate.C : Cal → Option CArm := fun c => match c with
  | _ => none
theorem laws_toDate.run (a0 : Date) : runF envX (tabC laws_toDate.C) (tabL 17 0 (fun _ => none)) Tryd.f144 [.t .date a0] (viewR1 (.t .date)) = laws_toDate.F a0 := by kernel_rfl
theorem laws_toDate.G (hE : EnvOk Tryd.prog envX) (pv : Nat → Value) : ∀ cal A, laws_toDate.C cal = some A → ArmOk Tryd.prog envX pv cal A := by
  intro cal A h
  unfold laws_toDate.C at h
  cases h
theorem laws_toDate.good (hE : EnvOk Tryd.prog envX) (pv : Nat → Value) (a0 : Date) {y : _} (h : laws_toDate.F a0 = some y) : Meets Tryd.prog envX pv (.f 144) (tvals [.date] (a0, ())) (.t .date y) :=
  fun_plain hE (laws_toDate.G hE pv) (f := 144) (fn := Tryd.f144) (by kernel_rfl) rfl (by kernel_rfl) (by kernel_rfl) ((laws_toDate.run a0).trans h) fun r hr => wk_view1 hr
/-! ### 106 loop.example/g00896/laws.toEntry -/
def laws_toEntry.F (k : Nat) (a0 : Entry) : Option (Entry) := (laws_toNameS.F k a0.authors).bind fun r1 => (laws_toNameS.F k a0.editors).bind fun r2 => (laws_toDate.F a0.date).bind fun r3 => some (⟨a0.key, a0.kind, r1, r2, a0.title, a0.container, a0.publisher, r3, a0.volume, a0.pages, a0.cross⟩ : Entry)
def laws_toEntry.C (k : Nat) : Cal → Option CArm := fun c => match c with
  | .f 143 => some (.p [(.sl .name)] _ (fun x => laws_toNameS.F k x.1) (fun r => (.fr 183 .name r)))
  | .f 144 => some (.p [.date] _ (fun x => laws_toDate.F x.1) (fun r => (.t .date r)))
  | _ => none
theorem laws_toEntry.run (k : Nat) (a0 : Entry) : runF envX (tabC (laws_toEntry.C k)) (tabL 41 0 (fun _ => none)) Tryd.f106 [.t .entry a0] (viewR1 (.t .entry)) = laws_toEntry.F k a0 := by kernel_rfl
theorem laws_toEntry.G (hE : EnvOk Tryd.prog envX) (pv : Nat → Value) (k : Nat) : ∀ cal A, laws_toEntry.C k cal = some A → ArmOk Tryd.prog envX pv cal A := by
  intro cal A h
  unfold laws_toEntry.C at h
  split at h
  · cases h; exact fun x y hy => laws_toNameS.good hE pv k x.1 hy
  · cases h; exact fun x y hy => laws_toDate.good hE pv x.1 hy
  · cases h
theorem laws_toEntry.good (hE : EnvOk Tryd.prog envX) (pv : Nat → Value) (k : Nat) (a0 : Entry) {y : _} (h : laws_toEntry.F k a0 = some y) : Meets Tryd.prog envX pv (.f 106) (tvals [.entry] (a0, ())) (.t .entry y) :=
  fun_plain hE (laws_toEntry.G hE pv k) (f := 106) (fn := Tryd.f106) (by kernel_rfl) rfl (by kernel_rfl) (by kernel_rfl) ((laws_toEntry.run k a0).trans h) fun r hr => wk_view1 hr
/-! ### 70 loop.example/g00896/laws.toEntryS -/
def laws_toEntryS.l0 : Nat → (List Entry) → (List Entry) → Int → Option ((List Entry))
  | 0, _, _, _ => none
  | k + 1, x0, x3, x4 => bif (decide (x4 < (x0.length : Int))) then (bif decide (0 ≤ x4) then (bif decide (x4 < (x0.length : Int)) then ((laws_toEntry.F k (x0.getD (x4 : Int).toNat (dflt .entry))).bind fun r1 => bif decide (0 ≤ x4) then (bif decide (x4 < (x3.length : Int)) then (laws_toEntryS.l0 k x0 (x3.set ((x4 : Int).toNat) r1) (IntKind.wrap .i64 (x4 + 1))) else none) else none) else none) else none) else (some x3)
def laws_toEntryS.F (k : Nat) (a0 : List Entry) : Option (List Entry) := bif ((a0.length : Int) == (a0.length : Int)) then (bif decide (0 ≤ (a0.length : Int)) then (bif Nat.ble (((a0.length : Int) : Int).toNat * nb .entry) 140737488355328 then ((laws_toEntryS.l0 k a0 (List.replicate ((a0.length : Int) : Int).toNat (dflt .entry)) 0).bind fun y2 => some y2) else none) else none) else none
def laws_toEntryS.C (k : Nat) : Cal → Option CArm := fun c => match c with
  | .f 106 => some (.p [.entry] _ (fun x => laws_toEntry.F k x.1) (fun r => (.t .entry r)))
  | _ => none
def laws_toEntryS.sp0 : List Sp := [.t 0 (.sl .entry), .own 3 1032 98 .entry false true, .t 4 (.int .i64)]
def laws_toEntryS.sp0_0 : List Sp := [.own 3 1032 98 .entry false true]
def laws_toEntryS.A0 : LArm := .one laws_toEntryS.sp0 laws_toEntryS.sp0_0 ((List Entry)) (fun k x => laws_toEntryS.l0 k x.1 x.2.1 x.2.2.1) (.exit 0) (fun y => (y, ())) (fun x => x.1)
def laws_toEntryS.L : Nat → Option LArm := fun b => match b with
  | 0 => some laws_toEntryS.A0
  | _ => none
theorem laws_toEntryS.run (k : Nat) (a0 : List Entry) : runF envX (tabC (laws_toEntryS.C k)) (tabL 23 k laws_toEntryS.L) Tryd.f70 [.t (.sl .entry) a0] (viewR1 (.fr 98 .entry)) = laws_toEntryS.F k a0 := by kernel_rfl
theorem laws_toEntryS.step0 (k : Nat) (x0 : List Entry) (x3 : List Entry) (x4 : Int) : runC envX (tabC (laws_toEntryS.C k)) (tabL 23 k laws_toEntryS.L) 0 (loopAt Tryd.f70 0) (stOf 23 laws_toEntryS.sp0 (x0, x3, x4, ())) (laws_toEntryS.A0.cont 23 k) = laws_toEntryS.l0 (k + 1) x0 x3 x4 := by kernel_rfl
theorem laws_toEntryS.G (hE : EnvOk Tryd.prog envX) (pv : Nat → Value) (k : Nat) : ∀ cal A, laws_toEntryS.C k cal = some A → ArmOk Tryd.prog envX pv cal A := by
  intro cal A h
  unfold laws_toEntryS.C at h
  split at h
  · cases h; exact fun x y hy => laws_toEntry.good hE pv k x.1 hy
  · cases h
theorem laws_toEntryS.good (hE : EnvOk Tryd.prog envX) (pv : Nat → Value) (k : Nat) (a0 : List Entry) {y : _} (h : laws_toEntryS.F k a0 = some y) : Meets Tryd.prog envX pv (.f 70) (tvals [(.sl .entry)] (a0, ())) (.fr 98 .entry y) :=
  fun_loops hE (t := laws_toEntryS.C) k (fun k _ => laws_toEntryS.G hE pv k) (f := 70) (fn := Tryd.f70) (by kernel_rfl) rfl (by kernel_rfl) (by kernel_rfl) (lt := laws_toEntryS.L) (by kernel_rfl) (fun b A h => by
    unfold laws_toEntryS.L at h; split at h
    · cases h; exact ⟨by kernel_rfl, by kernel_rfl, fun _ => rfl, fun _ => rfl⟩
    · cases h) (fun b A h => by
    unfold laws_toEntryS.L at h; split at h
    · cases h; exact fun k x => laws_toEntryS.step0 k x.1 x.2.1 x.2.2.1
    · cases h) ((laws_toEntryS.run k a0).trans h) fun r hr => wk_view1 hr
/-! ### 31 loop.example/g00896/laws.toLibrary -/
def laws_toLibrary.F (k : Nat) (a0 : Library) : Option (Library) := (laws_toEntryS.F k a0.entries).bind fun r1 => some (⟨r1⟩ : Library)
def laws_toLibrary.C (k : Nat) : Cal → Option CArm := fun c => match c with
  | .f 70 => some (.p [(.sl .entry)] _ (fun x => laws_toEntryS.F k x.1) (fun r => (.fr 98 .entry r)))
  | _ => none
theorem laws_toLibrary.run (k : Nat) (a0 : Library) : runF envX (tabC (laws_toLibrary.C k)) (tabL 9 0 (fun _ => none)) Tryd.f31 [.t .lib a0] (viewR1 (.t .lib)) = laws_toLibrary.F k a0 := by kernel_rfl
theorem laws_toLibrary.G (hE : EnvOk Tryd.prog envX) (pv : Nat → Value) (k : Nat) : ∀ cal A, laws_toLibrary.C k cal = some A → ArmOk Tryd.prog envX pv cal A := by
  intro cal A h
  unfold laws_toLibrary.C at h
  split at h
  · cases h; exact fun x y hy => laws_toEntryS.good hE pv k x.1 hy
  · cases h
theorem laws_toLibrary.good (hE : EnvOk Tryd.prog envX) (pv : Nat → Value) (k : Nat) (a0 : Library) {y : _} (h : laws_toLibrary.F k a0 = some y) : Meets Tryd.prog envX pv (.f 31) (tvals [.lib] (a0, ())) (.t .lib y) :=
  fun_plain hE (laws_toLibrary.G hE pv k) (f := 31) (fn := Tryd.f31) (by kernel_rfl) rfl (by kernel_rfl) (by kernel_rfl) ((laws_toLibrary.run k a0).trans h) fun r hr => wk_view1 hr
-- NO 107 slices.IndexFunc[[]loop.example/g00896/impl.Entry,loop.example/g00896/impl.Entry]: a parameter's type
-- NO 108 loop.example/g00896/impl.entryIndex$1: load from tup
/-! ### 108 loop.example/g00896/impl.entryIndex$1 at what it captured -/
def impl_entryIndex_1.F (a0 : Entry) (a1 : ByteArray) : Option (Bool) := some (beqS a0.key a1)
def impl_entryIndex_1.C : Cal → Option CArm := fun c => match c with
  | _ => none
theorem impl_entryIndex_1.run (a0 : Entry) (a1 : ByteArray) : runF envX (tabC impl_entryIndex_1.C) (tabL 8 0 (fun _ => none)) Tryd.f108 [.t .entry a0, .tp (.t .str a1)] (viewR1 (.t .bool)) = impl_entryIndex_1.F a0 a1 := by kernel_rfl
theorem impl_entryIndex_1.G (hE : EnvOk Tryd.prog envX) (pv : Nat → Value) : ∀ cal A, impl_entryIndex_1.C cal = some A → ArmOk Tryd.prog envX pv cal A := by
  intro cal A h
  unfold impl_entryIndex_1.C at h
  cases h
theorem impl_entryIndex_1.good (hE : EnvOk Tryd.prog envX) (pv : Nat → Value) (a0 : Entry) (a1 : ByteArray) {y : _} (h : impl_entryIndex_1.F a0 a1 = some y) : Meets Tryd.prog envX pv (.f 108) (pvals [.t .entry, .tp .str] (a0, a1, ())) (.t .bool y) :=
  fun_plain hE (impl_entryIndex_1.G hE pv) (f := 108) (fn := Tryd.f108) (by kernel_rfl) rfl (by kernel_rfl) (by kernel_rfl) ((impl_entryIndex_1.run a0 a1).trans h) fun r hr => wk_view1 hr
/-! ### 107 slices.IndexFunc[[]loop.example/g00896/impl.Entry,loop.example/g00896/impl.Entry] at loop.example/g00896/impl.entryIndex$1 -/
def slices_IndexFunc_Entry_f108.l0 : Nat → (List Entry) → ByteArray → Int → Int → Option (Sum Int Unit)
  | 0, _, _, _, _ => none
  | k + 1, x0, x1, x7, x8 => bif (decide (x8 < x7)) then (bif decide (0 ≤ x8) then (bif decide (x8 < (x0.length : Int)) then ((impl_entryIndex_1.F (x0.getD (x8 : Int).toNat (dflt .entry)) x1).bind fun r1 => bif r1 then (some (.inl x8)) else (slices_IndexFunc_Entry_f108.l0 k x0 x1 x7 (IntKind.wrap .i64 (x8 + 1)))) else none) else none) else (some (.inr ()))
def slices_IndexFunc_Entry_f108.F (k : Nat) (a0 : List Entry) (a1c0 : ByteArray) : Option (Int) := (slices_IndexFunc_Entry_f108.l0 k a0 a1c0 (a0.length : Int) 0).bind fun y2 => match y2 with | .inl z3 => some z3 | .inr z3 => some (-1)
def slices_IndexFunc_Entry_f108.C (k : Nat) : Cal → Option CArm := fun c => match c with
  | .f 108 => some (.q [.t .entry, .tp .str] _ (fun x => impl_entryIndex_1.F x.1 x.2.1) (fun r => (.t .bool r)))
  | _ => none
def slices_IndexFunc_Entry_f108.sp0 : List Sp := [.t 0 (.sl .entry), .cl 1 108 [.tp .str], .t 7 (.int .i64), .t 8 (.int .i64)]
def slices_IndexFunc_Entry_f108.sp0_0 : List Sp := [.t 4 (.int .i64)]
def slices_IndexFunc_Entry_f108.sp0_1 : List Sp := []
def slices_IndexFunc_Entry_f108.A0 : LArm := .two slices_IndexFunc_Entry_f108.sp0 slices_IndexFunc_Entry_f108.sp0_0 slices_IndexFunc_Entry_f108.sp0_1 (Int) (Unit) (fun k x => slices_IndexFunc_Entry_f108.l0 k x.1 x.2.1.1 x.2.2.1 x.2.2.2.1) .ret (.exit 0) (fun y => (y, ())) (fun x => x.1) (fun y => ()) (fun x => ())
def slices_IndexFunc_Entry_f108.L : Nat → Option LArm := fun b => match b with
  | 0 => some slices_IndexFunc_Entry_f108.A0
  | _ => none
theorem slices_IndexFunc_Entry_f108.run (k : Nat) (a0 : List Entry) (a1c0 : ByteArray) : runF envX (tabC (slices_IndexFunc_Entry_f108.C k)) (tabL 19 k slices_IndexFunc_Entry_f108.L) Tryd.f107 [.t (.sl .entry) a0, .clo 108 [.tp (.t .str a1c0)]] (viewR1 (.t (.int .i64))) = slices_IndexFunc_Entry_f108.F k a0 a1c0 := by kernel_rfl
theorem slices_IndexFunc_Entry_f108.step0 (k : Nat) (x0 : List Entry) (x1 : ByteArray) (x7 : Int) (x8 : Int) : runC envX (tabC (slices_IndexFunc_Entry_f108.C k)) (tabL 19 k slices_IndexFunc_Entry_f108.L) 0 (loopAt Tryd.f107 0) (stOf 19 slices_IndexFunc_Entry_f108.sp0 (x0, (x1, ()), x7, x8, ())) (slices_IndexFunc_Entry_f108.A0.cont 19 k) = slices_IndexFunc_Entry_f108.l0 (k + 1) x0 x1 x7 x8 := by kernel_rfl
theorem slices_IndexFunc_Entry_f108.G (hE : EnvOk Tryd.prog envX) (pv : Nat → Value) (k : Nat) : ∀ cal A, slices_IndexFunc_Entry_f108.C k cal = some A → ArmOk Tryd.prog envX pv cal A := by
  intro cal A h
  unfold slices_IndexFunc_Entry_f108.C at h
  split at h
  · cases h; exact fun x y hy => impl_entryIndex_1.good hE pv x.1 x.2.1 hy
  · cases h
theorem slices_IndexFunc_Entry_f108.good (hE : EnvOk Tryd.prog envX) (pv : Nat → Value) (k : Nat) (a0 : List Entry) (a1c0 : ByteArray) {y : _} (h : slices_IndexFunc_Entry_f108.F k a0 a1c0 = some y) : Meets Tryd.prog envX pv (.f 107) (pvals [.t (.sl .entry), .clo 108 [.tp .str]] (a0, (a1c0, ()), ())) (.t (.int .i64) y) :=
  fun_loops hE (t := slices_IndexFunc_Entry_f108.C) k (fun k _ => slices_IndexFunc_Entry_f108.G hE pv k) (f := 107) (fn := Tryd.f107) (by kernel_rfl) rfl (by kernel_rfl) (by kernel_rfl) (lt := slices_IndexFunc_Entry_f108.L) (by kernel_rfl) (fun b A h => by
    unfold slices_IndexFunc_Entry_f108.L at h; split at h
    · cases h; exact ⟨by kernel_rfl, by kernel_rfl, by kernel_rfl, fun _ => rfl, fun _ => rfl, fun _ => rfl⟩
    · cases h) (fun b A h => by
    unfold slices_IndexFunc_Entry_f108.L at h; split at h
    · cases h; exact fun k x => slices_IndexFunc_Entry_f108.step0 k x.1 x.2.1.1 x.2.2.1 x.2.2.2.1
    · cases h) ((slices_IndexFunc_Entry_f108.run k a0 a1c0).trans h) fun r hr => wk_view1 hr
/-! ### 71 loop.example/g00896/impl.entryIndex -/
def impl_entryIndex.F (k : Nat) (a0 : Library) (a1 : ByteArray) : Option (Int) := (slices_IndexFunc_Entry_f108.F k a0.entries a1).bind fun r1 => some r1
def impl_entryIndex.C (k : Nat) : Cal → Option CArm := fun c => match c with
  | .f 107 => some (.q [.t (.sl .entry), .clo 108 [.tp .str]] _ (fun x => slices_IndexFunc_Entry_f108.F k x.1 x.2.1.1) (fun r => (.t (.int .i64) r)))
  | _ => none
theorem impl_entryIndex.run (k : Nat) (a0 : Library) (a1 : ByteArray) : runF envX (tabC (impl_entryIndex.C k)) (tabL 9 0 (fun _ => none)) Tryd.f71 [.t .lib a0, .t .str a1] (viewR1 (.t (.int .i64))) = impl_entryIndex.F k a0 a1 := by kernel_rfl
theorem impl_entryIndex.G (hE : EnvOk Tryd.prog envX) (pv : Nat → Value) (k : Nat) : ∀ cal A, impl_entryIndex.C k cal = some A → ArmOk Tryd.prog envX pv cal A := by
  intro cal A h
  unfold impl_entryIndex.C at h
  split at h
  · cases h; exact fun x y hy => slices_IndexFunc_Entry_f108.good hE pv k x.1 x.2.1.1 hy
  · cases h
theorem impl_entryIndex.good (hE : EnvOk Tryd.prog envX) (pv : Nat → Value) (k : Nat) (a0 : Library) (a1 : ByteArray) {y : _} (h : impl_entryIndex.F k a0 a1 = some y) : Meets Tryd.prog envX pv (.f 71) (tvals [.lib, .str] (a0, a1, ())) (.t (.int .i64) y) :=
  fun_plain hE (impl_entryIndex.G hE pv k) (f := 71) (fn := Tryd.f71) (by kernel_rfl) rfl (by kernel_rfl) (by kernel_rfl) ((impl_entryIndex.run k a0 a1).trans h) fun r hr => wk_view1 hr
/-! ### 130 strings.Trim -/
def strings_Trim.F (a0 : ByteArray) (a1 : ByteArray) : Option (ByteArray) := xTrim1 a0 a1
theorem strings_Trim.good (hE : EnvOk Tryd.prog envX) (pv : Nat → Value) (a0 : ByteArray) (a1 : ByteArray) {y : _} (h : strings_Trim.F a0 a1 = some y) : Meets Tryd.prog envX pv (.f 130) (tvals [.str, .str] (a0, a1, ())) (.t .str y) :=
  ext_trim1 (fn := Tryd.f130) (by kernel_rfl) rfl (by kernel_rfl) Tryd.strings_Trim_one h
/-! ### 86 loop.example/g00896/impl.isPrintable -/
def impl_isPrintable.l0 : Nat → ByteArray → Int → Option (Sum Bool ByteArray)
  | 0, _, _ => none
  | k + 1, x0, x3 => bif (decide (x3 < (x0.size : Int))) then (bif decide (0 ≤ x3) then (bif decide (x3 < (x0.size : Int)) then (bif (decide ((bt x0 (x3 : Int).toNat) < 32)) then (some (.inl false)) else (bif decide (0 ≤ x3) then (bif decide (x3 < (x0.size : Int)) then (bif (decide ((bt x0 (x3 : Int).toNat) > 126)) then (some (.inl false)) else (impl_isPrintable.l0 k x0 (IntKind.wrap .i64 (x3 + 1)))) else none) else none)) else none) else none) else (some (.inr x0))
def impl_isPrintable.F (k : Nat) (a0 : ByteArray) : Option (Bool) := (impl_isPrintable.l0 k a0 0).bind fun y1 => match y1 with | .inl z2 => some z2 | .inr z2 => (strings_Trim.F z2 (⟨#[32]⟩ : ByteArray)).bind fun r3 => some (beqS r3 z2)
def impl_isPrintable.C (k : Nat) : Cal → Option CArm := fun c => match c with
  | .f 130 => some (.p [.str, .str] _ (fun x => strings_Trim.F x.1 x.2.1) (fun r => (.t .str r)))
  | _ => none
def impl_isPrintable.sp0 : List Sp := [.t 0 .str, .t 3 (.int .i64)]
def impl_isPrintable.sp0_0 : List Sp := [.t 2 .bool]
def impl_isPrintable.sp0_1 : List Sp := [.t 0 .str]
def impl_isPrintable.A0 : LArm := .two impl_isPrintable.sp0 impl_isPrintable.sp0_0 impl_isPrintable.sp0_1 (Bool) (ByteArray) (fun k x => impl_isPrintable.l0 k x.1 x.2.1) .ret (.exit 0) (fun y => (y, ())) (fun x => x.1) (fun y => (y, ())) (fun x => x.1)
def impl_isPrintable.L : Nat → Option LArm := fun b => match b with
  | 0 => some impl_isPrintable.A0
  | _ => none
theorem impl_isPrintable.run (k : Nat) (a0 : ByteArray) : runF envX (tabC (impl_isPrintable.C k)) (tabL 24 k impl_isPrintable.L) Tryd.f86 [.t .str a0] (viewR1 (.t .bool)) = impl_isPrintable.F k a0 := by kernel_rfl
theorem impl_isPrintable.step0 (k : Nat) (x0 : ByteArray) (x3 : Int) : runC envX (tabC (impl_isPrintable.C k)) (tabL 24 k impl_isPrintable.L) 0 (loopAt Tryd.f86 0) (stOf 24 impl_isPrintable.sp0 (x0, x3, ())) (impl_isPrintable.A0.cont 24 k) = impl_isPrintable.l0 (k + 1) x0 x3 := by kernel_rfl
theorem impl_isPrintable.G (hE : EnvOk Tryd.prog envX) (pv : Nat → Value) (k : Nat) : ∀ cal A, impl_isPrintable.C k cal = some A → ArmOk Tryd.prog envX pv cal A := by
  intro cal A h
  unfold impl_isPrintable.C at h
  split at h
  · cases h; exact fun x y hy => strings_Trim.good hE pv x.1 x.2.1 hy
  · cases h
theorem impl_isPrintable.good (hE : EnvOk Tryd.prog envX) (pv : Nat → Value) (k : Nat) (a0 : ByteArray) {y : _} (h : impl_isPrintable.F k a0 = some y) : Meets Tryd.prog envX pv (.f 86) (tvals [.str] (a0, ())) (.t .bool y) :=
  fun_loops hE (t := impl_isPrintable.C) k (fun k _ => impl_isPrintable.G hE pv k) (f := 86) (fn := Tryd.f86) (by kernel_rfl) rfl (by kernel_rfl) (by kernel_rfl) (lt := impl_isPrintable.L) (by kernel_rfl) (fun b A h => by
    unfold impl_isPrintable.L at h; split at h
    · cases h; exact ⟨by kernel_rfl, by kernel_rfl, by kernel_rfl, fun _ => rfl, fun _ => rfl, fun _ => rfl⟩
    · cases h) (fun b A h => by
    unfold impl_isPrintable.L at h; split at h
    · cases h; exact fun k x => impl_isPrintable.step0 k x.1 x.2.1
    · cases h) ((impl_isPrintable.run k a0).trans h) fun r hr => wk_view1 hr
/-! ### 52 loop.example/g00896/impl.isText -/
def impl_isText.F (k : Nat) (a0 : ByteArray) : Option (Bool) := bif (decide ((a0.size : Int) ≤ 40)) then ((impl_isPrintable.F k a0).bind fun r1 => some r1) else (some false)
def impl_isText.C (k : Nat) : Cal → Option CArm := fun c => match c with
  | .f 86 => some (.p [.str] _ (fun x => impl_isPrintable.F k x.1) (fun r => (.t .bool r)))
  | _ => none
theorem impl_isText.run (k : Nat) (a0 : ByteArray) : runF envX (tabC (impl_isText.C k)) (tabL 10 0 (fun _ => none)) Tryd.f52 [.t .str a0] (viewR1 (.t .bool)) = impl_isText.F k a0 := by kernel_rfl
theorem impl_isText.G (hE : EnvOk Tryd.prog envX) (pv : Nat → Value) (k : Nat) : ∀ cal A, impl_isText.C k cal = some A → ArmOk Tryd.prog envX pv cal A := by
  intro cal A h
  unfold impl_isText.C at h
  split at h
  · cases h; exact fun x y hy => impl_isPrintable.good hE pv k x.1 hy
  · cases h
theorem impl_isText.good (hE : EnvOk Tryd.prog envX) (pv : Nat → Value) (k : Nat) (a0 : ByteArray) {y : _} (h : impl_isText.F k a0 = some y) : Meets Tryd.prog envX pv (.f 52) (tvals [.str] (a0, ())) (.t .bool y) :=
  fun_plain hE (impl_isText.G hE pv k) (f := 52) (fn := Tryd.f52) (by kernel_rfl) rfl (by kernel_rfl) (by kernel_rfl) ((impl_isText.run k a0).trans h) fun r hr => wk_view1 hr
/-! ### 129 loop.example/g00896/impl.inside -/
def impl_inside.F (a0 : Int) (a1 : Int) (a2 : Int) : Option (Bool) := bif (decide (a0 ≥ a1)) then (some (decide (a0 ≤ a2))) else (some false)
def impl_inside.C : Cal → Option CArm := fun c => match c with
  | _ => none
theorem impl_inside.run (a0 : Int) (a1 : Int) (a2 : Int) : runF envX (tabC impl_inside.C) (tabL 15 0 (fun _ => none)) Tryd.f129 [.t (.int .i64) a0, .t (.int .i64) a1, .t (.int .i64) a2] (viewR1 (.t .bool)) = impl_inside.F a0 a1 a2 := by kernel_rfl
theorem impl_inside.G (hE : EnvOk Tryd.prog envX) (pv : Nat → Value) : ∀ cal A, impl_inside.C cal = some A → ArmOk Tryd.prog envX pv cal A := by
  intro cal A h
  unfold impl_inside.C at h
  cases h
theorem impl_inside.good (hE : EnvOk Tryd.prog envX) (pv : Nat → Value) (a0 : Int) (a1 : Int) (a2 : Int) {y : _} (h : impl_inside.F a0 a1 a2 = some y) : Meets Tryd.prog envX pv (.f 129) (tvals [(.int .i64), (.int .i64), (.int .i64)] (a0, a1, a2, ())) (.t .bool y) :=
  fun_plain hE (impl_inside.G hE pv) (f := 129) (fn := Tryd.f129) (by kernel_rfl) rfl (by kernel_rfl) (by kernel_rfl) ((impl_inside.run a0 a1 a2).trans h) fun r hr => wk_view1 hr
/-! ### 128 loop.example/g00896/impl.isLower -/
def impl_isLower.F (a0 : Int) : Option (Bool) := bif (decide (a0 ≥ 97)) then (some (decide (a0 ≤ 122))) else (some false)
def impl_isLower.C : Cal → Option CArm := fun c => match c with
  | _ => none
theorem impl_isLower.run (a0 : Int) : runF envX (tabC impl_isLower.C) (tabL 9 0 (fun _ => none)) Tryd.f128 [.t (.int .u8) a0] (viewR1 (.t .bool)) = impl_isLower.F a0 := by kernel_rfl
theorem impl_isLower.G (hE : EnvOk Tryd.prog envX) (pv : Nat → Value) : ∀ cal A, impl_isLower.C cal = some A → ArmOk Tryd.prog envX pv cal A := by
  intro cal A h
  unfold impl_isLower.C at h
  cases h
theorem impl_isLower.good (hE : EnvOk Tryd.prog envX) (pv : Nat → Value) (a0 : Int) {y : _} (h : impl_isLower.F a0 = some y) : Meets Tryd.prog envX pv (.f 128) (tvals [(.int .u8)] (a0, ())) (.t .bool y) :=
  fun_plain hE (impl_isLower.G hE pv) (f := 128) (fn := Tryd.f128) (by kernel_rfl) rfl (by kernel_rfl) (by kernel_rfl) ((impl_isLower.run a0).trans h) fun r hr => wk_view1 hr
/-! ### 153 loop.example/g00896/impl.isDigit -/
def impl_isDigit.F (a0 : Int) : Option (Bool) := bif (decide (a0 ≥ 48)) then (some (decide (a0 ≤ 57))) else (some false)
def impl_isDigit.C : Cal → Option CArm := fun c => match c with
  | _ => none
theorem impl_isDigit.run (a0 : Int) : runF envX (tabC impl_isDigit.C) (tabL 9 0 (fun _ => none)) Tryd.f153 [.t (.int .u8) a0] (viewR1 (.t .bool)) = impl_isDigit.F a0 := by kernel_rfl
theorem impl_isDigit.G (hE : EnvOk Tryd.prog envX) (pv : Nat → Value) : ∀ cal A, impl_isDigit.C cal = some A → ArmOk Tryd.prog envX pv cal A := by
  intro cal A h
  unfold impl_isDigit.C at h
  cases h
theorem impl_isDigit.good (hE : EnvOk Tryd.prog envX) (pv : Nat → Value) (a0 : Int) {y : _} (h : impl_isDigit.F a0 = some y) : Meets Tryd.prog envX pv (.f 153) (tvals [(.int .u8)] (a0, ())) (.t .bool y) :=
  fun_plain hE (impl_isDigit.G hE pv) (f := 153) (fn := Tryd.f153) (by kernel_rfl) rfl (by kernel_rfl) (by kernel_rfl) ((impl_isDigit.run a0).trans h) fun r hr => wk_view1 hr
/-! ### 145 loop.example/g00896/impl.isKey -/
def impl_isKey.l0 : Nat → ByteArray → Int → Option (Sum Bool Unit)
  | 0, _, _ => none
  | k + 1, x0, x3 => bif (decide (x3 < (x0.size : Int))) then (bif decide (0 ≤ x3) then (bif decide (x3 < (x0.size : Int)) then ((impl_isLower.F (bt x0 (x3 : Int).toNat)).bind fun r3 => bif (!r3) then (bif decide (0 ≤ x3) then (bif decide (x3 < (x0.size : Int)) then ((impl_isDigit.F (bt x0 (x3 : Int).toNat)).bind fun r4 => bif (!r4) then (some (.inl false)) else (impl_isKey.l0 k x0 (IntKind.wrap .i64 (x3 + 1)))) else none) else none) else (impl_isKey.l0 k x0 (IntKind.wrap .i64 (x3 + 1)))) else none) else none) else (some (.inr ()))
def impl_isKey.F (k : Nat) (a0 : ByteArray) : Option (Bool) := (impl_inside.F (a0.size : Int) 1 10).bind fun r1 => bif (!r1) then (some false) else (bif decide (0 ≤ 0) then (bif decide (0 < (a0.size : Int)) then ((impl_isLower.F (bt a0 (0 : Int).toNat)).bind fun r2 => bif (!r2) then (some false) else ((impl_isKey.l0 k a0 0).bind fun y5 => match y5 with | .inl z6 => some z6 | .inr z6 => some true)) else none) else none)
def impl_isKey.C (k : Nat) : Cal → Option CArm := fun c => match c with
  | .f 129 => some (.p [(.int .i64), (.int .i64), (.int .i64)] _ (fun x => impl_inside.F x.1 x.2.1 x.2.2.1) (fun r => (.t .bool r)))
  | .f 128 => some (.p [(.int .u8)] _ (fun x => impl_isLower.F x.1) (fun r => (.t .bool r)))
  | .f 153 => some (.p [(.int .u8)] _ (fun x => impl_isDigit.F x.1) (fun r => (.t .bool r)))
  | _ => none
def impl_isKey.sp0 : List Sp := [.t 0 .str, .t 3 (.int .i64)]
def impl_isKey.sp0_0 : List Sp := [.t 2 .bool]
def impl_isKey.sp0_1 : List Sp := []
def impl_isKey.A0 : LArm := .two impl_isKey.sp0 impl_isKey.sp0_0 impl_isKey.sp0_1 (Bool) (Unit) (fun k x => impl_isKey.l0 k x.1 x.2.1) .ret (.exit 0) (fun y => (y, ())) (fun x => x.1) (fun y => ()) (fun x => ())
def impl_isKey.L : Nat → Option LArm := fun b => match b with
  | 0 => some impl_isKey.A0
  | _ => none
theorem impl_isKey.run (k : Nat) (a0 : ByteArray) : runF envX (tabC (impl_isKey.C k)) (tabL 32 k impl_isKey.L) Tryd.f145 [.t .str a0] (viewR1 (.t .bool)) = impl_isKey.F k a0 := by kernel_rfl
theorem impl_isKey.step0 (k : Nat) (x0 : ByteArray) (x3 : Int) : runC envX (tabC (impl_isKey.C k)) (tabL 32 k impl_isKey.L) 0 (loopAt Tryd.f145 0) (stOf 32 impl_isKey.sp0 (x0, x3, ())) (impl_isKey.A0.cont 32 k) = impl_isKey.l0 (k + 1) x0 x3 := by kernel_rfl
theorem impl_isKey.G (hE : EnvOk Tryd.prog envX) (pv : Nat → Value) (k : Nat) : ∀ cal A, impl_isKey.C k cal = some A → ArmOk Tryd.prog envX pv cal A := by
  intro cal A h
  unfold impl_isKey.C at h
  split at h
  · cases h; exact fun x y hy => impl_inside.good hE pv x.1 x.2.1 x.2.2.1 hy
  · cases h; exact fun x y hy => impl_isLower.good hE pv x.1 hy
  · cases h; exact fun x y hy => impl_isDigit.good hE pv x.1 hy
  · cases h
theorem impl_isKey.good (hE : EnvOk Tryd.prog envX) (pv : Nat → Value) (k : Nat) (a0 : ByteArray) {y : _} (h : impl_isKey.F k a0 = some y) : Meets Tryd.prog envX pv (.f 145) (tvals [.str] (a0, ())) (.t .bool y) :=
  fun_loops hE (t := impl_isKey.C) k (fun k _ => impl_isKey.G hE pv k) (f := 145) (fn := Tryd.f145) (by kernel_rfl) rfl (by kernel_rfl) (by kernel_rfl) (lt := impl_isKey.L) (by kernel_rfl) (fun b A h => by
    unfold impl_isKey.L at h; split at h
    · cases h; exact ⟨by kernel_rfl, by kernel_rfl, by kernel_rfl, fun _ => rfl, fun _ => rfl, fun _ => rfl⟩
    · cases h) (fun b A h => by
    unfold impl_isKey.L at h; split at h
    · cases h; exact fun k x => impl_isKey.step0 k x.1 x.2.1
    · cases h) ((impl_isKey.run k a0).trans h) fun r hr => wk_view1 hr
/-! ### 146 loop.example/g00896/impl.isKind -/
def impl_isKind.F (a0 : Int) : Option (Bool) := (impl_inside.F a0 1 4).bind fun r1 => some r1
def impl_isKind.C : Cal → Option CArm := fun c => match c with
  | .f 129 => some (.p [(.int .i64), (.int .i64), (.int .i64)] _ (fun x => impl_inside.F x.1 x.2.1 x.2.2.1) (fun r => (.t .bool r)))
  | _ => none
theorem impl_isKind.run (a0 : Int) : runF envX (tabC impl_isKind.C) (tabL 5 0 (fun _ => none)) Tryd.f146 [.t (.int .i64) a0] (viewR1 (.t .bool)) = impl_isKind.F a0 := by kernel_rfl
theorem impl_isKind.G (hE : EnvOk Tryd.prog envX) (pv : Nat → Value) : ∀ cal A, impl_isKind.C cal = some A → ArmOk Tryd.prog envX pv cal A := by
  intro cal A h
  unfold impl_isKind.C at h
  split at h
  · cases h; exact fun x y hy => impl_inside.good hE pv x.1 x.2.1 x.2.2.1 hy
  · cases h
theorem impl_isKind.good (hE : EnvOk Tryd.prog envX) (pv : Nat → Value) (a0 : Int) {y : _} (h : impl_isKind.F a0 = some y) : Meets Tryd.prog envX pv (.f 146) (tvals [(.int .i64)] (a0, ())) (.t .bool y) :=
  fun_plain hE (impl_isKind.G hE pv) (f := 146) (fn := Tryd.f146) (by kernel_rfl) rfl (by kernel_rfl) (by kernel_rfl) ((impl_isKind.run a0).trans h) fun r hr => wk_view1 hr
-- NO 200 slices.IndexFunc[[]loop.example/g00896/impl.Name,loop.example/g00896/impl.Name]: a parameter's type
-- NO 179 slices.ContainsFunc[[]loop.example/g00896/impl.Name,loop.example/g00896/impl.Name]: a parameter's type
-- NO 90 slices.IndexFunc[[]string,string]: a parameter's type
-- NO 96 slices.ContainsFunc[[]string,string]: a parameter's type
/-! ### 91 loop.example/g00896/impl.isUpper -/
def impl_isUpper.F (a0 : Int) : Option (Bool) := bif (decide (a0 ≥ 65)) then (some (decide (a0 ≤ 90))) else (some false)
def impl_isUpper.C : Cal → Option CArm := fun c => match c with
  | _ => none
theorem impl_isUpper.run (a0 : Int) : runF envX (tabC impl_isUpper.C) (tabL 9 0 (fun _ => none)) Tryd.f91 [.t (.int .u8) a0] (viewR1 (.t .bool)) = impl_isUpper.F a0 := by kernel_rfl
theorem impl_isUpper.G (hE : EnvOk Tryd.prog envX) (pv : Nat → Value) : ∀ cal A, impl_isUpper.C cal = some A → ArmOk Tryd.prog envX pv cal A := by
  intro cal A h
  unfold impl_isUpper.C at h
  cases h
theorem impl_isUpper.good (hE : EnvOk Tryd.prog envX) (pv : Nat → Value) (a0 : Int) {y : _} (h : impl_isUpper.F a0 = some y) : Meets Tryd.prog envX pv (.f 91) (tvals [(.int .u8)] (a0, ())) (.t .bool y) :=
  fun_plain hE (impl_isUpper.G hE pv) (f := 91) (fn := Tryd.f91) (by kernel_rfl) rfl (by kernel_rfl) (by kernel_rfl) ((impl_isUpper.run a0).trans h) fun r hr => wk_view1 hr
/-! ### 133 loop.example/g00896/impl.isLetter -/
def impl_isLetter.F (a0 : Int) : Option (Bool) := (impl_isUpper.F a0).bind fun r1 => bif r1 then (some true) else ((impl_isLower.F a0).bind fun r2 => some r2)
def impl_isLetter.C : Cal → Option CArm := fun c => match c with
  | .f 91 => some (.p [(.int .u8)] _ (fun x => impl_isUpper.F x.1) (fun r => (.t .bool r)))
  | .f 128 => some (.p [(.int .u8)] _ (fun x => impl_isLower.F x.1) (fun r => (.t .bool r)))
  | _ => none
theorem impl_isLetter.run (a0 : Int) : runF envX (tabC impl_isLetter.C) (tabL 9 0 (fun _ => none)) Tryd.f133 [.t (.int .u8) a0] (viewR1 (.t .bool)) = impl_isLetter.F a0 := by kernel_rfl
theorem impl_isLetter.G (hE : EnvOk Tryd.prog envX) (pv : Nat → Value) : ∀ cal A, impl_isLetter.C cal = some A → ArmOk Tryd.prog envX pv cal A := by
  intro cal A h
  unfold impl_isLetter.C at h
  split at h
  · cases h; exact fun x y hy => impl_isUpper.good hE pv x.1 hy
  · cases h; exact fun x y hy => impl_isLower.good hE pv x.1 hy
  · cases h
theorem impl_isLetter.good (hE : EnvOk Tryd.prog envX) (pv : Nat → Value) (a0 : Int) {y : _} (h : impl_isLetter.F a0 = some y) : Meets Tryd.prog envX pv (.f 133) (tvals [(.int .u8)] (a0, ())) (.t .bool y) :=
  fun_plain hE (impl_isLetter.G hE pv) (f := 133) (fn := Tryd.f133) (by kernel_rfl) rfl (by kernel_rfl) (by kernel_rfl) ((impl_isLetter.run a0).trans h) fun r hr => wk_view1 hr
/-! ### 204 loop.example/g00896/impl.isNameWord -/
def impl_isNameWord.l0 : Nat → ByteArray → Int → Option (Sum Bool Unit)
  | 0, _, _ => none
  | k + 1, x0, x3 => bif (decide (x3 < (x0.size : Int))) then (bif decide (0 ≤ x3) then (bif decide (x3 < (x0.size : Int)) then ((impl_isLetter.F (bt x0 (x3 : Int).toNat)).bind fun r4 => bif (!r4) then (bif decide (0 ≤ x3) then (bif decide (x3 < (x0.size : Int)) then (bif ((bt x0 (x3 : Int).toNat) != 45) then (bif decide (0 ≤ x3) then (bif decide (x3 < (x0.size : Int)) then (bif ((bt x0 (x3 : Int).toNat) != 39) then (some (.inl false)) else (bif decide (0 ≤ (IntKind.wrap .i64 (x3 - 1))) then (bif decide ((IntKind.wrap .i64 (x3 - 1)) < (x0.size : Int)) then ((impl_isLetter.F (bt x0 ((IntKind.wrap .i64 (x3 - 1)) : Int).toNat)).bind fun r5 => bif (!r5) then (some (.inl false)) else (impl_isNameWord.l0 k x0 (IntKind.wrap .i64 (x3 + 1)))) else none) else none)) else none) else none) else (bif decide (0 ≤ (IntKind.wrap .i64 (x3 - 1))) then (bif decide ((IntKind.wrap .i64 (x3 - 1)) < (x0.size : Int)) then ((impl_isLetter.F (bt x0 ((IntKind.wrap .i64 (x3 - 1)) : Int).toNat)).bind fun r6 => bif (!r6) then (some (.inl false)) else (impl_isNameWord.l0 k x0 (IntKind.wrap .i64 (x3 + 1)))) else none) else none)) else none) else none) else (impl_isNameWord.l0 k x0 (IntKind.wrap .i64 (x3 + 1)))) else none) else none) else (some (.inr ()))
def impl_isNameWord.F (k : Nat) (a0 : ByteArray) : Option (Bool) := (impl_inside.F (a0.size : Int) 1 12).bind fun r1 => bif (!r1) then (some false) else (bif decide (0 ≤ (IntKind.wrap .i64 ((a0.size : Int) - 1))) then (bif decide ((IntKind.wrap .i64 ((a0.size : Int) - 1)) < (a0.size : Int)) then ((impl_isLetter.F (bt a0 ((IntKind.wrap .i64 ((a0.size : Int) - 1)) : Int).toNat)).bind fun r2 => bif (!r2) then (some false) else (bif decide (0 ≤ 0) then (bif decide (0 < (a0.size : Int)) then ((impl_isLetter.F (bt a0 (0 : Int).toNat)).bind fun r3 => bif (!r3) then (some false) else ((impl_isNameWord.l0 k a0 0).bind fun y7 => match y7 with | .inl z8 => some z8 | .inr z8 => some true)) else none) else none)) else none) else none)
def impl_isNameWord.C (k : Nat) : Cal → Option CArm := fun c => match c with
  | .f 129 => some (.p [(.int .i64), (.int .i64), (.int .i64)] _ (fun x => impl_inside.F x.1 x.2.1 x.2.2.1) (fun r => (.t .bool r)))
  | .f 133 => some (.p [(.int .u8)] _ (fun x => impl_isLetter.F x.1) (fun r => (.t .bool r)))
  | _ => none
def impl_isNameWord.sp0 : List Sp := [.t 0 .str, .t 3 (.int .i64)]
def impl_isNameWord.sp0_0 : List Sp := [.t 2 .bool]
def impl_isNameWord.sp0_1 : List Sp := []
def impl_isNameWord.A0 : LArm := .two impl_isNameWord.sp0 impl_isNameWord.sp0_0 impl_isNameWord.sp0_1 (Bool) (Unit) (fun k x => impl_isNameWord.l0 k x.1 x.2.1) .ret (.exit 0) (fun y => (y, ())) (fun x => x.1) (fun y => ()) (fun x => ())
def impl_isNameWord.L : Nat → Option LArm := fun b => match b with
  | 0 => some impl_isNameWord.A0
  | _ => none
theorem impl_isNameWord.run (k : Nat) (a0 : ByteArray) : runF envX (tabC (impl_isNameWord.C k)) (tabL 54 k impl_isNameWord.L) Tryd.f204 [.t .str a0] (viewR1 (.t .bool)) = impl_isNameWord.F k a0 := by kernel_rfl
theorem impl_isNameWord.step0 (k : Nat) (x0 : ByteArray) (x3 : Int) : runC envX (tabC (impl_isNameWord.C k)) (tabL 54 k impl_isNameWord.L) 0 (loopAt Tryd.f204 0) (stOf 54 impl_isNameWord.sp0 (x0, x3, ())) (impl_isNameWord.A0.cont 54 k) = impl_isNameWord.l0 (k + 1) x0 x3 := by kernel_rfl
theorem impl_isNameWord.G (hE : EnvOk Tryd.prog envX) (pv : Nat → Value) (k : Nat) : ∀ cal A, impl_isNameWord.C k cal = some A → ArmOk Tryd.prog envX pv cal A := by
  intro cal A h
  unfold impl_isNameWord.C at h
  split at h
  · cases h; exact fun x y hy => impl_inside.good hE pv x.1 x.2.1 x.2.2.1 hy
  · cases h; exact fun x y hy => impl_isLetter.good hE pv x.1 hy
  · cases h
theorem impl_isNameWord.good (hE : EnvOk Tryd.prog envX) (pv : Nat → Value) (k : Nat) (a0 : ByteArray) {y : _} (h : impl_isNameWord.F k a0 = some y) : Meets Tryd.prog envX pv (.f 204) (tvals [.str] (a0, ())) (.t .bool y) :=
  fun_loops hE (t := impl_isNameWord.C) k (fun k _ => impl_isNameWord.G hE pv k) (f := 204) (fn := Tryd.f204) (by kernel_rfl) rfl (by kernel_rfl) (by kernel_rfl) (lt := impl_isNameWord.L) (by kernel_rfl) (fun b A h => by
    unfold impl_isNameWord.L at h; split at h
    · cases h; exact ⟨by kernel_rfl, by kernel_rfl, by kernel_rfl, fun _ => rfl, fun _ => rfl, fun _ => rfl⟩
    · cases h) (fun b A h => by
    unfold impl_isNameWord.L at h; split at h
    · cases h; exact fun k x => impl_isNameWord.step0 k x.1 x.2.1
    · cases h) ((impl_isNameWord.run k a0).trans h) fun r hr => wk_view1 hr
/-! ### 202 loop.example/g00896/impl.isGreatWord -/
def impl_isGreatWord.F (k : Nat) (a0 : ByteArray) : Option (Bool) := (impl_isNameWord.F k a0).bind fun r1 => bif r1 then (bif decide (0 ≤ 0) then (bif decide (0 < (a0.size : Int)) then ((impl_isUpper.F (bt a0 (0 : Int).toNat)).bind fun r2 => some r2) else none) else none) else (some false)
def impl_isGreatWord.C (k : Nat) : Cal → Option CArm := fun c => match c with
  | .f 204 => some (.p [.str] _ (fun x => impl_isNameWord.F k x.1) (fun r => (.t .bool r)))
  | .f 91 => some (.p [(.int .u8)] _ (fun x => impl_isUpper.F x.1) (fun r => (.t .bool r)))
  | _ => none
theorem impl_isGreatWord.run (k : Nat) (a0 : ByteArray) : runF envX (tabC (impl_isGreatWord.C k)) (tabL 10 0 (fun _ => none)) Tryd.f202 [.t .str a0] (viewR1 (.t .bool)) = impl_isGreatWord.F k a0 := by kernel_rfl
theorem impl_isGreatWord.G (hE : EnvOk Tryd.prog envX) (pv : Nat → Value) (k : Nat) : ∀ cal A, impl_isGreatWord.C k cal = some A → ArmOk Tryd.prog envX pv cal A := by
  intro cal A h
  unfold impl_isGreatWord.C at h
  split at h
  · cases h; exact fun x y hy => impl_isNameWord.good hE pv k x.1 hy
  · cases h; exact fun x y hy => impl_isUpper.good hE pv x.1 hy
  · cases h
theorem impl_isGreatWord.good (hE : EnvOk Tryd.prog envX) (pv : Nat → Value) (k : Nat) (a0 : ByteArray) {y : _} (h : impl_isGreatWord.F k a0 = some y) : Meets Tryd.prog envX pv (.f 202) (tvals [.str] (a0, ())) (.t .bool y) :=
  fun_plain hE (impl_isGreatWord.G hE pv k) (f := 202) (fn := Tryd.f202) (by kernel_rfl) rfl (by kernel_rfl) (by kernel_rfl) ((impl_isGreatWord.run k a0).trans h) fun r hr => wk_view1 hr
/-! ### 201 loop.example/g00896/impl.IsValidName$1 -/
def impl_IsValidName_1.F (k : Nat) (a0 : ByteArray) : Option (Bool) := (impl_isGreatWord.F k a0).bind fun r1 => some (!r1)
def impl_IsValidName_1.C (k : Nat) : Cal → Option CArm := fun c => match c with
  | .f 202 => some (.p [.str] _ (fun x => impl_isGreatWord.F k x.1) (fun r => (.t .bool r)))
  | _ => none
theorem impl_IsValidName_1.run (k : Nat) (a0 : ByteArray) : runF envX (tabC (impl_IsValidName_1.C k)) (tabL 6 0 (fun _ => none)) Tryd.f201 [.t .str a0] (viewR1 (.t .bool)) = impl_IsValidName_1.F k a0 := by kernel_rfl
theorem impl_IsValidName_1.G (hE : EnvOk Tryd.prog envX) (pv : Nat → Value) (k : Nat) : ∀ cal A, impl_IsValidName_1.C k cal = some A → ArmOk Tryd.prog envX pv cal A := by
  intro cal A h
  unfold impl_IsValidName_1.C at h
  split at h
  · cases h; exact fun x y hy => impl_isGreatWord.good hE pv k x.1 hy
  · cases h
theorem impl_IsValidName_1.good (hE : EnvOk Tryd.prog envX) (pv : Nat → Value) (k : Nat) (a0 : ByteArray) {y : _} (h : impl_IsValidName_1.F k a0 = some y) : Meets Tryd.prog envX pv (.f 201) (tvals [.str] (a0, ())) (.t .bool y) :=
  fun_plain hE (impl_IsValidName_1.G hE pv k) (f := 201) (fn := Tryd.f201) (by kernel_rfl) rfl (by kernel_rfl) (by kernel_rfl) ((impl_IsValidName_1.run k a0).trans h) fun r hr => wk_view1 hr
/-! ### 131 strings.Split -/
def strings_Split.F (a0 : ByteArray) (a1 : ByteArray) : Option (List ByteArray) := xSplit a0 a1
theorem strings_Split.good (hE : EnvOk Tryd.prog envX) (pv : Nat → Value) (a0 : ByteArray) (a1 : ByteArray) {y : _} (h : strings_Split.F a0 a1 = some y) : Meets Tryd.prog envX pv (.f 131) (tvals [.str, .str] (a0, a1, ())) (.fr 9 .str y) :=
  ext_split (fn := Tryd.f131) (by kernel_rfl) rfl (by kernel_rfl) (mx := 1) (by kernel_rfl) Tryd.strings_Split h
/-! ### 203 loop.example/g00896/impl.isParticle -/
def impl_isParticle.l2 : Nat → (List ByteArray) → ByteArray → Int → Int → Int → Option (Sum Bool ((List ByteArray) × Int × Int))
  | 0, _, _, _, _, _ => none
  | k + 1, x3, x5, x6, x12, x13 => bif (decide (x6 < (x5.size : Int))) then (bif decide (0 ≤ x6) then (bif decide (x6 < (x5.size : Int)) then ((impl_isLower.F (bt x5 (x6 : Int).toNat)).bind fun r3 => bif (!r3) then (some (.inl false)) else (impl_isParticle.l2 k x3 x5 (IntKind.wrap .i64 (x6 + 1)) x12 x13)) else none) else none) else (some (.inr (x3, x12, x13)))
def impl_isParticle.l0 : Nat → (List ByteArray) → Int → Int → Option (Sum Bool (List ByteArray))
  | 0, _, _, _ => none
  | k + 1, x3, x12, x13 => bif (decide (x13 < x12)) then (bif decide (0 ≤ x13) then (bif decide (x13 < (x3.length : Int)) then ((impl_inside.F ((x3.getD ((x13 : Int).toNat) (⟨#[]⟩ : ByteArray)).size : Int) 1 12).bind fun r2 => bif (!r2) then (some (.inl false)) else ((impl_isParticle.l2 k x3 (x3.getD ((x13 : Int).toNat) (⟨#[]⟩ : ByteArray)) 0 x12 x13).bind fun y4 => match y4 with | .inl z5 => some (.inl z5) | .inr z5 => impl_isParticle.l0 k z5.1 z5.2.1 (IntKind.wrap .i64 (z5.2.2 + 1)))) else none) else none) else (some (.inr x3))
def impl_isParticle.F (k : Nat) (a0 : ByteArray) : Option (Bool) := bif (beqS a0 (⟨#[]⟩ : ByteArray)) then (some true) else ((strings_Split.F a0 (⟨#[32]⟩ : ByteArray)).bind fun r1 => (impl_isParticle.l0 k r1 (r1.length : Int) 0).bind fun y6 => match y6 with | .inl z7 => some z7 | .inr z7 => some (decide ((z7.length : Int) ≤ 2)))
def impl_isParticle.C (k : Nat) : Cal → Option CArm := fun c => match c with
  | .f 131 => some (.p [.str, .str] _ (fun x => strings_Split.F x.1 x.2.1) (fun r => (.fr 9 .str r)))
  | .f 129 => some (.p [(.int .i64), (.int .i64), (.int .i64)] _ (fun x => impl_inside.F x.1 x.2.1 x.2.2.1) (fun r => (.t .bool r)))
  | .f 128 => some (.p [(.int .u8)] _ (fun x => impl_isLower.F x.1) (fun r => (.t .bool r)))
  | _ => none
def impl_isParticle.sp2 : List Sp := [.own 3 3076 9 .str false true, .t 5 .str, .t 6 (.int .i64), .con 11 (.own 3076), .t 12 (.int .i64), .t 13 (.int .i64)]
def impl_isParticle.sp2_0 : List Sp := [.t 2 .bool]
def impl_isParticle.sp2_1 : List Sp := [.own 3 3076 9 .str false true, .con 11 (.own 3076), .t 12 (.int .i64), .t 13 (.int .i64)]
def impl_isParticle.A2 : LArm := .two impl_isParticle.sp2 impl_isParticle.sp2_0 impl_isParticle.sp2_1 (Bool) ((List ByteArray) × Int × Int) (fun k x => impl_isParticle.l2 k x.1 x.2.1 x.2.2.1 x.2.2.2.2.1 x.2.2.2.2.2.1) .ret (.exit 2) (fun y => (y, ())) (fun x => x.1) (fun y => (y.1, (), y.2.1, y.2.2, ())) (fun x => (x.1, x.2.2.1, x.2.2.2.1))
def impl_isParticle.sp0 : List Sp := [.own 3 3076 9 .str false true, .con 11 (.own 3076), .t 12 (.int .i64), .t 13 (.int .i64)]
def impl_isParticle.sp0_0 : List Sp := [.t 2 .bool]
def impl_isParticle.sp0_1 : List Sp := [.own 3 3076 9 .str false true]
def impl_isParticle.A0 : LArm := .two impl_isParticle.sp0 impl_isParticle.sp0_0 impl_isParticle.sp0_1 (Bool) ((List ByteArray)) (fun k x => impl_isParticle.l0 k x.1 x.2.2.1 x.2.2.2.1) .ret (.exit 0) (fun y => (y, ())) (fun x => x.1) (fun y => (y, ())) (fun x => x.1)
def impl_isParticle.L : Nat → Option LArm := fun b => match b with
  | 2 => some impl_isParticle.A2
  | 0 => some impl_isParticle.A0
  | _ => none
theorem impl_isParticle.run (k : Nat) (a0 : ByteArray) : runF envX (tabC (impl_isParticle.C k)) (tabL 36 k impl_isParticle.L) Tryd.f203 [.t .str a0] (viewR1 (.t .bool)) = impl_isParticle.F k a0 := by kernel_rfl
theorem impl_isParticle.step2 (k : Nat) (x3 : List ByteArray) (x5 : ByteArray) (x6 : Int) (x12 : Int) (x13 : Int) : runC envX (tabC (impl_isParticle.C k)) (tabL 36 k impl_isParticle.L) 2 (loopAt Tryd.f203 2) (stOf 36 impl_isParticle.sp2 (x3, x5, x6, (), x12, x13, ())) (impl_isParticle.A2.cont 36 k) = impl_isParticle.l2 (k + 1) x3 x5 x6 x12 x13 := by kernel_rfl
theorem impl_isParticle.step0 (k : Nat) (x3 : List ByteArray) (x12 : Int) (x13 : Int) : runC envX (tabC (impl_isParticle.C k)) (tabL 36 k impl_isParticle.L) 0 (loopAt Tryd.f203 0) (stOf 36 impl_isParticle.sp0 (x3, (), x12, x13, ())) (impl_isParticle.A0.cont 36 k) = impl_isParticle.l0 (k + 1) x3 x12 x13 := by kernel_rfl
theorem impl_isParticle.G (hE : EnvOk Tryd.prog envX) (pv : Nat → Value) (k : Nat) : ∀ cal A, impl_isParticle.C k cal = some A → ArmOk Tryd.prog envX pv cal A := by
  intro cal A h
  unfold impl_isParticle.C at h
  split at h
  · cases h; exact fun x y hy => strings_Split.good hE pv x.1 x.2.1 hy
  · cases h; exact fun x y hy => impl_inside.good hE pv x.1 x.2.1 x.2.2.1 hy
  · cases h; exact fun x y hy => impl_isLower.good hE pv x.1 hy
  · cases h
theorem impl_isParticle.good (hE : EnvOk Tryd.prog envX) (pv : Nat → Value) (k : Nat) (a0 : ByteArray) {y : _} (h : impl_isParticle.F k a0 = some y) : Meets Tryd.prog envX pv (.f 203) (tvals [.str] (a0, ())) (.t .bool y) :=
  fun_loops hE (t := impl_isParticle.C) k (fun k _ => impl_isParticle.G hE pv k) (f := 203) (fn := Tryd.f203) (by kernel_rfl) rfl (by kernel_rfl) (by kernel_rfl) (lt := impl_isParticle.L) (by kernel_rfl) (fun b A h => by
    unfold impl_isParticle.L at h; split at h
    · cases h; exact ⟨by kernel_rfl, by kernel_rfl, by kernel_rfl, fun _ => rfl, fun _ => rfl, fun _ => rfl⟩
    · cases h; exact ⟨by kernel_rfl, by kernel_rfl, by kernel_rfl, fun _ => rfl, fun _ => rfl, fun _ => rfl⟩
    · cases h) (fun b A h => by
    unfold impl_isParticle.L at h; split at h
    · cases h; exact fun k x => impl_isParticle.step2 k x.1 x.2.1 x.2.2.1 x.2.2.2.2.1 x.2.2.2.2.2.1
    · cases h; exact fun k x => impl_isParticle.step0 k x.1 x.2.2.1 x.2.2.2.1
    · cases h) ((impl_isParticle.run k a0).trans h) fun r hr => wk_view1 hr
/-! ### 90 slices.IndexFunc[[]string,string] at loop.example/g00896/impl.IsValidName$1 -/
def slices_IndexFunc_string_f201.l0 : Nat → (List ByteArray) → Int → Int → Option (Sum Int Unit)
  | 0, _, _, _ => none
  | k + 1, x0, x7, x8 => bif (decide (x8 < x7)) then (bif decide (0 ≤ x8) then (bif decide (x8 < (x0.length : Int)) then ((impl_IsValidName_1.F k (x0.getD (x8 : Int).toNat (⟨#[]⟩ : ByteArray))).bind fun r1 => bif r1 then (some (.inl x8)) else (slices_IndexFunc_string_f201.l0 k x0 x7 (IntKind.wrap .i64 (x8 + 1)))) else none) else none) else (some (.inr ()))
def slices_IndexFunc_string_f201.F (k : Nat) (a0 : List ByteArray) : Option (Int) := (slices_IndexFunc_string_f201.l0 k a0 (a0.length : Int) 0).bind fun y2 => match y2 with | .inl z3 => some z3 | .inr z3 => some (-1)
def slices_IndexFunc_string_f201.C (k : Nat) : Cal → Option CArm := fun c => match c with
  | .f 201 => some (.p [.str] _ (fun x => impl_IsValidName_1.F k x.1) (fun r => (.t .bool r)))
  | _ => none
def slices_IndexFunc_string_f201.sp0 : List Sp := [.t 0 (.sl .str), .con 1 (.clo 201), .t 7 (.int .i64), .t 8 (.int .i64)]
def slices_IndexFunc_string_f201.sp0_0 : List Sp := [.t 4 (.int .i64)]
def slices_IndexFunc_string_f201.sp0_1 : List Sp := []
def slices_IndexFunc_string_f201.A0 : LArm := .two slices_IndexFunc_string_f201.sp0 slices_IndexFunc_string_f201.sp0_0 slices_IndexFunc_string_f201.sp0_1 (Int) (Unit) (fun k x => slices_IndexFunc_string_f201.l0 k x.1 x.2.2.1 x.2.2.2.1) .ret (.exit 0) (fun y => (y, ())) (fun x => x.1) (fun y => ()) (fun x => ())
def slices_IndexFunc_string_f201.L : Nat → Option LArm := fun b => match b with
  | 0 => some slices_IndexFunc_string_f201.A0
  | _ => none
theorem slices_IndexFunc_string_f201.run (k : Nat) (a0 : List ByteArray) : runF envX (tabC (slices_IndexFunc_string_f201.C k)) (tabL 19 k slices_IndexFunc_string_f201.L) Tryd.f90 [.t (.sl .str) a0, .clo 201 []] (viewR1 (.t (.int .i64))) = slices_IndexFunc_string_f201.F k a0 := by kernel_rfl
theorem slices_IndexFunc_string_f201.step0 (k : Nat) (x0 : List ByteArray) (x7 : Int) (x8 : Int) : runC envX (tabC (slices_IndexFunc_string_f201.C k)) (tabL 19 k slices_IndexFunc_string_f201.L) 0 (loopAt Tryd.f90 0) (stOf 19 slices_IndexFunc_string_f201.sp0 (x0, (), x7, x8, ())) (slices_IndexFunc_string_f201.A0.cont 19 k) = slices_IndexFunc_string_f201.l0 (k + 1) x0 x7 x8 := by kernel_rfl
theorem slices_IndexFunc_string_f201.G (hE : EnvOk Tryd.prog envX) (pv : Nat → Value) (k : Nat) : ∀ cal A, slices_IndexFunc_string_f201.C k cal = some A → ArmOk Tryd.prog envX pv cal A := by
  intro cal A h
  unfold slices_IndexFunc_string_f201.C at h
  split at h
  · cases h; exact fun x y hy => impl_IsValidName_1.good hE pv k x.1 hy
  · cases h
theorem slices_IndexFunc_string_f201.good (hE : EnvOk Tryd.prog envX) (pv : Nat → Value) (k : Nat) (a0 : List ByteArray) {y : _} (h : slices_IndexFunc_string_f201.F k a0 = some y) : Meets Tryd.prog envX pv (.f 90) (pvals [.t (.sl .str), .clo 201 []] (a0, (()), ())) (.t (.int .i64) y) :=
  fun_loops hE (t := slices_IndexFunc_string_f201.C) k (fun k _ => slices_IndexFunc_string_f201.G hE pv k) (f := 90) (fn := Tryd.f90) (by kernel_rfl) rfl (by kernel_rfl) (by kernel_rfl) (lt := slices_IndexFunc_string_f201.L) (by kernel_rfl) (fun b A h => by
    unfold slices_IndexFunc_string_f201.L at h; split at h
    · cases h; exact ⟨by kernel_rfl, by kernel_rfl, by kernel_rfl, fun _ => rfl, fun _ => rfl, fun _ => rfl⟩
    · cases h) (fun b A h => by
    unfold slices_IndexFunc_string_f201.L at h; split at h
    · cases h; exact fun k x => slices_IndexFunc_string_f201.step0 k x.1 x.2.2.1 x.2.2.2.1
    · cases h) ((slices_IndexFunc_string_f201.run k a0).trans h) fun r hr => wk_view1 hr
/-! ### 96 slices.ContainsFunc[[]string,string] at loop.example/g00896/impl.IsValidName$1 -/
def slices_ContainsFunc_string_f201.F (k : Nat) (a0 : List ByteArray) : Option (Bool) := (slices_IndexFunc_string_f201.F k a0).bind fun r1 => some (decide (r1 ≥ 0))
def slices_ContainsFunc_string_f201.C (k : Nat) : Cal → Option CArm := fun c => match c with
  | .f 90 => some (.q [.t (.sl .str), .clo 201 []] _ (fun x => slices_IndexFunc_string_f201.F k x.1) (fun r => (.t (.int .i64) r)))
  | _ => none
theorem slices_ContainsFunc_string_f201.run (k : Nat) (a0 : List ByteArray) : runF envX (tabC (slices_ContainsFunc_string_f201.C k)) (tabL 9 0 (fun _ => none)) Tryd.f96 [.t (.sl .str) a0, .clo 201 []] (viewR1 (.t .bool)) = slices_ContainsFunc_string_f201.F k a0 := by kernel_rfl
theorem slices_ContainsFunc_string_f201.G (hE : EnvOk Tryd.prog envX) (pv : Nat → Value) (k : Nat) : ∀ cal A, slices_ContainsFunc_string_f201.C k cal = some A → ArmOk Tryd.prog envX pv cal A := by
  intro cal A h
  unfold slices_ContainsFunc_string_f201.C at h
  split at h
  · cases h; exact fun x y hy => slices_IndexFunc_string_f201.good hE pv k x.1 hy
  · cases h
theorem slices_ContainsFunc_string_f201.good (hE : EnvOk Tryd.prog envX) (pv : Nat → Value) (k : Nat) (a0 : List ByteArray) {y : _} (h : slices_ContainsFunc_string_f201.F k a0 = some y) : Meets Tryd.prog envX pv (.f 96) (pvals [.t (.sl .str), .clo 201 []] (a0, (()), ())) (.t .bool y) :=
  fun_plain hE (slices_ContainsFunc_string_f201.G hE pv k) (f := 96) (fn := Tryd.f96) (by kernel_rfl) rfl (by kernel_rfl) (by kernel_rfl) ((slices_ContainsFunc_string_f201.run k a0).trans h) fun r hr => wk_view1 hr
/-! ### 181 loop.example/g00896/impl.IsValidName -/
def impl_IsValidName.F (k : Nat) (a0 : Name) : Option (Bool) := bif (decide ((a0.given.length : Int) > 3)) then (some false) else ((slices_ContainsFunc_string_f201.F k a0.given).bind fun r1 => bif r1 then (some false) else ((impl_isParticle.F k a0.particle).bind fun r2 => bif r2 then ((impl_isGreatWord.F k a0.family).bind fun r3 => bif r3 then (bif (beqS a0.suffix (⟨#[]⟩ : ByteArray)) then (some true) else ((impl_isNameWord.F k a0.suffix).bind fun r4 => some r4)) else (some false)) else (some false)))
def impl_IsValidName.C (k : Nat) : Cal → Option CArm := fun c => match c with
  | .f 96 => some (.q [.t (.sl .str), .clo 201 []] _ (fun x => slices_ContainsFunc_string_f201.F k x.1) (fun r => (.t .bool r)))
  | .f 203 => some (.p [.str] _ (fun x => impl_isParticle.F k x.1) (fun r => (.t .bool r)))
  | .f 202 => some (.p [.str] _ (fun x => impl_isGreatWord.F k x.1) (fun r => (.t .bool r)))
  | .f 204 => some (.p [.str] _ (fun x => impl_isNameWord.F k x.1) (fun r => (.t .bool r)))
  | _ => none
theorem impl_IsValidName.run (k : Nat) (a0 : Name) : runF envX (tabC (impl_IsValidName.C k)) (tabL 30 0 (fun _ => none)) Tryd.f181 [.t .name a0] (viewR1 (.t .bool)) = impl_IsValidName.F k a0 := by kernel_rfl
theorem impl_IsValidName.G (hE : EnvOk Tryd.prog envX) (pv : Nat → Value) (k : Nat) : ∀ cal A, impl_IsValidName.C k cal = some A → ArmOk Tryd.prog envX pv cal A := by
  intro cal A h
  unfold impl_IsValidName.C at h
  split at h
  · cases h; exact fun x y hy => slices_ContainsFunc_string_f201.good hE pv k x.1 hy
  · cases h; exact fun x y hy => impl_isParticle.good hE pv k x.1 hy
  · cases h; exact fun x y hy => impl_isGreatWord.good hE pv k x.1 hy
  · cases h; exact fun x y hy => impl_isNameWord.good hE pv k x.1 hy
  · cases h
theorem impl_IsValidName.good (hE : EnvOk Tryd.prog envX) (pv : Nat → Value) (k : Nat) (a0 : Name) {y : _} (h : impl_IsValidName.F k a0 = some y) : Meets Tryd.prog envX pv (.f 181) (tvals [.name] (a0, ())) (.t .bool y) :=
  fun_plain hE (impl_IsValidName.G hE pv k) (f := 181) (fn := Tryd.f181) (by kernel_rfl) rfl (by kernel_rfl) (by kernel_rfl) ((impl_IsValidName.run k a0).trans h) fun r hr => wk_view1 hr
/-! ### 180 loop.example/g00896/impl.areNames$1 -/
def impl_areNames_1.F (k : Nat) (a0 : Name) : Option (Bool) := (impl_IsValidName.F k a0).bind fun r1 => some (!r1)
def impl_areNames_1.C (k : Nat) : Cal → Option CArm := fun c => match c with
  | .f 181 => some (.p [.name] _ (fun x => impl_IsValidName.F k x.1) (fun r => (.t .bool r)))
  | _ => none
theorem impl_areNames_1.run (k : Nat) (a0 : Name) : runF envX (tabC (impl_areNames_1.C k)) (tabL 6 0 (fun _ => none)) Tryd.f180 [.t .name a0] (viewR1 (.t .bool)) = impl_areNames_1.F k a0 := by kernel_rfl
theorem impl_areNames_1.G (hE : EnvOk Tryd.prog envX) (pv : Nat → Value) (k : Nat) : ∀ cal A, impl_areNames_1.C k cal = some A → ArmOk Tryd.prog envX pv cal A := by
  intro cal A h
  unfold impl_areNames_1.C at h
  split at h
  · cases h; exact fun x y hy => impl_IsValidName.good hE pv k x.1 hy
  · cases h
theorem impl_areNames_1.good (hE : EnvOk Tryd.prog envX) (pv : Nat → Value) (k : Nat) (a0 : Name) {y : _} (h : impl_areNames_1.F k a0 = some y) : Meets Tryd.prog envX pv (.f 180) (tvals [.name] (a0, ())) (.t .bool y) :=
  fun_plain hE (impl_areNames_1.G hE pv k) (f := 180) (fn := Tryd.f180) (by kernel_rfl) rfl (by kernel_rfl) (by kernel_rfl) ((impl_areNames_1.run k a0).trans h) fun r hr => wk_view1 hr
/-! ### 200 slices.IndexFunc[[]loop.example/g00896/impl.Name,loop.example/g00896/impl.Name] at loop.example/g00896/impl.areNames$1 -/
def slices_IndexFunc_Name_f180.l0 : Nat → (List Name) → Int → Int → Option (Sum Int Unit)
  | 0, _, _, _ => none
  | k + 1, x0, x7, x8 => bif (decide (x8 < x7)) then (bif decide (0 ≤ x8) then (bif decide (x8 < (x0.length : Int)) then ((impl_areNames_1.F k (x0.getD (x8 : Int).toNat (dflt .name))).bind fun r1 => bif r1 then (some (.inl x8)) else (slices_IndexFunc_Name_f180.l0 k x0 x7 (IntKind.wrap .i64 (x8 + 1)))) else none) else none) else (some (.inr ()))
def slices_IndexFunc_Name_f180.F (k : Nat) (a0 : List Name) : Option (Int) := (slices_IndexFunc_Name_f180.l0 k a0 (a0.length : Int) 0).bind fun y2 => match y2 with | .inl z3 => some z3 | .inr z3 => some (-1)
def slices_IndexFunc_Name_f180.C (k : Nat) : Cal → Option CArm := fun c => match c with
  | .f 180 => some (.p [.name] _ (fun x => impl_areNames_1.F k x.1) (fun r => (.t .bool r)))
  | _ => none
def slices_IndexFunc_Name_f180.sp0 : List Sp := [.t 0 (.sl .name), .con 1 (.clo 180), .t 7 (.int .i64), .t 8 (.int .i64)]
def slices_IndexFunc_Name_f180.sp0_0 : List Sp := [.t 4 (.int .i64)]
def slices_IndexFunc_Name_f180.sp0_1 : List Sp := []
def slices_IndexFunc_Name_f180.A0 : LArm := .two slices_IndexFunc_Name_f180.sp0 slices_IndexFunc_Name_f180.sp0_0 slices_IndexFunc_Name_f180.sp0_1 (Int) (Unit) (fun k x => slices_IndexFunc_Name_f180.l0 k x.1 x.2.2.1 x.2.2.2.1) .ret (.exit 0) (fun y => (y, ())) (fun x => x.1) (fun y => ()) (fun x => ())
def slices_IndexFunc_Name_f180.L : Nat → Option LArm := fun b => match b with
  | 0 => some slices_IndexFunc_Name_f180.A0
  | _ => none
theorem slices_IndexFunc_Name_f180.run (k : Nat) (a0 : List Name) : runF envX (tabC (slices_IndexFunc_Name_f180.C k)) (tabL 19 k slices_IndexFunc_Name_f180.L) Tryd.f200 [.t (.sl .name) a0, .clo 180 []] (viewR1 (.t (.int .i64))) = slices_IndexFunc_Name_f180.F k a0 := by kernel_rfl
theorem slices_IndexFunc_Name_f180.step0 (k : Nat) (x0 : List Name) (x7 : Int) (x8 : Int) : runC envX (tabC (slices_IndexFunc_Name_f180.C k)) (tabL 19 k slices_IndexFunc_Name_f180.L) 0 (loopAt Tryd.f200 0) (stOf 19 slices_IndexFunc_Name_f180.sp0 (x0, (), x7, x8, ())) (slices_IndexFunc_Name_f180.A0.cont 19 k) = slices_IndexFunc_Name_f180.l0 (k + 1) x0 x7 x8 := by kernel_rfl
theorem slices_IndexFunc_Name_f180.G (hE : EnvOk Tryd.prog envX) (pv : Nat → Value) (k : Nat) : ∀ cal A, slices_IndexFunc_Name_f180.C k cal = some A → ArmOk Tryd.prog envX pv cal A := by
  intro cal A h
  unfold slices_IndexFunc_Name_f180.C at h
  split at h
  · cases h; exact fun x y hy => impl_areNames_1.good hE pv k x.1 hy
  · cases h
theorem slices_IndexFunc_Name_f180.good (hE : EnvOk Tryd.prog envX) (pv : Nat → Value) (k : Nat) (a0 : List Name) {y : _} (h : slices_IndexFunc_Name_f180.F k a0 = some y) : Meets Tryd.prog envX pv (.f 200) (pvals [.t (.sl .name), .clo 180 []] (a0, (()), ())) (.t (.int .i64) y) :=
  fun_loops hE (t := slices_IndexFunc_Name_f180.C) k (fun k _ => slices_IndexFunc_Name_f180.G hE pv k) (f := 200) (fn := Tryd.f200) (by kernel_rfl) rfl (by kernel_rfl) (by kernel_rfl) (lt := slices_IndexFunc_Name_f180.L) (by kernel_rfl) (fun b A h => by
    unfold slices_IndexFunc_Name_f180.L at h; split at h
    · cases h; exact ⟨by kernel_rfl, by kernel_rfl, by kernel_rfl, fun _ => rfl, fun _ => rfl, fun _ => rfl⟩
    · cases h) (fun b A h => by
    unfold slices_IndexFunc_Name_f180.L at h; split at h
    · cases h; exact fun k x => slices_IndexFunc_Name_f180.step0 k x.1 x.2.2.1 x.2.2.2.1
    · cases h) ((slices_IndexFunc_Name_f180.run k a0).trans h) fun r hr => wk_view1 hr
/-! ### 179 slices.ContainsFunc[[]loop.example/g00896/impl.Name,loop.example/g00896/impl.Name] at loop.example/g00896/impl.areNames$1 -/
def slices_ContainsFunc_Name_f180.F (k : Nat) (a0 : List Name) : Option (Bool) := (slices_IndexFunc_Name_f180.F k a0).bind fun r1 => some (decide (r1 ≥ 0))
def slices_ContainsFunc_Name_f180.C (k : Nat) : Cal → Option CArm := fun c => match c with
  | .f 200 => some (.q [.t (.sl .name), .clo 180 []] _ (fun x => slices_IndexFunc_Name_f180.F k x.1) (fun r => (.t (.int .i64) r)))
  | _ => none
theorem slices_ContainsFunc_Name_f180.run (k : Nat) (a0 : List Name) : runF envX (tabC (slices_ContainsFunc_Name_f180.C k)) (tabL 9 0 (fun _ => none)) Tryd.f179 [.t (.sl .name) a0, .clo 180 []] (viewR1 (.t .bool)) = slices_ContainsFunc_Name_f180.F k a0 := by kernel_rfl
theorem slices_ContainsFunc_Name_f180.G (hE : EnvOk Tryd.prog envX) (pv : Nat → Value) (k : Nat) : ∀ cal A, slices_ContainsFunc_Name_f180.C k cal = some A → ArmOk Tryd.prog envX pv cal A := by
  intro cal A h
  unfold slices_ContainsFunc_Name_f180.C at h
  split at h
  · cases h; exact fun x y hy => slices_IndexFunc_Name_f180.good hE pv k x.1 hy
  · cases h
theorem slices_ContainsFunc_Name_f180.good (hE : EnvOk Tryd.prog envX) (pv : Nat → Value) (k : Nat) (a0 : List Name) {y : _} (h : slices_ContainsFunc_Name_f180.F k a0 = some y) : Meets Tryd.prog envX pv (.f 179) (pvals [.t (.sl .name), .clo 180 []] (a0, (()), ())) (.t .bool y) :=
  fun_plain hE (slices_ContainsFunc_Name_f180.G hE pv k) (f := 179) (fn := Tryd.f179) (by kernel_rfl) rfl (by kernel_rfl) (by kernel_rfl) ((slices_ContainsFunc_Name_f180.run k a0).trans h) fun r hr => wk_view1 hr
/-! ### 147 loop.example/g00896/impl.areNames -/
def impl_areNames.F (k : Nat) (a0 : List Name) : Option (Bool) := bif (decide ((a0.length : Int) ≤ 4)) then ((slices_ContainsFunc_Name_f180.F k a0).bind fun r1 => some (!r1)) else (some false)
def impl_areNames.C (k : Nat) : Cal → Option CArm := fun c => match c with
  | .f 179 => some (.q [.t (.sl .name), .clo 180 []] _ (fun x => slices_ContainsFunc_Name_f180.F k x.1) (fun r => (.t .bool r)))
  | _ => none
theorem impl_areNames.run (k : Nat) (a0 : List Name) : runF envX (tabC (impl_areNames.C k)) (tabL 11 0 (fun _ => none)) Tryd.f147 [.t (.sl .name) a0] (viewR1 (.t .bool)) = impl_areNames.F k a0 := by kernel_rfl
theorem impl_areNames.G (hE : EnvOk Tryd.prog envX) (pv : Nat → Value) (k : Nat) : ∀ cal A, impl_areNames.C k cal = some A → ArmOk Tryd.prog envX pv cal A := by
  intro cal A h
  unfold impl_areNames.C at h
  split at h
  · cases h; exact fun x y hy => slices_ContainsFunc_Name_f180.good hE pv k x.1 hy
  · cases h
theorem impl_areNames.good (hE : EnvOk Tryd.prog envX) (pv : Nat → Value) (k : Nat) (a0 : List Name) {y : _} (h : impl_areNames.F k a0 = some y) : Meets Tryd.prog envX pv (.f 147) (tvals [(.sl .name)] (a0, ())) (.t .bool y) :=
  fun_plain hE (impl_areNames.G hE pv k) (f := 147) (fn := Tryd.f147) (by kernel_rfl) rfl (by kernel_rfl) (by kernel_rfl) ((impl_areNames.run k a0).trans h) fun r hr => wk_view1 hr
/-! ### 182 loop.example/g00896/impl.daysInMonth -/
def impl_daysInMonth.F (a0 : Int) (a1 : Int) : Option (Int) := bif (a1 == 2) then (bif (4 == 0) then (none) else (bif ((Int.tmod a0 4) == 0) then (bif (100 == 0) then (none) else (bif ((Int.tmod a0 100) != 0) then (some 29) else (bif (400 == 0) then (none) else (bif ((Int.tmod a0 400) == 0) then (some 29) else (some 28))))) else (some 28))) else (bif (a1 == 4) then (bif (a1 == 4) then (some 30) else (some 31)) else (bif (a1 == 6) then (bif (a1 == 6) then (some 30) else (some 31)) else (bif (a1 == 9) then (bif (a1 == 9) then (some 30) else (some 31)) else (bif (a1 == 11) then (some 30) else (some 31)))))
def impl_daysInMonth.C : Cal → Option CArm := fun c => match c with
  | _ => none
theorem impl_daysInMonth.run (a0 : Int) (a1 : Int) : runF envX (tabC impl_daysInMonth.C) (tabL 26 0 (fun _ => none)) Tryd.f182 [.t (.int .i64) a0, .t (.int .i64) a1] (viewR1 (.t (.int .i64))) = impl_daysInMonth.F a0 a1 := by kernel_rfl
theorem impl_daysInMonth.G (hE : EnvOk Tryd.prog envX) (pv : Nat → Value) : ∀ cal A, impl_daysInMonth.C cal = some A → ArmOk Tryd.prog envX pv cal A := by
  intro cal A h
  unfold impl_daysInMonth.C at h
  cases h
theorem impl_daysInMonth.good (hE : EnvOk Tryd.prog envX) (pv : Nat → Value) (a0 : Int) (a1 : Int) {y : _} (h : impl_daysInMonth.F a0 a1 = some y) : Meets Tryd.prog envX pv (.f 182) (tvals [(.int .i64), (.int .i64)] (a0, a1, ())) (.t (.int .i64) y) :=
  fun_plain hE (impl_daysInMonth.G hE pv) (f := 182) (fn := Tryd.f182) (by kernel_rfl) rfl (by kernel_rfl) (by kernel_rfl) ((impl_daysInMonth.run a0 a1).trans h) fun r hr => wk_view1 hr
/-! ### 148 loop.example/g00896/impl.IsValidDate -/
def impl_IsValidDate.F (a0 : Date) : Option (Bool) := bif ((a0.y == 0 && (a0.m == 0 && (a0.d == 0 && a0.c == false)))) then (some true) else ((impl_inside.F a0.y 1 2999).bind fun r1 => bif (!r1) then (some false) else ((impl_inside.F a0.m 0 12).bind fun r2 => bif (!r2) then (some false) else (bif a0.c then (bif (a0.m != 0) then (some false) else (bif (a0.m == 0) then (some (a0.d == 0)) else ((impl_daysInMonth.F a0.y a0.m).bind fun r3 => (impl_inside.F a0.d 0 r3).bind fun r4 => some r4))) else (bif (a0.m == 0) then (some (a0.d == 0)) else ((impl_daysInMonth.F a0.y a0.m).bind fun r5 => (impl_inside.F a0.d 0 r5).bind fun r6 => some r6)))))
def impl_IsValidDate.C : Cal → Option CArm := fun c => match c with
  | .f 129 => some (.p [(.int .i64), (.int .i64), (.int .i64)] _ (fun x => impl_inside.F x.1 x.2.1 x.2.2.1) (fun r => (.t .bool r)))
  | .f 182 => some (.p [(.int .i64), (.int .i64)] _ (fun x => impl_daysInMonth.F x.1 x.2.1) (fun r => (.t (.int .i64) r)))
  | _ => none
theorem impl_IsValidDate.run (a0 : Date) : runF envX (tabC impl_IsValidDate.C) (tabL 39 0 (fun _ => none)) Tryd.f148 [.t .date a0] (viewR1 (.t .bool)) = impl_IsValidDate.F a0 := by kernel_rfl
theorem impl_IsValidDate.G (hE : EnvOk Tryd.prog envX) (pv : Nat → Value) : ∀ cal A, impl_IsValidDate.C cal = some A → ArmOk Tryd.prog envX pv cal A := by
  intro cal A h
  unfold impl_IsValidDate.C at h
  split at h
  · cases h; exact fun x y hy => impl_inside.good hE pv x.1 x.2.1 x.2.2.1 hy
  · cases h; exact fun x y hy => impl_daysInMonth.good hE pv x.1 x.2.1 hy
  · cases h
theorem impl_IsValidDate.good (hE : EnvOk Tryd.prog envX) (pv : Nat → Value) (a0 : Date) {y : _} (h : impl_IsValidDate.F a0 = some y) : Meets Tryd.prog envX pv (.f 148) (tvals [.date] (a0, ())) (.t .bool y) :=
  fun_plain hE (impl_IsValidDate.G hE pv) (f := 148) (fn := Tryd.f148) (by kernel_rfl) rfl (by kernel_rfl) (by kernel_rfl) ((impl_IsValidDate.run a0).trans h) fun r hr => wk_view1 hr
/-! ### 109 loop.example/g00896/impl.IsValidEntry -/
def impl_IsValidEntry.F (k : Nat) (a0 : Entry) : Option (Bool) := (impl_isKey.F k a0.key).bind fun r1 => bif (!r1) then (some false) else ((impl_isKind.F a0.kind).bind fun r2 => bif (!r2) then (some false) else ((impl_areNames.F k a0.authors).bind fun r3 => bif (!r3) then (some false) else ((impl_areNames.F k a0.editors).bind fun r4 => bif (!r4) then (some false) else ((impl_IsValidDate.F a0.date).bind fun r5 => bif (!r5) then (some false) else ((impl_inside.F a0.volume 0 9999).bind fun r6 => bif (!r6) then (some false) else ((impl_isText.F k a0.title).bind fun r7 => bif r7 then ((impl_isText.F k a0.container).bind fun r8 => bif r8 then ((impl_isText.F k a0.publisher).bind fun r9 => bif r9 then ((impl_isText.F k a0.pages).bind fun r10 => bif r10 then (bif (beqS a0.cross (⟨#[]⟩ : ByteArray)) then (some true) else ((impl_isKey.F k a0.cross).bind fun r11 => bif r11 then (some (!beqS a0.cross a0.key)) else (some false))) else (some false)) else (some false)) else (some false)) else (some false)))))))
def impl_IsValidEntry.C (k : Nat) : Cal → Option CArm := fun c => match c with
  | .f 145 => some (.p [.str] _ (fun x => impl_isKey.F k x.1) (fun r => (.t .bool r)))
  | .f 146 => some (.p [(.int .i64)] _ (fun x => impl_isKind.F x.1) (fun r => (.t .bool r)))
  | .f 147 => some (.p [(.sl .name)] _ (fun x => impl_areNames.F k x.1) (fun r => (.t .bool r)))
  | .f 148 => some (.p [.date] _ (fun x => impl_IsValidDate.F x.1) (fun r => (.t .bool r)))
  | .f 129 => some (.p [(.int .i64), (.int .i64), (.int .i64)] _ (fun x => impl_inside.F x.1 x.2.1 x.2.2.1) (fun r => (.t .bool r)))
  | .f 52 => some (.p [.str] _ (fun x => impl_isText.F k x.1) (fun r => (.t .bool r)))
  | _ => none
theorem impl_IsValidEntry.run (k : Nat) (a0 : Entry) : runF envX (tabC (impl_IsValidEntry.C k)) (tabL 72 0 (fun _ => none)) Tryd.f109 [.t .entry a0] (viewR1 (.t .bool)) = impl_IsValidEntry.F k a0 := by kernel_rfl
theorem impl_IsValidEntry.G (hE : EnvOk Tryd.prog envX) (pv : Nat → Value) (k : Nat) : ∀ cal A, impl_IsValidEntry.C k cal = some A → ArmOk Tryd.prog envX pv cal A := by
  intro cal A h
  unfold impl_IsValidEntry.C at h
  split at h
  · cases h; exact fun x y hy => impl_isKey.good hE pv k x.1 hy
  · cases h; exact fun x y hy => impl_isKind.good hE pv x.1 hy
  · cases h; exact fun x y hy => impl_areNames.good hE pv k x.1 hy
  · cases h; exact fun x y hy => impl_IsValidDate.good hE pv x.1 hy
  · cases h; exact fun x y hy => impl_inside.good hE pv x.1 x.2.1 x.2.2.1 hy
  · cases h; exact fun x y hy => impl_isText.good hE pv k x.1 hy
  · cases h
theorem impl_IsValidEntry.good (hE : EnvOk Tryd.prog envX) (pv : Nat → Value) (k : Nat) (a0 : Entry) {y : _} (h : impl_IsValidEntry.F k a0 = some y) : Meets Tryd.prog envX pv (.f 109) (tvals [.entry] (a0, ())) (.t .bool y) :=
  fun_plain hE (impl_IsValidEntry.G hE pv k) (f := 109) (fn := Tryd.f109) (by kernel_rfl) rfl (by kernel_rfl) (by kernel_rfl) ((impl_IsValidEntry.run k a0).trans h) fun r hr => wk_view1 hr
/-! ### 72 loop.example/g00896/impl.IsValidLibrary -/
def impl_IsValidLibrary.l0 : Nat → Library → (List Entry) → Int → Int → Option (Sum Bool Library)
  | 0, _, _, _, _ => none
  | k + 1, x1, x6, x7, x8 => bif (decide (x8 < x7)) then (bif decide (0 ≤ x8) then (bif decide (x8 < (x6.length : Int)) then ((impl_IsValidEntry.F k (x6.getD (x8 : Int).toNat (dflt .entry))).bind fun r1 => bif (!r1) then (some (.inl false)) else (bif (decide (x8 > 0)) then (bif decide (0 ≤ (IntKind.wrap .i64 (x8 - 1))) then (bif decide ((IntKind.wrap .i64 (x8 - 1)) < (x1.entries.length : Int)) then (bif (!ltS ((x1.entries.getD ((IntKind.wrap .i64 (x8 - 1)) : Int).toNat (dflt .entry)).key) ((x6.getD (x8 : Int).toNat (dflt .entry)).key)) then (some (.inl false)) else (impl_IsValidLibrary.l0 k x1 x6 x7 (IntKind.wrap .i64 (x8 + 1)))) else none) else none) else (impl_IsValidLibrary.l0 k x1 x6 x7 (IntKind.wrap .i64 (x8 + 1))))) else none) else none) else (some (.inr x1))
def impl_IsValidLibrary.F (k : Nat) (a0 : Library) : Option (Bool) := (impl_IsValidLibrary.l0 k a0 a0.entries (a0.entries.length : Int) 0).bind fun y2 => match y2 with | .inl z3 => some z3 | .inr z3 => some (decide ((z3.entries.length : Int) ≤ 8))
def impl_IsValidLibrary.C (k : Nat) : Cal → Option CArm := fun c => match c with
  | .f 109 => some (.p [.entry] _ (fun x => impl_IsValidEntry.F k x.1) (fun r => (.t .bool r)))
  | _ => none
def impl_IsValidLibrary.sp0 : List Sp := [.boxT 1 0 .lib, .t 6 (.sl .entry), .t 7 (.int .i64), .t 8 (.int .i64)]
def impl_IsValidLibrary.sp0_0 : List Sp := [.t 2 .bool]
def impl_IsValidLibrary.sp0_1 : List Sp := [.boxT 1 0 .lib]
def impl_IsValidLibrary.A0 : LArm := .two impl_IsValidLibrary.sp0 impl_IsValidLibrary.sp0_0 impl_IsValidLibrary.sp0_1 (Bool) (Library) (fun k x => impl_IsValidLibrary.l0 k x.1 x.2.1 x.2.2.1 x.2.2.2.1) .ret (.exit 0) (fun y => (y, ())) (fun x => x.1) (fun y => (y, ())) (fun x => x.1)
def impl_IsValidLibrary.L : Nat → Option LArm := fun b => match b with
  | 0 => some impl_IsValidLibrary.A0
  | _ => none
theorem impl_IsValidLibrary.run (k : Nat) (a0 : Library) : runF envX (tabC (impl_IsValidLibrary.C k)) (tabL 37 k impl_IsValidLibrary.L) Tryd.f72 [.t .lib a0] (viewR1 (.t .bool)) = impl_IsValidLibrary.F k a0 := by kernel_rfl
theorem impl_IsValidLibrary.step0 (k : Nat) (x1 : Library) (x6 : List Entry) (x7 : Int) (x8 : Int) : runC envX (tabC (impl_IsValidLibrary.C k)) (tabL 37 k impl_IsValidLibrary.L) 0 (loopAt Tryd.f72 0) (stOf 37 impl_IsValidLibrary.sp0 (x1, x6, x7, x8, ())) (impl_IsValidLibrary.A0.cont 37 k) = impl_IsValidLibrary.l0 (k + 1) x1 x6 x7 x8 := by kernel_rfl
theorem impl_IsValidLibrary.G (hE : EnvOk Tryd.prog envX) (pv : Nat → Value) (k : Nat) : ∀ cal A, impl_IsValidLibrary.C k cal = some A → ArmOk Tryd.prog envX pv cal A := by
  intro cal A h
  unfold impl_IsValidLibrary.C at h
  split at h
  · cases h; exact fun x y hy => impl_IsValidEntry.good hE pv k x.1 hy
  · cases h
theorem impl_IsValidLibrary.good (hE : EnvOk Tryd.prog envX) (pv : Nat → Value) (k : Nat) (a0 : Library) {y : _} (h : impl_IsValidLibrary.F k a0 = some y) : Meets Tryd.prog envX pv (.f 72) (tvals [.lib] (a0, ())) (.t .bool y) :=
  fun_loops hE (t := impl_IsValidLibrary.C) k (fun k _ => impl_IsValidLibrary.G hE pv k) (f := 72) (fn := Tryd.f72) (by kernel_rfl) rfl (by kernel_rfl) (by kernel_rfl) (lt := impl_IsValidLibrary.L) (by kernel_rfl) (fun b A h => by
    unfold impl_IsValidLibrary.L at h; split at h
    · cases h; exact ⟨by kernel_rfl, by kernel_rfl, by kernel_rfl, fun _ => rfl, fun _ => rfl, fun _ => rfl⟩
    · cases h) (fun b A h => by
    unfold impl_IsValidLibrary.L at h; split at h
    · cases h; exact fun k x => impl_IsValidLibrary.step0 k x.1 x.2.1 x.2.2.1 x.2.2.2.1
    · cases h) ((impl_IsValidLibrary.run k a0).trans h) fun r hr => wk_view1 hr
/-! ### 73 loop.example/g00896/impl.parentIndex -/
def impl_parentIndex.F (k : Nat) (a0 : Library) (a1 : Int) : Option (Int) := bif decide (0 ≤ a1) then (bif decide (a1 < (a0.entries.length : Int)) then (bif (beqS ((a0.entries.getD (a1 : Int).toNat (dflt .entry)).cross) (⟨#[]⟩ : ByteArray)) then (some (-1)) else (bif decide (0 ≤ a1) then (bif decide (a1 < (a0.entries.length : Int)) then ((impl_entryIndex.F k a0 ((a0.entries.getD (a1 : Int).toNat (dflt .entry)).cross)).bind fun r1 => some r1) else none) else none)) else none) else none
def impl_parentIndex.C (k : Nat) : Cal → Option CArm := fun c => match c with
  | .f 71 => some (.p [.lib, .str] _ (fun x => impl_entryIndex.F k x.1 x.2.1) (fun r => (.t (.int .i64) r)))
  | _ => none
theorem impl_parentIndex.run (k : Nat) (a0 : Library) (a1 : Int) : runF envX (tabC (impl_parentIndex.C k)) (tabL 20 0 (fun _ => none)) Tryd.f73 [.t .lib a0, .t (.int .i64) a1] (viewR1 (.t (.int .i64))) = impl_parentIndex.F k a0 a1 := by kernel_rfl
theorem impl_parentIndex.G (hE : EnvOk Tryd.prog envX) (pv : Nat → Value) (k : Nat) : ∀ cal A, impl_parentIndex.C k cal = some A → ArmOk Tryd.prog envX pv cal A := by
  intro cal A h
  unfold impl_parentIndex.C at h
  split at h
  · cases h; exact fun x y hy => impl_entryIndex.good hE pv k x.1 x.2.1 hy
  · cases h
theorem impl_parentIndex.good (hE : EnvOk Tryd.prog envX) (pv : Nat → Value) (k : Nat) (a0 : Library) (a1 : Int) {y : _} (h : impl_parentIndex.F k a0 a1 = some y) : Meets Tryd.prog envX pv (.f 73) (tvals [.lib, (.int .i64)] (a0, a1, ())) (.t (.int .i64) y) :=
  fun_plain hE (impl_parentIndex.G hE pv k) (f := 73) (fn := Tryd.f73) (by kernel_rfl) rfl (by kernel_rfl) (by kernel_rfl) ((impl_parentIndex.run k a0 a1).trans h) fun r hr => wk_view1 hr
/-! ### 32 loop.example/g00896/impl.ParentOf -/
def impl_ParentOf.F (k : Nat) (a0 : Library) (a1 : ByteArray) : Option (ByteArray × Bool × Bool) := (impl_entryIndex.F k a0 a1).bind fun r1 => (impl_IsValidLibrary.F k a0).bind fun r2 => bif (!r2) then (some ((⟨#[]⟩ : ByteArray), false, false)) else (bif (decide (r1 < 0)) then (some ((⟨#[]⟩ : ByteArray), false, false)) else ((impl_parentIndex.F k a0 r1).bind fun r3 => bif (decide (r3 < 0)) then (some ((⟨#[]⟩ : ByteArray), false, true)) else (bif decide (0 ≤ r3) then (bif decide (r3 < (a0.entries.length : Int)) then (some ((a0.entries.getD (r3 : Int).toNat (dflt .entry)).key, true, true)) else none) else none)))
def impl_ParentOf.C (k : Nat) : Cal → Option CArm := fun c => match c with
  | .f 71 => some (.p [.lib, .str] _ (fun x => impl_entryIndex.F k x.1 x.2.1) (fun r => (.t (.int .i64) r)))
  | .f 72 => some (.p [.lib] _ (fun x => impl_IsValidLibrary.F k x.1) (fun r => (.t .bool r)))
  | .f 73 => some (.p [.lib, (.int .i64)] _ (fun x => impl_parentIndex.F k x.1 x.2.1) (fun r => (.t (.int .i64) r)))
  | _ => none
theorem impl_ParentOf.run (k : Nat) (a0 : Library) (a1 : ByteArray) : runF envX (tabC (impl_ParentOf.C k)) (tabL 30 0 (fun _ => none)) Tryd.f32 [.t .lib a0, .t .str a1] (viewR3 (.t .str) (.t .bool) (.t .bool)) = impl_ParentOf.F k a0 a1 := by kernel_rfl
theorem impl_ParentOf.G (hE : EnvOk Tryd.prog envX) (pv : Nat → Value) (k : Nat) : ∀ cal A, impl_ParentOf.C k cal = some A → ArmOk Tryd.prog envX pv cal A := by
  intro cal A h
  unfold impl_ParentOf.C at h
  split at h
  · cases h; exact fun x y hy => impl_entryIndex.good hE pv k x.1 x.2.1 hy
  · cases h; exact fun x y hy => impl_IsValidLibrary.good hE pv k x.1 hy
  · cases h; exact fun x y hy => impl_parentIndex.good hE pv k x.1 x.2.1 hy
  · cases h
theorem impl_ParentOf.good (hE : EnvOk Tryd.prog envX) (pv : Nat → Value) (k : Nat) (a0 : Library) (a1 : ByteArray) {y : _} (h : impl_ParentOf.F k a0 a1 = some y) : Meets Tryd.prog envX pv (.f 32) (tvals [.lib, .str] (a0, a1, ())) (.tup [.t .str y.1, .t .bool y.2.1, .t .bool y.2.2]) :=
  fun_plain hE (impl_ParentOf.G hE pv k) (f := 32) (fn := Tryd.f32) (by kernel_rfl) rfl (by kernel_rfl) (by kernel_rfl) ((impl_ParentOf.run k a0 a1).trans h) fun r hr => wk_view3 hr
/-! ### 12 loop.example/g00896/laws.eqStringS -/
def laws_eqStringS.l0 : Nat → (List ByteArray) → (List ByteArray) → Int → Option (Sum Bool Unit)
  | 0, _, _, _ => none
  | k + 1, x0, x1, x5 => bif (decide (x5 < (x0.length : Int))) then (bif decide (0 ≤ x5) then (bif decide (x5 < (x0.length : Int)) then (bif decide (0 ≤ x5) then (bif decide (x5 < (x1.length : Int)) then (bif (!beqS (x0.getD (x5 : Int).toNat (⟨#[]⟩ : ByteArray)) (x1.getD (x5 : Int).toNat (⟨#[]⟩ : ByteArray))) then (some (.inl false)) else (laws_eqStringS.l0 k x0 x1 (IntKind.wrap .i64 (x5 + 1)))) else none) else none) else none) else none) else (some (.inr ()))
def laws_eqStringS.F (k : Nat) (a0 : List ByteArray) (a1 : List ByteArray) : Option (Bool) := bif ((a0.length : Int) != (a1.length : Int)) then (some false) else ((laws_eqStringS.l0 k a0 a1 0).bind fun y1 => match y1 with | .inl z2 => some z2 | .inr z2 => some true)
def laws_eqStringS.C (k : Nat) : Cal → Option CArm := fun c => match c with
  | _ => none
def laws_eqStringS.sp0 : List Sp := [.t 0 (.sl .str), .t 1 (.sl .str), .t 5 (.int .i64)]
def laws_eqStringS.sp0_0 : List Sp := [.t 4 .bool]
def laws_eqStringS.sp0_1 : List Sp := []
def laws_eqStringS.A0 : LArm := .two laws_eqStringS.sp0 laws_eqStringS.sp0_0 laws_eqStringS.sp0_1 (Bool) (Unit) (fun k x => laws_eqStringS.l0 k x.1 x.2.1 x.2.2.1) .ret (.exit 0) (fun y => (y, ())) (fun x => x.1) (fun y => ()) (fun x => ())
def laws_eqStringS.L : Nat → Option LArm := fun b => match b with
  | 0 => some laws_eqStringS.A0
  | _ => none
theorem laws_eqStringS.run (k : Nat) (a0 : List ByteArray) (a1 : List ByteArray) : runF envX (tabC (laws_eqStringS.C k)) (tabL 26 k laws_eqStringS.L) Tryd.f12 [.t (.sl .str) a0, .t (.sl .str) a1] (viewR1 (.t .bool)) = laws_eqStringS.F k a0 a1 := by kernel_rfl
theorem laws_eqStringS.step0 (k : Nat) (x0 : List ByteArray) (x1 : List ByteArray) (x5 : Int) : runC envX (tabC (laws_eqStringS.C k)) (tabL 26 k laws_eqStringS.L) 0 (loopAt Tryd.f12 0) (stOf 26 laws_eqStringS.sp0 (x0, x1, x5, ())) (laws_eqStringS.A0.cont 26 k) = laws_eqStringS.l0 (k + 1) x0 x1 x5 := by kernel_rfl
theorem laws_eqStringS.G (hE : EnvOk Tryd.prog envX) (pv : Nat → Value) (k : Nat) : ∀ cal A, laws_eqStringS.C k cal = some A → ArmOk Tryd.prog envX pv cal A := by
  intro cal A h
  unfold laws_eqStringS.C at h
  cases h
theorem laws_eqStringS.good (hE : EnvOk Tryd.prog envX) (pv : Nat → Value) (k : Nat) (a0 : List ByteArray) (a1 : List ByteArray) {y : _} (h : laws_eqStringS.F k a0 a1 = some y) : Meets Tryd.prog envX pv (.f 12) (tvals [(.sl .str), (.sl .str)] (a0, a1, ())) (.t .bool y) :=
  fun_loops hE (t := laws_eqStringS.C) k (fun k _ => laws_eqStringS.G hE pv k) (f := 12) (fn := Tryd.f12) (by kernel_rfl) rfl (by kernel_rfl) (by kernel_rfl) (lt := laws_eqStringS.L) (by kernel_rfl) (fun b A h => by
    unfold laws_eqStringS.L at h; split at h
    · cases h; exact ⟨by kernel_rfl, by kernel_rfl, by kernel_rfl, fun _ => rfl, fun _ => rfl, fun _ => rfl⟩
    · cases h) (fun b A h => by
    unfold laws_eqStringS.L at h; split at h
    · cases h; exact fun k x => laws_eqStringS.step0 k x.1 x.2.1 x.2.2.1
    · cases h) ((laws_eqStringS.run k a0 a1).trans h) fun r hr => wk_view1 hr
/-! ### 183 loop.example/g00896/laws.eqName -/
def laws_eqName.F (k : Nat) (a0 : Name) (a1 : Name) : Option (Bool) := (laws_eqStringS.F k a0.given a1.given).bind fun r1 => bif (!r1) then (some false) else (bif (!beqS a0.particle a1.particle) then (some false) else (bif (!beqS a0.family a1.family) then (some false) else (bif (!beqS a0.suffix a1.suffix) then (some false) else (some true))))
def laws_eqName.C (k : Nat) : Cal → Option CArm := fun c => match c with
  | .f 12 => some (.p [(.sl .str), (.sl .str)] _ (fun x => laws_eqStringS.F k x.1 x.2.1) (fun r => (.t .bool r)))
  | _ => none
theorem laws_eqName.run (k : Nat) (a0 : Name) (a1 : Name) : runF envX (tabC (laws_eqName.C k)) (tabL 26 0 (fun _ => none)) Tryd.f183 [.t .name a0, .t .name a1] (viewR1 (.t .bool)) = laws_eqName.F k a0 a1 := by kernel_rfl
theorem laws_eqName.G (hE : EnvOk Tryd.prog envX) (pv : Nat → Value) (k : Nat) : ∀ cal A, laws_eqName.C k cal = some A → ArmOk Tryd.prog envX pv cal A := by
  intro cal A h
  unfold laws_eqName.C at h
  split at h
  · cases h; exact fun x y hy => laws_eqStringS.good hE pv k x.1 x.2.1 hy
  · cases h
theorem laws_eqName.good (hE : EnvOk Tryd.prog envX) (pv : Nat → Value) (k : Nat) (a0 : Name) (a1 : Name) {y : _} (h : laws_eqName.F k a0 a1 = some y) : Meets Tryd.prog envX pv (.f 183) (tvals [.name, .name] (a0, a1, ())) (.t .bool y) :=
  fun_plain hE (laws_eqName.G hE pv k) (f := 183) (fn := Tryd.f183) (by kernel_rfl) rfl (by kernel_rfl) (by kernel_rfl) ((laws_eqName.run k a0 a1).trans h) fun r hr => wk_view1 hr
/-! ### 149 loop.example/g00896/laws.eqNameS -/
def laws_eqNameS.l0 : Nat → (List Name) → (List Name) → Int → Option (Sum Bool Unit)
  | 0, _, _, _ => none
  | k + 1, x0, x1, x5 => bif (decide (x5 < (x0.length : Int))) then (bif decide (0 ≤ x5) then (bif decide (x5 < (x0.length : Int)) then (bif decide (0 ≤ x5) then (bif decide (x5 < (x1.length : Int)) then ((laws_eqName.F k (x0.getD (x5 : Int).toNat (dflt .name)) (x1.getD (x5 : Int).toNat (dflt .name))).bind fun r1 => bif (!r1) then (some (.inl false)) else (laws_eqNameS.l0 k x0 x1 (IntKind.wrap .i64 (x5 + 1)))) else none) else none) else none) else none) else (some (.inr ()))
def laws_eqNameS.F (k : Nat) (a0 : List Name) (a1 : List Name) : Option (Bool) := bif ((a0.length : Int) != (a1.length : Int)) then (some false) else ((laws_eqNameS.l0 k a0 a1 0).bind fun y2 => match y2 with | .inl z3 => some z3 | .inr z3 => some true)
def laws_eqNameS.C (k : Nat) : Cal → Option CArm := fun c => match c with
  | .f 183 => some (.p [.name, .name] _ (fun x => laws_eqName.F k x.1 x.2.1) (fun r => (.t .bool r)))
  | _ => none
def laws_eqNameS.sp0 : List Sp := [.t 0 (.sl .name), .t 1 (.sl .name), .t 5 (.int .i64)]
def laws_eqNameS.sp0_0 : List Sp := [.t 4 .bool]
def laws_eqNameS.sp0_1 : List Sp := []
def laws_eqNameS.A0 : LArm := .two laws_eqNameS.sp0 laws_eqNameS.sp0_0 laws_eqNameS.sp0_1 (Bool) (Unit) (fun k x => laws_eqNameS.l0 k x.1 x.2.1 x.2.2.1) .ret (.exit 0) (fun y => (y, ())) (fun x => x.1) (fun y => ()) (fun x => ())
def laws_eqNameS.L : Nat → Option LArm := fun b => match b with
  | 0 => some laws_eqNameS.A0
  | _ => none
theorem laws_eqNameS.run (k : Nat) (a0 : List Name) (a1 : List Name) : runF envX (tabC (laws_eqNameS.C k)) (tabL 27 k laws_eqNameS.L) Tryd.f149 [.t (.sl .name) a0, .t (.sl .name) a1] (viewR1 (.t .bool)) = laws_eqNameS.F k a0 a1 := by kernel_rfl
theorem laws_eqNameS.step0 (k : Nat) (x0 : List Name) (x1 : List Name) (x5 : Int) : runC envX (tabC (laws_eqNameS.C k)) (tabL 27 k laws_eqNameS.L) 0 (loopAt Tryd.f149 0) (stOf 27 laws_eqNameS.sp0 (x0, x1, x5, ())) (laws_eqNameS.A0.cont 27 k) = laws_eqNameS.l0 (k + 1) x0 x1 x5 := by kernel_rfl
theorem laws_eqNameS.G (hE : EnvOk Tryd.prog envX) (pv : Nat → Value) (k : Nat) : ∀ cal A, laws_eqNameS.C k cal = some A → ArmOk Tryd.prog envX pv cal A := by
  intro cal A h
  unfold laws_eqNameS.C at h
  split at h
  · cases h; exact fun x y hy => laws_eqName.good hE pv k x.1 x.2.1 hy
  · cases h
theorem laws_eqNameS.good (hE : EnvOk Tryd.prog envX) (pv : Nat → Value) (k : Nat) (a0 : List Name) (a1 : List Name) {y : _} (h : laws_eqNameS.F k a0 a1 = some y) : Meets Tryd.prog envX pv (.f 149) (tvals [(.sl .name), (.sl .name)] (a0, a1, ())) (.t .bool y) :=
  fun_loops hE (t := laws_eqNameS.C) k (fun k _ => laws_eqNameS.G hE pv k) (f := 149) (fn := Tryd.f149) (by kernel_rfl) rfl (by kernel_rfl) (by kernel_rfl) (lt := laws_eqNameS.L) (by kernel_rfl) (fun b A h => by
    unfold laws_eqNameS.L at h; split at h
    · cases h; exact ⟨by kernel_rfl, by kernel_rfl, by kernel_rfl, fun _ => rfl, fun _ => rfl, fun _ => rfl⟩
    · cases h) (fun b A h => by
    unfold laws_eqNameS.L at h; split at h
    · cases h; exact fun k x => laws_eqNameS.step0 k x.1 x.2.1 x.2.2.1
    · cases h) ((laws_eqNameS.run k a0 a1).trans h) fun r hr => wk_view1 hr
/-! ### 150 loop.example/g00896/laws.eqDate -/
def laws_eqDate.F (a0 : Date) (a1 : Date) : Option (Bool) := bif (a0.y != a1.y) then (some false) else (bif (a0.m != a1.m) then (some false) else (bif (a0.d != a1.d) then (some false) else (bif (!(a0.c == a1.c)) then (some false) else (some true))))
def laws_eqDate.C : Cal → Option CArm := fun c => match c with
  | _ => none
theorem laws_eqDate.run (a0 : Date) (a1 : Date) : runF envX (tabC laws_eqDate.C) (tabL 25 0 (fun _ => none)) Tryd.f150 [.t .date a0, .t .date a1] (viewR1 (.t .bool)) = laws_eqDate.F a0 a1 := by kernel_rfl
theorem laws_eqDate.G (hE : EnvOk Tryd.prog envX) (pv : Nat → Value) : ∀ cal A, laws_eqDate.C cal = some A → ArmOk Tryd.prog envX pv cal A := by
  intro cal A h
  unfold laws_eqDate.C at h
  cases h
theorem laws_eqDate.good (hE : EnvOk Tryd.prog envX) (pv : Nat → Value) (a0 : Date) (a1 : Date) {y : _} (h : laws_eqDate.F a0 a1 = some y) : Meets Tryd.prog envX pv (.f 150) (tvals [.date, .date] (a0, a1, ())) (.t .bool y) :=
  fun_plain hE (laws_eqDate.G hE pv) (f := 150) (fn := Tryd.f150) (by kernel_rfl) rfl (by kernel_rfl) (by kernel_rfl) ((laws_eqDate.run a0 a1).trans h) fun r hr => wk_view1 hr
/-! ### 110 loop.example/g00896/laws.eqEntry -/
def laws_eqEntry.F (k : Nat) (a0 : Entry) (a1 : Entry) : Option (Bool) := bif (!beqS a0.key a1.key) then (some false) else (bif (a0.kind != a1.kind) then (some false) else ((laws_eqNameS.F k a0.authors a1.authors).bind fun r1 => bif (!r1) then (some false) else ((laws_eqNameS.F k a0.editors a1.editors).bind fun r2 => bif (!r2) then (some false) else (bif (!beqS a0.title a1.title) then (some false) else (bif (!beqS a0.container a1.container) then (some false) else (bif (!beqS a0.publisher a1.publisher) then (some false) else ((laws_eqDate.F a0.date a1.date).bind fun r3 => bif (!r3) then (some false) else (bif (a0.volume != a1.volume) then (some false) else (bif (!beqS a0.pages a1.pages) then (some false) else (bif (!beqS a0.cross a1.cross) then (some false) else (some true)))))))))))
def laws_eqEntry.C (k : Nat) : Cal → Option CArm := fun c => match c with
  | .f 149 => some (.p [(.sl .name), (.sl .name)] _ (fun x => laws_eqNameS.F k x.1 x.2.1) (fun r => (.t .bool r)))
  | .f 150 => some (.p [.date, .date] _ (fun x => laws_eqDate.F x.1 x.2.1) (fun r => (.t .bool r)))
  | _ => none
theorem laws_eqEntry.run (k : Nat) (a0 : Entry) (a1 : Entry) : runF envX (tabC (laws_eqEntry.C k)) (tabL 63 0 (fun _ => none)) Tryd.f110 [.t .entry a0, .t .entry a1] (viewR1 (.t .bool)) = laws_eqEntry.F k a0 a1 := by kernel_rfl
theorem laws_eqEntry.G (hE : EnvOk Tryd.prog envX) (pv : Nat → Value) (k : Nat) : ∀ cal A, laws_eqEntry.C k cal = some A → ArmOk Tryd.prog envX pv cal A := by
  intro cal A h
  unfold laws_eqEntry.C at h
  split at h
  · cases h; exact fun x y hy => laws_eqNameS.good hE pv k x.1 x.2.1 hy
  · cases h; exact fun x y hy => laws_eqDate.good hE pv x.1 x.2.1 hy
  · cases h
theorem laws_eqEntry.good (hE : EnvOk Tryd.prog envX) (pv : Nat → Value) (k : Nat) (a0 : Entry) (a1 : Entry) {y : _} (h : laws_eqEntry.F k a0 a1 = some y) : Meets Tryd.prog envX pv (.f 110) (tvals [.entry, .entry] (a0, a1, ())) (.t .bool y) :=
  fun_plain hE (laws_eqEntry.G hE pv k) (f := 110) (fn := Tryd.f110) (by kernel_rfl) rfl (by kernel_rfl) (by kernel_rfl) ((laws_eqEntry.run k a0 a1).trans h) fun r hr => wk_view1 hr
/-! ### 74 loop.example/g00896/laws.eqEntryS -/
def laws_eqEntryS.l0 : Nat → (List Entry) → (List Entry) → Int → Option (Sum Bool Unit)
  | 0, _, _, _ => none
  | k + 1, x0, x1, x5 => bif (decide (x5 < (x0.length : Int))) then (bif decide (0 ≤ x5) then (bif decide (x5 < (x0.length : Int)) then (bif decide (0 ≤ x5) then (bif decide (x5 < (x1.length : Int)) then ((laws_eqEntry.F k (x0.getD (x5 : Int).toNat (dflt .entry)) (x1.getD (x5 : Int).toNat (dflt .entry))).bind fun r1 => bif (!r1) then (some (.inl false)) else (laws_eqEntryS.l0 k x0 x1 (IntKind.wrap .i64 (x5 + 1)))) else none) else none) else none) else none) else (some (.inr ()))
def laws_eqEntryS.F (k : Nat) (a0 : List Entry) (a1 : List Entry) : Option (Bool) := bif ((a0.length : Int) != (a1.length : Int)) then (some false) else ((laws_eqEntryS.l0 k a0 a1 0).bind fun y2 => match y2 with | .inl z3 => some z3 | .inr z3 => some true)
def laws_eqEntryS.C (k : Nat) : Cal → Option CArm := fun c => match c with
  | .f 110 => some (.p [.entry, .entry] _ (fun x => laws_eqEntry.F k x.1 x.2.1) (fun r => (.t .bool r)))
  | _ => none
def laws_eqEntryS.sp0 : List Sp := [.t 0 (.sl .entry), .t 1 (.sl .entry), .t 5 (.int .i64)]
def laws_eqEntryS.sp0_0 : List Sp := [.t 4 .bool]
def laws_eqEntryS.sp0_1 : List Sp := []
def laws_eqEntryS.A0 : LArm := .two laws_eqEntryS.sp0 laws_eqEntryS.sp0_0 laws_eqEntryS.sp0_1 (Bool) (Unit) (fun k x => laws_eqEntryS.l0 k x.1 x.2.1 x.2.2.1) .ret (.exit 0) (fun y => (y, ())) (fun x => x.1) (fun y => ()) (fun x => ())
def laws_eqEntryS.L : Nat → Option LArm := fun b => match b with
  | 0 => some laws_eqEntryS.A0
  | _ => none
theorem laws_eqEntryS.run (k : Nat) (a0 : List Entry) (a1 : List Entry) : runF envX (tabC (laws_eqEntryS.C k)) (tabL 27 k laws_eqEntryS.L) Tryd.f74 [.t (.sl .entry) a0, .t (.sl .entry) a1] (viewR1 (.t .bool)) = laws_eqEntryS.F k a0 a1 := by kernel_rfl
theorem laws_eqEntryS.step0 (k : Nat) (x0 : List Entry) (x1 : List Entry) (x5 : Int) : runC envX (tabC (laws_eqEntryS.C k)) (tabL 27 k laws_eqEntryS.L) 0 (loopAt Tryd.f74 0) (stOf 27 laws_eqEntryS.sp0 (x0, x1, x5, ())) (laws_eqEntryS.A0.cont 27 k) = laws_eqEntryS.l0 (k + 1) x0 x1 x5 := by kernel_rfl
theorem laws_eqEntryS.G (hE : EnvOk Tryd.prog envX) (pv : Nat → Value) (k : Nat) : ∀ cal A, laws_eqEntryS.C k cal = some A → ArmOk Tryd.prog envX pv cal A := by
  intro cal A h
  unfold laws_eqEntryS.C at h
  split at h
  · cases h; exact fun x y hy => laws_eqEntry.good hE pv k x.1 x.2.1 hy
  · cases h
theorem laws_eqEntryS.good (hE : EnvOk Tryd.prog envX) (pv : Nat → Value) (k : Nat) (a0 : List Entry) (a1 : List Entry) {y : _} (h : laws_eqEntryS.F k a0 a1 = some y) : Meets Tryd.prog envX pv (.f 74) (tvals [(.sl .entry), (.sl .entry)] (a0, a1, ())) (.t .bool y) :=
  fun_loops hE (t := laws_eqEntryS.C) k (fun k _ => laws_eqEntryS.G hE pv k) (f := 74) (fn := Tryd.f74) (by kernel_rfl) rfl (by kernel_rfl) (by kernel_rfl) (lt := laws_eqEntryS.L) (by kernel_rfl) (fun b A h => by
    unfold laws_eqEntryS.L at h; split at h
    · cases h; exact ⟨by kernel_rfl, by kernel_rfl, by kernel_rfl, fun _ => rfl, fun _ => rfl, fun _ => rfl⟩
    · cases h) (fun b A h => by
    unfold laws_eqEntryS.L at h; split at h
    · cases h; exact fun k x => laws_eqEntryS.step0 k x.1 x.2.1 x.2.2.1
    · cases h) ((laws_eqEntryS.run k a0 a1).trans h) fun r hr => wk_view1 hr
/-! ### 33 loop.example/g00896/laws.eqLibrary -/
def laws_eqLibrary.F (k : Nat) (a0 : Library) (a1 : Library) : Option (Bool) := (laws_eqEntryS.F k a0.entries a1.entries).bind fun r1 => bif (!r1) then (some false) else (some true)
def laws_eqLibrary.C (k : Nat) : Cal → Option CArm := fun c => match c with
  | .f 74 => some (.p [(.sl .entry), (.sl .entry)] _ (fun x => laws_eqEntryS.F k x.1 x.2.1) (fun r => (.t .bool r)))
  | _ => none
theorem laws_eqLibrary.run (k : Nat) (a0 : Library) (a1 : Library) : runF envX (tabC (laws_eqLibrary.C k)) (tabL 11 0 (fun _ => none)) Tryd.f33 [.t .lib a0, .t .lib a1] (viewR1 (.t .bool)) = laws_eqLibrary.F k a0 a1 := by kernel_rfl
theorem laws_eqLibrary.G (hE : EnvOk Tryd.prog envX) (pv : Nat → Value) (k : Nat) : ∀ cal A, laws_eqLibrary.C k cal = some A → ArmOk Tryd.prog envX pv cal A := by
  intro cal A h
  unfold laws_eqLibrary.C at h
  split at h
  · cases h; exact fun x y hy => laws_eqEntryS.good hE pv k x.1 x.2.1 hy
  · cases h
theorem laws_eqLibrary.good (hE : EnvOk Tryd.prog envX) (pv : Nat → Value) (k : Nat) (a0 : Library) (a1 : Library) {y : _} (h : laws_eqLibrary.F k a0 a1 = some y) : Meets Tryd.prog envX pv (.f 33) (tvals [.lib, .lib] (a0, a1, ())) (.t .bool y) :=
  fun_plain hE (laws_eqLibrary.G hE pv k) (f := 33) (fn := Tryd.f33) (by kernel_rfl) rfl (by kernel_rfl) (by kernel_rfl) ((laws_eqLibrary.run k a0 a1).trans h) fun r hr => wk_view1 hr
/-! ### 7 loop.example/g00896/laws.FnExactParentOf -/
def laws_FnExactParentOf.F (k : Nat) (a0 : Library) (a1 : ByteArray) : Option (Bool) := bif (decide ((a1.size : Int) > 1048576)) then (some true) else ((laws_szLibrary.F k a0 1048576).bind fun r1 => bif (decide (r1 < 0)) then (some true) else ((laws_toLibrary.F k a0).bind fun r2 => (spec_ParentOf.F k r2 a1).bind fun r3 => (laws_toLibrary.F k a0).bind fun r4 => (impl_ParentOf.F k r4 a1).bind fun r5 => bif (!beqS r5.1 r3.1) then (some false) else (bif (!(r5.2.1 == r3.2.1)) then (some false) else (bif (!(r5.2.2 == r3.2.2)) then (some false) else ((laws_toLibrary.F k a0).bind fun r6 => (laws_eqLibrary.F k r4 r6).bind fun r7 => bif (!r7) then (some false) else (some true))))))
def laws_FnExactParentOf.C (k : Nat) : Cal → Option CArm := fun c => match c with
  | .f 29 => some (.p [.lib, (.int .i64)] _ (fun x => laws_szLibrary.F k x.1 x.2.1) (fun r => (.t (.int .i64) r)))
  | .f 31 => some (.p [.lib] _ (fun x => laws_toLibrary.F k x.1) (fun r => (.t .lib r)))
  | .f 30 => some (.p [.lib, .str] _ (fun x => spec_ParentOf.F k x.1 x.2.1) (fun r => (.tup [.t .str r.1, .t .bool r.2.1, .t .bool r.2.2])))
  | .f 32 => some (.p [.lib, .str] _ (fun x => impl_ParentOf.F k x.1 x.2.1) (fun r => (.tup [.t .str r.1, .t .bool r.2.1, .t .bool r.2.2])))
  | .f 33 => some (.p [.lib, .lib] _ (fun x => laws_eqLibrary.F k x.1 x.2.1) (fun r => (.t .bool r)))
  | _ => none
theorem laws_FnExactParentOf.run (k : Nat) (a0 : Library) (a1 : ByteArray) : runF envX (tabC (laws_FnExactParentOf.C k)) (tabL 56 0 (fun _ => none)) Tryd.f7 [.t .lib a0, .t .str a1] (viewR1 (.t .bool)) = laws_FnExactParentOf.F k a0 a1 := by kernel_rfl
theorem laws_FnExactParentOf.G (hE : EnvOk Tryd.prog envX) (pv : Nat → Value) (k : Nat) : ∀ cal A, laws_FnExactParentOf.C k cal = some A → ArmOk Tryd.prog envX pv cal A := by
  intro cal A h
  unfold laws_FnExactParentOf.C at h
  split at h
  · cases h; exact fun x y hy => laws_szLibrary.good hE pv k x.1 x.2.1 hy
  · cases h; exact fun x y hy => laws_toLibrary.good hE pv k x.1 hy
  · cases h; exact fun x y hy => spec_ParentOf.good hE pv k x.1 x.2.1 hy
  · cases h; exact fun x y hy => impl_ParentOf.good hE pv k x.1 x.2.1 hy
  · cases h; exact fun x y hy => laws_eqLibrary.good hE pv k x.1 x.2.1 hy
  · cases h
theorem laws_FnExactParentOf.good (hE : EnvOk Tryd.prog envX) (pv : Nat → Value) (k : Nat) (a0 : Library) (a1 : ByteArray) {y : _} (h : laws_FnExactParentOf.F k a0 a1 = some y) : Meets Tryd.prog envX pv (.f 7) (tvals [.lib, .str] (a0, a1, ())) (.t .bool y) :=
  fun_plain hE (laws_FnExactParentOf.G hE pv k) (f := 7) (fn := Tryd.f7) (by kernel_rfl) rfl (by kernel_rfl) (by kernel_rfl) ((laws_FnExactParentOf.run k a0 a1).trans h) fun r hr => wk_view1 hr
end Go.Proofs.YtnffgabfibafjaaDoor
end
section
/- What a printed function answers with rounds enough; plain lemmas. -/
namespace Go.Gx
set_option linter.unusedVariables false
set_option linter.unusedSimpArgs false

/-- With rounds enough f answers r. -/
def Ev {α : Type} (f : Nat → Option α) (r : α) : Prop := ∃ K, ∀ k, K ≤ k → f k = some r
theorem Ev.pure {α : Type} (r : α) : Ev (fun _ => some r) r := ⟨0, fun _ _ => rfl⟩
theorem Ev.const {α : Type} {f : Option α} {r : α} (h : f = some r) : Ev (fun _ => f) r := ⟨0, fun _ _ => h⟩
theorem Ev.bind {α β : Type} {f : Nat → Option α} {g : Nat → α → Option β} {a : α} {b : β} (hf : Ev f a) (hg : Ev (fun k => g k a) b) : Ev (fun k => (f k).bind (g k)) b := by
  obtain ⟨K, hK⟩ := hf
  obtain ⟨L, hL⟩ := hg
  exact ⟨max K L, fun k hk => by show (f k).bind (g k) = some b; rw [hK k (by omega), Option.bind_some]; exact hL k (by omega)⟩
/-- .. where what is bound takes no rounds. -/
theorem Ev.bind0 {α β : Type} {f : Option α} {g : Nat → α → Option β} {a : α} {b : β} (hf : f = some a) (hg : Ev (fun k => g k a) b) : Ev (fun k => f.bind (g k)) b := by
  subst hf; exact hg
theorem Ev.step {α : Type} {f g : Nat → Option α} {r : α} (h : ∀ k, f (k + 1) = g k) (hg : Ev g r) : Ev f r := by
  obtain ⟨K, hK⟩ := hg
  exact ⟨K + 1, fun k hk => by obtain ⟨m, rfl⟩ : ∃ m, k = m + 1 := ⟨k - 1, by omega⟩; rw [h]; exact hK m (by omega)⟩
theorem Ev.congr {α : Type} {f g : Nat → Option α} {r : α} (hg : Ev g r) (h : ∀ k, f k = g k) : Ev f r := by
  obtain ⟨K, hK⟩ := hg
  exact ⟨K, fun k hk => by rw [h]; exact hK k hk⟩
theorem Ev.eq {α : Type} {f : Nat → Option α} {r s : α} (h : Ev f r) (e : r = s) : Ev f s := e ▸ h
theorem Ev.get {α : Type} {f : Nat → Option α} {r : α} (h : Ev f r) : ∃ k, f k = some r := by
  obtain ⟨K, hK⟩ := h; exact ⟨K, hK K (Nat.le_refl K)⟩
theorem Ev.uniq {α : Type} {f : Nat → Option α} {r s : α} (h : Ev f r) (h' : Ev f s) : r = s := by
  obtain ⟨K, hK⟩ := h
  obtain ⟨L, hL⟩ := h'
  have := (hK (max K L) (by omega)).symm.trans (hL (max K L) (by omega))
  exact Option.some.inj this
theorem Ev.cond {α : Type} {b : Bool} {f g : Nat → Option α} {r : α} (h1 : b = true → Ev f r) (h2 : b = false → Ev g r) : Ev (fun k => cond b (f k) (g k)) r := by
  cases b with
  | true => exact h1 rfl
  | false => exact h2 rfl
theorem Ev.inl {α β γ : Type} {f : Nat → Option (Sum α β)} {g : Nat → α → Option γ} {h : Nat → β → Option γ} {a : α} {r : γ} (hf : Ev f (.inl a)) (hg : Ev (fun k => g k a) r) : Ev (fun k => (f k).bind fun y => match y with | .inl z => g k z | .inr z => h k z) r := Ev.bind hf hg
theorem Ev.inr {α β γ : Type} {f : Nat → Option (Sum α β)} {g : Nat → α → Option γ} {h : Nat → β → Option γ} {a : β} {r : γ} (hf : Ev f (.inr a)) (hg : Ev (fun k => h k a) r) : Ev (fun k => (f k).bind fun y => match y with | .inl z => g k z | .inr z => h k z) r := Ev.bind hf hg
/-- With rounds enough f answers something of this kind. -/
def EvP {α : Type} (f : Nat → Option α) (P : α → Prop) : Prop := ∃ r, Ev f r ∧ P r
theorem EvP.pure {α : Type} {P : α → Prop} (r : α) (h : P r) : EvP (fun _ => some r) P := ⟨r, Ev.pure r, h⟩
theorem EvP.bind {α β : Type} {f : Nat → Option α} {g : Nat → α → Option β} {P : α → Prop} {Q : β → Prop} (hf : EvP f P) (hg : ∀ a, P a → EvP (fun k => g k a) Q) : EvP (fun k => (f k).bind (g k)) Q := by
  obtain ⟨a, h1, h2⟩ := hf
  obtain ⟨r, h3, h4⟩ := hg a h2
  exact ⟨r, Ev.bind h1 h3, h4⟩
theorem EvP.of {α β : Type} {f : Nat → Option α} {g : Nat → α → Option β} {a : α} {Q : β → Prop} (hf : Ev f a) (hg : EvP (fun k => g k a) Q) : EvP (fun k => (f k).bind (g k)) Q := by
  obtain ⟨r, h3, h4⟩ := hg
  exact ⟨r, Ev.bind hf h3, h4⟩
theorem EvP.of0 {α β : Type} {f : Option α} {g : Nat → α → Option β} {a : α} {Q : β → Prop} (hf : f = some a) (hg : EvP (fun k => g k a) Q) : EvP (fun k => f.bind (g k)) Q := by
  subst hf; exact hg
theorem EvP.step {α : Type} {f g : Nat → Option α} {P : α → Prop} (h : ∀ k, f (k + 1) = g k) (hg : EvP g P) : EvP f P := by
  obtain ⟨r, h1, h2⟩ := hg
  exact ⟨r, Ev.step h h1, h2⟩
theorem EvP.mono {α : Type} {f : Nat → Option α} {P Q : α → Prop} (h : EvP f P) (hq : ∀ r, P r → Q r) : EvP f Q := by
  obtain ⟨r, h1, h2⟩ := h
  exact ⟨r, h1, hq r h2⟩
theorem EvP.ev {α : Type} {f : Nat → Option α} {s : α} (h : EvP f fun r => r = s) : Ev f s := by
  obtain ⟨r, h1, rfl⟩ := h; exact h1
theorem Ev.evp {α : Type} {f : Nat → Option α} {s : α} {P : α → Prop} (h : Ev f s) (hp : P s) : EvP f P := ⟨s, h, hp⟩
/-- Two that answer the same. -/
def EvQ {α : Type} (f g : Nat → Option α) : Prop := ∃ r, Ev f r ∧ Ev g r
theorem EvQ.pure {α : Type} (r : α) : EvQ (fun _ => some r) (fun _ => some r) := ⟨r, Ev.pure r, Ev.pure r⟩
theorem EvQ.bind {α β : Type} {f f' : Nat → Option α} {g g' : Nat → α → Option β} (hf : EvQ f f') (hg : ∀ a, EvQ (fun k => g k a) (fun k => g' k a)) : EvQ (fun k => (f k).bind (g k)) (fun k => (f' k).bind (g' k)) := by
  obtain ⟨a, h1, h2⟩ := hf
  obtain ⟨r, h3, h4⟩ := hg a
  exact ⟨r, Ev.bind h1 h3, Ev.bind h2 h4⟩

/-! ### Tests -/
theorem cpos {α : Type} {p : Prop} [Decidable p] {a b : α} (h : p) : cond (decide p) a b = a := by rw [decide_eq_true h]; rfl
theorem cneg {α : Type} {p : Prop} [Decidable p] {a b : α} (h : ¬ p) : cond (decide p) a b = b := by rw [decide_eq_false h]; rfl
theorem ceq {α : Type} {x y : Int} {a b : α} (h : x = y) : cond (x == y) a b = a := by rw [show (x == y) = true by simpa using h]; rfl
theorem cne {α : Type} {x y : Int} {a b : α} (h : x ≠ y) : cond (x == y) a b = b := by rw [show (x == y) = false by simpa using h]; rfl
theorem cbeq {α : Type} {x y : Int} {a b : α} (h : x = y) : cond (x != y) a b = b := by rw [show (x != y) = false by simpa using h]; rfl
theorem cbne {α : Type} {x y : Int} {a b : α} (h : x ≠ y) : cond (x != y) a b = a := by rw [show (x != y) = true by simpa using h]; rfl
theorem cnb {α : Type} {p : Prop} [Decidable p] {a b : α} : cond (!decide p) a b = cond (decide p) b a := by cases decide p <;> rfl
theorem cnot {α : Type} {c : Bool} {a b : α} : cond (!c) a b = cond c b a := by cases c <;> rfl
theorem cble {α : Type} {n m : Nat} {a b : α} (h : n ≤ m) : cond (Nat.ble n m) a b = a := by rw [Nat.ble_eq_true_of_le h]; rfl
theorem dpos {p : Prop} [Decidable p] (h : p) : decide p = true := decide_eq_true h
theorem dneg {p : Prop} [Decidable p] (h : ¬ p) : decide p = false := decide_eq_false h
theorem wrap_in {x : Int} (h1 : -9223372036854775808 ≤ x) (h2 : x ≤ 9223372036854775807) : IntKind.wrap .i64 x = x := by
  rw [IntKind.wrap_i64]; omega
theorem wf_i64 {n : Int} (h : WF (.int .i64) n) : -9223372036854775808 ≤ n ∧ n ≤ 9223372036854775807 := by
  cases h with
  | int _ _ h =>
    have h1 : IntKind.i64.min = -9223372036854775808 := rfl
    have h2 : IntKind.i64.max = 9223372036854775807 := rfl
    simp only [Lit.wf, Bool.and_eq_true, decide_eq_true_eq] at h
    omega
theorem maxLen_eq : maxLen = 9223372036854775807 := by decide
theorem wf_str {s : ByteArray} (h : WF .str s) : s.size ≤ 9223372036854775807 := by
  cases h with | str _ h => exact maxLen_eq ▸ h

/-! ### Texts -/
def L (s : ByteArray) : List UInt8 := s.data.toList
theorem L_inj {s t : ByteArray} (h : L s = L t) : s = t := by
  cases s; cases t
  simp only [L] at h
  rw [Array.toList_inj.1 h]
theorem L_size (s : ByteArray) : (L s).length = s.size := rfl
theorem toList_eq (s : ByteArray) : s.toList = s.data.toList := ByteArray.toList_eq s
theorem beqS_iff {s t : ByteArray} : beqS s t = true ↔ s = t := by
  unfold beqS
  rw [beq_iff_eq, toList_eq, toList_eq]
  exact ⟨fun h => L_inj h, fun h => by rw [h]⟩
theorem beqS_self (s : ByteArray) : beqS s s = true := beqS_iff.2 rfl
theorem beqS_eq (s t : ByteArray) : beqS s t = (L s == L t) := by
  unfold beqS; rw [toList_eq, toList_eq]; rfl
theorem L_bt (s : ByteArray) (i : Nat) : bt s i = (((L s).getD i 0).toNat : Int) := by
  simp [bt, L, Array.getD_eq_getD_getElem?, List.getD_eq_getElem?_getD]
theorem bt_range (s : ByteArray) (i : Nat) : 0 ≤ bt s i ∧ bt s i ≤ 255 := by
  unfold bt
  have := (s.data.getD i 0).toNat_lt
  omega
theorem L_extract (s : ByteArray) (a b : Nat) : L (s.extract a b) = ((L s).take b).drop a := by
  simp [L, ByteArray.data_extract, List.drop_take]
theorem L_append (s t : ByteArray) : L (s ++ t) = L s ++ L t := by simp [L, ByteArray.data_append]
theorem L_mk (l : List UInt8) : L ⟨l.toArray⟩ = l := by simp [L]
theorem size_mk (l : List UInt8) : (⟨l.toArray⟩ : ByteArray).size = l.length := by simp [ByteArray.size]

/-! ### Loops -/
/-- A loop that stops at the first one that isn't so. -/
theorem loop_all {R : Type} {f : Nat → Int → Option R} {n : Nat} {p : Nat → Bool} {no yes : R} (hno : ∀ i : Nat, i < n → p i = false → Ev (fun k => f k i) no)
    (hyes : ∀ (i : Nat) r, i < n → p i = true → Ev (fun k => f k ((i : Int) + 1)) r → Ev (fun k => f k i) r) (hend : Ev (fun k => f k n) yes) :
    ∀ m i : Nat, i + m = n → Ev (fun k => f k i) (if (List.range' i m).all p = true then yes else no)
  | 0, i, h => by
    rw [show i = n by omega]
    exact hend
  | m + 1, i, h => by
    rw [List.range'_succ, List.all_cons]
    cases hp : p i with
    | false => exact hno i (by omega) hp
    | true =>
      rw [Bool.true_and]
      exact hyes i _ (by omega) hp (loop_all hno hyes hend m (i + 1) (by omega))
theorem range_all {α : Type} (xs : List α) (d : α) (q : α → Bool) : (List.range' 0 xs.length).all (fun i => q (xs.getD i d)) = xs.all q := by
  rw [Bool.eq_iff_iff]
  simp only [List.all_eq_true, List.mem_range'_1, Nat.zero_add, Nat.zero_le, true_and]
  constructor
  · intro h x hx
    obtain ⟨i, hi, rfl⟩ := List.getElem_of_mem hx
    have := h i hi
    simpa [List.getD, hi] using this
  · intro h i hi
    simpa [List.getD, hi] using h _ (List.getElem_mem hi)
end Go.Gx
end
section
/- Plain laws: bytes, pieces, edges of a text; no function of the program. -/
namespace Go.Proofs.YtnffgabfibafjaaDoor
open Go.Gx
set_option linter.unusedVariables false
set_option linter.unusedSimpArgs false

theorem getD_at {α : Type} {xs : List α} {i : Nat} (h : i < xs.length) (d : α) : xs.getD i d = xs[i] := by simp [List.getD, List.getElem?_eq_getElem h]
theorem wf_len {e : Ty} {xs : List (den e)} (h : WF (.sl e) xs) : xs.length ≤ 9223372036854775807 := by
  cases h with | sl _ _ h _ => exact maxLen_eq ▸ h
theorem size_pos {s : ByteArray} : (!beqS s ⟨#[]⟩) = decide (0 < s.size) := by
  rw [beqS_eq]
  have : L ⟨#[]⟩ = [] := rfl
  rw [this, ← L_size]
  cases L s <;> rfl
theorem size_app (s t : ByteArray) : (s ++ t).size = s.size + t.size := by
  rw [← L_size, L_append, List.length_append, L_size, L_size]
theorem bytesL_len (s : ByteArray) : (bytesL s).length = s.size := by
  simp only [bytesL, List.length_map, Array.length_toList]; rfl
theorem bytesL_map (s : ByteArray) : bytesL s = (L s).map fun b => (b.toNat : Int) := rfl
theorem bt_bytes (s : ByteArray) (i : Nat) (h : i < (bytesL s).length) : bt s i = (bytesL s)[i] := by
  rw [L_bt]
  have h' : i < (L s).length := by simpa [bytesL_map] using h
  simp [bytesL_map, List.getD, h']
theorem bytes_range (s : ByteArray) (i : Nat) (h : i < (bytesL s).length) : 0 ≤ (bytesL s)[i] ∧ (bytesL s)[i] ≤ 255 := by
  rw [← bt_bytes s i h]; exact bt_range s i
theorem all_bytes {s : ByteArray} {i : Nat} (h : i < (bytesL s).length) (p : Int → Bool) : ((bytesL s).drop i).all p = (p (bytesL s)[i] && ((bytesL s).drop (i + 1)).all p) := by
  rw [List.drop_eq_getElem_cons h]; rfl
theorem sub_tail (s : ByteArray) (st a : Nat) : (s.extract st s.size).extract a (s.extract st s.size).size = s.extract (st + a) s.size := by
  apply L_inj
  have e : (L s).take s.size = L s := List.take_of_length_le (Nat.le_refl _)
  rw [L_extract, L_extract s (st + a), ← L_size (s.extract st s.size), L_extract, List.take_length, List.drop_drop, e]
theorem sub_head (s : ByteArray) (st i : Nat) (h : st ≤ i) (hi : i ≤ s.size) : (s.extract st s.size).extract 0 (i - st) = s.extract st i := by
  apply L_inj
  rw [L_extract, L_extract, L_extract, List.drop_zero, List.take_of_length_le (show (L s).length ≤ s.size from Nat.le_refl _), List.drop_take]
def sp : ByteArray := ⟨#[32]⟩
theorem ib_hit {l : List UInt8} {c : UInt8} {i : Nat} (h : l[i]? = some c) (hn : ∀ j, j < i → l[j]? ≠ some c) : Lib.indexByte l c = i := by
  have hg := Lib.indexByte_ge l c
  by_cases e : Lib.indexByte l c = -1
  · exact absurd h (Lib.indexByte_none e i)
  · obtain ⟨o, ho⟩ : ∃ o : Nat, Lib.indexByte l c = o := ⟨(Lib.indexByte l c).toNat, by omega⟩
    obtain ⟨h1, h2⟩ := Lib.indexByte_some ho
    rcases Nat.lt_trichotomy o i with h3 | h3 | h3
    · exact absurd h1 (hn o h3)
    · rw [ho, h3]
    · exact absurd h (h2 i h3)
theorem ib_miss {l : List UInt8} {c : UInt8} (hn : ∀ j : Nat, l[j]? ≠ some c) : Lib.indexByte l c = -1 := by
  have hg := Lib.indexByte_ge l c
  by_cases e : Lib.indexByte l c = -1
  · exact e
  · obtain ⟨o, ho⟩ : ∃ o : Nat, Lib.indexByte l c = o := ⟨(Lib.indexByte l c).toNat, by omega⟩
    exact absurd (Lib.indexByte_some ho).1 (hn o)
theorem indexB_sp (s : ByteArray) : Lib.indexB s sp = Lib.indexByte (L s) 32 := Lib.one s sp rfl
theorem sub_at (s : ByteArray) (st j : Nat) : (L (s.extract st s.size))[j]? = (L s)[st + j]? := by
  rw [L_extract, List.take_of_length_le (show (L s).length ≤ s.size from Nat.le_refl _), List.getElem?_drop]
def wordsFrom (s : ByteArray) (st : Nat) : List ByteArray := Lib.splitB sp 0 (Lib.countB (s.extract st s.size) sp) (s.extract st s.size)
theorem words_end (s : ByteArray) (st : Nat) (h : ∀ j, st ≤ j → (L s)[j]? ≠ some 32) : wordsFrom s st = [s.extract st s.size] := by
  unfold wordsFrom
  rw [Lib.countB_miss _ _ ((indexB_sp _).trans (ib_miss fun j => by rw [sub_at]; exact h _ (by omega)))]
  rfl
theorem words_hit (s : ByteArray) (st i : Nat) (h1 : st ≤ i) (hi : i < s.size) (hb : (L s)[i]? = some 32) (h : ∀ j, st ≤ j → j < i → (L s)[j]? ≠ some 32) : wordsFrom s st = s.extract st i :: wordsFrom s (i + 1) := by
  have e : Lib.indexB (s.extract st s.size) sp = ((i - st : Nat) : Int) := (indexB_sp _).trans (ib_hit (by rw [sub_at, show st + (i - st) = i by omega]; exact hb) fun j hj => by rw [sub_at]; exact h _ (by omega) (by omega))
  have e1 : sp.size = 1 := rfl
  unfold wordsFrom
  rw [Lib.countB_hit _ _ _ (by rw [e1]; exact Nat.le_refl _) e, Nat.add_comm 1, Lib.splitB_hit _ _ _ _ _ e, Nat.add_zero, sub_head s st i h1 (by omega), e1, sub_tail, show st + (i - st + 1) = i + 1 by omega]
theorem sub_self (s : ByteArray) : s.extract 0 s.size = s := by
  apply L_inj
  rw [L_extract, List.take_of_length_le (show (L s).length ≤ s.size from Nat.le_refl _), List.drop_zero]
def words (s : ByteArray) : List ByteArray := Lib.splitB sp 0 (Lib.countB s sp) s
theorem words_from (s : ByteArray) : wordsFrom s 0 = words s := by unfold wordsFrom words; rw [sub_self]
theorem words_small : ∀ (k : Nat) (s : ByteArray), ∀ x ∈ Lib.splitB sp 0 k s, x.size ≤ s.size
  | 0, s, x, hx => by
    rw [Lib.splitB_zero] at hx
    simp only [List.mem_singleton] at hx
    rw [hx]; exact Nat.le_refl _
  | k + 1, s, x, hx => by
    unfold Lib.splitB at hx
    split at hx
    · simp only [List.mem_singleton] at hx
      rw [hx]; exact Nat.le_refl _
    · rcases List.mem_cons.1 hx with rfl | hx
      · rw [ByteArray.size_extract]; omega
      · have := words_small k _ x hx
        rw [ByteArray.size_extract] at this
        omega
theorem words_len (s : ByteArray) : 1 ≤ (words s).length ∧ (words s).length ≤ s.size + 1 := by
  unfold words
  have h1 : 1 ≤ sp.size := Nat.le_refl 1
  rw [Lib.splitB_all sp h1 0 _ s rfl]
  have := Lib.countB_le sp h1 s.size s (Nat.le_refl _)
  omega
theorem dropWhile_self {α : Type} (p : α → Bool) : ∀ l : List α, l.dropWhile p = l ↔ (∀ a, l.head? = some a → p a = false)
  | [] => by simp
  | a :: l => by
    have hl : (l.dropWhile p).length ≤ l.length := (List.dropWhile_sublist p).length_le
    cases h : p a with
    | true =>
      rw [List.dropWhile_cons_of_pos h]
      constructor
      · intro e
        have := congrArg List.length e
        simp at this
        omega
      · intro e
        have := e a rfl
        rw [h] at this; cases this
    | false =>
      rw [List.dropWhile_cons_of_neg (by rw [h]; exact Bool.noConfusion)]
      simp [h]
theorem trimB_self (l : List UInt8) (c : UInt8) : Lib.trimB l c = l ↔ l.head? ≠ some c ∧ l.getLast? ≠ some c := by
  unfold Lib.trimB Lib.trimLeftB Lib.trimRightB
  have h1 : ∀ m : List UInt8, m.dropWhile (· == c) = m ↔ m.head? ≠ some c := fun m => by
    rw [dropWhile_self]
    constructor
    · intro h e; have := h c e; simp at this
    · intro h a e
      have : a ≠ c := fun e' => h (e' ▸ e)
      simpa using this
  constructor
  · intro h
    have h2 : ((l.reverse.dropWhile (· == c)).reverse).length ≤ l.length := by
      have := (List.dropWhile_sublist (p := (· == c)) (l := l.reverse)).length_le
      simpa using this
    have h3 := (List.dropWhile_sublist (p := (· == c)) (l := (l.reverse.dropWhile (· == c)).reverse))
    have h4 : (l.reverse.dropWhile (· == c)).reverse = l := by
      have h5 : (l.reverse.dropWhile (· == c)).reverse.length = l.length := by
        have := h3.length_le
        rw [h] at this
        omega
      have h6 : l.reverse.dropWhile (· == c) = l.reverse := (List.dropWhile_sublist (p := (· == c)) (l := l.reverse)).eq_of_length (by simpa using h5)
      rw [h6, List.reverse_reverse]
    rw [h4] at h
    refine ⟨(h1 l).1 h, ?_⟩
    have h6 : l.reverse.dropWhile (· == c) = l.reverse := by rw [← List.reverse_inj, h4, List.reverse_reverse]
    have := (h1 _).1 h6
    simpa using this
  · rintro ⟨ha, hb⟩
    have h6 : l.reverse.dropWhile (· == c) = l.reverse := (h1 _).2 (by simpa using hb)
    rw [h6, List.reverse_reverse]
    exact (h1 l).2 ha
def vis (lo b : Int) : Bool := decide (lo ≤ b) && decide (b ≤ 126)
theorem bt_sp {s : ByteArray} {i : Nat} (hi : i < s.size) : bt s i = 32 ↔ (L s)[i]? = some 32 := by
  have hi' : i < (L s).length := hi
  have hbt : bt s i = ((L s)[i].toNat : Int) := by rw [L_bt, getD_at hi']
  rw [List.getElem?_eq_getElem hi', hbt]
  have : (32 : UInt8).toNat = 32 := rfl
  constructor
  · intro h
    congr 1
    apply UInt8.toNat_inj.1
    omega
  · intro h
    rw [Option.some.inj h]; rfl
def edge (s : ByteArray) : Bool := (decide (s.size = 0)) || (bt s 0 != 32 && bt s (s.size - 1) != 32)
theorem edge_eq (s : ByteArray) : beqS ⟨(Lib.trimB (L s) 32).toArray⟩ s = edge s := by
  rw [Bool.eq_iff_iff, beqS_iff]
  have h1 : (⟨(Lib.trimB (L s) 32).toArray⟩ : ByteArray) = s ↔ Lib.trimB (L s) 32 = L s := by
    constructor
    · intro h
      have := congrArg L h
      rwa [L_mk] at this
    · intro h
      apply L_inj
      rw [L_mk, h]
  rw [h1, trimB_self]
  unfold edge
  by_cases hz : s.size = 0
  · have : L s = [] := List.eq_nil_of_length_eq_zero hz
    rw [this]
    simp [hz]
  · have h2 : (L s).head? = (L s)[0]? := List.head?_eq_getElem?
    have h3 : (L s).getLast? = (L s)[s.size - 1]? := by rw [List.getLast?_eq_getElem?]; rfl
    rw [h2, h3, Bool.or_eq_true, decide_eq_true_eq, Bool.and_eq_true, bne_iff_ne, bne_iff_ne, Ne, Ne, Ne, Ne, bt_sp (by omega), bt_sp (by omega)]
    simp [hz]
def pos (s : ByteArray) : Bool := decide (0 < s.size)
theorem ext_size {s : ByteArray} {a b : Nat} (h : a ≤ b) (hb : b ≤ s.size) : (s.extract a b).size = b - a := by
  rw [ByteArray.size_extract]; omega
theorem room_s {n : Nat} (h : n ≤ 8192) : room n .str = true := by
  unfold room
  rw [Nat.ble_eq]
  have : nb .str = 16 := rfl
  rw [this]
  omega
theorem fpos_one (s : ByteArray) (a b : Nat) (hab : a ≤ b) (hb : b ≤ s.size) (l : List ByteArray) : (s.extract a b :: l).filter pos = (if a < b then [s.extract a b] else []) ++ l.filter pos := by
  rw [List.filter_cons]
  unfold pos
  rw [ext_size hab hb]
  by_cases c : a < b
  · rw [if_pos c, decide_eq_true (by omega)]; rfl
  · rw [if_neg c, decide_eq_false (by omega)]; rfl
theorem tail_cons (x : List UInt8) (r : List (List UInt8)) : Lib.joinTail [32] (x :: r) = 32 :: (x ++ Lib.joinTail [32] r) := by simp [Lib.joinTail]
theorem e32 : (⟨#[32]⟩ : ByteArray).size = 1 := rfl
theorem L32 : L ⟨#[32]⟩ = [32] := rfl
/-! ### A list, changed from its begin -/
def ms {α : Type} (f : α → α) (W : List α) (i : Nat) : List α := (W.take i).map f ++ W.drop i
section
variable {α : Type} (f : α → α) (W : List α)
theorem ms_len (i : Nat) : (ms f W i).length = W.length := by unfold ms; simp; omega
theorem ms_zero : ms f W 0 = W := by simp [ms]
theorem ms_all : ms f W W.length = W.map f := by simp [ms]
theorem ms_at {i : Nat} (h : i < W.length) (d : α) : (ms f W i).getD i d = W[i] := by
  unfold ms
  rw [List.getD_eq_getElem?_getD, List.getElem?_append_right (by simp; omega)]
  simp [Nat.min_eq_left (Nat.le_of_lt h), h]
theorem ms_set {i : Nat} (h : i < W.length) : (ms f W i).set i (f W[i]) = ms f W (i + 1) := by
  unfold ms
  rw [List.set_append_right _ _ (by simp; omega)]
  simp only [List.length_map, List.length_take, Nat.min_eq_left (Nat.le_of_lt h), Nat.sub_self]
  rw [List.drop_eq_getElem_cons h, List.set_cons_zero, List.take_add_one, List.getElem?_eq_getElem h]
  simp only [Option.toList_some, List.map_append, List.map_cons, List.map_nil, List.append_assoc, List.cons_append, List.nil_append]
end
end Go.Proofs.YtnffgabfibafjaaDoor
end
section
/- Plain laws: texts of an entry. -/
namespace Go.Proofs.YtnffgabfibafjaaDoor
open Go.Gx
set_option linter.unusedVariables false
set_option linter.unusedSimpArgs false

theorem in_ev (a b c : Int) : spec_l1In.F a b c = some (decide (a ≥ b) && decide (a ≤ c)) := by
  unfold spec_l1In.F
  cases decide (a ≥ b) <;> rfl
theorem inside_ev (a b c : Int) : impl_inside.F a b c = some (decide (a ≥ b) && decide (a ≤ c)) := by
  unfold impl_inside.F
  cases decide (a ≥ b) <;> rfl
theorem edge_trim (s : ByteArray) (hs : s.size ≤ 1048576) : strings_Trim.F s ⟨#[32]⟩ = some ⟨(Lib.trimB (L s) 32).toArray⟩ := by
  unfold strings_Trim.F xTrim1
  rw [Nat.ble_eq_true_of_le (by omega)]
  rfl
theorem specText_l0 (s : ByteArray) (hs : s.size ≤ 1048576) : ∀ n i : Nat, i + n = s.size → Ev (fun k => spec_l4Text.l0 k s i) (if ((bytesL s).drop i).all (vis 32) = true then .inr s else .inl false)
  | 0, i, h => by
    refine Ev.step (fun k => by rw [spec_l4Text.l0]) ?_
    simp (disch := omega) only [cneg]
    rw [List.drop_eq_nil_of_le (by rw [bytesL_len]; omega)]
    exact Ev.pure _
  | n + 1, i, h => by
    have hl := bytesL_len s
    have hi : i < (bytesL s).length := by omega
    refine Ev.step (fun k => by rw [spec_l4Text.l0]) ?_
    simp (disch := omega) only [cpos, Int.toNat_natCast, bt_bytes s i hi]
    rw [all_bytes hi]
    unfold vis
    by_cases c1 : (bytesL s)[i] < 32
    · simp (disch := omega) only [cpos, dneg, Bool.false_and]; exact Ev.pure _
    · by_cases c2 : (bytesL s)[i] > 126
      · simp (disch := omega) only [cpos, cneg, dneg, Bool.and_false, Bool.false_and]; exact Ev.pure _
      · simp (disch := omega) only [cpos, cneg, dpos, Bool.and_self, Bool.true_and, wrap_in]
        exact specText_l0 s hs n (i + 1) (by omega)
theorem isPrint_l0 (s : ByteArray) (hs : s.size ≤ 1048576) : ∀ n i : Nat, i + n = s.size → Ev (fun k => impl_isPrintable.l0 k s i) (if ((bytesL s).drop i).all (vis 32) = true then .inr s else .inl false)
  | 0, i, h => by
    refine Ev.step (fun k => by rw [impl_isPrintable.l0]) ?_
    simp (disch := omega) only [cneg]
    rw [List.drop_eq_nil_of_le (by rw [bytesL_len]; omega)]
    exact Ev.pure _
  | n + 1, i, h => by
    have hl := bytesL_len s
    have hi : i < (bytesL s).length := by omega
    refine Ev.step (fun k => by rw [impl_isPrintable.l0]) ?_
    simp (disch := omega) only [cpos, Int.toNat_natCast, bt_bytes s i hi]
    rw [all_bytes hi]
    unfold vis
    by_cases c1 : (bytesL s)[i] < 32
    · simp (disch := omega) only [cpos, dneg, Bool.false_and]; exact Ev.pure _
    · by_cases c2 : (bytesL s)[i] > 126
      · simp (disch := omega) only [cpos, cneg, dneg, Bool.and_false, Bool.false_and]; exact Ev.pure _
      · simp (disch := omega) only [cpos, cneg, dpos, Bool.and_self, Bool.true_and, wrap_in]
        exact isPrint_l0 s hs n (i + 1) (by omega)
def textB (s : ByteArray) : Bool := decide (s.size ≤ 40) && ((bytesL s).all (vis 32) && edge s)
theorem specText_ev (s : ByteArray) : Ev (fun k => spec_l4Text.F k s) (textB s) := by
  unfold spec_l4Text.F textB
  by_cases c : (s.size : Int) > 40
  · simp (disch := omega) only [cpos, dneg, Bool.false_and]
    exact Ev.pure _
  · simp (disch := omega) only [cneg, dpos, Bool.true_and]
    have := specText_l0 s (by omega) s.size 0 (by omega)
    rw [List.drop_zero] at this
    cases h : (bytesL s).all (vis 32) with
    | false => rw [h] at this; exact Ev.bind this (Ev.pure _)
    | true =>
      rw [h] at this
      refine Ev.bind (a := .inr s) this ?_
      dsimp only
      have he : beqS s ⟨#[]⟩ = decide (s.size = 0) := by
        rw [← Bool.not_not (b := beqS s ⟨#[]⟩), size_pos]
        by_cases hz : s.size = 0
        · simp [hz]
        · rw [decide_eq_true (by omega : 0 < s.size), decide_eq_false hz]; rfl
      rw [he]
      unfold edge
      by_cases hz : s.size = 0
      · rw [decide_eq_true hz]; exact Ev.pure _
      · rw [decide_eq_false hz]
        simp (disch := omega) only [cond_false, cond_true, cpos, wrap_in]
        rw [show ((s.size : Int) - 1).toNat = s.size - 1 by omega, show (0 : Int).toNat = 0 from rfl, Bool.false_or, Bool.true_and]
        cases (bt s 0 != 32) with
        | true => exact Ev.pure _
        | false => exact Ev.pure _
theorem isText_ev (s : ByteArray) : Ev (fun k => impl_isText.F k s) (textB s) := by
  unfold impl_isText.F textB
  by_cases c : (s.size : Int) ≤ 40
  · simp (disch := omega) only [cpos, dpos, Bool.true_and]
    refine Ev.bind ?_ (Ev.pure _)
    unfold impl_isPrintable.F
    have := isPrint_l0 s (by omega) s.size 0 (by omega)
    rw [List.drop_zero] at this
    cases h : (bytesL s).all (vis 32) with
    | false => rw [h] at this; exact Ev.bind this (Ev.pure _)
    | true =>
      rw [h] at this
      refine Ev.bind (a := .inr s) this ?_
      dsimp only
      refine Ev.bind0 (edge_trim s (by omega)) ?_
      simp only [edge_eq, Bool.true_and]
      exact Ev.pure _
  · simp (disch := omega) only [cneg, dneg, Bool.false_and]
    exact Ev.pure _
end Go.Proofs.YtnffgabfibafjaaDoor
end
section
/- Plain laws: a text split at its spaces. -/
namespace Go.Proofs.YtnffgabfibafjaaDoor
open Go.Gx
set_option linter.unusedVariables false
set_option linter.unusedSimpArgs false

theorem split_l0 (s : ByteArray) (hs : s.size ≤ 1048576) : ∀ n i : Nat, i + n = s.size → ∀ st : Nat, st ≤ i → (∀ j, st ≤ j → j < i → (L s)[j]? ≠ some 32) → ∀ acc : List ByteArray, acc.length ≤ i →
    ∃ acc' st', Ev (fun k => spec_l1Split.l0 k s 32 acc st i) (s, acc', ((st' : Nat) : Int)) ∧ st' ≤ s.size ∧ acc'.length ≤ s.size ∧ acc' ++ [s.extract st' s.size] = acc ++ wordsFrom s st
  | 0, i, h, st, h1, hn, acc, ha => by
    refine ⟨acc, st, Ev.step (fun k => by rw [spec_l1Split.l0]) ?_, by omega, by omega, ?_⟩
    · simp (disch := omega) only [cneg]
      exact Ev.pure _
    · rw [words_end s st fun j hj => ?_]
      by_cases hj2 : j < i
      · exact hn j hj hj2
      · rw [List.getElem?_eq_none (by rw [L_size]; omega)]; exact fun h => by cases h
  | n + 1, i, h, st, h1, hn, acc, ha => by
    have hi : i < (L s).length := by rw [L_size]; omega
    have hbt : bt s i = ((L s)[i].toNat : Int) := by rw [L_bt, getD_at hi]
    by_cases c : bt s i = 32
    · have hb : (L s)[i]? = some 32 := by
        rw [List.getElem?_eq_getElem hi]
        congr 1
        apply UInt8.toNat_inj.1
        have : (32 : UInt8).toNat = 32 := rfl
        omega
      obtain ⟨acc', st', r1, r2, r3, r4⟩ := split_l0 s hs n (i + 1) (by omega) (i + 1) (Nat.le_refl _) (fun j h1 h2 => by omega) (acc ++ [s.extract st i]) (by simp; omega)
      refine ⟨acc', st', Ev.step (fun k => by rw [spec_l1Split.l0]) ?_, r2, r3, ?_⟩
      · have hr : room (acc.length + ([s.extract st i] : List ByteArray).length) .str = true := by
          unfold room
          rw [Nat.ble_eq]
          have : nb .str = 16 := rfl
          rw [this]
          simp; omega
        simp (disch := omega) only [cpos, Int.toNat_natCast, ceq, hr, cond_true, wrap_in]
        exact r1
      · rw [r4, words_hit s st i h1 (by omega) hb hn]; simp
    · obtain ⟨acc', st', r1, r2, r3, r4⟩ := split_l0 s hs n (i + 1) (by omega) st (by omega) (fun j h1 h2 => by
        rcases Nat.lt_or_ge j i with h3 | h3
        · exact hn j h1 h3
        · obtain rfl : j = i := by omega
          rw [List.getElem?_eq_getElem hi]
          intro e
          apply c
          rw [hbt, Option.some.inj e]; rfl) acc (by omega)
      refine ⟨acc', st', Ev.step (fun k => by rw [spec_l1Split.l0]) ?_, r2, r3, r4⟩
      simp (disch := omega) only [cpos, Int.toNat_natCast, cne, wrap_in]
      exact r1
theorem specSplit_ev (s : ByteArray) (hs : s.size ≤ 1048576) : Ev (fun k => spec_l1Split.F k s 32) (words s) := by
  unfold spec_l1Split.F
  obtain ⟨acc', st', r1, r2, r3, r4⟩ := split_l0 s hs s.size 0 (by omega) 0 (Nat.le_refl _) (fun j h1 h2 => by omega) [] (Nat.le_refl _)
  refine Ev.bind r1 ?_
  have hr : room (acc'.length + ([s.extract st' s.size] : List ByteArray).length) .str = true := by
    unfold room
    rw [Nat.ble_eq]
    have : nb .str = 16 := rfl
    rw [this]
    simp; omega
  simp (disch := omega) only [cpos, Int.toNat_natCast, hr, cond_true, r4, words_from, List.nil_append]
  exact Ev.pure _
theorem split_ev (s : ByteArray) (hs : s.size ≤ 1048576) : strings_Split.F s ⟨#[32]⟩ = some (words s) := by
  unfold strings_Split.F xSplit
  rw [Nat.ble_eq_true_of_le (by omega)]
  rfl
end Go.Proofs.YtnffgabfibafjaaDoor
end
section
/- Plain laws: lists of texts: size, copy, equality. -/
namespace Go.Proofs.YtnffgabfibafjaaDoor
open Go.Gx
set_option linter.unusedVariables false
set_option linter.unusedSimpArgs false

def totS (xs : List ByteArray) : Nat := (xs.map ByteArray.size).sum
theorem szS_l0 (xs : List ByteArray) (hw : WF (.sl .str) xs) (hlen : xs.length ≤ 1048576) : ∀ n i : Nat, i + n = xs.length → ∀ l : Int, 0 ≤ l → l ≤ 1048576 →
    Ev (fun k => laws_szStringS.l0 k xs l i) (if l - totS (xs.drop i) < 0 then .inl (-1) else .inr (l - totS (xs.drop i)))
  | 0, i, h, l, h0, h1 => by
    refine Ev.step (fun k => by rw [laws_szStringS.l0]) ?_
    simp (disch := omega) only [cneg]
    rw [List.drop_eq_nil_of_le (by omega)]
    simp only [totS, List.map_nil, List.sum_nil]
    rw [if_neg (by omega)]
    exact (Ev.pure _).eq (by congr 1; omega)
  | n + 1, i, h, l, h0, h1 => by
    have hi : i < xs.length := by omega
    have hwi : xs[i].size ≤ 9223372036854775807 := by cases hw with | sl _ _ _ h => exact wf_str (h i hi)
    have hd : totS (xs.drop i) = xs[i].size + totS (xs.drop (i + 1)) := by
      rw [List.drop_eq_getElem_cons hi]; unfold totS; rw [List.map_cons, List.sum_cons]
    refine Ev.step (fun k => by rw [laws_szStringS.l0]) ?_
    simp (disch := omega) only [cpos, Int.toNat_natCast, getD_at hi]
    by_cases c : l - (xs[i].size : Int) < 0
    · simp (disch := omega) only [wrap_in, cpos]
      rw [if_pos (by omega)]
      exact Ev.pure _
    · simp (disch := omega) only [wrap_in, cneg]
      have := szS_l0 xs hw hlen n (i + 1) (by omega) (l - xs[i].size) (by omega) (by omega)
      refine this.eq ?_
      rw [hd]
      by_cases c2 : l - (xs[i].size : Int) - (totS (xs.drop (i + 1)) : Int) < 0
      · rw [if_pos c2, if_pos (by omega)]
      · rw [if_neg c2, if_neg (by omega)]; congr 1; omega
theorem szS_ev (xs : List ByteArray) (l : Int) (h0 : 0 ≤ l) (h1 : l ≤ 1048576) (hw : WF (.sl .str) xs) : ∃ r, Ev (fun k => laws_szStringS.F k xs l) r ∧ (0 ≤ r → (xs.length : Int) + totS xs + r = l) := by
  have hl : xs.length ≤ 9223372036854775807 := wf_len hw
  unfold laws_szStringS.F
  by_cases c : l - (xs.length : Int) < 0
  · simp (disch := omega) only [wrap_in, cpos]
    exact ⟨-1, Ev.pure _, fun h => by omega⟩
  · simp (disch := omega) only [wrap_in, cneg]
    have := szS_l0 xs hw (by omega) xs.length 0 (by omega) (l - xs.length) (by omega) (by omega)
    simp only [List.drop_zero] at this
    by_cases c2 : l - (xs.length : Int) - (totS xs : Int) < 0
    · rw [if_pos c2] at this
      exact ⟨-1, Ev.bind this (Ev.pure _), fun h => by omega⟩
    · rw [if_neg c2] at this
      exact ⟨l - (xs.length : Int) - (totS xs : Int), Ev.bind this (Ev.pure _), fun h => by omega⟩
theorem totS_mem {xs : List ByteArray} {x : ByteArray} (h : x ∈ xs) : x.size ≤ totS xs := by
  unfold totS
  induction xs with
  | nil => cases h
  | cons b l ih =>
    simp only [List.map_cons, List.sum_cons]
    rcases List.mem_cons.1 h with rfl | h
    · omega
    · have := ih h; omega
theorem toS_l0 (xs : List ByteArray) (hlen : xs.length ≤ 1048576) : ∀ n i : Nat, i + n = xs.length → ∀ ys : List ByteArray, ys.length = xs.length → ys.take i = xs.take i → Ev (fun k => laws_toStringS.l0 k xs ys i) xs
  | 0, i, h, ys, hy, ht => by
    refine Ev.step (fun k => by rw [laws_toStringS.l0]) ?_
    simp (disch := omega) only [cneg]
    have : ys = xs := by
      rw [List.take_of_length_le (by omega), List.take_of_length_le (by omega)] at ht
      exact ht
    rw [this]; exact Ev.pure _
  | n + 1, i, h, ys, hy, ht => by
    have hi : i < xs.length := by omega
    refine Ev.step (fun k => by rw [laws_toStringS.l0]) ?_
    simp (disch := omega) only [cpos, Int.toNat_natCast, getD_at hi, wrap_in]
    exact toS_l0 xs hlen n (i + 1) (by omega) (ys.set i xs[i]) (by simpa using hy) (by
      rw [List.take_add_one, List.take_add_one, List.take_set_of_le (Nat.le_refl i), ht]
      simp [show i < ys.length by omega, hi])
theorem toS_ev (xs : List ByteArray) (hlen : xs.length ≤ 1048576) : Ev (fun k => laws_toStringS.F k xs) xs := by
  unfold laws_toStringS.F
  have hn : nb .str = 16 := rfl
  simp (disch := first | omega | (simp only [hn, Int.toNat_natCast]; omega)) only [ceq, cpos, cble]
  exact Ev.bind (a := xs) (toS_l0 xs hlen xs.length 0 (by omega) _ (by simp) (by simp)) (Ev.pure _)
theorem eqS_l0 (xs : List ByteArray) (hlen : xs.length ≤ 1048576) : ∀ n i : Nat, i + n = xs.length → Ev (fun k => laws_eqStringS.l0 k xs xs i) (.inr ())
  | 0, i, h => by
    refine Ev.step (fun k => by rw [laws_eqStringS.l0]) ?_
    simp (disch := omega) only [cneg]
    exact Ev.pure _
  | n + 1, i, h => by
    refine Ev.step (fun k => by rw [laws_eqStringS.l0]) ?_
    simp (disch := omega) only [cpos, Int.toNat_natCast, beqS_self, Bool.not_true, cond_false, wrap_in]
    exact eqS_l0 xs hlen n (i + 1) (by omega)
theorem eqS_ev (xs : List ByteArray) (hlen : xs.length ≤ 1048576) : Ev (fun k => laws_eqStringS.F k xs xs) true := by
  unfold laws_eqStringS.F
  simp (disch := omega) only [cbeq]
  exact Ev.bind (eqS_l0 xs hlen xs.length 0 (by omega)) (Ev.pure _)
end Go.Proofs.YtnffgabfibafjaaDoor
end
section
/- Plain laws: names, entries, libraries: size, copy, equality. -/
namespace Go.Proofs.YtnffgabfibafjaaDoor
open Go.Gx
set_option linter.unusedVariables false
set_option linter.unusedSimpArgs false

def totN (n : Name) : Nat := n.given.length + totS n.given + n.particle.size + n.family.size + n.suffix.size
def totNs (xs : List Name) : Nat := xs.length + (xs.map totN).sum
def totE (e : Entry) : Nat := e.key.size + totNs e.authors + totNs e.editors + e.title.size + e.container.size + e.publisher.size + e.pages.size + e.cross.size
def totEs (xs : List Entry) : Nat := xs.length + (xs.map totE).sum
theorem sum_mem {α : Type} (f : α → Nat) {xs : List α} {x : α} (h : x ∈ xs) : f x ≤ (xs.map f).sum := by
  induction xs with
  | nil => cases h
  | cons b l ih =>
    simp only [List.map_cons, List.sum_cons]
    rcases List.mem_cons.1 h with rfl | h
    · omega
    · have := ih h; omega
def smallN (n : Name) : Prop := totN n ≤ 1048576
def smallE (e : Entry) : Prop := totE e ≤ 1048576
def smallL (l : Library) : Prop := totEs l.entries ≤ 1048576
theorem smallL_at {l : Library} (h : smallL l) {e : Entry} (he : e ∈ l.entries) : smallE e := by
  have := sum_mem totE he
  unfold smallL totEs at h
  unfold smallE
  omega
theorem smallNs_at {xs : List Name} (h : totNs xs ≤ 1048576) {n : Name} (hn : n ∈ xs) : smallN n := by
  have := sum_mem totN hn
  unfold totNs at h
  unfold smallN
  omega
theorem smallE_a {e : Entry} (h : smallE e) : totNs e.authors ≤ 1048576 := by unfold smallE totE at h; omega
theorem smallE_e {e : Entry} (h : smallE e) : totNs e.editors ≤ 1048576 := by unfold smallE totE at h; omega
theorem smallNs_len {xs : List Name} (h : totNs xs ≤ 1048576) : xs.length ≤ 1048576 := by unfold totNs at h; omega
theorem smallL_len {l : Library} (h : smallL l) : l.entries.length ≤ 1048576 := by unfold smallL totEs at h; omega
theorem szN_ev (a : Name) (l : Int) (h0 : 0 ≤ l) (h1 : l ≤ 1048576) (hw : WF .name a) : EvP (fun k => laws_szName.F k a l) fun r => 0 ≤ r → (totN a : Int) + r = l := by
  obtain ⟨w1, w2, w3, w4⟩ : WF (.sl .str) a.given ∧ a.particle.size ≤ 9223372036854775807 ∧ a.family.size ≤ 9223372036854775807 ∧ a.suffix.size ≤ 9223372036854775807 := by
    cases hw with | name _ h1 h2 h3 h4 => exact ⟨h1, wf_str h2, wf_str h3, wf_str h4⟩
  unfold laws_szName.F totN
  obtain ⟨r, r1, r2⟩ := szS_ev a.given l h0 h1 w1
  refine EvP.of r1 ?_
  by_cases c : r < 0
  · simp (disch := omega) only [cpos]
    exact EvP.pure _ (fun h => by omega)
  simp (disch := omega) only [cneg]
  have r3 := r2 (by omega)
  by_cases c1 : r - (a.particle.size : Int) < 0
  · simp (disch := omega) only [wrap_in, cpos]
    exact EvP.pure _ (fun h => by omega)
  simp (disch := omega) only [wrap_in, cneg]
  by_cases c2 : r - (a.particle.size : Int) - (a.family.size : Int) < 0
  · simp (disch := omega) only [wrap_in, cpos]
    exact EvP.pure _ (fun h => by omega)
  simp (disch := omega) only [wrap_in, cneg]
  by_cases c3 : r - (a.particle.size : Int) - (a.family.size : Int) - (a.suffix.size : Int) < 0
  · simp (disch := omega) only [wrap_in, cpos]
    exact EvP.pure _ (fun h => by omega)
  simp (disch := omega) only [wrap_in, cneg]
  exact EvP.pure _ (fun h => by omega)
theorem szNs_l0 (xs : List Name) (hw : WF (.sl .name) xs) (hlen : xs.length ≤ 1048576) : ∀ n i : Nat, i + n = xs.length → ∀ l : Int, 0 ≤ l → l ≤ 1048576 →
    EvP (fun k => laws_szNameS.l0 k xs l i) fun r => r = .inl (-1) ∨ ∃ q : Int, r = .inr q ∧ 0 ≤ q ∧ (((xs.drop i).map totN).sum : Int) + q = l
  | 0, i, h, l, h0, h1 => by
    refine EvP.step (fun k => by rw [laws_szNameS.l0]) ?_
    simp (disch := omega) only [cneg]
    rw [List.drop_eq_nil_of_le (by omega)]
    exact EvP.pure _ (.inr ⟨l, rfl, h0, by simp⟩)
  | n + 1, i, h, l, h0, h1 => by
    have hi : i < xs.length := by omega
    have hwi : WF .name xs[i] := by cases hw with | sl _ _ _ h => exact h i hi
    refine EvP.step (fun k => by rw [laws_szNameS.l0]) ?_
    simp (disch := omega) only [cpos, Int.toNat_natCast, getD_at hi]
    refine EvP.bind (szN_ev _ l h0 h1 hwi) fun r hr => ?_
    by_cases c : r < 0
    · simp (disch := omega) only [cpos]
      exact EvP.pure _ (.inl rfl)
    · have hr := hr (by omega)
      simp (disch := omega) only [cneg, wrap_in]
      refine EvP.mono (szNs_l0 xs hw hlen n (i + 1) (by omega) r (by omega) (by omega)) fun q hq => ?_
      rcases hq with rfl | ⟨q, rfl, h2, h3⟩
      · exact .inl rfl
      · refine .inr ⟨q, rfl, h2, ?_⟩
        rw [List.drop_eq_getElem_cons hi, List.map_cons, List.sum_cons]
        omega
theorem szNs_ev (xs : List Name) (l : Int) (h0 : 0 ≤ l) (h1 : l ≤ 1048576) (hw : WF (.sl .name) xs) : EvP (fun k => laws_szNameS.F k xs l) fun r => 0 ≤ r → (totNs xs : Int) + r = l := by
  have hl : xs.length ≤ 9223372036854775807 := wf_len hw
  unfold laws_szNameS.F totNs
  by_cases c : l - (xs.length : Int) < 0
  · simp (disch := omega) only [wrap_in, cpos]
    exact EvP.pure _ fun h => by omega
  · simp (disch := omega) only [wrap_in, cneg]
    refine EvP.bind (szNs_l0 xs hw (by omega) xs.length 0 (by omega) (l - xs.length) (by omega) (by omega)) fun r hr => ?_
    rcases hr with rfl | ⟨q, rfl, h2, h3⟩
    · exact EvP.pure _ fun h => by omega
    · rw [List.drop_zero] at h3
      exact EvP.pure _ fun h => by omega
theorem szE_ev (a : Entry) (l : Int) (h0 : 0 ≤ l) (h1 : l ≤ 1048576) (hw : WF .entry a) : EvP (fun k => laws_szEntry.F k a l) fun r => 0 ≤ r → (totE a : Int) + r = l := by
  obtain ⟨w1, w2, w3, w4, w5, w6, w7, w8⟩ : a.key.size ≤ 9223372036854775807 ∧ WF (.sl .name) a.authors ∧ WF (.sl .name) a.editors ∧ a.title.size ≤ 9223372036854775807 ∧ a.container.size ≤ 9223372036854775807 ∧ a.publisher.size ≤ 9223372036854775807 ∧ a.pages.size ≤ 9223372036854775807 ∧ a.cross.size ≤ 9223372036854775807 := by
    cases hw with | entry _ h1 h2 h3 h4 h5 h6 h7 h8 h9 h10 h11 => exact ⟨wf_str h1, h3, h4, wf_str h5, wf_str h6, wf_str h7, wf_str h10, wf_str h11⟩
  unfold laws_szEntry.F totE
  by_cases c0 : l - (a.key.size : Int) < 0
  · simp (disch := omega) only [wrap_in, cpos]
    exact EvP.pure _ (fun h => by omega)
  simp (disch := omega) only [wrap_in, cneg]
  refine EvP.bind (szNs_ev a.authors _ (by omega) (by omega) w2) fun r hr => ?_
  by_cases c : r < 0
  · simp (disch := omega) only [cpos]
    exact EvP.pure _ (fun h => by omega)
  simp (disch := omega) only [cneg]
  have hr := hr (by omega)
  refine EvP.bind (szNs_ev a.editors r (by omega) (by omega) w3) fun q hq => ?_
  by_cases c' : q < 0
  · simp (disch := omega) only [cpos]
    exact EvP.pure _ (fun h => by omega)
  simp (disch := omega) only [cneg]
  have hq := hq (by omega)
  by_cases c1 : q - (a.title.size : Int) < 0
  · simp (disch := omega) only [wrap_in, cpos]
    exact EvP.pure _ (fun h => by omega)
  simp (disch := omega) only [wrap_in, cneg]
  by_cases c2 : q - (a.title.size : Int) - (a.container.size : Int) < 0
  · simp (disch := omega) only [wrap_in, cpos]
    exact EvP.pure _ (fun h => by omega)
  simp (disch := omega) only [wrap_in, cneg]
  by_cases c3 : q - (a.title.size : Int) - (a.container.size : Int) - (a.publisher.size : Int) < 0
  · simp (disch := omega) only [wrap_in, cpos]
    exact EvP.pure _ (fun h => by omega)
  simp (disch := omega) only [wrap_in, cneg]
  by_cases c4 : q - (a.title.size : Int) - (a.container.size : Int) - (a.publisher.size : Int) - (a.pages.size : Int) < 0
  · simp (disch := omega) only [wrap_in, cpos]
    exact EvP.pure _ (fun h => by omega)
  simp (disch := omega) only [wrap_in, cneg]
  by_cases c5 : q - (a.title.size : Int) - (a.container.size : Int) - (a.publisher.size : Int) - (a.pages.size : Int) - (a.cross.size : Int) < 0
  · simp (disch := omega) only [wrap_in, cpos]
    exact EvP.pure _ (fun h => by omega)
  simp (disch := omega) only [wrap_in, cneg]
  exact EvP.pure _ (fun h => by omega)
theorem szEs_l0 (xs : List Entry) (hw : WF (.sl .entry) xs) (hlen : xs.length ≤ 1048576) : ∀ n i : Nat, i + n = xs.length → ∀ l : Int, 0 ≤ l → l ≤ 1048576 →
    EvP (fun k => laws_szEntryS.l0 k xs l i) fun r => r = .inl (-1) ∨ ∃ q : Int, r = .inr q ∧ 0 ≤ q ∧ (((xs.drop i).map totE).sum : Int) + q = l
  | 0, i, h, l, h0, h1 => by
    refine EvP.step (fun k => by rw [laws_szEntryS.l0]) ?_
    simp (disch := omega) only [cneg]
    rw [List.drop_eq_nil_of_le (by omega)]
    exact EvP.pure _ (.inr ⟨l, rfl, h0, by simp⟩)
  | n + 1, i, h, l, h0, h1 => by
    have hi : i < xs.length := by omega
    have hwi : WF .entry xs[i] := by cases hw with | sl _ _ _ h => exact h i hi
    refine EvP.step (fun k => by rw [laws_szEntryS.l0]) ?_
    simp (disch := omega) only [cpos, Int.toNat_natCast, getD_at hi]
    refine EvP.bind (szE_ev _ l h0 h1 hwi) fun r hr => ?_
    by_cases c : r < 0
    · simp (disch := omega) only [cpos]
      exact EvP.pure _ (.inl rfl)
    · have hr := hr (by omega)
      simp (disch := omega) only [cneg, wrap_in]
      refine EvP.mono (szEs_l0 xs hw hlen n (i + 1) (by omega) r (by omega) (by omega)) fun q hq => ?_
      rcases hq with rfl | ⟨q, rfl, h2, h3⟩
      · exact .inl rfl
      · refine .inr ⟨q, rfl, h2, ?_⟩
        rw [List.drop_eq_getElem_cons hi, List.map_cons, List.sum_cons]
        omega
theorem szEs_ev (xs : List Entry) (l : Int) (h0 : 0 ≤ l) (h1 : l ≤ 1048576) (hw : WF (.sl .entry) xs) : EvP (fun k => laws_szEntryS.F k xs l) fun r => 0 ≤ r → (totEs xs : Int) + r = l := by
  have hl : xs.length ≤ 9223372036854775807 := wf_len hw
  unfold laws_szEntryS.F totEs
  by_cases c : l - (xs.length : Int) < 0
  · simp (disch := omega) only [wrap_in, cpos]
    exact EvP.pure _ fun h => by omega
  · simp (disch := omega) only [wrap_in, cneg]
    refine EvP.bind (szEs_l0 xs hw (by omega) xs.length 0 (by omega) (l - xs.length) (by omega) (by omega)) fun r hr => ?_
    rcases hr with rfl | ⟨q, rfl, h2, h3⟩
    · exact EvP.pure _ fun h => by omega
    · rw [List.drop_zero] at h3
      exact EvP.pure _ fun h => by omega
theorem szL_ev (a : Library) (l : Int) (h0 : 0 ≤ l) (h1 : l ≤ 1048576) (hw : WF .lib a) : EvP (fun k => laws_szLibrary.F k a l) fun r => 0 ≤ r → (totEs a.entries : Int) + r = l := by
  have w1 : WF (.sl .entry) a.entries := by cases hw with | lib _ h => exact h
  unfold laws_szLibrary.F
  refine EvP.bind (szEs_ev a.entries l h0 h1 w1) fun r hr => ?_
  by_cases c : r < 0
  · simp (disch := omega) only [cpos]
    exact EvP.pure _ (fun h => by omega)
  simp (disch := omega) only [cneg]
  exact EvP.pure _ hr

/-! ### Copies -/
theorem toN_ev (a : Name) (hs : smallN a) : Ev (fun k => laws_toName.F k a) a := by
  unfold laws_toName.F
  exact Ev.bind (toS_ev a.given (by unfold smallN totN at hs; omega)) (Ev.pure _)
theorem toNs_l0 (xs : List Name) (hs : ∀ x ∈ xs, smallN x) (hlen : xs.length ≤ 1048576) : ∀ n i : Nat, i + n = xs.length → ∀ ys : List Name, ys.length = xs.length → ys.take i = xs.take i → Ev (fun k => laws_toNameS.l0 k xs ys i) xs
  | 0, i, h, ys, hy, ht => by
    refine Ev.step (fun k => by rw [laws_toNameS.l0]) ?_
    simp (disch := omega) only [cneg]
    have : ys = xs := by
      rw [List.take_of_length_le (by omega), List.take_of_length_le (by omega)] at ht
      exact ht
    rw [this]; exact Ev.pure _
  | n + 1, i, h, ys, hy, ht => by
    have hi : i < xs.length := by omega
    refine Ev.step (fun k => by rw [laws_toNameS.l0]) ?_
    simp (disch := omega) only [cpos, Int.toNat_natCast, getD_at hi]
    refine Ev.bind (toN_ev _ (hs _ (List.getElem_mem hi))) ?_
    simp (disch := omega) only [cpos, wrap_in]
    exact toNs_l0 xs hs hlen n (i + 1) (by omega) (ys.set i xs[i]) (by simpa using hy) (by
      rw [List.take_add_one, List.take_add_one, List.take_set_of_le (Nat.le_refl i), ht]
      simp [show i < ys.length by omega, hi])
theorem toNs_ev (xs : List Name) (hs : ∀ x ∈ xs, smallN x) (hlen : xs.length ≤ 1048576) : Ev (fun k => laws_toNameS.F k xs) xs := by
  unfold laws_toNameS.F
  have hn : nb .name = 72 := rfl
  simp (disch := first | omega | (simp only [hn, Int.toNat_natCast]; omega)) only [ceq, cpos, cble]
  exact Ev.bind (a := xs) (toNs_l0 xs hs hlen xs.length 0 (by omega) _ (by simp) (by simp)) (Ev.pure _)
theorem toE_ev (a : Entry) (hs : smallE a) : Ev (fun k => laws_toEntry.F k a) a := by
  unfold laws_toEntry.F
  have ha := smallE_a hs
  have he := smallE_e hs
  exact Ev.bind (toNs_ev a.authors (fun x hx => smallNs_at ha hx) (smallNs_len ha)) (Ev.bind (toNs_ev a.editors (fun x hx => smallNs_at he hx) (smallNs_len he)) (Ev.pure _))
theorem toEs_l0 (xs : List Entry) (hs : ∀ x ∈ xs, smallE x) (hlen : xs.length ≤ 1048576) : ∀ n i : Nat, i + n = xs.length → ∀ ys : List Entry, ys.length = xs.length → ys.take i = xs.take i → Ev (fun k => laws_toEntryS.l0 k xs ys i) xs
  | 0, i, h, ys, hy, ht => by
    refine Ev.step (fun k => by rw [laws_toEntryS.l0]) ?_
    simp (disch := omega) only [cneg]
    have : ys = xs := by
      rw [List.take_of_length_le (by omega), List.take_of_length_le (by omega)] at ht
      exact ht
    rw [this]; exact Ev.pure _
  | n + 1, i, h, ys, hy, ht => by
    have hi : i < xs.length := by omega
    refine Ev.step (fun k => by rw [laws_toEntryS.l0]) ?_
    simp (disch := omega) only [cpos, Int.toNat_natCast, getD_at hi]
    refine Ev.bind (toE_ev _ (hs _ (List.getElem_mem hi))) ?_
    simp (disch := omega) only [cpos, wrap_in]
    exact toEs_l0 xs hs hlen n (i + 1) (by omega) (ys.set i xs[i]) (by simpa using hy) (by
      rw [List.take_add_one, List.take_add_one, List.take_set_of_le (Nat.le_refl i), ht]
      simp [show i < ys.length by omega, hi])
theorem toEs_ev (xs : List Entry) (hs : ∀ x ∈ xs, smallE x) (hlen : xs.length ≤ 1048576) : Ev (fun k => laws_toEntryS.F k xs) xs := by
  unfold laws_toEntryS.F
  have hn : nb .entry = 192 := rfl
  simp (disch := first | omega | (simp only [hn, Int.toNat_natCast]; omega)) only [ceq, cpos, cble]
  exact Ev.bind (a := xs) (toEs_l0 xs hs hlen xs.length 0 (by omega) _ (by simp) (by simp)) (Ev.pure _)
theorem toL_ev (a : Library) (hs : smallL a) : Ev (fun k => laws_toLibrary.F k a) a := by
  unfold laws_toLibrary.F
  exact Ev.bind (toEs_ev a.entries (fun x hx => smallL_at hs hx) (smallL_len hs)) (Ev.pure _)

/-! ### Equality -/
theorem eqN_ev (a : Name) (hs : smallN a) : Ev (fun k => laws_eqName.F k a a) true := by
  unfold laws_eqName.F
  refine Ev.bind (eqS_ev a.given (by unfold smallN totN at hs; omega)) ?_
  simp only [beqS_self, Bool.not_true, cond_false]
  exact Ev.pure _
theorem eqD_ev (a : Date) : laws_eqDate.F a a = some true := by
  unfold laws_eqDate.F
  simp only [bne_self_eq_false, beq_self_eq_true, Bool.not_true, cond_false]
theorem eqNs_l0 (xs : List Name) (hs : ∀ x ∈ xs, smallN x) (hlen : xs.length ≤ 1048576) : ∀ n i : Nat, i + n = xs.length → Ev (fun k => laws_eqNameS.l0 k xs xs i) (.inr ())
  | 0, i, h => by
    refine Ev.step (fun k => by rw [laws_eqNameS.l0]) ?_
    simp (disch := omega) only [cneg]
    exact Ev.pure _
  | n + 1, i, h => by
    have hi : i < xs.length := by omega
    refine Ev.step (fun k => by rw [laws_eqNameS.l0]) ?_
    simp (disch := omega) only [cpos, Int.toNat_natCast, getD_at hi]
    refine Ev.bind (eqN_ev _ (hs _ (List.getElem_mem hi))) ?_
    simp (disch := omega) only [Bool.not_true, cond_false, wrap_in]
    exact eqNs_l0 xs hs hlen n (i + 1) (by omega)
theorem eqNs_ev (xs : List Name) (hs : ∀ x ∈ xs, smallN x) (hlen : xs.length ≤ 1048576) : Ev (fun k => laws_eqNameS.F k xs xs) true := by
  unfold laws_eqNameS.F
  simp (disch := omega) only [cbeq]
  exact Ev.bind (eqNs_l0 xs hs hlen xs.length 0 (by omega)) (Ev.pure _)
theorem eqE_ev (a : Entry) (hs : smallE a) : Ev (fun k => laws_eqEntry.F k a a) true := by
  unfold laws_eqEntry.F
  have ha := smallE_a hs
  have he := smallE_e hs
  simp only [beqS_self, bne_self_eq_false, Bool.not_true, cond_false]
  refine Ev.bind (eqNs_ev a.authors (fun x hx => smallNs_at ha hx) (smallNs_len ha)) ?_
  simp only [Bool.not_true, cond_false]
  refine Ev.bind (eqNs_ev a.editors (fun x hx => smallNs_at he hx) (smallNs_len he)) ?_
  simp only [Bool.not_true, cond_false]
  refine Ev.bind0 (eqD_ev _) ?_
  simp only [Bool.not_true, cond_false]
  exact Ev.pure _
theorem eqEs_l0 (xs : List Entry) (hs : ∀ x ∈ xs, smallE x) (hlen : xs.length ≤ 1048576) : ∀ n i : Nat, i + n = xs.length → Ev (fun k => laws_eqEntryS.l0 k xs xs i) (.inr ())
  | 0, i, h => by
    refine Ev.step (fun k => by rw [laws_eqEntryS.l0]) ?_
    simp (disch := omega) only [cneg]
    exact Ev.pure _
  | n + 1, i, h => by
    have hi : i < xs.length := by omega
    refine Ev.step (fun k => by rw [laws_eqEntryS.l0]) ?_
    simp (disch := omega) only [cpos, Int.toNat_natCast, getD_at hi]
    refine Ev.bind (eqE_ev _ (hs _ (List.getElem_mem hi))) ?_
    simp (disch := omega) only [Bool.not_true, cond_false, wrap_in]
    exact eqEs_l0 xs hs hlen n (i + 1) (by omega)
theorem eqEs_ev (xs : List Entry) (hs : ∀ x ∈ xs, smallE x) (hlen : xs.length ≤ 1048576) : Ev (fun k => laws_eqEntryS.F k xs xs) true := by
  unfold laws_eqEntryS.F
  simp (disch := omega) only [cbeq]
  exact Ev.bind (eqEs_l0 xs hs hlen xs.length 0 (by omega)) (Ev.pure _)
theorem eqL_ev (a : Library) (hs : smallL a) : Ev (fun k => laws_eqLibrary.F k a a) true := by
  unfold laws_eqLibrary.F
  refine Ev.bind (eqEs_ev a.entries (fun x hx => smallL_at hs hx) (smallL_len hs)) ?_
  simp only [Bool.not_true, cond_false]
  exact Ev.pure _
end Go.Proofs.YtnffgabfibafjaaDoor
end
section
/- Plain laws: slices.IndexFunc, slices.DeleteFunc, as they are printed for a function value. -/
namespace Go.Gx
set_option linter.unusedVariables false
set_option linter.unusedSimpArgs false

section
variable {α : Type} {d : α} {p : α → Bool} {q : Nat → α → Option Bool} {xs : List α}
theorem getDat {α : Type} {xs : List α} {i : Nat} (h : i < xs.length) (d : α) : xs.getD i d = xs[i] := by simp [List.getD, List.getElem?_eq_getElem h]
theorem idx_l0 {l0 : Nat → List α → Int → Int → Option (Sum Int Unit)} (H : ∀ k x0 x7 x8, l0 (k + 1) x0 x7 x8 = bif (decide (x8 < x7)) then (bif decide (0 ≤ x8) then (bif decide (x8 < (x0.length : Int)) then ((q k (x0.getD (x8 : Int).toNat d)).bind fun r1 => bif r1 then (some (.inl x8)) else (l0 k x0 x7 (IntKind.wrap .i64 (x8 + 1)))) else none) else none) else (some (.inr ())))
    (hq : ∀ x, x ∈ xs → Ev (fun k => q k x) (p x)) (hl : xs.length ≤ 4611686018427387904) : ∀ n i : Nat, i + n = xs.length → (∀ x ∈ xs.take i, p x = false) →
    ∃ r, Ev (fun k => l0 k xs xs.length i) r ∧ ((r = .inr () ∧ ∀ x ∈ xs, p x = false) ∨ ∃ j : Nat, r = .inl j ∧ j < xs.length ∧ p (xs.getD j d) = true ∧ ∀ x ∈ xs.take j, p x = false)
  | 0, i, h, ht => by
    refine ⟨.inr (), Ev.step (fun k => by rw [H]) ?_, .inl ⟨rfl, by rw [List.take_of_length_le (by omega)] at ht; exact ht⟩⟩
    simp (disch := omega) only [cneg]
    exact Ev.pure _
  | n + 1, i, h, ht => by
    have hi : i < xs.length := by omega
    cases hp : p xs[i] with
    | true =>
      refine ⟨.inl i, Ev.step (fun k => by rw [H]) ?_, .inr ⟨i, rfl, hi, by rw [getDat hi, hp], ht⟩⟩
      simp (disch := omega) only [cpos, Int.toNat_natCast, getDat hi]
      refine Ev.bind (hq _ (List.getElem_mem hi)) ?_
      rw [hp]
      exact Ev.pure _
    | false =>
      obtain ⟨r, h1, h2⟩ := idx_l0 H hq hl n (i + 1) (by omega) (by
        intro x hx
        rw [List.take_add_one, List.getElem?_eq_getElem hi] at hx
        rcases List.mem_append.1 hx with hx | hx
        · exact ht x hx
        · simp only [Option.toList_some, List.mem_singleton] at hx
          rw [hx, hp])
      refine ⟨r, Ev.step (fun k => by rw [H]) ?_, h2⟩
      simp (disch := omega) only [cpos, Int.toNat_natCast, getDat hi]
      refine Ev.bind (hq _ (List.getElem_mem hi)) ?_
      rw [hp]
      simp (disch := omega) only [cond_false, wrap_in]
      exact h1
theorem idx_ev {l0 : Nat → List α → Int → Int → Option (Sum Int Unit)} (H : ∀ k x0 x7 x8, l0 (k + 1) x0 x7 x8 = bif (decide (x8 < x7)) then (bif decide (0 ≤ x8) then (bif decide (x8 < (x0.length : Int)) then ((q k (x0.getD (x8 : Int).toNat d)).bind fun r1 => bif r1 then (some (.inl x8)) else (l0 k x0 x7 (IntKind.wrap .i64 (x8 + 1)))) else none) else none) else (some (.inr ())))
    (hq : ∀ x, x ∈ xs → Ev (fun k => q k x) (p x)) (hl : xs.length ≤ 4611686018427387904) {F : Nat → List α → Option Int} (HF : ∀ k a0, F k a0 = (l0 k a0 (a0.length : Int) 0).bind fun y2 => match y2 with | .inl z3 => some z3 | .inr z3 => some (-1)) :
    ∃ r, Ev (fun k => F k xs) r ∧ ((r = -1 ∧ ∀ x ∈ xs, p x = false) ∨ ∃ j : Nat, r = j ∧ j < xs.length ∧ p (xs.getD j d) = true ∧ ∀ x ∈ xs.take j, p x = false) := by
  obtain ⟨r, h1, h2⟩ := idx_l0 H hq hl xs.length 0 (by omega) (fun x hx => by simp at hx)
  rcases h2 with ⟨rfl, h2⟩ | ⟨j, rfl, h2⟩
  · exact ⟨-1, Ev.congr (Ev.bind h1 (Ev.pure _)) (fun k => HF k xs), .inl ⟨rfl, h2⟩⟩
  · exact ⟨j, Ev.congr (Ev.bind h1 (Ev.pure _)) (fun k => HF k xs), .inr ⟨j, rfl, h2⟩⟩
theorem del_l0 {l0 : Nat → List α → Int → Int → Option (List α × Int)} (H : ∀ k x0 x5 x6, l0 (k + 1) x0 x5 x6 = bif (decide (x6 < (x0.length : Int))) then (bif decide (0 ≤ x6) then (bif decide (x6 < (x0.length : Int)) then ((q k (x0.getD ((x6 : Int).toNat) d)).bind fun r2 => bif (!r2) then (bif decide (0 ≤ x5) then (bif decide (x5 < (x0.length : Int)) then (l0 k (x0.set ((x5 : Int).toNat) (x0.getD ((x6 : Int).toNat) d)) (IntKind.wrap .i64 (x5 + 1)) (IntKind.wrap .i64 (x6 + 1))) else none) else none) else (l0 k x0 x5 (IntKind.wrap .i64 (x6 + 1)))) else none) else none) else (some (x0, x5)))
    (hq : ∀ x, x ∈ xs → Ev (fun k => q k x) (p x)) (hl : xs.length ≤ 4611686018427387904) : ∀ n j : Nat, j + n = xs.length → ∀ (ys : List α) (i : Nat), ys.length = xs.length → i ≤ j → ys.drop j = xs.drop j →
    ∃ zs, ∃ i' : Nat, Ev (fun k => l0 k ys i j) (zs, (i' : Int)) ∧ i' ≤ xs.length ∧ zs.length = xs.length ∧ zs.take i' = ys.take i ++ (xs.drop j).filter fun x => !p x
  | 0, j, h, ys, i, hy, hij, hd => by
    refine ⟨ys, i, Ev.step (fun k => by rw [H]) ?_, by omega, hy, ?_⟩
    · simp (disch := omega) only [cneg]
      exact Ev.pure _
    · rw [List.drop_eq_nil_of_le (by omega), List.filter_nil, List.append_nil]
  | n + 1, j, h, ys, i, hy, hij, hd => by
    have hj : j < xs.length := by omega
    have hj' : j < ys.length := by omega
    have hx : ys[j] = xs[j] := by
      have h0 := congrArg (·[0]?) hd
      simpa [hj, hj'] using h0
    have hd1 : ys.drop (j + 1) = xs.drop (j + 1) := by
      have := congrArg (List.drop 1) hd
      simpa [List.drop_drop] using this
    cases hp : p xs[j] with
    | true =>
      obtain ⟨zs, i', h1, h2, h3, h4⟩ := del_l0 H hq hl n (j + 1) (by omega) ys i hy (by omega) hd1
      refine ⟨zs, i', Ev.step (fun k => by rw [H]) ?_, h2, h3, ?_⟩
      · simp (disch := omega) only [cpos, Int.toNat_natCast, getDat hj', hx]
        refine Ev.bind (hq _ (List.getElem_mem hj)) ?_
        rw [hp]
        simp (disch := omega) only [Bool.not_true, cond_false, wrap_in]
        exact h1
      · rw [h4, List.drop_eq_getElem_cons hj, List.filter_cons_of_neg (by rw [hp]; decide)]
    | false =>
      obtain ⟨zs, i', h1, h2, h3, h4⟩ := del_l0 H hq hl n (j + 1) (by omega) (ys.set i xs[j]) (i + 1) (by simpa using hy) (by omega) (by rw [List.drop_set_of_lt (by omega)]; exact hd1)
      refine ⟨zs, i', Ev.step (fun k => by rw [H]) ?_, h2, h3, ?_⟩
      · simp (disch := omega) only [cpos, Int.toNat_natCast, getDat hj', hx]
        refine Ev.bind (hq _ (List.getElem_mem hj)) ?_
        rw [hp]
        simp (disch := omega) only [Bool.not_false, cond_true, cpos, Int.toNat_natCast, wrap_in]
        exact h1
      · rw [h4, List.drop_eq_getElem_cons hj, List.filter_cons_of_pos (by rw [hp]; decide), List.take_add_one, List.take_set_of_le (Nat.le_refl i)]
        have : (ys.set i xs[j])[i]? = some xs[j] := by rw [List.getElem?_set_self (by omega)]
        rw [this]
        simp
theorem delete_ev {l0 : Nat → List α → Int → Int → Option (List α × Int)} (H : ∀ k x0 x5 x6, l0 (k + 1) x0 x5 x6 = bif (decide (x6 < (x0.length : Int))) then (bif decide (0 ≤ x6) then (bif decide (x6 < (x0.length : Int)) then ((q k (x0.getD ((x6 : Int).toNat) d)).bind fun r2 => bif (!r2) then (bif decide (0 ≤ x5) then (bif decide (x5 < (x0.length : Int)) then (l0 k (x0.set ((x5 : Int).toNat) (x0.getD ((x6 : Int).toNat) d)) (IntKind.wrap .i64 (x5 + 1)) (IntKind.wrap .i64 (x6 + 1))) else none) else none) else (l0 k x0 x5 (IntKind.wrap .i64 (x6 + 1)))) else none) else none) else (some (x0, x5)))
    (hq : ∀ x, x ∈ xs → Ev (fun k => q k x) (p x)) (hl : xs.length ≤ 4611686018427387904) {I F : Nat → List α → Option _} {e : α}
    (hI : ∃ r : Int, Ev (fun k => I k xs) r ∧ ((r = -1 ∧ ∀ x ∈ xs, p x = false) ∨ ∃ j : Nat, r = j ∧ j < xs.length ∧ p (xs.getD j d) = true ∧ ∀ x ∈ xs.take j, p x = false))
    (HF : ∀ k a0, F k a0 = (I k a0).bind fun r1 => bif (r1 == (-1)) then (some a0) else ((l0 k a0 r1 (IntKind.wrap .i64 (r1 + 1))).bind fun y3 => bif decide (0 ≤ y3.2) then (bif decide (y3.2 ≤ (y3.1.length : Int)) then (bif decide (0 ≤ y3.2) then (bif decide (y3.2 ≤ ((y3.1.take ((y3.2 : Int).toNat) ++ List.replicate (y3.1.length - ((y3.2 : Int).toNat)) e).length : Int)) then (some ((y3.1.take ((y3.2 : Int).toNat) ++ List.replicate (y3.1.length - ((y3.2 : Int).toNat)) e).take (y3.2 : Int).toNat)) else none) else none) else none) else none)) :
    Ev (fun k => F k xs) (xs.filter fun x => !p x) := by
  obtain ⟨r, h1, h2⟩ := hI
  refine Ev.congr (?_ : Ev _ _) (fun k => HF k xs)
  refine Ev.bind h1 ?_
  rcases h2 with ⟨rfl, h2⟩ | ⟨j, rfl, hj, hp, h2⟩
  · have : (xs.filter fun x => !p x) = xs := List.filter_eq_self.2 fun x hx => by rw [h2 x hx]; rfl
    rw [this]
    exact Ev.pure _
  · obtain ⟨zs, i', h3, h4, h5, h6⟩ := del_l0 H hq hl (xs.length - (j + 1)) (j + 1) (by omega) xs j rfl (by omega) rfl
    rw [getDat hj] at hp
    have hz : zs.take i' = xs.filter fun x => !p x := by
      rw [h6]
      conv => rhs; rw [← List.take_append_drop j xs, List.filter_append, List.drop_eq_getElem_cons hj, List.filter_cons_of_neg (by rw [hp]; decide)]
      congr 1
      exact (List.filter_eq_self.2 fun x hx => by rw [h2 x hx]; rfl).symm
    simp (disch := omega) only [cne, wrap_in]
    refine Ev.bind h3 ?_
    have e1 : ((zs.take i' ++ List.replicate (zs.length - i') e)).length = zs.length := by simp; omega
    simp (disch := (try simp only [Int.toNat_natCast, e1]); omega) only [cpos, Int.toNat_natCast, e1]
    rw [List.take_append_of_le_length (by simp; omega), List.take_take, Nat.min_self, hz]
    exact Ev.pure _
end
end Go.Gx
end
section
/- Plain laws: keys, names, dates, entries, libraries: are they valid? -/
namespace Go.Proofs.YtnffgabfibafjaaDoor
open Go.Gx
set_option linter.unusedVariables false
set_option linter.unusedSimpArgs false

theorem and_step {f : Nat → Option Bool} {b c : Bool} (h : b = true → Ev f c) : Ev (fun k => bif (!b) then some false else f k) (b && c) := by
  cases b with
  | false => exact Ev.pure _
  | true => exact h rfl
theorem and_step' {f : Nat → Option Bool} {b c : Bool} (h : b = true → Ev f c) : Ev (fun k => bif b then f k else some false) (b && c) := by
  cases b with
  | false => exact Ev.pure _
  | true => exact h rfl
theorem cbx (b : Bool) {α : Type} (x : α) : (bif b then x else x) = x := by cases b <;> rfl

/-! ### Bytes -/
def lowc (b : Int) : Bool := decide (97 ≤ b) && decide (b ≤ 122)
def upc (b : Int) : Bool := decide (65 ≤ b) && decide (b ≤ 90)
def ltr (b : Int) : Bool := upc b || lowc b
def dig (b : Int) : Bool := decide (48 ≤ b) && decide (b ≤ 57)
theorem sLower (b : Int) : spec_l2Lower.F b = some (lowc b) := by
  unfold spec_l2Lower.F lowc
  simp only [ge_iff_le]
  cases decide (97 ≤ b) <;> rfl
theorem sUpper (b : Int) : spec_l2Upper.F b = some (upc b) := by
  unfold spec_l2Upper.F upc
  simp only [ge_iff_le]
  cases decide (65 ≤ b) <;> rfl
theorem sLetter (b : Int) : spec_l2Letter.F b = some (ltr b) := by
  unfold spec_l2Letter.F ltr
  rw [sUpper, sLower]
  cases upc b <;> rfl
theorem iLower (b : Int) : impl_isLower.F b = some (lowc b) := by
  unfold impl_isLower.F lowc
  simp only [ge_iff_le]
  cases decide (97 ≤ b) <;> rfl
theorem iUpper (b : Int) : impl_isUpper.F b = some (upc b) := by
  unfold impl_isUpper.F upc
  simp only [ge_iff_le]
  cases decide (65 ≤ b) <;> rfl
theorem iLetter (b : Int) : impl_isLetter.F b = some (ltr b) := by
  unfold impl_isLetter.F ltr
  rw [iUpper, iLower]
  cases upc b <;> rfl
theorem iDigit (b : Int) : impl_isDigit.F b = some (dig b) := by
  unfold impl_isDigit.F dig
  simp only [ge_iff_le]
  cases decide (48 ≤ b) <;> rfl
def ins (n : Nat) (lo hi : Int) : Bool := decide ((n : Int) ≥ lo) && decide ((n : Int) ≤ hi)
theorem ins_le {n : Nat} {lo hi : Int} (h : ins n lo hi = true) : lo ≤ n ∧ (n : Int) ≤ hi := by
  unfold ins at h
  simp only [Bool.and_eq_true, decide_eq_true_eq] at h
  exact h

/-! ### Keys -/
def kb (s : ByteArray) (i : Nat) : Bool := lowc (bt s i) || dig (bt s i)
def keyB (s : ByteArray) : Bool := ins s.size 1 10 && (lowc (bt s 0) && (List.range' 0 s.size).all (kb s))
theorem specKey_l0 (s : ByteArray) (hs : s.size ≤ 10) : Ev (fun k => spec_l4Key.l0 k s ((0 : Nat) : Int)) (if (List.range' 0 s.size).all (kb s) = true then .inr () else .inl false) := by
  refine loop_all (f := fun k i => spec_l4Key.l0 k s i) (n := s.size) (fun i hi hp => ?_) (fun i r hi hp ih => ?_) ?_ s.size 0 (by omega)
  · refine Ev.step (fun k => by rw [spec_l4Key.l0]) ?_
    unfold kb at hp
    rw [Bool.or_eq_false_iff] at hp
    simp (disch := omega) only [cpos, Int.toNat_natCast]
    refine Ev.bind0 (sLower _) ?_
    rw [hp.1]
    have h2 := hp.2
    unfold dig at h2
    by_cases c : bt s i < 48
    · simp (disch := omega) only [cpos, Bool.not_false, cond_true]
      exact Ev.pure _
    · have c2 : bt s i > 57 := by
        rw [decide_eq_true (show 48 ≤ bt s i by omega), Bool.true_and, decide_eq_false_iff_not] at h2
        omega
      simp (disch := omega) only [cpos, cneg, Bool.not_false, cond_true]
      exact Ev.pure _
  · refine Ev.step (fun k => by rw [spec_l4Key.l0]) ?_
    simp (disch := omega) only [cpos, Int.toNat_natCast]
    refine Ev.bind0 (sLower _) ?_
    cases hl : lowc (bt s i) with
    | true =>
      simp (disch := omega) only [Bool.not_true, cond_false, wrap_in]
      exact ih
    | false =>
      unfold kb at hp
      rw [hl, Bool.false_or] at hp
      unfold dig at hp
      simp only [Bool.and_eq_true, decide_eq_true_eq] at hp
      simp (disch := omega) only [Bool.not_false, cond_true, cpos, cneg, wrap_in]
      exact ih
  · refine Ev.step (fun k => by rw [spec_l4Key.l0]) ?_
    simp (disch := omega) only [cneg]
    exact Ev.pure _
theorem isKey_l0 (s : ByteArray) (hs : s.size ≤ 10) : Ev (fun k => impl_isKey.l0 k s ((0 : Nat) : Int)) (if (List.range' 0 s.size).all (kb s) = true then .inr () else .inl false) := by
  refine loop_all (f := fun k i => impl_isKey.l0 k s i) (n := s.size) (fun i hi hp => ?_) (fun i r hi hp ih => ?_) ?_ s.size 0 (by omega)
  · refine Ev.step (fun k => by rw [impl_isKey.l0]) ?_
    unfold kb at hp
    rw [Bool.or_eq_false_iff] at hp
    simp (disch := omega) only [cpos, Int.toNat_natCast]
    refine Ev.bind0 (iLower _) ?_
    rw [hp.1]
    simp (disch := omega) only [Bool.not_false, cond_true, cpos]
    refine Ev.bind0 (iDigit _) ?_
    rw [hp.2]
    exact Ev.pure _
  · refine Ev.step (fun k => by rw [impl_isKey.l0]) ?_
    simp (disch := omega) only [cpos, Int.toNat_natCast]
    refine Ev.bind0 (iLower _) ?_
    cases hl : lowc (bt s i) with
    | true =>
      simp (disch := omega) only [Bool.not_true, cond_false, wrap_in]
      exact ih
    | false =>
      unfold kb at hp
      rw [hl, Bool.false_or] at hp
      simp (disch := omega) only [Bool.not_false, cond_true, cpos]
      refine Ev.bind0 (iDigit _) ?_
      rw [hp]
      simp (disch := omega) only [Bool.not_true, cond_false, wrap_in]
      exact ih
  · refine Ev.step (fun k => by rw [impl_isKey.l0]) ?_
    simp (disch := omega) only [cneg]
    exact Ev.pure _
theorem specKey_ev (s : ByteArray) : Ev (fun k => spec_l4Key.F k s) (keyB s) := by
  unfold spec_l4Key.F keyB
  refine Ev.bind0 (in_ev _ _ _) (and_step fun h => ?_)
  obtain ⟨h1, h2⟩ := ins_le h
  simp (disch := omega) only [cpos, show (0 : Int).toNat = 0 from rfl]
  refine Ev.bind0 (sLower _) (and_step fun _ => ?_)
  have := specKey_l0 s (by omega)
  cases ha : (List.range' 0 s.size).all (kb s) with
  | true => rw [ha] at this; exact Ev.bind this (Ev.pure _)
  | false => rw [ha] at this; exact Ev.bind this (Ev.pure _)
theorem isKey_ev (s : ByteArray) : Ev (fun k => impl_isKey.F k s) (keyB s) := by
  unfold impl_isKey.F keyB
  refine Ev.bind0 (inside_ev _ _ _) (and_step fun h => ?_)
  obtain ⟨h1, h2⟩ := ins_le h
  simp (disch := omega) only [cpos, show (0 : Int).toNat = 0 from rfl]
  refine Ev.bind0 (iLower _) (and_step fun _ => ?_)
  have := isKey_l0 s (by omega)
  cases ha : (List.range' 0 s.size).all (kb s) with
  | true => rw [ha] at this; exact Ev.bind this (Ev.pure _)
  | false => rw [ha] at this; exact Ev.bind this (Ev.pure _)

/-! ### Words of names -/
def wp (s : ByteArray) (i : Nat) : Bool := ltr (bt s i) || ((bt s i == 45 || bt s i == 39) && ltr (bt s (i - 1)))
def wordB (s : ByteArray) : Bool := ins s.size 1 12 && (ltr (bt s 0) && (ltr (bt s (s.size - 1)) && (List.range' 1 (s.size - 1)).all (wp s)))
theorem wcase {s : ByteArray} {i : Nat} (h : ltr (bt s i) = false) (h1 : bt s i ≠ 45) (h2 : bt s i ≠ 39) : wp s i = false := by
  unfold wp
  rw [h, show (bt s i == 45) = false by simpa using h1, show (bt s i == 39) = false by simpa using h2]; rfl
theorem wcase' {s : ByteArray} {i : Nat} (h : ltr (bt s i) = false) (h1 : bt s i = 45 ∨ bt s i = 39) : wp s i = ltr (bt s (i - 1)) := by
  unfold wp
  rw [h]
  rcases h1 with h1 | h1 <;> rw [h1] <;> simp
theorem specWord_l0 (s : ByteArray) (hs : s.size ≤ 12) : ∀ m i : Nat, i + m = s.size → 1 ≤ i → Ev (fun k => spec_l2Word.l0 k s i) (if (List.range' i m).all (wp s) = true then .inr () else .inl false)
  | 0, i, h, h1 => by
    refine Ev.step (fun k => by rw [spec_l2Word.l0]) ?_
    simp (disch := omega) only [cneg]
    exact Ev.pure _
  | m + 1, i, h, h1 => by
    have ih := specWord_l0 s hs m (i + 1) (by omega) (by omega)
    have et : ((i : Int) - 1).toNat = i - 1 := by omega
    refine Ev.step (fun k => by rw [spec_l2Word.l0]) ?_
    rw [List.range'_succ, List.all_cons]
    simp (disch := omega) only [cpos, Int.toNat_natCast]
    refine Ev.bind0 (sLetter _) ?_
    cases hl : ltr (bt s i) with
    | true =>
      have : wp s i = true := by unfold wp; rw [hl]; rfl
      rw [this]
      simp (disch := omega) only [Bool.not_true, cond_false, Bool.true_and, wrap_in]
      exact ih
    | false =>
      have fin : (bt s i = 45 ∨ bt s i = 39) → Ev (fun k => (spec_l2Letter.F (bt s (i - 1))).bind fun r5 => bif (!r5) then (some (.inl false)) else (spec_l2Word.l0 k s ((i : Int) + 1))) (if (wp s i && (List.range' (i + 1) m).all (wp s)) = true then .inr () else .inl false) := fun hh => by
        refine Ev.bind0 (sLetter _) ?_
        rw [wcase' hl hh]
        cases ltr (bt s (i - 1)) with
        | true => exact ih
        | false => exact Ev.pure _
      by_cases c1 : bt s i = 45
      · simp (disch := first | exact c1 | omega) only [Bool.not_false, cond_true, cpos, cbeq, wrap_in, et]
        exact fin (.inl c1)
      · by_cases c2 : bt s i = 39
        · simp (disch := first | exact c1 | exact c2 | omega) only [Bool.not_false, cond_true, cpos, cbne, cbeq, wrap_in, et]
          exact fin (.inr c2)
        · rw [wcase hl c1 c2]
          simp (disch := first | exact c1 | exact c2 | omega) only [Bool.not_false, cond_true, cpos, cbne]
          exact Ev.pure _
theorem isWord_l0 (s : ByteArray) (hs : s.size ≤ 12) : ∀ m i : Nat, i + m = s.size → 1 ≤ i → Ev (fun k => impl_isNameWord.l0 k s i) (if (List.range' i m).all (wp s) = true then .inr () else .inl false)
  | 0, i, h, h1 => by
    refine Ev.step (fun k => by rw [impl_isNameWord.l0]) ?_
    simp (disch := omega) only [cneg]
    exact Ev.pure _
  | m + 1, i, h, h1 => by
    have ih := isWord_l0 s hs m (i + 1) (by omega) (by omega)
    have et : ((i : Int) - 1).toNat = i - 1 := by omega
    refine Ev.step (fun k => by rw [impl_isNameWord.l0]) ?_
    rw [List.range'_succ, List.all_cons]
    simp (disch := omega) only [cpos, Int.toNat_natCast]
    refine Ev.bind0 (iLetter _) ?_
    cases hl : ltr (bt s i) with
    | true =>
      have : wp s i = true := by unfold wp; rw [hl]; rfl
      rw [this]
      simp (disch := omega) only [Bool.not_true, cond_false, Bool.true_and, wrap_in]
      exact ih
    | false =>
      have fin : (bt s i = 45 ∨ bt s i = 39) → Ev (fun k => (impl_isLetter.F (bt s (i - 1))).bind fun r5 => bif (!r5) then (some (.inl false)) else (impl_isNameWord.l0 k s ((i : Int) + 1))) (if (wp s i && (List.range' (i + 1) m).all (wp s)) = true then .inr () else .inl false) := fun hh => by
        refine Ev.bind0 (iLetter _) ?_
        rw [wcase' hl hh]
        cases ltr (bt s (i - 1)) with
        | true => exact ih
        | false => exact Ev.pure _
      by_cases c1 : bt s i = 45
      · simp (disch := first | exact c1 | omega) only [Bool.not_false, cond_true, cpos, cbeq, wrap_in, et]
        exact fin (.inl c1)
      · by_cases c2 : bt s i = 39
        · simp (disch := first | exact c1 | exact c2 | omega) only [Bool.not_false, cond_true, cpos, cbne, cbeq, wrap_in, et]
          exact fin (.inr c2)
        · rw [wcase hl c1 c2]
          simp (disch := first | exact c1 | exact c2 | omega) only [Bool.not_false, cond_true, cpos, cbne]
          exact Ev.pure _
theorem specWord_ev (s : ByteArray) : Ev (fun k => spec_l2Word.F k s) (wordB s) := by
  unfold spec_l2Word.F wordB
  refine Ev.bind0 (in_ev _ _ _) (and_step fun h => ?_)
  obtain ⟨h1, h2⟩ := ins_le h
  have et : ((s.size : Int) - 1).toNat = s.size - 1 := by omega
  simp (disch := omega) only [cpos, show (0 : Int).toNat = 0 from rfl, wrap_in, et]
  refine Ev.bind0 (sLetter _) (and_step fun _ => ?_)
  refine Ev.bind0 (sLetter _) (and_step fun _ => ?_)
  have := specWord_l0 s (by omega) (s.size - 1) 1 (by omega) (Nat.le_refl _)
  cases ha : (List.range' 1 (s.size - 1)).all (wp s) with
  | true => rw [ha] at this; exact Ev.bind this (Ev.pure _)
  | false => rw [ha] at this; exact Ev.bind this (Ev.pure _)
theorem isWord_ev (s : ByteArray) : Ev (fun k => impl_isNameWord.F k s) (wordB s) := by
  unfold impl_isNameWord.F wordB
  refine Ev.bind0 (inside_ev _ _ _) (and_step fun h => ?_)
  obtain ⟨h1, h2⟩ := ins_le h
  have et : ((s.size : Int) - 1).toNat = s.size - 1 := by omega
  simp (disch := omega) only [cpos, show (0 : Int).toNat = 0 from rfl, wrap_in, et]
  refine (Ev.bind0 (iLetter _) (and_step (c := ltr (bt s 0) && (List.range' 1 (s.size - 1)).all (wp s)) fun _ => ?_)).eq (Bool.and_left_comm _ _ _)
  refine Ev.bind0 (iLetter _) (and_step fun h0 => ?_)
  have := isWord_l0 s (by omega) (s.size - 1) 1 (by omega) (Nat.le_refl _)
  refine Ev.bind (a := if (List.range' 1 (s.size - 1)).all (wp s) = true then .inr () else .inl false) ?_ ?_
  · refine Ev.step (fun k => by rw [impl_isNameWord.l0]) ?_
    simp (disch := omega) only [cpos, show (0 : Int).toNat = 0 from rfl]
    refine Ev.bind0 (iLetter _) ?_
    rw [h0]
    simp (disch := omega) only [Bool.not_true, cond_false, wrap_in]
    exact this
  · cases (List.range' 1 (s.size - 1)).all (wp s) <;> exact Ev.pure _

/-! ### Particles -/
def lowA (s : ByteArray) : Bool := (List.range' 0 s.size).all fun i => lowc (bt s i)
theorem lowA_word {s : ByteArray} (h : lowA s = true) : wordB s = ins s.size 1 12 := by
  unfold lowA at h
  rw [List.all_eq_true] at h
  have hl : ∀ i, i < s.size → ltr (bt s i) = true := fun i hi => by
    unfold ltr
    rw [h i (by rw [List.mem_range'_1]; omega), Bool.or_true]
  unfold wordB
  cases hi : ins s.size 1 12 with
  | false => rfl
  | true =>
    obtain ⟨h1, h2⟩ := ins_le hi
    rw [hl 0 (by omega), hl (s.size - 1) (by omega)]
    have : (List.range' 1 (s.size - 1)).all (wp s) = true := by
      rw [List.all_eq_true]
      intro i hi
      rw [List.mem_range'_1] at hi
      unfold wp
      rw [hl i (by omega)]; rfl
    rw [this]; rfl
def pw (s : ByteArray) : Bool := ins s.size 1 12 && lowA s
theorem pw_eq (s : ByteArray) : (wordB s && lowA s) = pw s := by
  unfold pw
  cases h : lowA s with
  | false => rw [Bool.and_false, Bool.and_false]
  | true => rw [lowA_word h]
def particleB (s : ByteArray) : Bool := decide (s.size = 0) || ((words s).all pw && decide ((words s).length ≤ 2))
theorem empty_eq (s : ByteArray) : beqS s ⟨#[]⟩ = decide (s.size = 0) := by
  rw [← Bool.not_not (b := beqS s ⟨#[]⟩), size_pos]
  by_cases hz : s.size = 0
  · simp [hz]
  · rw [decide_eq_true (by omega : 0 < s.size), decide_eq_false hz]; rfl
theorem specPart_l2 (W : List ByteArray) (i : Nat) (hi : i < W.length) (hs : W[i].size ≤ 1048576) : Ev (fun k => spec_l2Particle.l2 k W i ((0 : Nat) : Int)) (if lowA W[i] = true then .inr (W, (i : Int)) else .inl false) := by
  refine loop_all (f := fun k j => spec_l2Particle.l2 k W i j) (n := W[i].size) (p := fun j => lowc (bt W[i] j)) (fun j hj hp => ?_) (fun j r hj hp ih => ?_) ?_ W[i].size 0 (by omega)
  · refine Ev.step (fun k => by rw [spec_l2Particle.l2]) ?_
    simp (disch := omega) only [cpos, Int.toNat_natCast, getD_at hi]
    refine Ev.bind0 (sLower _) ?_
    rw [hp]
    exact Ev.pure _
  · refine Ev.step (fun k => by rw [spec_l2Particle.l2]) ?_
    simp (disch := omega) only [cpos, Int.toNat_natCast, getD_at hi]
    refine Ev.bind0 (sLower _) ?_
    rw [hp]
    simp (disch := omega) only [Bool.not_true, cond_false, wrap_in]
    exact ih
  · refine Ev.step (fun k => by rw [spec_l2Particle.l2]) ?_
    simp (disch := omega) only [cpos, cneg, Int.toNat_natCast, getD_at hi]
    exact Ev.pure _
theorem isPart_l2 (W : List ByteArray) (w : ByteArray) (n i : Int) (hs : w.size ≤ 1048576) : Ev (fun k => impl_isParticle.l2 k W w ((0 : Nat) : Int) n i) (if lowA w = true then .inr (W, n, i) else .inl false) := by
  refine loop_all (f := fun k j => impl_isParticle.l2 k W w j n i) (n := w.size) (p := fun j => lowc (bt w j)) (fun j hj hp => ?_) (fun j r hj hp ih => ?_) ?_ w.size 0 (by omega)
  · refine Ev.step (fun k => by rw [impl_isParticle.l2]) ?_
    simp (disch := omega) only [cpos, Int.toNat_natCast]
    refine Ev.bind0 (iLower _) ?_
    rw [hp]
    exact Ev.pure _
  · refine Ev.step (fun k => by rw [impl_isParticle.l2]) ?_
    simp (disch := omega) only [cpos, Int.toNat_natCast]
    refine Ev.bind0 (iLower _) ?_
    rw [hp]
    simp (disch := omega) only [Bool.not_true, cond_false, wrap_in]
    exact ih
  · refine Ev.step (fun k => by rw [impl_isParticle.l2]) ?_
    simp (disch := omega) only [cneg]
    exact Ev.pure _
theorem specPart_l0 (W : List ByteArray) (hl : W.length ≤ 1048577) (hW : ∀ x ∈ W, x.size ≤ 1048576) : Ev (fun k => spec_l2Particle.l0 k W ((0 : Nat) : Int)) (if (List.range' 0 W.length).all (fun i => pw (W.getD i ⟨#[]⟩)) = true then .inr W else .inl false) := by
  refine loop_all (f := fun k j => spec_l2Particle.l0 k W j) (n := W.length) (p := fun i => pw (W.getD i ⟨#[]⟩)) (fun j hj hp => ?_) (fun j r hj hp ih => ?_) ?_ W.length 0 (by omega)
  · rw [getD_at hj, ← pw_eq] at hp
    refine Ev.step (fun k => by rw [spec_l2Particle.l0]) ?_
    simp (disch := omega) only [cpos, Int.toNat_natCast, getD_at hj]
    refine Ev.bind (specWord_ev _) ?_
    cases hw : wordB W[j] with
    | false => exact Ev.pure _
    | true =>
      rw [hw, Bool.true_and] at hp
      have := specPart_l2 W j hj (hW _ (List.getElem_mem hj))
      rw [hp] at this
      exact Ev.bind this (Ev.pure _)
  · rw [getD_at hj, ← pw_eq, Bool.and_eq_true] at hp
    refine Ev.step (fun k => by rw [spec_l2Particle.l0]) ?_
    simp (disch := omega) only [cpos, Int.toNat_natCast, getD_at hj]
    refine Ev.bind (specWord_ev _) ?_
    rw [hp.1]
    have := specPart_l2 W j hj (hW _ (List.getElem_mem hj))
    rw [hp.2] at this
    refine Ev.bind (a := .inr (W, (j : Int))) this ?_
    simp (disch := omega) only [wrap_in]
    exact ih
  · refine Ev.step (fun k => by rw [spec_l2Particle.l0]) ?_
    simp (disch := omega) only [cneg]
    exact Ev.pure _
theorem isPart_l0 (W : List ByteArray) (hl : W.length ≤ 1048577) (hW : ∀ x ∈ W, x.size ≤ 1048576) : Ev (fun k => impl_isParticle.l0 k W W.length ((0 : Nat) : Int)) (if (List.range' 0 W.length).all (fun i => pw (W.getD i ⟨#[]⟩)) = true then .inr W else .inl false) := by
  refine loop_all (f := fun k j => impl_isParticle.l0 k W W.length j) (n := W.length) (p := fun i => pw (W.getD i ⟨#[]⟩)) (fun j hj hp => ?_) (fun j r hj hp ih => ?_) ?_ W.length 0 (by omega)
  · rw [getD_at hj] at hp
    unfold pw at hp
    refine Ev.step (fun k => by rw [impl_isParticle.l0]) ?_
    simp (disch := omega) only [cpos, Int.toNat_natCast, getD_at hj]
    refine Ev.bind0 (inside_ev _ _ _) ?_
    cases hw : ins W[j].size 1 12 with
    | false =>
      unfold ins at hw
      rw [hw]
      exact Ev.pure _
    | true =>
      rw [hw, Bool.true_and] at hp
      unfold ins at hw
      rw [hw]
      have := isPart_l2 W W[j] W.length j (hW _ (List.getElem_mem hj))
      rw [hp] at this
      exact Ev.bind this (Ev.pure _)
  · rw [getD_at hj] at hp
    unfold pw at hp
    rw [Bool.and_eq_true] at hp
    obtain ⟨hp1, hp2⟩ := hp
    unfold ins at hp1
    refine Ev.step (fun k => by rw [impl_isParticle.l0]) ?_
    simp (disch := omega) only [cpos, Int.toNat_natCast, getD_at hj]
    refine Ev.bind0 (inside_ev _ _ _) ?_
    rw [hp1]
    have := isPart_l2 W W[j] W.length j (hW _ (List.getElem_mem hj))
    rw [hp2] at this
    refine Ev.bind (a := .inr (W, (W.length : Int), (j : Int))) this ?_
    simp (disch := omega) only [wrap_in]
    exact ih
  · refine Ev.step (fun k => by rw [impl_isParticle.l0]) ?_
    simp (disch := omega) only [cneg]
    exact Ev.pure _
theorem specPart_ev (s : ByteArray) (hs : s.size ≤ 1048576) : Ev (fun k => spec_l2Particle.F k s) (particleB s) := by
  unfold spec_l2Particle.F particleB
  rw [empty_eq]
  cases decide (s.size = 0) with
  | true => exact Ev.pure _
  | false =>
    refine Ev.bind (specSplit_ev s hs) ?_
    have := specPart_l0 (words s) (by have := (words_len s).2; omega) (fun x hx => by have := words_small _ _ x hx; omega)
    rw [range_all (words s) ⟨#[]⟩ pw] at this
    rw [Bool.false_or]
    cases ha : (words s).all pw with
    | true =>
      rw [ha] at this
      refine Ev.bind this ((Ev.pure _).eq ?_)
      rw [Bool.true_and]; exact decide_eq_decide.2 (by omega)
    | false => rw [ha] at this; exact Ev.bind this (Ev.pure _)
theorem isPart_ev (s : ByteArray) (hs : s.size ≤ 1048576) : Ev (fun k => impl_isParticle.F k s) (particleB s) := by
  unfold impl_isParticle.F particleB
  rw [empty_eq]
  cases decide (s.size = 0) with
  | true => exact Ev.pure _
  | false =>
    refine Ev.bind0 (split_ev s hs) ?_
    have := isPart_l0 (words s) (by have := (words_len s).2; omega) (fun x hx => by have := words_small _ _ x hx; omega)
    rw [range_all (words s) ⟨#[]⟩ pw] at this
    rw [Bool.false_or]
    cases ha : (words s).all pw with
    | true =>
      rw [ha] at this
      refine Ev.bind this ((Ev.pure _).eq ?_)
      rw [Bool.true_and]; exact decide_eq_decide.2 (by omega)
    | false => rw [ha] at this; exact Ev.bind this (Ev.pure _)

/-! ### Names -/
def gw (s : ByteArray) : Bool := wordB s && upc (bt s 0)
theorem word_size {s : ByteArray} (h : wordB s = true) : 1 ≤ s.size := by
  unfold wordB at h
  rw [Bool.and_eq_true] at h
  have := (ins_le h.1).1
  omega
theorem isGreat_ev (s : ByteArray) : Ev (fun k => impl_isGreatWord.F k s) (gw s) := by
  unfold impl_isGreatWord.F gw
  refine Ev.bind (isWord_ev s) (and_step' fun h => ?_)
  have := word_size h
  simp (disch := omega) only [cpos, show (0 : Int).toNat = 0 from rfl]
  exact Ev.bind0 (iUpper _) (Ev.pure _)
def suffB (s : ByteArray) : Bool := decide (s.size = 0) || wordB s
def nameB (n : Name) : Bool := n.given.all gw && (decide (n.given.length ≤ 3) && (particleB n.particle && (gw n.family && suffB n.suffix)))
theorem specGood_l0 (n : Name) (hn : n.given.length ≤ 1048576) : Ev (fun k => spec_l2Good.l0 k n ((0 : Nat) : Int)) (if (List.range' 0 n.given.length).all (fun i => gw (n.given.getD i ⟨#[]⟩)) = true then .inr n else .inl false) := by
  refine loop_all (f := fun k j => spec_l2Good.l0 k n j) (n := n.given.length) (p := fun i => gw (n.given.getD i ⟨#[]⟩)) (fun j hj hp => ?_) (fun j r hj hp ih => ?_) ?_ n.given.length 0 (by omega)
  · rw [getD_at hj] at hp
    unfold gw at hp
    refine Ev.step (fun k => by rw [spec_l2Good.l0]) ?_
    simp (disch := omega) only [cpos, Int.toNat_natCast, getD_at hj]
    refine Ev.bind (specWord_ev _) ?_
    cases hw : wordB n.given[j] with
    | false => exact Ev.pure _
    | true =>
      rw [hw, Bool.true_and] at hp
      have := word_size hw
      simp (disch := omega) only [cpos, show (0 : Int).toNat = 0 from rfl, Bool.not_true, cond_false]
      refine Ev.bind0 (sUpper _) ?_
      rw [hp]
      exact Ev.pure _
  · rw [getD_at hj] at hp
    unfold gw at hp
    rw [Bool.and_eq_true] at hp
    have := word_size hp.1
    refine Ev.step (fun k => by rw [spec_l2Good.l0]) ?_
    simp (disch := omega) only [cpos, Int.toNat_natCast, getD_at hj]
    refine Ev.bind (specWord_ev _) ?_
    rw [hp.1]
    simp (disch := omega) only [cpos, show (0 : Int).toNat = 0 from rfl, Bool.not_true, cond_false]
    refine Ev.bind0 (sUpper _) ?_
    rw [hp.2]
    simp (disch := omega) only [Bool.not_true, cond_false, wrap_in]
    exact ih
  · refine Ev.step (fun k => by rw [spec_l2Good.l0]) ?_
    simp (disch := omega) only [cneg]
    exact Ev.pure _
theorem specName_ev (n : Name) (hs : smallN n) : Ev (fun k => spec_l2Good.F k n) (nameB n) := by
  have hg : n.given.length ≤ 1048576 := by unfold smallN totN at hs; omega
  have hp : n.particle.size ≤ 1048576 := by unfold smallN totN at hs; omega
  unfold spec_l2Good.F nameB
  have := specGood_l0 n hg
  rw [range_all n.given ⟨#[]⟩ gw] at this
  cases ha : n.given.all gw with
  | false => rw [ha] at this; exact Ev.bind this (Ev.pure _)
  | true =>
    rw [ha] at this
    refine Ev.bind (a := .inr n) this ?_
    dsimp only
    rw [Bool.true_and, show decide (n.given.length ≤ 3) = decide ((n.given.length : Int) ≤ 3) from decide_eq_decide.2 (by omega)]
    refine and_step' fun _ => ?_
    refine Ev.bind (specPart_ev _ hp) (and_step' fun _ => ?_)
    unfold gw
    rw [Bool.and_assoc]
    refine Ev.bind (specWord_ev _) (and_step' fun h => ?_)
    have := word_size h
    simp (disch := omega) only [cpos, show (0 : Int).toNat = 0 from rfl]
    refine Ev.bind0 (sUpper _) (and_step' fun _ => ?_)
    unfold suffB
    rw [empty_eq]
    cases decide (n.suffix.size = 0) with
    | true => exact Ev.pure _
    | false => exact Ev.bind (specWord_ev _) (Ev.pure _)
theorem isName_ev (n : Name) (hs : smallN n) : Ev (fun k => impl_IsValidName.F k n) (nameB n) := by
  have hg : n.given.length ≤ 1048576 := by unfold smallN totN at hs; omega
  have hp : n.particle.size ≤ 1048576 := by unfold smallN totN at hs; omega
  unfold impl_IsValidName.F nameB
  by_cases c : n.given.length ≤ 3
  · simp (disch := omega) only [cneg, dpos, Bool.true_and]
    have hq : ∀ x, x ∈ n.given → Ev (fun k => impl_IsValidName_1.F k x) (!gw x) := fun x _ => by
      unfold impl_IsValidName_1.F
      exact Ev.bind (isGreat_ev x) (Ev.pure _)
    obtain ⟨r, h1, h2⟩ := idx_ev (d := (⟨#[]⟩ : ByteArray)) (p := fun x => !gw x) (q := impl_IsValidName_1.F) (xs := n.given) (l0 := slices_IndexFunc_string_f201.l0) (fun k x0 x7 x8 => by rw [slices_IndexFunc_string_f201.l0]) hq (by omega) (F := slices_IndexFunc_string_f201.F) (fun k a0 => rfl)
    refine Ev.bind (a := !n.given.all gw) ?_ ?_
    · unfold slices_ContainsFunc_string_f201.F
      refine Ev.bind h1 ((Ev.pure _).eq ?_)
      rcases h2 with ⟨rfl, h2⟩ | ⟨j, rfl, hj, hp, _⟩
      · have : n.given.all gw = true := List.all_eq_true.2 fun x hx => by have := h2 x hx; simpa using this
        rw [this]; rfl
      · have : n.given.all gw = false := by
          rw [List.all_eq_false]
          refine ⟨n.given[j], List.getElem_mem hj, ?_⟩
          rw [getD_at hj] at hp
          simpa using hp
        rw [this, decide_eq_true (by omega)]; rfl
    · cases n.given.all gw with
      | false => exact Ev.pure _
      | true =>
        rw [Bool.true_and]
        refine Ev.bind (isPart_ev _ hp) (and_step' fun _ => ?_)
        refine Ev.bind (isGreat_ev _) (and_step' fun _ => ?_)
        unfold suffB
        rw [empty_eq]
        cases decide (n.suffix.size = 0) with
        | true => exact Ev.pure _
        | false => exact Ev.bind (isWord_ev _) (Ev.pure _)
  · simp (disch := omega) only [cpos, dneg, Bool.false_and, Bool.and_false]
    exact Ev.pure _
def namesB (l : List Name) : Bool := l.all nameB && decide (l.length ≤ 4)
theorem specList_l0 (l : List Name) (hl : l.length ≤ 1048576) (hs : ∀ n ∈ l, smallN n) : ∀ m i : Nat, i + m = l.length → ∃ r, Ev (fun k => spec_l2List.l0 k l i) r ∧ (r = .inl false ∨ r = .inr l) ∧ (l.length ≤ 4 → r = if (l.drop i).all nameB = true then .inr l else .inl false)
  | 0, i, h => by
    refine ⟨.inr l, Ev.step (fun k => by rw [spec_l2List.l0]) ?_, .inr rfl, fun _ => by rw [List.drop_eq_nil_of_le (by omega)]; rfl⟩
    simp (disch := omega) only [cneg]
    exact Ev.pure _
  | m + 1, i, h => by
    have hi : i < l.length := by omega
    by_cases c4 : (i : Int) ≤ 4
    · cases hn : nameB l[i] with
      | false =>
        refine ⟨.inl false, Ev.step (fun k => by rw [spec_l2List.l0]) ?_, .inl rfl, fun _ => by rw [List.drop_eq_getElem_cons hi, List.all_cons, hn]; rfl⟩
        simp (disch := omega) only [cpos, Int.toNat_natCast, getD_at hi]
        refine Ev.bind (specName_ev _ (hs _ (List.getElem_mem hi))) ?_
        rw [hn]
        exact Ev.pure _
      | true =>
        obtain ⟨r, h1, h2, h3⟩ := specList_l0 l hl hs m (i + 1) (by omega)
        refine ⟨r, Ev.step (fun k => by rw [spec_l2List.l0]) ?_, h2, fun h4 => by rw [h3 h4, List.drop_eq_getElem_cons hi, List.all_cons, hn, Bool.true_and]⟩
        simp (disch := omega) only [cpos, Int.toNat_natCast, getD_at hi]
        refine Ev.bind (specName_ev _ (hs _ (List.getElem_mem hi))) ?_
        rw [hn]
        simp (disch := omega) only [Bool.not_true, cond_false, wrap_in]
        exact h1
    · refine ⟨.inr l, Ev.step (fun k => by rw [spec_l2List.l0]) ?_, .inr rfl, fun h4 => by omega⟩
      simp (disch := omega) only [cpos, cneg]
      exact Ev.pure _
theorem specNames_ev (l : List Name) (hl : totNs l ≤ 1048576) : Ev (fun k => spec_l2List.F k l) (namesB l) := by
  unfold spec_l2List.F namesB
  obtain ⟨r, h1, h2, h3⟩ := specList_l0 l (smallNs_len hl) (fun n hn => smallNs_at hl hn) l.length 0 (by omega)
  rw [List.drop_zero] at h3
  have e : decide (l.length ≤ 4) = decide ((l.length : Int) ≤ 4) := decide_eq_decide.2 (by omega)
  rw [e]
  by_cases c : l.length ≤ 4
  · rw [h3 c] at h1
    cases ha : l.all nameB with
    | true => rw [ha] at h1; exact Ev.bind h1 (Ev.pure _)
    | false => rw [ha] at h1; exact Ev.bind h1 (Ev.pure _)
  · rw [decide_eq_false (show ¬ (l.length : Int) ≤ 4 by omega), Bool.and_false]
    rcases h2 with rfl | rfl
    · exact Ev.bind h1 (Ev.pure _)
    · exact Ev.bind h1 ((Ev.pure _).eq (decide_eq_false (by omega)))
theorem areNames_ev (l : List Name) (hl : totNs l ≤ 1048576) : Ev (fun k => impl_areNames.F k l) (namesB l) := by
  have hlen := smallNs_len hl
  unfold impl_areNames.F namesB
  by_cases c : l.length ≤ 4
  · simp (disch := omega) only [cpos, dpos, Bool.and_true]
    have hq : ∀ x, x ∈ l → Ev (fun k => impl_areNames_1.F k x) (!nameB x) := fun x hx => by
      unfold impl_areNames_1.F
      exact Ev.bind (isName_ev x (smallNs_at hl hx)) (Ev.pure _)
    obtain ⟨r, h1, h2⟩ := idx_ev (d := (dflt .name : Name)) (p := fun x => !nameB x) (q := impl_areNames_1.F) (xs := l) (l0 := slices_IndexFunc_Name_f180.l0) (fun k x0 x7 x8 => by rw [slices_IndexFunc_Name_f180.l0]) hq (by omega) (F := slices_IndexFunc_Name_f180.F) (fun k a0 => rfl)
    refine Ev.bind (a := !l.all nameB) ?_ ?_
    · unfold slices_ContainsFunc_Name_f180.F
      refine Ev.bind h1 ((Ev.pure _).eq ?_)
      rcases h2 with ⟨rfl, h2⟩ | ⟨j, rfl, hj, hp, _⟩
      · have : l.all nameB = true := List.all_eq_true.2 fun x hx => by have := h2 x hx; simpa using this
        rw [this]; rfl
      · have : l.all nameB = false := by
          rw [List.all_eq_false]
          refine ⟨l[j], List.getElem_mem hj, ?_⟩
          rw [getD_at hj] at hp
          simpa using hp
        rw [this, decide_eq_true (by omega)]; rfl
    · rw [Bool.not_not]; exact Ev.pure _
  · simp (disch := omega) only [cneg, dneg, Bool.and_false]
    exact Ev.pure _

/-! ### Dates -/
theorem days_eq (y m : Int) (hy : 0 ≤ y) : ∃ r, spec_l3Days.F y m = some r ∧ impl_daysInMonth.F y m = some r := by
  have e1 : Int.tmod y 4 = y % 4 := Int.tmod_eq_emod_of_nonneg hy
  have e2 : Int.tmod y 100 = y % 100 := Int.tmod_eq_emod_of_nonneg hy
  have e3 : Int.tmod y 400 = y % 400 := Int.tmod_eq_emod_of_nonneg hy
  have z1 : ((4 : Nat) == 0) = false := rfl
  have z2 : ((100 : Nat) == 0) = false := rfl
  have z3 : ((400 : Nat) == 0) = false := rfl
  unfold spec_l3Days.F impl_daysInMonth.F
  rw [e1, e2, e3]
  by_cases c2 : m = 2
  · by_cases d1 : y % 4 = 0
    · by_cases d2 : y % 100 = 0
      · by_cases d3 : y % 400 = 0
        · exact ⟨29, by simp (disch := first | assumption | omega) only [ceq, cbeq, z1, z2, z3, cond_false], by simp (disch := first | assumption | omega) only [ceq, cbeq, z1, z2, z3, cond_false]⟩
        · exact ⟨28, by simp (disch := first | assumption | omega) only [ceq, cne, cbeq, z1, z2, z3, cond_false], by simp (disch := first | assumption | omega) only [ceq, cne, cbeq, z1, z2, z3, cond_false]⟩
      · exact ⟨29, by simp (disch := first | assumption | omega) only [ceq, cbne, z1, z2, z3, cond_false], by simp (disch := first | assumption | omega) only [ceq, cbne, z1, z2, z3, cond_false]⟩
    · have d3 : y % 400 ≠ 0 := by omega
      exact ⟨28, by simp (disch := first | assumption | omega) only [ceq, cne, z1, z2, z3, cond_false], by simp (disch := first | assumption | omega) only [ceq, cne, z1, z2, z3, cond_false]⟩
  · by_cases a : m = 4
    · exact ⟨30, by simp (disch := first | assumption | omega) only [ceq, cne], by simp (disch := first | assumption | omega) only [ceq, cne]⟩
    · by_cases b : m = 6
      · exact ⟨30, by simp (disch := first | assumption | omega) only [ceq, cne], by simp (disch := first | assumption | omega) only [ceq, cne]⟩
      · by_cases c : m = 9
        · exact ⟨30, by simp (disch := first | assumption | omega) only [ceq, cne], by simp (disch := first | assumption | omega) only [ceq, cne]⟩
        · by_cases d : m = 11
          · exact ⟨30, by simp (disch := first | assumption | omega) only [ceq, cne], by simp (disch := first | assumption | omega) only [ceq, cne]⟩
          · exact ⟨31, by simp (disch := first | assumption | omega) only [cne], by simp (disch := first | assumption | omega) only [cne]⟩
theorem date_eq2 (d : Date) : ∃ b, spec_l3Good.F d = some b ∧ impl_IsValidDate.F d = some b := by
  unfold spec_l3Good.F impl_IsValidDate.F
  cases (d.y == 0 && (d.m == 0 && (d.d == 0 && d.c == false))) with
  | true => exact ⟨true, rfl, rfl⟩
  | false =>
    rw [in_ev, inside_ev]
    simp only [Option.bind_some, cond_false]
    cases h1 : (decide (d.y ≥ 1) && decide (d.y ≤ 2999)) with
    | false => exact ⟨false, rfl, rfl⟩
    | true =>
      have hy : 0 ≤ d.y := by
        simp only [Bool.and_eq_true, decide_eq_true_eq] at h1; omega
      rw [in_ev, inside_ev]
      simp only [Option.bind_some, Bool.not_true, cond_false]
      cases h2 : (decide (d.m ≥ 0) && decide (d.m ≤ 12)) with
      | false => exact ⟨false, rfl, rfl⟩
      | true =>
        obtain ⟨r, r1, r2⟩ := days_eq d.y d.m hy
        rw [r1, r2]
        simp only [Option.bind_some, Bool.not_true, cond_false, in_ev, inside_ev]
        cases d.c with
        | true =>
          by_cases c : d.m = 0
          · exact ⟨d.d == 0, by simp (disch := first | assumption | omega) only [cond_true, ceq], by simp (disch := first | assumption | omega) only [cond_true, ceq, cbeq]⟩
          · exact ⟨false, by simp (disch := first | assumption | omega) only [cond_true, cne], by simp (disch := first | assumption | omega) only [cond_true, cbne]⟩
        | false => exact ⟨bif d.m == 0 then (d.d == 0) else (decide (d.d ≥ 0) && decide (d.d ≤ r)), by cases (d.m == 0) <;> rfl, by cases (d.m == 0) <;> rfl⟩
open Classical in
noncomputable def dateB (d : Date) : Bool := (date_eq2 d).choose
theorem specDate_ev (d : Date) : spec_l3Good.F d = some (dateB d) := (date_eq2 d).choose_spec.1
theorem isDate_ev (d : Date) : impl_IsValidDate.F d = some (dateB d) := (date_eq2 d).choose_spec.2

/-! ### Entries -/
def insI (n lo hi : Int) : Bool := decide (n ≥ lo) && decide (n ≤ hi)
def crossB (e : Entry) : Bool := decide (e.cross.size = 0) || (keyB e.cross && !beqS e.cross e.key)
noncomputable def entryB (e : Entry) : Bool := keyB e.key && (insI e.kind 1 4 && (namesB e.authors && (namesB e.editors && (textB e.title && (textB e.container && (textB e.publisher && (textB e.pages && (dateB e.date && (insI e.volume 0 9999 && crossB e)))))))))
theorem specEntry_ev (e : Entry) (hs : smallE e) : Ev (fun k => spec_l4Entry.F k e) (entryB e) := by
  unfold spec_l4Entry.F entryB
  refine Ev.bind (specKey_ev _) (and_step fun _ => ?_)
  refine Ev.bind0 (in_ev _ _ _) (and_step fun _ => ?_)
  refine Ev.bind (specNames_ev _ (smallE_a hs)) (and_step fun _ => ?_)
  refine Ev.bind (specNames_ev _ (smallE_e hs)) (and_step fun _ => ?_)
  refine Ev.bind (specText_ev _) (and_step fun _ => ?_)
  refine Ev.bind (specText_ev _) (and_step fun _ => ?_)
  refine Ev.bind (specText_ev _) (and_step fun _ => ?_)
  refine Ev.bind (specText_ev _) (and_step fun _ => ?_)
  refine Ev.bind0 (specDate_ev _) (and_step' fun _ => ?_)
  refine Ev.bind0 (in_ev _ _ _) (and_step' fun _ => ?_)
  unfold crossB
  rw [empty_eq]
  cases decide (e.cross.size = 0) with
  | true => exact Ev.pure _
  | false =>
    refine (Ev.bind (specKey_ev _) (and_step' fun _ => ?_)).eq (Bool.false_or _).symm
    exact Ev.pure _
theorem isEntry_ev (e : Entry) (hs : smallE e) : Ev (fun k => impl_IsValidEntry.F k e) (entryB e) := by
  have key : Ev (fun k => impl_IsValidEntry.F k e) (keyB e.key && (insI e.kind 1 4 && (namesB e.authors && (namesB e.editors && (dateB e.date && (insI e.volume 0 9999 && (textB e.title && (textB e.container && (textB e.publisher && (textB e.pages && crossB e)))))))))) := by
    unfold impl_IsValidEntry.F
    refine Ev.bind (isKey_ev _) (and_step fun _ => ?_)
    refine Ev.bind0 (a := insI e.kind 1 4) ?_ (and_step fun _ => ?_)
    · unfold impl_isKind.F; rw [inside_ev]; rfl
    refine Ev.bind (areNames_ev _ (smallE_a hs)) (and_step fun _ => ?_)
    refine Ev.bind (areNames_ev _ (smallE_e hs)) (and_step fun _ => ?_)
    refine Ev.bind0 (isDate_ev _) (and_step fun _ => ?_)
    refine Ev.bind0 (inside_ev _ _ _) (and_step fun _ => ?_)
    refine Ev.bind (isText_ev _) (and_step' fun _ => ?_)
    refine Ev.bind (isText_ev _) (and_step' fun _ => ?_)
    refine Ev.bind (isText_ev _) (and_step' fun _ => ?_)
    refine Ev.bind (isText_ev _) (and_step' fun _ => ?_)
    unfold crossB
    rw [empty_eq]
    cases decide (e.cross.size = 0) with
    | true => exact Ev.pure _
    | false =>
      refine (Ev.bind (isKey_ev _) (and_step' fun _ => ?_)).eq (Bool.false_or _).symm
      exact Ev.pure _
  refine key.eq ?_
  unfold entryB
  ac_rfl

/-! ### Libraries -/
noncomputable def okL (l : Library) (i : Nat) : Bool := entryB (l.entries.getD i (dflt .entry)) && (decide (i = 0) || ltS (l.entries.getD (i - 1) (dflt .entry)).key (l.entries.getD i (dflt .entry)).key)
noncomputable def libB (l : Library) : Bool := (List.range' 0 l.entries.length).all (okL l) && decide (l.entries.length ≤ 8)
theorem specGoodL_l0 (l : Library) (hs : smallL l) : Ev (fun k => spec_l4Good.l0 k l ((0 : Nat) : Int)) (if (List.range' 0 l.entries.length).all (okL l) = true then .inr () else .inl false) := by
  have hlen := smallL_len hs
  refine loop_all (f := fun k i => spec_l4Good.l0 k l i) (n := l.entries.length) (fun i hi hp => ?_) (fun i r hi hp ih => ?_) ?_ l.entries.length 0 (by omega)
  · unfold okL at hp
    refine Ev.step (fun k => by rw [spec_l4Good.l0]) ?_
    have hsm : smallE (l.entries.getD i (dflt .entry)) := by rw [getD_at hi]; exact smallL_at hs (List.getElem_mem hi)
    simp (disch := omega) only [cpos, Int.toNat_natCast]
    refine Ev.bind (specEntry_ev _ hsm) ?_
    cases he : entryB (l.entries.getD i (dflt .entry)) with
    | false => exact Ev.pure _
    | true =>
      rw [he, Bool.true_and, Bool.or_eq_false_iff, decide_eq_false_iff_not] at hp
      have et : ((i : Int) - 1).toNat = i - 1 := by omega
      simp (disch := omega) only [Bool.not_true, cond_false, cpos, wrap_in, et, hp.2, Bool.not_false, cond_true]
      exact Ev.pure _
  · unfold okL at hp
    rw [Bool.and_eq_true] at hp
    refine Ev.step (fun k => by rw [spec_l4Good.l0]) ?_
    have hsm : smallE (l.entries.getD i (dflt .entry)) := by rw [getD_at hi]; exact smallL_at hs (List.getElem_mem hi)
    simp (disch := omega) only [cpos, Int.toNat_natCast]
    refine Ev.bind (specEntry_ev _ hsm) ?_
    rw [hp.1]
    by_cases c : i = 0
    · simp (disch := omega) only [Bool.not_true, cond_false, cneg, wrap_in]
      exact ih
    · have et : ((i : Int) - 1).toNat = i - 1 := by omega
      have h2 := hp.2
      rw [decide_eq_false c, Bool.false_or] at h2
      simp (disch := omega) only [Bool.not_true, cond_false, cpos, wrap_in, et, h2]
      exact ih
  · refine Ev.step (fun k => by rw [spec_l4Good.l0]) ?_
    simp (disch := omega) only [cneg]
    exact Ev.pure _
theorem isLib_l0 (l : Library) (hs : smallL l) : Ev (fun k => impl_IsValidLibrary.l0 k l l.entries l.entries.length ((0 : Nat) : Int)) (if (List.range' 0 l.entries.length).all (okL l) = true then .inr l else .inl false) := by
  have hlen := smallL_len hs
  refine loop_all (f := fun k i => impl_IsValidLibrary.l0 k l l.entries l.entries.length i) (n := l.entries.length) (fun i hi hp => ?_) (fun i r hi hp ih => ?_) ?_ l.entries.length 0 (by omega)
  · unfold okL at hp
    refine Ev.step (fun k => by rw [impl_IsValidLibrary.l0]) ?_
    have hsm : smallE (l.entries.getD i (dflt .entry)) := by rw [getD_at hi]; exact smallL_at hs (List.getElem_mem hi)
    simp (disch := omega) only [cpos, Int.toNat_natCast]
    refine Ev.bind (isEntry_ev _ hsm) ?_
    cases he : entryB (l.entries.getD i (dflt .entry)) with
    | false => exact Ev.pure _
    | true =>
      rw [he, Bool.true_and, Bool.or_eq_false_iff, decide_eq_false_iff_not] at hp
      have et : ((i : Int) - 1).toNat = i - 1 := by omega
      simp (disch := omega) only [Bool.not_true, cond_false, cpos, wrap_in, et, hp.2, Bool.not_false, cond_true]
      exact Ev.pure _
  · unfold okL at hp
    rw [Bool.and_eq_true] at hp
    refine Ev.step (fun k => by rw [impl_IsValidLibrary.l0]) ?_
    have hsm : smallE (l.entries.getD i (dflt .entry)) := by rw [getD_at hi]; exact smallL_at hs (List.getElem_mem hi)
    simp (disch := omega) only [cpos, Int.toNat_natCast]
    refine Ev.bind (isEntry_ev _ hsm) ?_
    rw [hp.1]
    by_cases c : i = 0
    · simp (disch := omega) only [Bool.not_true, cond_false, cneg, wrap_in]
      exact ih
    · have et : ((i : Int) - 1).toNat = i - 1 := by omega
      have h2 := hp.2
      rw [decide_eq_false c, Bool.false_or] at h2
      simp (disch := omega) only [Bool.not_true, cond_false, cpos, wrap_in, et, h2]
      exact ih
  · refine Ev.step (fun k => by rw [impl_IsValidLibrary.l0]) ?_
    simp (disch := omega) only [cneg]
    exact Ev.pure _
theorem specLib_ev (l : Library) (hs : smallL l) : Ev (fun k => spec_l4Good.F k l) (libB l) := by
  unfold spec_l4Good.F libB
  by_cases c : l.entries.length ≤ 8
  · simp (disch := omega) only [cneg, dpos, Bool.and_true]
    have := specGoodL_l0 l hs
    cases ha : (List.range' 0 l.entries.length).all (okL l) with
    | true => rw [ha] at this; exact Ev.bind this (Ev.pure _)
    | false => rw [ha] at this; exact Ev.bind this (Ev.pure _)
  · simp (disch := omega) only [cpos, dneg, Bool.and_false]
    exact Ev.pure _
theorem isLib_ev (l : Library) (hs : smallL l) : Ev (fun k => impl_IsValidLibrary.F k l) (libB l) := by
  unfold impl_IsValidLibrary.F libB
  have := isLib_l0 l hs
  cases ha : (List.range' 0 l.entries.length).all (okL l) with
  | true =>
    rw [ha] at this
    refine Ev.bind this ((Ev.pure _).eq ?_)
    rw [Bool.true_and]; exact decide_eq_decide.2 (by omega)
  | false => rw [ha] at this; exact Ev.bind this (Ev.pure _)
theorem libB_len {l : Library} (h : libB l = true) : l.entries.length ≤ 8 := by
  unfold libB at h
  rw [Bool.and_eq_true, decide_eq_true_eq] at h
  exact h.2
end Go.Proofs.YtnffgabfibafjaaDoor
end
section
/- Plain laws: an entry found by its key; its parent. -/
namespace Go.Proofs.YtnffgabfibafjaaDoor
open Go.Gx
set_option linter.unusedVariables false
set_option linter.unusedSimpArgs false

theorem find_l (l : Library) (key : ByteArray) (hl : l.entries.length ≤ 1048576) : ∀ n i : Nat, i + n = l.entries.length →
    ∃ r : Sum Int Unit, Ev (fun k => spec_l4Find.l0 k key l i) r ∧ Ev (fun k => slices_IndexFunc_Entry_f108.l0 k l.entries key l.entries.length i) r ∧ ∀ z, r = .inl z → 0 ≤ z ∧ z < l.entries.length
  | 0, i, h => by
    refine ⟨.inr (), Ev.step (fun k => by rw [spec_l4Find.l0]) ?_, Ev.step (fun k => by rw [slices_IndexFunc_Entry_f108.l0]) ?_, fun z hz => by cases hz⟩
    · simp (disch := omega) only [cneg]; exact Ev.pure _
    · simp (disch := omega) only [cneg]; exact Ev.pure _
  | n + 1, i, h => by
    have hi : i < l.entries.length := by omega
    have e1 : impl_entryIndex_1.F l.entries[i] key = some (beqS l.entries[i].key key) := rfl
    cases hb : beqS l.entries[i].key key with
    | true =>
      refine ⟨.inl i, Ev.step (fun k => by rw [spec_l4Find.l0]) ?_, Ev.step (fun k => by rw [slices_IndexFunc_Entry_f108.l0]) ?_, fun z hz => by cases hz; omega⟩
      · simp (disch := omega) only [cpos, Int.toNat_natCast, getD_at hi, hb, cond_true]
        exact Ev.pure _
      · simp (disch := omega) only [cpos, Int.toNat_natCast, getD_at hi]
        refine Ev.bind0 e1 ?_
        rw [hb]
        exact Ev.pure _
    | false =>
      obtain ⟨r, r1, r2, r3⟩ := find_l l key hl n (i + 1) (by omega)
      refine ⟨r, Ev.step (fun k => by rw [spec_l4Find.l0]) ?_, Ev.step (fun k => by rw [slices_IndexFunc_Entry_f108.l0]) ?_, r3⟩
      · simp (disch := omega) only [cpos, Int.toNat_natCast, getD_at hi, hb, cond_false, wrap_in]
        exact r1
      · simp (disch := omega) only [cpos, Int.toNat_natCast, getD_at hi]
        refine Ev.bind0 e1 ?_
        rw [hb]
        simp (disch := omega) only [cond_false, wrap_in]
        exact r2
theorem find_ev (l : Library) (key : ByteArray) (hl : l.entries.length ≤ 1048576) : ∃ r : Int, Ev (fun k => spec_l4Find.F k l key) r ∧ Ev (fun k => impl_entryIndex.F k l key) r ∧ -1 ≤ r ∧ r < l.entries.length := by
  obtain ⟨r, r1, r2, r3⟩ := find_l l key hl l.entries.length 0 (by omega)
  unfold spec_l4Find.F impl_entryIndex.F slices_IndexFunc_Entry_f108.F
  cases r with
  | inl z => exact ⟨z, Ev.bind r1 (Ev.pure _), Ev.bind (Ev.bind r2 (Ev.pure _)) (Ev.pure _), by have := r3 z rfl; omega, (r3 z rfl).2⟩
  | inr u => exact ⟨-1, Ev.bind r1 (Ev.pure _), Ev.bind (Ev.bind r2 (Ev.pure _)) (Ev.pure _), by omega, by omega⟩
theorem parent_ev (l : Library) (hl : l.entries.length ≤ 1048576) (i : Int) (h0 : 0 ≤ i) (h1 : i < l.entries.length) : ∃ r : Int, Ev (fun k => spec_l21Parent.F k l i) r ∧ Ev (fun k => impl_parentIndex.F k l i) r ∧ -1 ≤ r ∧ r < l.entries.length := by
  unfold spec_l21Parent.F impl_parentIndex.F
  cases hb : beqS (l.entries.getD i.toNat (dflt .entry)).cross ⟨#[]⟩ with
  | true =>
    refine ⟨-1, ?_, ?_, by omega, by omega⟩
    · simp (disch := omega) only [cpos, cond_true]; exact Ev.pure _
    · simp (disch := omega) only [cpos, cond_true]; exact Ev.pure _
  | false =>
    obtain ⟨r, r1, r2, r3⟩ := find_ev l (l.entries.getD i.toNat (dflt .entry)).cross hl
    refine ⟨r, ?_, ?_, r3⟩
    · simp (disch := omega) only [cpos, cond_false]; exact Ev.bind r1 (Ev.pure _)
    · simp (disch := omega) only [cpos, cond_false]; exact Ev.bind r2 (Ev.pure _)
end Go.Proofs.YtnffgabfibafjaaDoor
end
section
/- The plain law of ParentOf. -/
namespace Go.Proofs.YtnffgabfibafjaaDoor
open Go.Gx
set_option linter.unusedVariables false
set_option linter.unusedSimpArgs false

theorem parentOf_ev (l : Library) (hs : smallL l) (key : ByteArray) : ∃ r, Ev (fun k => spec_ParentOf.F k l key) r ∧ Ev (fun k => impl_ParentOf.F k l key) r := by
  have hl := smallL_len hs
  have v1 := specLib_ev l hs
  have v2 := isLib_ev l hs
  obtain ⟨i, i1, i2, i3, i4⟩ := find_ev l key hl
  unfold spec_ParentOf.F impl_ParentOf.F
  cases hv : libB l with
  | false =>
    rw [hv] at v1 v2
    refine ⟨(⟨#[]⟩, false, false), Ev.bind (a := false) ?_ (Ev.pure _), Ev.bind i2 (Ev.bind v2 (Ev.pure _))⟩
    unfold spec_l21Asked.F
    exact Ev.bind v1 (Ev.pure _)
  | true =>
    rw [hv] at v1 v2
    have ask : Ev (fun k => spec_l21Asked.F k l key) (decide (i ≥ 0)) := by
      unfold spec_l21Asked.F
      exact Ev.bind v1 (Ev.bind i1 (Ev.pure _))
    by_cases c : i < 0
    · rw [decide_eq_false (by omega)] at ask
      refine ⟨(⟨#[]⟩, false, false), Ev.bind ask (Ev.pure _), Ev.bind i2 (Ev.bind v2 ?_)⟩
      simp (disch := omega) only [Bool.not_true, cond_false, cpos]
      exact Ev.pure _
    · rw [decide_eq_true (by omega)] at ask
      obtain ⟨p, p1, p2, p3, p4⟩ := parent_ev l hl i (by omega) i4
      by_cases c2 : p < 0
      · refine ⟨(⟨#[]⟩, false, true), Ev.bind ask (Ev.bind i1 (Ev.bind p1 ?_)), Ev.bind i2 (Ev.bind v2 ?_)⟩
        · simp (disch := omega) only [cpos]; exact Ev.pure _
        · simp (disch := omega) only [Bool.not_true, cond_false, cneg]
          refine Ev.bind p2 ?_
          simp (disch := omega) only [cpos]; exact Ev.pure _
      · refine ⟨((l.entries.getD p.toNat (dflt .entry)).key, true, true), Ev.bind ask (Ev.bind i1 (Ev.bind p1 ?_)), Ev.bind i2 (Ev.bind v2 ?_)⟩
        · simp (disch := omega) only [cpos, cneg]; exact Ev.pure _
        · simp (disch := omega) only [Bool.not_true, cond_false, cneg]
          refine Ev.bind p2 ?_
          simp (disch := omega) only [cpos, cneg]; exact Ev.pure _
theorem parentOf_law (l : Library) (key : ByteArray) (hw : WF .lib l) (hwk : WF .str key) : ∃ k, laws_FnExactParentOf.F k l key = some true := by
  refine Ev.get (?_ : Ev (fun k => laws_FnExactParentOf.F k l key) true)
  unfold laws_FnExactParentOf.F
  by_cases c0 : (key.size : Int) > 1048576
  · simp (disch := omega) only [cpos]
    exact Ev.pure _
  simp (disch := omega) only [cneg]
  obtain ⟨r, h1, h2⟩ := szL_ev l 1048576 (by omega) (by omega) hw
  refine Ev.bind h1 ?_
  by_cases c : r < 0
  · simp (disch := omega) only [cpos]
    exact Ev.pure _
  simp (disch := omega) only [cneg]
  have hs : smallL l := by have := h2 (by omega); unfold smallL; omega
  obtain ⟨v, v1, v2⟩ := parentOf_ev l hs key
  refine Ev.bind (toL_ev l hs) (Ev.bind v1 (Ev.bind (toL_ev l hs) (Ev.bind v2 ?_)))
  simp only [beqS_self, beq_self_eq_true, Bool.not_true, cond_false]
  refine Ev.bind (toL_ev l hs) (Ev.bind (eqL_ev l hs) ?_)
  exact Ev.pure _
end Go.Proofs.YtnffgabfibafjaaDoor
end
