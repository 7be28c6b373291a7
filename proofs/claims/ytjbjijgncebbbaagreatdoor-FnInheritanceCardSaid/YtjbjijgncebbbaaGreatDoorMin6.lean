/- Plain laws: bytes, pieces, edges of a text; no function of the program. -/
import Derived.Test.YtjbjijgncebbbaaGreatDoorMin5
import Derived.Test.YtjbjijgncebbbaaGreatDoorMin3
import Derived.Lib.IndexBytes
import Derived.Lib.IndexLaws
import Derived.Lib.CountLaws
import Derived.Lib.Split
import Derived.Lib.SplitLaws
import Derived.Lib.TrimByte
import Derived.Lib.Join
section
namespace Go.Proofs.YtjbjijgncebbbaaGreatDoor
open Go.Gx
set_option linter.unusedVariables false
set_option maxRecDepth 100000
/-! ### 20 loop.example/g00896/impl.IsValidLibrary -/
def impl_IsValidLibrary.l0 : Nat → Library → (List Entry) → Int → Int → Option (Sum Bool Library)
  | 0, _, _, _, _ => none
  | k + 1, x1, x6, x7, x8 => bif (decide (x8 < x7)) then (bif decide (0 ≤ x8) then (bif decide (x8 < (x6.length : Int)) then ((impl_IsValidEntry.F k (x6.getD (x8 : Int).toNat (dflt .entry))).bind fun r1 => bif (!r1) then (some (.inl false)) else (bif (decide (x8 > 0)) then (bif decide (0 ≤ (IntKind.wrap .i64 (x8 - 1))) then (bif decide ((IntKind.wrap .i64 (x8 - 1)) < (x1.entries.length : Int)) then (bif (!ltS ((x1.entries.getD ((IntKind.wrap .i64 (x8 - 1)) : Int).toNat (dflt .entry)).key) ((x6.getD (x8 : Int).toNat (dflt .entry)).key)) then (some (.inl false)) else (impl_IsValidLibrary.l0 k x1 x6 x7 (IntKind.wrap .i64 (x8 + 1)))) else none) else none) else (impl_IsValidLibrary.l0 k x1 x6 x7 (IntKind.wrap .i64 (x8 + 1))))) else none) else none) else (some (.inr x1))
def impl_IsValidLibrary.F (k : Nat) (a0 : Library) : Option (Bool) := (impl_IsValidLibrary.l0 k a0 a0.entries (a0.entries.length : Int) 0).bind fun y2 => match y2 with | .inl z3 => some z3 | .inr z3 => some (decide ((z3.entries.length : Int) ≤ 8))
def impl_IsValidLibrary.C (k : Nat) : Cal → Option CArm := fun c => match c with
  | .f 14 => some (.p [.entry] _ (fun x => impl_IsValidEntry.F k x.1) (fun r => (.t .bool r)))
  | _ => none
def impl_IsValidLibrary.sp0 : List Sp := [.boxT 1 0 .lib, .t 6 (.sl .entry), .t 7 (.int .i64), .t 8 (.int .i64)]
def impl_IsValidLibrary.sp0_0 : List Sp := [.t 2 .bool]
def impl_IsValidLibrary.sp0_1 : List Sp := [.boxT 1 0 .lib]
def impl_IsValidLibrary.A0 : LArm := .two impl_IsValidLibrary.sp0 impl_IsValidLibrary.sp0_0 impl_IsValidLibrary.sp0_1 (Bool) (Library) (fun k x => impl_IsValidLibrary.l0 k x.1 x.2.1 x.2.2.1 x.2.2.2.1) .ret (.exit 0) (fun y => (y, ())) (fun x => x.1) (fun y => (y, ())) (fun x => x.1)
def impl_IsValidLibrary.L : Nat → Option LArm := fun b => match b with
  | 0 => some impl_IsValidLibrary.A0
  | _ => none
theorem impl_IsValidLibrary.run (k : Nat) (a0 : Library) : runF envX (tabC (impl_IsValidLibrary.C k)) (tabL 37 k impl_IsValidLibrary.L) Tryz.f20 [.t .lib a0] (viewR1 (.t .bool)) = impl_IsValidLibrary.F k a0 := by kernel_rfl
theorem impl_IsValidLibrary.step0 (k : Nat) (x1 : Library) (x6 : List Entry) (x7 : Int) (x8 : Int) : runC envX (tabC (impl_IsValidLibrary.C k)) (tabL 37 k impl_IsValidLibrary.L) 0 (loopAt Tryz.f20 0) (stOf 37 impl_IsValidLibrary.sp0 (x1, x6, x7, x8, ())) (impl_IsValidLibrary.A0.cont 37 k) = impl_IsValidLibrary.l0 (k + 1) x1 x6 x7 x8 := by kernel_rfl
theorem impl_IsValidLibrary.G (hE : EnvOk Tryz.prog envX) (pv : Nat → Value) (k : Nat) : ∀ cal A, impl_IsValidLibrary.C k cal = some A → ArmOk Tryz.prog envX pv cal A := by
  intro cal A h
  unfold impl_IsValidLibrary.C at h
  split at h
  · cases h; exact fun x y hy => impl_IsValidEntry.good hE pv k x.1 hy
  · cases h
theorem impl_IsValidLibrary.good (hE : EnvOk Tryz.prog envX) (pv : Nat → Value) (k : Nat) (a0 : Library) {y : _} (h : impl_IsValidLibrary.F k a0 = some y) : Meets Tryz.prog envX pv (.f 20) (tvals [.lib] (a0, ())) (.t .bool y) :=
  fun_loops hE (t := impl_IsValidLibrary.C) k (fun k _ => impl_IsValidLibrary.G hE pv k) (f := 20) (fn := Tryz.f20) (by kernel_rfl) rfl (by kernel_rfl) (by kernel_rfl) (lt := impl_IsValidLibrary.L) (by kernel_rfl) (fun b A h => by
    unfold impl_IsValidLibrary.L at h; split at h
    · cases h; exact ⟨by kernel_rfl, by kernel_rfl, by kernel_rfl, fun _ => rfl, fun _ => rfl, fun _ => rfl⟩
    · cases h) (fun b A h => by
    unfold impl_IsValidLibrary.L at h; split at h
    · cases h; exact fun k x => impl_IsValidLibrary.step0 k x.1 x.2.1 x.2.2.1 x.2.2.2.1
    · cases h) ((impl_IsValidLibrary.run k a0).trans h) fun r hr => wk_view1 hr
-- NO 44 slices.IndexFunc[[]loop.example/g00896/impl.Entry,loop.example/g00896/impl.Entry]: a parameter's type
-- NO 45 loop.example/g00896/impl.entryIndex$1: load from tup
/-! ### 45 loop.example/g00896/impl.entryIndex$1 at what it captured -/
def impl_entryIndex_1.F (a0 : Entry) (a1 : ByteArray) : Option (Bool) := some (beqS a0.key a1)
def impl_entryIndex_1.C : Cal → Option CArm := fun c => match c with
  | _ => none
theorem impl_entryIndex_1.run (a0 : Entry) (a1 : ByteArray) : runF envX (tabC impl_entryIndex_1.C) (tabL 8 0 (fun _ => none)) Tryz.f45 [.t .entry a0, .tp (.t .str a1)] (viewR1 (.t .bool)) = impl_entryIndex_1.F a0 a1 := by kernel_rfl
theorem impl_entryIndex_1.G (hE : EnvOk Tryz.prog envX) (pv : Nat → Value) : ∀ cal A, impl_entryIndex_1.C cal = some A → ArmOk Tryz.prog envX pv cal A := by
  intro cal A h
  unfold impl_entryIndex_1.C at h
  cases h
theorem impl_entryIndex_1.good (hE : EnvOk Tryz.prog envX) (pv : Nat → Value) (a0 : Entry) (a1 : ByteArray) {y : _} (h : impl_entryIndex_1.F a0 a1 = some y) : Meets Tryz.prog envX pv (.f 45) (pvals [.t .entry, .tp .str] (a0, a1, ())) (.t .bool y) :=
  fun_plain hE (impl_entryIndex_1.G hE pv) (f := 45) (fn := Tryz.f45) (by kernel_rfl) rfl (by kernel_rfl) (by kernel_rfl) ((impl_entryIndex_1.run a0 a1).trans h) fun r hr => wk_view1 hr
/-! ### 44 slices.IndexFunc[[]loop.example/g00896/impl.Entry,loop.example/g00896/impl.Entry] at loop.example/g00896/impl.entryIndex$1 -/
def slices_IndexFunc_Entry_f45.l0 : Nat → (List Entry) → ByteArray → Int → Int → Option (Sum Int Unit)
  | 0, _, _, _, _ => none
  | k + 1, x0, x1, x7, x8 => bif (decide (x8 < x7)) then (bif decide (0 ≤ x8) then (bif decide (x8 < (x0.length : Int)) then ((impl_entryIndex_1.F (x0.getD (x8 : Int).toNat (dflt .entry)) x1).bind fun r1 => bif r1 then (some (.inl x8)) else (slices_IndexFunc_Entry_f45.l0 k x0 x1 x7 (IntKind.wrap .i64 (x8 + 1)))) else none) else none) else (some (.inr ()))
def slices_IndexFunc_Entry_f45.F (k : Nat) (a0 : List Entry) (a1c0 : ByteArray) : Option (Int) := (slices_IndexFunc_Entry_f45.l0 k a0 a1c0 (a0.length : Int) 0).bind fun y2 => match y2 with | .inl z3 => some z3 | .inr z3 => some (-1)
def slices_IndexFunc_Entry_f45.C (k : Nat) : Cal → Option CArm := fun c => match c with
  | .f 45 => some (.q [.t .entry, .tp .str] _ (fun x => impl_entryIndex_1.F x.1 x.2.1) (fun r => (.t .bool r)))
  | _ => none
def slices_IndexFunc_Entry_f45.sp0 : List Sp := [.t 0 (.sl .entry), .cl 1 45 [.tp .str], .t 7 (.int .i64), .t 8 (.int .i64)]
def slices_IndexFunc_Entry_f45.sp0_0 : List Sp := [.t 4 (.int .i64)]
def slices_IndexFunc_Entry_f45.sp0_1 : List Sp := []
def slices_IndexFunc_Entry_f45.A0 : LArm := .two slices_IndexFunc_Entry_f45.sp0 slices_IndexFunc_Entry_f45.sp0_0 slices_IndexFunc_Entry_f45.sp0_1 (Int) (Unit) (fun k x => slices_IndexFunc_Entry_f45.l0 k x.1 x.2.1.1 x.2.2.1 x.2.2.2.1) .ret (.exit 0) (fun y => (y, ())) (fun x => x.1) (fun y => ()) (fun x => ())
def slices_IndexFunc_Entry_f45.L : Nat → Option LArm := fun b => match b with
  | 0 => some slices_IndexFunc_Entry_f45.A0
  | _ => none
theorem slices_IndexFunc_Entry_f45.run (k : Nat) (a0 : List Entry) (a1c0 : ByteArray) : runF envX (tabC (slices_IndexFunc_Entry_f45.C k)) (tabL 19 k slices_IndexFunc_Entry_f45.L) Tryz.f44 [.t (.sl .entry) a0, .clo 45 [.tp (.t .str a1c0)]] (viewR1 (.t (.int .i64))) = slices_IndexFunc_Entry_f45.F k a0 a1c0 := by kernel_rfl
theorem slices_IndexFunc_Entry_f45.step0 (k : Nat) (x0 : List Entry) (x1 : ByteArray) (x7 : Int) (x8 : Int) : runC envX (tabC (slices_IndexFunc_Entry_f45.C k)) (tabL 19 k slices_IndexFunc_Entry_f45.L) 0 (loopAt Tryz.f44 0) (stOf 19 slices_IndexFunc_Entry_f45.sp0 (x0, (x1, ()), x7, x8, ())) (slices_IndexFunc_Entry_f45.A0.cont 19 k) = slices_IndexFunc_Entry_f45.l0 (k + 1) x0 x1 x7 x8 := by kernel_rfl
theorem slices_IndexFunc_Entry_f45.G (hE : EnvOk Tryz.prog envX) (pv : Nat → Value) (k : Nat) : ∀ cal A, slices_IndexFunc_Entry_f45.C k cal = some A → ArmOk Tryz.prog envX pv cal A := by
  intro cal A h
  unfold slices_IndexFunc_Entry_f45.C at h
  split at h
  · cases h; exact fun x y hy => impl_entryIndex_1.good hE pv x.1 x.2.1 hy
  · cases h
theorem slices_IndexFunc_Entry_f45.good (hE : EnvOk Tryz.prog envX) (pv : Nat → Value) (k : Nat) (a0 : List Entry) (a1c0 : ByteArray) {y : _} (h : slices_IndexFunc_Entry_f45.F k a0 a1c0 = some y) : Meets Tryz.prog envX pv (.f 44) (pvals [.t (.sl .entry), .clo 45 [.tp .str]] (a0, (a1c0, ()), ())) (.t (.int .i64) y) :=
  fun_loops hE (t := slices_IndexFunc_Entry_f45.C) k (fun k _ => slices_IndexFunc_Entry_f45.G hE pv k) (f := 44) (fn := Tryz.f44) (by kernel_rfl) rfl (by kernel_rfl) (by kernel_rfl) (lt := slices_IndexFunc_Entry_f45.L) (by kernel_rfl) (fun b A h => by
    unfold slices_IndexFunc_Entry_f45.L at h; split at h
    · cases h; exact ⟨by kernel_rfl, by kernel_rfl, by kernel_rfl, fun _ => rfl, fun _ => rfl, fun _ => rfl⟩
    · cases h) (fun b A h => by
    unfold slices_IndexFunc_Entry_f45.L at h; split at h
    · cases h; exact fun k x => slices_IndexFunc_Entry_f45.step0 k x.1 x.2.1.1 x.2.2.1 x.2.2.2.1
    · cases h) ((slices_IndexFunc_Entry_f45.run k a0 a1c0).trans h) fun r hr => wk_view1 hr
/-! ### 22 loop.example/g00896/impl.entryIndex -/
def impl_entryIndex.F (k : Nat) (a0 : Library) (a1 : ByteArray) : Option (Int) := (slices_IndexFunc_Entry_f45.F k a0.entries a1).bind fun r1 => some r1
def impl_entryIndex.C (k : Nat) : Cal → Option CArm := fun c => match c with
  | .f 44 => some (.q [.t (.sl .entry), .clo 45 [.tp .str]] _ (fun x => slices_IndexFunc_Entry_f45.F k x.1 x.2.1.1) (fun r => (.t (.int .i64) r)))
  | _ => none
theorem impl_entryIndex.run (k : Nat) (a0 : Library) (a1 : ByteArray) : runF envX (tabC (impl_entryIndex.C k)) (tabL 9 0 (fun _ => none)) Tryz.f22 [.t .lib a0, .t .str a1] (viewR1 (.t (.int .i64))) = impl_entryIndex.F k a0 a1 := by kernel_rfl
theorem impl_entryIndex.G (hE : EnvOk Tryz.prog envX) (pv : Nat → Value) (k : Nat) : ∀ cal A, impl_entryIndex.C k cal = some A → ArmOk Tryz.prog envX pv cal A := by
  intro cal A h
  unfold impl_entryIndex.C at h
  split at h
  · cases h; exact fun x y hy => slices_IndexFunc_Entry_f45.good hE pv k x.1 x.2.1.1 hy
  · cases h
theorem impl_entryIndex.good (hE : EnvOk Tryz.prog envX) (pv : Nat → Value) (k : Nat) (a0 : Library) (a1 : ByteArray) {y : _} (h : impl_entryIndex.F k a0 a1 = some y) : Meets Tryz.prog envX pv (.f 22) (tvals [.lib, .str] (a0, a1, ())) (.t (.int .i64) y) :=
  fun_plain hE (impl_entryIndex.G hE pv k) (f := 22) (fn := Tryz.f22) (by kernel_rfl) rfl (by kernel_rfl) (by kernel_rfl) ((impl_entryIndex.run k a0 a1).trans h) fun r hr => wk_view1 hr
/-! ### 40 loop.example/g00896/impl.parentIndex -/
def impl_parentIndex.F (k : Nat) (a0 : Library) (a1 : Int) : Option (Int) := bif decide (0 ≤ a1) then (bif decide (a1 < (a0.entries.length : Int)) then (bif (beqS ((a0.entries.getD (a1 : Int).toNat (dflt .entry)).cross) (⟨#[]⟩ : ByteArray)) then (some (-1)) else (bif decide (0 ≤ a1) then (bif decide (a1 < (a0.entries.length : Int)) then ((impl_entryIndex.F k a0 ((a0.entries.getD (a1 : Int).toNat (dflt .entry)).cross)).bind fun r1 => some r1) else none) else none)) else none) else none
def impl_parentIndex.C (k : Nat) : Cal → Option CArm := fun c => match c with
  | .f 22 => some (.p [.lib, .str] _ (fun x => impl_entryIndex.F k x.1 x.2.1) (fun r => (.t (.int .i64) r)))
  | _ => none
theorem impl_parentIndex.run (k : Nat) (a0 : Library) (a1 : Int) : runF envX (tabC (impl_parentIndex.C k)) (tabL 20 0 (fun _ => none)) Tryz.f40 [.t .lib a0, .t (.int .i64) a1] (viewR1 (.t (.int .i64))) = impl_parentIndex.F k a0 a1 := by kernel_rfl
theorem impl_parentIndex.G (hE : EnvOk Tryz.prog envX) (pv : Nat → Value) (k : Nat) : ∀ cal A, impl_parentIndex.C k cal = some A → ArmOk Tryz.prog envX pv cal A := by
  intro cal A h
  unfold impl_parentIndex.C at h
  split at h
  · cases h; exact fun x y hy => impl_entryIndex.good hE pv k x.1 x.2.1 hy
  · cases h
theorem impl_parentIndex.good (hE : EnvOk Tryz.prog envX) (pv : Nat → Value) (k : Nat) (a0 : Library) (a1 : Int) {y : _} (h : impl_parentIndex.F k a0 a1 = some y) : Meets Tryz.prog envX pv (.f 40) (tvals [.lib, (.int .i64)] (a0, a1, ())) (.t (.int .i64) y) :=
  fun_plain hE (impl_parentIndex.G hE pv k) (f := 40) (fn := Tryz.f40) (by kernel_rfl) rfl (by kernel_rfl) (by kernel_rfl) ((impl_parentIndex.run k a0 a1).trans h) fun r hr => wk_view1 hr
/-! ### 101 slices.Index[[]int,int] -/
def slices_Index_int.l0 : Nat → (List Int) → Int → Int → Int → Option (Sum Int Unit)
  | 0, _, _, _, _ => none
  | k + 1, x0, x1, x7, x8 => bif (decide (x8 < x7)) then (bif decide (0 ≤ x8) then (bif decide (x8 < (x0.length : Int)) then (bif (x1 == (x0.getD (x8 : Int).toNat 0)) then (some (.inl x8)) else (slices_Index_int.l0 k x0 x1 x7 (IntKind.wrap .i64 (x8 + 1)))) else none) else none) else (some (.inr ()))
def slices_Index_int.F (k : Nat) (a0 : List Int) (a1 : Int) : Option (Int) := (slices_Index_int.l0 k a0 a1 (a0.length : Int) 0).bind fun y1 => match y1 with | .inl z2 => some z2 | .inr z2 => some (-1)
def slices_Index_int.C (k : Nat) : Cal → Option CArm := fun c => match c with
  | _ => none
def slices_Index_int.sp0 : List Sp := [.t 0 (.sl (.int .i64)), .t 1 (.int .i64), .t 7 (.int .i64), .t 8 (.int .i64)]
def slices_Index_int.sp0_0 : List Sp := [.t 4 (.int .i64)]
def slices_Index_int.sp0_1 : List Sp := []
def slices_Index_int.A0 : LArm := .two slices_Index_int.sp0 slices_Index_int.sp0_0 slices_Index_int.sp0_1 (Int) (Unit) (fun k x => slices_Index_int.l0 k x.1 x.2.1 x.2.2.1 x.2.2.2.1) .ret (.exit 0) (fun y => (y, ())) (fun x => x.1) (fun y => ()) (fun x => ())
def slices_Index_int.L : Nat → Option LArm := fun b => match b with
  | 0 => some slices_Index_int.A0
  | _ => none
theorem slices_Index_int.run (k : Nat) (a0 : List Int) (a1 : Int) : runF envX (tabC (slices_Index_int.C k)) (tabL 19 k slices_Index_int.L) Tryz.f101 [.t (.sl (.int .i64)) a0, .t (.int .i64) a1] (viewR1 (.t (.int .i64))) = slices_Index_int.F k a0 a1 := by kernel_rfl
theorem slices_Index_int.step0 (k : Nat) (x0 : List Int) (x1 : Int) (x7 : Int) (x8 : Int) : runC envX (tabC (slices_Index_int.C k)) (tabL 19 k slices_Index_int.L) 0 (loopAt Tryz.f101 0) (stOf 19 slices_Index_int.sp0 (x0, x1, x7, x8, ())) (slices_Index_int.A0.cont 19 k) = slices_Index_int.l0 (k + 1) x0 x1 x7 x8 := by kernel_rfl
theorem slices_Index_int.G (hE : EnvOk Tryz.prog envX) (pv : Nat → Value) (k : Nat) : ∀ cal A, slices_Index_int.C k cal = some A → ArmOk Tryz.prog envX pv cal A := by
  intro cal A h
  unfold slices_Index_int.C at h
  cases h
theorem slices_Index_int.good (hE : EnvOk Tryz.prog envX) (pv : Nat → Value) (k : Nat) (a0 : List Int) (a1 : Int) {y : _} (h : slices_Index_int.F k a0 a1 = some y) : Meets Tryz.prog envX pv (.f 101) (tvals [(.sl (.int .i64)), (.int .i64)] (a0, a1, ())) (.t (.int .i64) y) :=
  fun_loops hE (t := slices_Index_int.C) k (fun k _ => slices_Index_int.G hE pv k) (f := 101) (fn := Tryz.f101) (by kernel_rfl) rfl (by kernel_rfl) (by kernel_rfl) (lt := slices_Index_int.L) (by kernel_rfl) (fun b A h => by
    unfold slices_Index_int.L at h; split at h
    · cases h; exact ⟨by kernel_rfl, by kernel_rfl, by kernel_rfl, fun _ => rfl, fun _ => rfl, fun _ => rfl⟩
    · cases h) (fun b A h => by
    unfold slices_Index_int.L at h; split at h
    · cases h; exact fun k x => slices_Index_int.step0 k x.1 x.2.1 x.2.2.1 x.2.2.2.1
    · cases h) ((slices_Index_int.run k a0 a1).trans h) fun r hr => wk_view1 hr
/-! ### 69 slices.Contains[[]int,int] -/
def slices_Contains_int.F (k : Nat) (a0 : List Int) (a1 : Int) : Option (Bool) := (slices_Index_int.F k a0 a1).bind fun r1 => some (decide (r1 ≥ 0))
def slices_Contains_int.C (k : Nat) : Cal → Option CArm := fun c => match c with
  | .f 101 => some (.p [(.sl (.int .i64)), (.int .i64)] _ (fun x => slices_Index_int.F k x.1 x.2.1) (fun r => (.t (.int .i64) r)))
  | _ => none
theorem slices_Contains_int.run (k : Nat) (a0 : List Int) (a1 : Int) : runF envX (tabC (slices_Contains_int.C k)) (tabL 9 0 (fun _ => none)) Tryz.f69 [.t (.sl (.int .i64)) a0, .t (.int .i64) a1] (viewR1 (.t .bool)) = slices_Contains_int.F k a0 a1 := by kernel_rfl
theorem slices_Contains_int.G (hE : EnvOk Tryz.prog envX) (pv : Nat → Value) (k : Nat) : ∀ cal A, slices_Contains_int.C k cal = some A → ArmOk Tryz.prog envX pv cal A := by
  intro cal A h
  unfold slices_Contains_int.C at h
  split at h
  · cases h; exact fun x y hy => slices_Index_int.good hE pv k x.1 x.2.1 hy
  · cases h
theorem slices_Contains_int.good (hE : EnvOk Tryz.prog envX) (pv : Nat → Value) (k : Nat) (a0 : List Int) (a1 : Int) {y : _} (h : slices_Contains_int.F k a0 a1 = some y) : Meets Tryz.prog envX pv (.f 69) (tvals [(.sl (.int .i64)), (.int .i64)] (a0, a1, ())) (.t .bool y) :=
  fun_plain hE (slices_Contains_int.G hE pv k) (f := 69) (fn := Tryz.f69) (by kernel_rfl) rfl (by kernel_rfl) (by kernel_rfl) ((slices_Contains_int.run k a0 a1).trans h) fun r hr => wk_view1 hr
/-! ### 39 loop.example/g00896/impl.chainOf -/
def impl_chainOf.l0 : Nat → Int → Library → (List Int) → Option (Sum ((List Int) × Bool) (List Int))
  | 0, _, _, _ => none
  | k + 1, x1, x2, x6 => bif (decide (x1 ≥ 0)) then ((slices_Contains_int.F k x6 x1).bind fun r1 => bif r1 then (some (.inl (x6, true))) else (bif room (x6.length + ([x1] : List Int).length) (.int .i64) then ((impl_parentIndex.F k x2 x1).bind fun r2 => impl_chainOf.l0 k r2 x2 (x6 ++ ([x1] : List Int))) else none)) else (some (.inr x6))
def impl_chainOf.F (k : Nat) (a0 : Library) (a1 : Int) : Option ((List Int) × Bool) := (impl_chainOf.l0 k a1 a0 ([] : List Int)).bind fun y3 => match y3 with | .inl z4 => some (z4.1, z4.2) | .inr z4 => some (z4, false)
def impl_chainOf.C (k : Nat) : Cal → Option CArm := fun c => match c with
  | .f 69 => some (.p [(.sl (.int .i64)), (.int .i64)] _ (fun x => slices_Contains_int.F k x.1 x.2.1) (fun r => (.t .bool r)))
  | .f 40 => some (.p [.lib, (.int .i64)] _ (fun x => impl_parentIndex.F k x.1 x.2.1) (fun r => (.t (.int .i64) r)))
  | _ => none
def impl_chainOf.sp0 : List Sp := [.t 1 (.int .i64), .boxT 2 0 .lib, .own 6 1024 3 (.int .i64) false true]
def impl_chainOf.sp0_0 : List Sp := [.own 4 1024 3 (.int .i64) false true, .t 5 .bool]
def impl_chainOf.sp0_1 : List Sp := [.own 6 1024 3 (.int .i64) false true]
def impl_chainOf.A0 : LArm := .two impl_chainOf.sp0 impl_chainOf.sp0_0 impl_chainOf.sp0_1 ((List Int) × Bool) ((List Int)) (fun k x => impl_chainOf.l0 k x.1 x.2.1 x.2.2.1) .ret (.exit 0) (fun y => (y.1, y.2, ())) (fun x => (x.1, x.2.1)) (fun y => (y, ())) (fun x => x.1)
def impl_chainOf.L : Nat → Option LArm := fun b => match b with
  | 0 => some impl_chainOf.A0
  | _ => none
theorem impl_chainOf.run (k : Nat) (a0 : Library) (a1 : Int) : runF envX (tabC (impl_chainOf.C k)) (tabL 22 k impl_chainOf.L) Tryz.f39 [.t .lib a0, .t (.int .i64) a1] (viewR2 (.fr 3 (.int .i64)) (.t .bool)) = impl_chainOf.F k a0 a1 := by kernel_rfl
theorem impl_chainOf.step0 (k : Nat) (x1 : Int) (x2 : Library) (x6 : List Int) : runC envX (tabC (impl_chainOf.C k)) (tabL 22 k impl_chainOf.L) 0 (loopAt Tryz.f39 0) (stOf 22 impl_chainOf.sp0 (x1, x2, x6, ())) (impl_chainOf.A0.cont 22 k) = impl_chainOf.l0 (k + 1) x1 x2 x6 := by kernel_rfl
theorem impl_chainOf.G (hE : EnvOk Tryz.prog envX) (pv : Nat → Value) (k : Nat) : ∀ cal A, impl_chainOf.C k cal = some A → ArmOk Tryz.prog envX pv cal A := by
  intro cal A h
  unfold impl_chainOf.C at h
  split at h
  · cases h; exact fun x y hy => slices_Contains_int.good hE pv k x.1 x.2.1 hy
  · cases h; exact fun x y hy => impl_parentIndex.good hE pv k x.1 x.2.1 hy
  · cases h
theorem impl_chainOf.good (hE : EnvOk Tryz.prog envX) (pv : Nat → Value) (k : Nat) (a0 : Library) (a1 : Int) {y : _} (h : impl_chainOf.F k a0 a1 = some y) : Meets Tryz.prog envX pv (.f 39) (tvals [.lib, (.int .i64)] (a0, a1, ())) (.tup [.fr 3 (.int .i64) y.1, .t .bool y.2]) :=
  fun_loops hE (t := impl_chainOf.C) k (fun k _ => impl_chainOf.G hE pv k) (f := 39) (fn := Tryz.f39) (by kernel_rfl) rfl (by kernel_rfl) (by kernel_rfl) (lt := impl_chainOf.L) (by kernel_rfl) (fun b A h => by
    unfold impl_chainOf.L at h; split at h
    · cases h; exact ⟨by kernel_rfl, by kernel_rfl, by kernel_rfl, fun _ => rfl, fun _ => rfl, fun _ => rfl⟩
    · cases h) (fun b A h => by
    unfold impl_chainOf.L at h; split at h
    · cases h; exact fun k x => impl_chainOf.step0 k x.1 x.2.1 x.2.2.1
    · cases h) ((impl_chainOf.run k a0 a1).trans h) fun r hr => wk_view2 hr
/-! ### 70 loop.example/g00896/impl.newNames -/
def impl_newNames.l0 : Nat → (List Name) → (List Name) → Int → Int → Option ((List Name))
  | 0, _, _, _, _ => none
  | k + 1, x3, x7, x8, x9 => bif (decide (x9 < x8)) then (bif decide (0 ≤ x9) then (bif decide (x9 < (x7.length : Int)) then (bif room (([] : List ByteArray).length + ((x7.getD (x9 : Int).toNat (dflt .name)).given).length) .str then (bif room (x3.length + ([(⟨(([] : List ByteArray) ++ ((x7.getD (x9 : Int).toNat (dflt .name)).given)), (x7.getD (x9 : Int).toNat (dflt .name)).particle, (x7.getD (x9 : Int).toNat (dflt .name)).family, (x7.getD (x9 : Int).toNat (dflt .name)).suffix⟩ : Name)] : List Name).length) .name then (impl_newNames.l0 k (x3 ++ ([(⟨(([] : List ByteArray) ++ ((x7.getD (x9 : Int).toNat (dflt .name)).given)), (x7.getD (x9 : Int).toNat (dflt .name)).particle, (x7.getD (x9 : Int).toNat (dflt .name)).family, (x7.getD (x9 : Int).toNat (dflt .name)).suffix⟩ : Name)] : List Name)) x7 x8 (IntKind.wrap .i64 (x9 + 1))) else none) else none) else none) else none) else (some x3)
def impl_newNames.F (k : Nat) (a0 : List Name) : Option (List Name) := (impl_newNames.l0 k ([] : List Name) a0 (a0.length : Int) 0).bind fun y1 => some y1
def impl_newNames.C (k : Nat) : Cal → Option CArm := fun c => match c with
  | _ => none
def impl_newNames.sp0 : List Sp := [.own 3 1024 83 .name false true, .t 7 (.sl .name), .t 8 (.int .i64), .t 9 (.int .i64)]
def impl_newNames.sp0_0 : List Sp := [.own 3 1024 83 .name false true]
def impl_newNames.A0 : LArm := .one impl_newNames.sp0 impl_newNames.sp0_0 ((List Name)) (fun k x => impl_newNames.l0 k x.1 x.2.1 x.2.2.1 x.2.2.2.1) (.exit 0) (fun y => (y, ())) (fun x => x.1)
def impl_newNames.L : Nat → Option LArm := fun b => match b with
  | 0 => some impl_newNames.A0
  | _ => none
theorem impl_newNames.run (k : Nat) (a0 : List Name) : runF envX (tabC (impl_newNames.C k)) (tabL 24 k impl_newNames.L) Tryz.f70 [.t (.sl .name) a0] (viewR1 (.fr 83 .name)) = impl_newNames.F k a0 := by kernel_rfl
theorem impl_newNames.step0 (k : Nat) (x3 : List Name) (x7 : List Name) (x8 : Int) (x9 : Int) : runC envX (tabC (impl_newNames.C k)) (tabL 24 k impl_newNames.L) 0 (loopAt Tryz.f70 0) (stOf 24 impl_newNames.sp0 (x3, x7, x8, x9, ())) (impl_newNames.A0.cont 24 k) = impl_newNames.l0 (k + 1) x3 x7 x8 x9 := by kernel_rfl
theorem impl_newNames.G (hE : EnvOk Tryz.prog envX) (pv : Nat → Value) (k : Nat) : ∀ cal A, impl_newNames.C k cal = some A → ArmOk Tryz.prog envX pv cal A := by
  intro cal A h
  unfold impl_newNames.C at h
  cases h
theorem impl_newNames.good (hE : EnvOk Tryz.prog envX) (pv : Nat → Value) (k : Nat) (a0 : List Name) {y : _} (h : impl_newNames.F k a0 = some y) : Meets Tryz.prog envX pv (.f 70) (tvals [(.sl .name)] (a0, ())) (.fr 83 .name y) :=
  fun_loops hE (t := impl_newNames.C) k (fun k _ => impl_newNames.G hE pv k) (f := 70) (fn := Tryz.f70) (by kernel_rfl) rfl (by kernel_rfl) (by kernel_rfl) (lt := impl_newNames.L) (by kernel_rfl) (fun b A h => by
    unfold impl_newNames.L at h; split at h
    · cases h; exact ⟨by kernel_rfl, by kernel_rfl, fun _ => rfl, fun _ => rfl⟩
    · cases h) (fun b A h => by
    unfold impl_newNames.L at h; split at h
    · cases h; exact fun k x => impl_newNames.step0 k x.1 x.2.1 x.2.2.1 x.2.2.2.1
    · cases h) ((impl_newNames.run k a0).trans h) fun r hr => wk_view1 hr
/-! ### 46 loop.example/g00896/impl.newEntry -/
def impl_newEntry.F (k : Nat) (a0 : Entry) : Option (Entry) := (impl_newNames.F k a0.authors).bind fun r1 => (impl_newNames.F k a0.editors).bind fun r2 => some (⟨a0.key, a0.kind, r1, r2, a0.title, a0.container, a0.publisher, a0.date, a0.volume, a0.pages, a0.cross⟩ : Entry)
def impl_newEntry.C (k : Nat) : Cal → Option CArm := fun c => match c with
  | .f 70 => some (.p [(.sl .name)] _ (fun x => impl_newNames.F k x.1) (fun r => (.fr 83 .name r)))
  | _ => none
theorem impl_newEntry.run (k : Nat) (a0 : Entry) : runF envX (tabC (impl_newEntry.C k)) (tabL 12 0 (fun _ => none)) Tryz.f46 [.t .entry a0] (viewR1 (.t .entry)) = impl_newEntry.F k a0 := by kernel_rfl
theorem impl_newEntry.G (hE : EnvOk Tryz.prog envX) (pv : Nat → Value) (k : Nat) : ∀ cal A, impl_newEntry.C k cal = some A → ArmOk Tryz.prog envX pv cal A := by
  intro cal A h
  unfold impl_newEntry.C at h
  split at h
  · cases h; exact fun x y hy => impl_newNames.good hE pv k x.1 hy
  · cases h
theorem impl_newEntry.good (hE : EnvOk Tryz.prog envX) (pv : Nat → Value) (k : Nat) (a0 : Entry) {y : _} (h : impl_newEntry.F k a0 = some y) : Meets Tryz.prog envX pv (.f 46) (tvals [.entry] (a0, ())) (.t .entry y) :=
  fun_plain hE (impl_newEntry.G hE pv k) (f := 46) (fn := Tryz.f46) (by kernel_rfl) rfl (by kernel_rfl) (by kernel_rfl) ((impl_newEntry.run k a0).trans h) fun r hr => wk_view1 hr
/-! ### 71 loop.example/g00896/impl.orText -/
def impl_orText.F (a0 : ByteArray) (a1 : ByteArray) : Option (ByteArray) := bif (beqS a0 (⟨#[]⟩ : ByteArray)) then (some a1) else (some a0)
def impl_orText.C : Cal → Option CArm := fun c => match c with
  | _ => none
theorem impl_orText.run (a0 : ByteArray) (a1 : ByteArray) : runF envX (tabC impl_orText.C) (tabL 9 0 (fun _ => none)) Tryz.f71 [.t .str a0, .t .str a1] (viewR1 (.t .str)) = impl_orText.F a0 a1 := by kernel_rfl
theorem impl_orText.G (hE : EnvOk Tryz.prog envX) (pv : Nat → Value) : ∀ cal A, impl_orText.C cal = some A → ArmOk Tryz.prog envX pv cal A := by
  intro cal A h
  unfold impl_orText.C at h
  cases h
theorem impl_orText.good (hE : EnvOk Tryz.prog envX) (pv : Nat → Value) (a0 : ByteArray) (a1 : ByteArray) {y : _} (h : impl_orText.F a0 a1 = some y) : Meets Tryz.prog envX pv (.f 71) (tvals [.str, .str] (a0, a1, ())) (.t .str y) :=
  fun_plain hE (impl_orText.G hE pv) (f := 71) (fn := Tryz.f71) (by kernel_rfl) rfl (by kernel_rfl) (by kernel_rfl) ((impl_orText.run a0 a1).trans h) fun r hr => wk_view1 hr
/-! ### 72 loop.example/g00896/impl.orDate -/
def impl_orDate.F (a0 : Date) (a1 : Date) : Option (Date) := bif (a0.y == 0) then (some a1) else (some a0)
def impl_orDate.C : Cal → Option CArm := fun c => match c with
  | _ => none
theorem impl_orDate.run (a0 : Date) (a1 : Date) : runF envX (tabC impl_orDate.C) (tabL 10 0 (fun _ => none)) Tryz.f72 [.t .date a0, .t .date a1] (viewR1 (.t .date)) = impl_orDate.F a0 a1 := by kernel_rfl
theorem impl_orDate.G (hE : EnvOk Tryz.prog envX) (pv : Nat → Value) : ∀ cal A, impl_orDate.C cal = some A → ArmOk Tryz.prog envX pv cal A := by
  intro cal A h
  unfold impl_orDate.C at h
  cases h
theorem impl_orDate.good (hE : EnvOk Tryz.prog envX) (pv : Nat → Value) (a0 : Date) (a1 : Date) {y : _} (h : impl_orDate.F a0 a1 = some y) : Meets Tryz.prog envX pv (.f 72) (tvals [.date, .date] (a0, a1, ())) (.t .date y) :=
  fun_plain hE (impl_orDate.G hE pv) (f := 72) (fn := Tryz.f72) (by kernel_rfl) rfl (by kernel_rfl) (by kernel_rfl) ((impl_orDate.run a0 a1).trans h) fun r hr => wk_view1 hr
/-! ### 73 loop.example/g00896/impl.orVolume -/
def impl_orVolume.F (a0 : Int) (a1 : Int) : Option (Int) := bif (a0 == 0) then (some a1) else (some a0)
def impl_orVolume.C : Cal → Option CArm := fun c => match c with
  | _ => none
theorem impl_orVolume.run (a0 : Int) (a1 : Int) : runF envX (tabC impl_orVolume.C) (tabL 9 0 (fun _ => none)) Tryz.f73 [.t (.int .i64) a0, .t (.int .i64) a1] (viewR1 (.t (.int .i64))) = impl_orVolume.F a0 a1 := by kernel_rfl
theorem impl_orVolume.G (hE : EnvOk Tryz.prog envX) (pv : Nat → Value) : ∀ cal A, impl_orVolume.C cal = some A → ArmOk Tryz.prog envX pv cal A := by
  intro cal A h
  unfold impl_orVolume.C at h
  cases h
theorem impl_orVolume.good (hE : EnvOk Tryz.prog envX) (pv : Nat → Value) (a0 : Int) (a1 : Int) {y : _} (h : impl_orVolume.F a0 a1 = some y) : Meets Tryz.prog envX pv (.f 73) (tvals [(.int .i64), (.int .i64)] (a0, a1, ())) (.t (.int .i64) y) :=
  fun_plain hE (impl_orVolume.G hE pv) (f := 73) (fn := Tryz.f73) (by kernel_rfl) rfl (by kernel_rfl) (by kernel_rfl) ((impl_orVolume.run a0 a1).trans h) fun r hr => wk_view1 hr
/-! ### 74 loop.example/g00896/impl.orNames -/
def impl_orNames.F (k : Nat) (a0 : List Name) (a1 : List Name) : Option (List Name) := bif ((a0.length : Int) == 0) then ((impl_newNames.F k a1).bind fun r1 => some r1) else ((impl_newNames.F k a0).bind fun r2 => some r2)
def impl_orNames.C (k : Nat) : Cal → Option CArm := fun c => match c with
  | .f 70 => some (.p [(.sl .name)] _ (fun x => impl_newNames.F k x.1) (fun r => (.fr 83 .name r)))
  | _ => none
theorem impl_orNames.run (k : Nat) (a0 : List Name) (a1 : List Name) : runF envX (tabC (impl_orNames.C k)) (tabL 12 0 (fun _ => none)) Tryz.f74 [.t (.sl .name) a0, .t (.sl .name) a1] (viewR1 (.fr 83 .name)) = impl_orNames.F k a0 a1 := by kernel_rfl
theorem impl_orNames.G (hE : EnvOk Tryz.prog envX) (pv : Nat → Value) (k : Nat) : ∀ cal A, impl_orNames.C k cal = some A → ArmOk Tryz.prog envX pv cal A := by
  intro cal A h
  unfold impl_orNames.C at h
  split at h
  · cases h; exact fun x y hy => impl_newNames.good hE pv k x.1 hy
  · cases h
theorem impl_orNames.good (hE : EnvOk Tryz.prog envX) (pv : Nat → Value) (k : Nat) (a0 : List Name) (a1 : List Name) {y : _} (h : impl_orNames.F k a0 a1 = some y) : Meets Tryz.prog envX pv (.f 74) (tvals [(.sl .name), (.sl .name)] (a0, a1, ())) (.fr 83 .name y) :=
  fun_plain hE (impl_orNames.G hE pv k) (f := 74) (fn := Tryz.f74) (by kernel_rfl) rfl (by kernel_rfl) (by kernel_rfl) ((impl_orNames.run k a0 a1).trans h) fun r hr => wk_view1 hr
/-! ### 47 loop.example/g00896/impl.inherit -/
def impl_inherit.F (k : Nat) (a0 : Entry) (a1 : Entry) : Option (Entry) := (impl_orText.F a0.publisher a1.publisher).bind fun r1 => (impl_orDate.F a0.date a1.date).bind fun r2 => (impl_orVolume.F a0.volume a1.volume).bind fun r3 => bif (a0.kind == 3) then ((impl_orText.F a0.container a1.title).bind fun r4 => (impl_orNames.F k a1.editors a1.authors).bind fun r5 => (impl_orNames.F k a0.editors r5).bind fun r6 => some (⟨a0.key, a0.kind, a0.authors, r6, a0.title, r4, r1, r2, r3, a0.pages, a0.cross⟩ : Entry)) else (bif (a0.kind == 2) then ((impl_orText.F a0.container a1.title).bind fun r7 => some (⟨a0.key, a0.kind, a0.authors, a0.editors, a0.title, r7, r1, r2, r3, a0.pages, a0.cross⟩ : Entry)) else ((impl_orText.F a0.container a1.container).bind fun r8 => some (⟨a0.key, a0.kind, a0.authors, a0.editors, a0.title, r8, r1, r2, r3, a0.pages, a0.cross⟩ : Entry)))
def impl_inherit.C (k : Nat) : Cal → Option CArm := fun c => match c with
  | .f 71 => some (.p [.str, .str] _ (fun x => impl_orText.F x.1 x.2.1) (fun r => (.t .str r)))
  | .f 72 => some (.p [.date, .date] _ (fun x => impl_orDate.F x.1 x.2.1) (fun r => (.t .date r)))
  | .f 73 => some (.p [(.int .i64), (.int .i64)] _ (fun x => impl_orVolume.F x.1 x.2.1) (fun r => (.t (.int .i64) r)))
  | .f 74 => some (.p [(.sl .name), (.sl .name)] _ (fun x => impl_orNames.F k x.1 x.2.1) (fun r => (.fr 83 .name r)))
  | _ => none
theorem impl_inherit.run (k : Nat) (a0 : Entry) (a1 : Entry) : runF envX (tabC (impl_inherit.C k)) (tabL 57 0 (fun _ => none)) Tryz.f47 [.t .entry a0, .t .entry a1] (viewR1 (.t .entry)) = impl_inherit.F k a0 a1 := by kernel_rfl
theorem impl_inherit.G (hE : EnvOk Tryz.prog envX) (pv : Nat → Value) (k : Nat) : ∀ cal A, impl_inherit.C k cal = some A → ArmOk Tryz.prog envX pv cal A := by
  intro cal A h
  unfold impl_inherit.C at h
  split at h
  · cases h; exact fun x y hy => impl_orText.good hE pv x.1 x.2.1 hy
  · cases h; exact fun x y hy => impl_orDate.good hE pv x.1 x.2.1 hy
  · cases h; exact fun x y hy => impl_orVolume.good hE pv x.1 x.2.1 hy
  · cases h; exact fun x y hy => impl_orNames.good hE pv k x.1 x.2.1 hy
  · cases h
theorem impl_inherit.good (hE : EnvOk Tryz.prog envX) (pv : Nat → Value) (k : Nat) (a0 : Entry) (a1 : Entry) {y : _} (h : impl_inherit.F k a0 a1 = some y) : Meets Tryz.prog envX pv (.f 47) (tvals [.entry, .entry] (a0, a1, ())) (.t .entry y) :=
  fun_plain hE (impl_inherit.G hE pv k) (f := 47) (fn := Tryz.f47) (by kernel_rfl) rfl (by kernel_rfl) (by kernel_rfl) ((impl_inherit.run k a0 a1).trans h) fun r hr => wk_view1 hr
/-! ### 23 loop.example/g00896/impl.resolveEntry -/
def impl_resolveEntry.l0 : Nat → Library → ByteArray → Int → (List Name) → (List Name) → ByteArray → ByteArray → ByteArray → Date → Int → ByteArray → ByteArray → (List Int) → Entry → Int → Option (ByteArray × Int × (List Name) × (List Name) × ByteArray × ByteArray × ByteArray × Date × Int × ByteArray × ByteArray × Entry)
  | 0, _, _, _, _, _, _, _, _, _, _, _, _, _, _, _ => none
  | k + 1, x2, x4_0, x4_1, x4_2, x4_3, x4_4, x4_5, x4_6, x4_7, x4_8, x4_9, x4_10, x6, x8, x9 => bif (decide (x9 ≥ 0)) then (bif decide (0 ≤ x9) then (bif decide (x9 < (x6.length : Int)) then (bif decide (0 ≤ (x6.getD ((x9 : Int).toNat) 0)) then (bif decide ((x6.getD ((x9 : Int).toNat) 0) < (x2.entries.length : Int)) then ((impl_newEntry.F k (x2.entries.getD ((x6.getD ((x9 : Int).toNat) 0) : Int).toNat (dflt .entry))).bind fun r3 => (impl_inherit.F k r3 x8).bind fun r4 => impl_resolveEntry.l0 k x2 x4_0 x4_1 x4_2 x4_3 x4_4 x4_5 x4_6 x4_7 x4_8 x4_9 x4_10 x6 r4 (IntKind.wrap .i64 (x9 - 1))) else none) else none) else none) else none) else (some (x4_0, x4_1, x4_2, x4_3, x4_4, x4_5, x4_6, x4_7, x4_8, x4_9, x4_10, x8))
def impl_resolveEntry.F (k : Nat) (a0 : Library) (a1 : Int) : Option (Entry × Bool) := (impl_chainOf.F k a0 a1).bind fun r1 => bif r1.2 then (some ((⟨(⟨#[]⟩ : ByteArray), 0, ([] : List Name), ([] : List Name), (⟨#[]⟩ : ByteArray), (⟨#[]⟩ : ByteArray), (⟨#[]⟩ : ByteArray), (dflt .date), 0, (⟨#[]⟩ : ByteArray), (⟨#[]⟩ : ByteArray)⟩ : Entry), false)) else (bif decide (0 ≤ (IntKind.wrap .i64 ((r1.1.length : Int) - 1))) then (bif decide ((IntKind.wrap .i64 ((r1.1.length : Int) - 1)) < (r1.1.length : Int)) then (bif decide (0 ≤ (r1.1.getD (((IntKind.wrap .i64 ((r1.1.length : Int) - 1)) : Int).toNat) 0)) then (bif decide ((r1.1.getD (((IntKind.wrap .i64 ((r1.1.length : Int) - 1)) : Int).toNat) 0) < (a0.entries.length : Int)) then ((impl_newEntry.F k (a0.entries.getD ((r1.1.getD (((IntKind.wrap .i64 ((r1.1.length : Int) - 1)) : Int).toNat) 0) : Int).toNat (dflt .entry))).bind fun r2 => (impl_resolveEntry.l0 k a0 (⟨#[]⟩ : ByteArray) 0 ([] : List Name) ([] : List Name) (⟨#[]⟩ : ByteArray) (⟨#[]⟩ : ByteArray) (⟨#[]⟩ : ByteArray) (dflt .date) 0 (⟨#[]⟩ : ByteArray) (⟨#[]⟩ : ByteArray) r1.1 r2 (IntKind.wrap .i64 ((r1.1.length : Int) - 2))).bind fun y5 => some (y5.2.2.2.2.2.2.2.2.2.2.2, true)) else none) else none) else none) else none)
def impl_resolveEntry.C (k : Nat) : Cal → Option CArm := fun c => match c with
  | .f 39 => some (.p [.lib, (.int .i64)] _ (fun x => impl_chainOf.F k x.1 x.2.1) (fun r => (.tup [.fr 3 (.int .i64) r.1, .t .bool r.2])))
  | .f 46 => some (.p [.entry] _ (fun x => impl_newEntry.F k x.1) (fun r => (.t .entry r)))
  | .f 47 => some (.p [.entry, .entry] _ (fun x => impl_inherit.F k x.1 x.2.1) (fun r => (.t .entry r)))
  | _ => none
def impl_resolveEntry.sp0 : List Sp := [.boxT 2 0 .lib, .boxF 4 4 .entry [.t .str, .t (.int .i64), .t (.sl .name), .t (.sl .name), .t .str, .t .str, .t .str, .t .date, .t (.int .i64), .t .str, .t .str], .own 6 1032 3 (.int .i64) false true, .boxT 8 4140 .entry, .t 9 (.int .i64)]
def impl_resolveEntry.sp0_0 : List Sp := [.boxF 4 4 .entry [.t .str, .t (.int .i64), .t (.sl .name), .t (.sl .name), .t .str, .t .str, .t .str, .t .date, .t (.int .i64), .t .str, .t .str], .boxT 8 4140 .entry]
def impl_resolveEntry.A0 : LArm := .one impl_resolveEntry.sp0 impl_resolveEntry.sp0_0 (ByteArray × Int × (List Name) × (List Name) × ByteArray × ByteArray × ByteArray × Date × Int × ByteArray × ByteArray × Entry) (fun k x => impl_resolveEntry.l0 k x.1 x.2.1.1 x.2.1.2.1 x.2.1.2.2.1 x.2.1.2.2.2.1 x.2.1.2.2.2.2.1 x.2.1.2.2.2.2.2.1 x.2.1.2.2.2.2.2.2.1 x.2.1.2.2.2.2.2.2.2.1 x.2.1.2.2.2.2.2.2.2.2.1 x.2.1.2.2.2.2.2.2.2.2.2.1 x.2.1.2.2.2.2.2.2.2.2.2.2.1 x.2.2.1 x.2.2.2.1 x.2.2.2.2.1) (.exit 0) (fun y => ((y.1, y.2.1, y.2.2.1, y.2.2.2.1, y.2.2.2.2.1, y.2.2.2.2.2.1, y.2.2.2.2.2.2.1, y.2.2.2.2.2.2.2.1, y.2.2.2.2.2.2.2.2.1, y.2.2.2.2.2.2.2.2.2.1, y.2.2.2.2.2.2.2.2.2.2.1, ()), y.2.2.2.2.2.2.2.2.2.2.2, ())) (fun x => (x.1.1, x.1.2.1, x.1.2.2.1, x.1.2.2.2.1, x.1.2.2.2.2.1, x.1.2.2.2.2.2.1, x.1.2.2.2.2.2.2.1, x.1.2.2.2.2.2.2.2.1, x.1.2.2.2.2.2.2.2.2.1, x.1.2.2.2.2.2.2.2.2.2.1, x.1.2.2.2.2.2.2.2.2.2.2.1, x.2.1))
def impl_resolveEntry.L : Nat → Option LArm := fun b => match b with
  | 0 => some impl_resolveEntry.A0
  | _ => none
theorem impl_resolveEntry.run (k : Nat) (a0 : Library) (a1 : Int) : runF envX (tabC (impl_resolveEntry.C k)) (tabL 48 k impl_resolveEntry.L) Tryz.f23 [.t .lib a0, .t (.int .i64) a1] (viewR2 (.t .entry) (.t .bool)) = impl_resolveEntry.F k a0 a1 := by kernel_rfl
theorem impl_resolveEntry.step0 (k : Nat) (x2 : Library) (x4_0 : ByteArray) (x4_1 : Int) (x4_2 : List Name) (x4_3 : List Name) (x4_4 : ByteArray) (x4_5 : ByteArray) (x4_6 : ByteArray) (x4_7 : Date) (x4_8 : Int) (x4_9 : ByteArray) (x4_10 : ByteArray) (x6 : List Int) (x8 : Entry) (x9 : Int) : runC envX (tabC (impl_resolveEntry.C k)) (tabL 48 k impl_resolveEntry.L) 0 (loopAt Tryz.f23 0) (stOf 48 impl_resolveEntry.sp0 (x2, (x4_0, x4_1, x4_2, x4_3, x4_4, x4_5, x4_6, x4_7, x4_8, x4_9, x4_10, ()), x6, x8, x9, ())) (impl_resolveEntry.A0.cont 48 k) = impl_resolveEntry.l0 (k + 1) x2 x4_0 x4_1 x4_2 x4_3 x4_4 x4_5 x4_6 x4_7 x4_8 x4_9 x4_10 x6 x8 x9 := by kernel_rfl
theorem impl_resolveEntry.G (hE : EnvOk Tryz.prog envX) (pv : Nat → Value) (k : Nat) : ∀ cal A, impl_resolveEntry.C k cal = some A → ArmOk Tryz.prog envX pv cal A := by
  intro cal A h
  unfold impl_resolveEntry.C at h
  split at h
  · cases h; exact fun x y hy => impl_chainOf.good hE pv k x.1 x.2.1 hy
  · cases h; exact fun x y hy => impl_newEntry.good hE pv k x.1 hy
  · cases h; exact fun x y hy => impl_inherit.good hE pv k x.1 x.2.1 hy
  · cases h
theorem impl_resolveEntry.good (hE : EnvOk Tryz.prog envX) (pv : Nat → Value) (k : Nat) (a0 : Library) (a1 : Int) {y : _} (h : impl_resolveEntry.F k a0 a1 = some y) : Meets Tryz.prog envX pv (.f 23) (tvals [.lib, (.int .i64)] (a0, a1, ())) (.tup [.t .entry y.1, .t .bool y.2]) :=
  fun_loops hE (t := impl_resolveEntry.C) k (fun k _ => impl_resolveEntry.G hE pv k) (f := 23) (fn := Tryz.f23) (by kernel_rfl) rfl (by kernel_rfl) (by kernel_rfl) (lt := impl_resolveEntry.L) (by kernel_rfl) (fun b A h => by
    unfold impl_resolveEntry.L at h; split at h
    · cases h; exact ⟨by kernel_rfl, by kernel_rfl, fun _ => rfl, fun _ => rfl⟩
    · cases h) (fun b A h => by
    unfold impl_resolveEntry.L at h; split at h
    · cases h; exact fun k x => impl_resolveEntry.step0 k x.1 x.2.1.1 x.2.1.2.1 x.2.1.2.2.1 x.2.1.2.2.2.1 x.2.1.2.2.2.2.1 x.2.1.2.2.2.2.2.1 x.2.1.2.2.2.2.2.2.1 x.2.1.2.2.2.2.2.2.2.1 x.2.1.2.2.2.2.2.2.2.2.1 x.2.1.2.2.2.2.2.2.2.2.2.1 x.2.1.2.2.2.2.2.2.2.2.2.2.1 x.2.2.1 x.2.2.2.1 x.2.2.2.2.1
    · cases h) ((impl_resolveEntry.run k a0 a1).trans h) fun r hr => wk_view2 hr
/-! ### 6 loop.example/g00896/impl.ResolveEntry -/
def impl_ResolveEntry.F (k : Nat) (a0 : Library) (a1 : ByteArray) : Option (Entry × Bool) := (impl_entryIndex.F k a0 a1).bind fun r1 => (impl_IsValidLibrary.F k a0).bind fun r2 => bif (!r2) then (some ((⟨(⟨#[]⟩ : ByteArray), 0, ([] : List Name), ([] : List Name), (⟨#[]⟩ : ByteArray), (⟨#[]⟩ : ByteArray), (⟨#[]⟩ : ByteArray), (dflt .date), 0, (⟨#[]⟩ : ByteArray), (⟨#[]⟩ : ByteArray)⟩ : Entry), false)) else (bif (decide (r1 < 0)) then (some ((⟨(⟨#[]⟩ : ByteArray), 0, ([] : List Name), ([] : List Name), (⟨#[]⟩ : ByteArray), (⟨#[]⟩ : ByteArray), (⟨#[]⟩ : ByteArray), (dflt .date), 0, (⟨#[]⟩ : ByteArray), (⟨#[]⟩ : ByteArray)⟩ : Entry), false)) else ((impl_resolveEntry.F k a0 r1).bind fun r3 => some (r3.1, r3.2)))
def impl_ResolveEntry.C (k : Nat) : Cal → Option CArm := fun c => match c with
  | .f 22 => some (.p [.lib, .str] _ (fun x => impl_entryIndex.F k x.1 x.2.1) (fun r => (.t (.int .i64) r)))
  | .f 20 => some (.p [.lib] _ (fun x => impl_IsValidLibrary.F k x.1) (fun r => (.t .bool r)))
  | .f 23 => some (.p [.lib, (.int .i64)] _ (fun x => impl_resolveEntry.F k x.1 x.2.1) (fun r => (.tup [.t .entry r.1, .t .bool r.2])))
  | _ => none
theorem impl_ResolveEntry.run (k : Nat) (a0 : Library) (a1 : ByteArray) : runF envX (tabC (impl_ResolveEntry.C k)) (tabL 23 0 (fun _ => none)) Tryz.f6 [.t .lib a0, .t .str a1] (viewR2 (.t .entry) (.t .bool)) = impl_ResolveEntry.F k a0 a1 := by kernel_rfl
theorem impl_ResolveEntry.G (hE : EnvOk Tryz.prog envX) (pv : Nat → Value) (k : Nat) : ∀ cal A, impl_ResolveEntry.C k cal = some A → ArmOk Tryz.prog envX pv cal A := by
  intro cal A h
  unfold impl_ResolveEntry.C at h
  split at h
  · cases h; exact fun x y hy => impl_entryIndex.good hE pv k x.1 x.2.1 hy
  · cases h; exact fun x y hy => impl_IsValidLibrary.good hE pv k x.1 hy
  · cases h; exact fun x y hy => impl_resolveEntry.good hE pv k x.1 x.2.1 hy
  · cases h
theorem impl_ResolveEntry.good (hE : EnvOk Tryz.prog envX) (pv : Nat → Value) (k : Nat) (a0 : Library) (a1 : ByteArray) {y : _} (h : impl_ResolveEntry.F k a0 a1 = some y) : Meets Tryz.prog envX pv (.f 6) (tvals [.lib, .str] (a0, a1, ())) (.tup [.t .entry y.1, .t .bool y.2]) :=
  fun_plain hE (impl_ResolveEntry.G hE pv k) (f := 6) (fn := Tryz.f6) (by kernel_rfl) rfl (by kernel_rfl) (by kernel_rfl) ((impl_ResolveEntry.run k a0 a1).trans h) fun r hr => wk_view2 hr
/-! ### 26 loop.example/g00896/spec.l4Find -/
def spec_l4Find.l0 : Nat → ByteArray → Library → Int → Option (Sum Int Unit)
  | 0, _, _, _ => none
  | k + 1, x1, x2, x5 => bif (decide (x5 < (x2.entries.length : Int))) then (bif decide (0 ≤ x5) then (bif decide (x5 < (x2.entries.length : Int)) then (bif (beqS ((x2.entries.getD (x5 : Int).toNat (dflt .entry)).key) x1) then (some (.inl x5)) else (spec_l4Find.l0 k x1 x2 (IntKind.wrap .i64 (x5 + 1)))) else none) else none) else (some (.inr ()))
def spec_l4Find.F (k : Nat) (a0 : Library) (a1 : ByteArray) : Option (Int) := (spec_l4Find.l0 k a1 a0 0).bind fun y1 => match y1 with | .inl z2 => some z2 | .inr z2 => some (-1)
def spec_l4Find.C (k : Nat) : Cal → Option CArm := fun c => match c with
  | _ => none
def spec_l4Find.sp0 : List Sp := [.t 1 .str, .boxT 2 0 .lib, .t 5 (.int .i64)]
def spec_l4Find.sp0_0 : List Sp := [.t 4 (.int .i64)]
def spec_l4Find.sp0_1 : List Sp := []
def spec_l4Find.A0 : LArm := .two spec_l4Find.sp0 spec_l4Find.sp0_0 spec_l4Find.sp0_1 (Int) (Unit) (fun k x => spec_l4Find.l0 k x.1 x.2.1 x.2.2.1) .ret (.exit 0) (fun y => (y, ())) (fun x => x.1) (fun y => ()) (fun x => ())
def spec_l4Find.L : Nat → Option LArm := fun b => match b with
  | 0 => some spec_l4Find.A0
  | _ => none
theorem spec_l4Find.run (k : Nat) (a0 : Library) (a1 : ByteArray) : runF envX (tabC (spec_l4Find.C k)) (tabL 22 k spec_l4Find.L) Tryz.f26 [.t .lib a0, .t .str a1] (viewR1 (.t (.int .i64))) = spec_l4Find.F k a0 a1 := by kernel_rfl
theorem spec_l4Find.step0 (k : Nat) (x1 : ByteArray) (x2 : Library) (x5 : Int) : runC envX (tabC (spec_l4Find.C k)) (tabL 22 k spec_l4Find.L) 0 (loopAt Tryz.f26 0) (stOf 22 spec_l4Find.sp0 (x1, x2, x5, ())) (spec_l4Find.A0.cont 22 k) = spec_l4Find.l0 (k + 1) x1 x2 x5 := by kernel_rfl
theorem spec_l4Find.G (hE : EnvOk Tryz.prog envX) (pv : Nat → Value) (k : Nat) : ∀ cal A, spec_l4Find.C k cal = some A → ArmOk Tryz.prog envX pv cal A := by
  intro cal A h
  unfold spec_l4Find.C at h
  cases h
theorem spec_l4Find.good (hE : EnvOk Tryz.prog envX) (pv : Nat → Value) (k : Nat) (a0 : Library) (a1 : ByteArray) {y : _} (h : spec_l4Find.F k a0 a1 = some y) : Meets Tryz.prog envX pv (.f 26) (tvals [.lib, .str] (a0, a1, ())) (.t (.int .i64) y) :=
  fun_loops hE (t := spec_l4Find.C) k (fun k _ => spec_l4Find.G hE pv k) (f := 26) (fn := Tryz.f26) (by kernel_rfl) rfl (by kernel_rfl) (by kernel_rfl) (lt := spec_l4Find.L) (by kernel_rfl) (fun b A h => by
    unfold spec_l4Find.L at h; split at h
    · cases h; exact ⟨by kernel_rfl, by kernel_rfl, by kernel_rfl, fun _ => rfl, fun _ => rfl, fun _ => rfl⟩
    · cases h) (fun b A h => by
    unfold spec_l4Find.L at h; split at h
    · cases h; exact fun k x => spec_l4Find.step0 k x.1 x.2.1 x.2.2.1
    · cases h) ((spec_l4Find.run k a0 a1).trans h) fun r hr => wk_view1 hr
/-! ### 24 loop.example/g00896/spec.l21Asked -/
def spec_l21Asked.F (k : Nat) (a0 : Library) (a1 : ByteArray) : Option (Bool) := (spec_l4Good.F k a0).bind fun r1 => bif r1 then ((spec_l4Find.F k a0 a1).bind fun r2 => some (decide (r2 ≥ 0))) else (some false)
def spec_l21Asked.C (k : Nat) : Cal → Option CArm := fun c => match c with
  | .f 28 => some (.p [.lib] _ (fun x => spec_l4Good.F k x.1) (fun r => (.t .bool r)))
  | .f 26 => some (.p [.lib, .str] _ (fun x => spec_l4Find.F k x.1 x.2.1) (fun r => (.t (.int .i64) r)))
  | _ => none
theorem spec_l21Asked.run (k : Nat) (a0 : Library) (a1 : ByteArray) : runF envX (tabC (spec_l21Asked.C k)) (tabL 13 0 (fun _ => none)) Tryz.f24 [.t .lib a0, .t .str a1] (viewR1 (.t .bool)) = spec_l21Asked.F k a0 a1 := by kernel_rfl
theorem spec_l21Asked.G (hE : EnvOk Tryz.prog envX) (pv : Nat → Value) (k : Nat) : ∀ cal A, spec_l21Asked.C k cal = some A → ArmOk Tryz.prog envX pv cal A := by
  intro cal A h
  unfold spec_l21Asked.C at h
  split at h
  · cases h; exact fun x y hy => spec_l4Good.good hE pv k x.1 hy
  · cases h; exact fun x y hy => spec_l4Find.good hE pv k x.1 x.2.1 hy
  · cases h
theorem spec_l21Asked.good (hE : EnvOk Tryz.prog envX) (pv : Nat → Value) (k : Nat) (a0 : Library) (a1 : ByteArray) {y : _} (h : spec_l21Asked.F k a0 a1 = some y) : Meets Tryz.prog envX pv (.f 24) (tvals [.lib, .str] (a0, a1, ())) (.t .bool y) :=
  fun_plain hE (spec_l21Asked.G hE pv k) (f := 24) (fn := Tryz.f24) (by kernel_rfl) rfl (by kernel_rfl) (by kernel_rfl) ((spec_l21Asked.run k a0 a1).trans h) fun r hr => wk_view1 hr
/-! ### 75 loop.example/g00896/spec.l1Has -/
def spec_l1Has.l0 : Nat → (List Int) → Int → Int → Option (Sum Bool Unit)
  | 0, _, _, _ => none
  | k + 1, x0, x1, x5 => bif (decide (x5 < (x0.length : Int))) then (bif decide (0 ≤ x5) then (bif decide (x5 < (x0.length : Int)) then (bif ((x0.getD (x5 : Int).toNat 0) == x1) then (some (.inl true)) else (spec_l1Has.l0 k x0 x1 (IntKind.wrap .i64 (x5 + 1)))) else none) else none) else (some (.inr ()))
def spec_l1Has.F (k : Nat) (a0 : List Int) (a1 : Int) : Option (Bool) := (spec_l1Has.l0 k a0 a1 0).bind fun y1 => match y1 with | .inl z2 => some z2 | .inr z2 => some false
def spec_l1Has.C (k : Nat) : Cal → Option CArm := fun c => match c with
  | _ => none
def spec_l1Has.sp0 : List Sp := [.t 0 (.sl (.int .i64)), .t 1 (.int .i64), .t 5 (.int .i64)]
def spec_l1Has.sp0_0 : List Sp := [.t 4 .bool]
def spec_l1Has.sp0_1 : List Sp := []
def spec_l1Has.A0 : LArm := .two spec_l1Has.sp0 spec_l1Has.sp0_0 spec_l1Has.sp0_1 (Bool) (Unit) (fun k x => spec_l1Has.l0 k x.1 x.2.1 x.2.2.1) .ret (.exit 0) (fun y => (y, ())) (fun x => x.1) (fun y => ()) (fun x => ())
def spec_l1Has.L : Nat → Option LArm := fun b => match b with
  | 0 => some spec_l1Has.A0
  | _ => none
theorem spec_l1Has.run (k : Nat) (a0 : List Int) (a1 : Int) : runF envX (tabC (spec_l1Has.C k)) (tabL 18 k spec_l1Has.L) Tryz.f75 [.t (.sl (.int .i64)) a0, .t (.int .i64) a1] (viewR1 (.t .bool)) = spec_l1Has.F k a0 a1 := by kernel_rfl
theorem spec_l1Has.step0 (k : Nat) (x0 : List Int) (x1 : Int) (x5 : Int) : runC envX (tabC (spec_l1Has.C k)) (tabL 18 k spec_l1Has.L) 0 (loopAt Tryz.f75 0) (stOf 18 spec_l1Has.sp0 (x0, x1, x5, ())) (spec_l1Has.A0.cont 18 k) = spec_l1Has.l0 (k + 1) x0 x1 x5 := by kernel_rfl
theorem spec_l1Has.G (hE : EnvOk Tryz.prog envX) (pv : Nat → Value) (k : Nat) : ∀ cal A, spec_l1Has.C k cal = some A → ArmOk Tryz.prog envX pv cal A := by
  intro cal A h
  unfold spec_l1Has.C at h
  cases h
theorem spec_l1Has.good (hE : EnvOk Tryz.prog envX) (pv : Nat → Value) (k : Nat) (a0 : List Int) (a1 : Int) {y : _} (h : spec_l1Has.F k a0 a1 = some y) : Meets Tryz.prog envX pv (.f 75) (tvals [(.sl (.int .i64)), (.int .i64)] (a0, a1, ())) (.t .bool y) :=
  fun_loops hE (t := spec_l1Has.C) k (fun k _ => spec_l1Has.G hE pv k) (f := 75) (fn := Tryz.f75) (by kernel_rfl) rfl (by kernel_rfl) (by kernel_rfl) (lt := spec_l1Has.L) (by kernel_rfl) (fun b A h => by
    unfold spec_l1Has.L at h; split at h
    · cases h; exact ⟨by kernel_rfl, by kernel_rfl, by kernel_rfl, fun _ => rfl, fun _ => rfl, fun _ => rfl⟩
    · cases h) (fun b A h => by
    unfold spec_l1Has.L at h; split at h
    · cases h; exact fun k x => spec_l1Has.step0 k x.1 x.2.1 x.2.2.1
    · cases h) ((spec_l1Has.run k a0 a1).trans h) fun r hr => wk_view1 hr
/-! ### 76 loop.example/g00896/spec.l21Parent -/
def spec_l21Parent.F (k : Nat) (a0 : Library) (a1 : Int) : Option (Int) := bif decide (0 ≤ a1) then (bif decide (a1 < (a0.entries.length : Int)) then (bif (beqS ((a0.entries.getD (a1 : Int).toNat (dflt .entry)).cross) (⟨#[]⟩ : ByteArray)) then (some (-1)) else (bif decide (0 ≤ a1) then (bif decide (a1 < (a0.entries.length : Int)) then ((spec_l4Find.F k a0 ((a0.entries.getD (a1 : Int).toNat (dflt .entry)).cross)).bind fun r1 => some r1) else none) else none)) else none) else none
def spec_l21Parent.C (k : Nat) : Cal → Option CArm := fun c => match c with
  | .f 26 => some (.p [.lib, .str] _ (fun x => spec_l4Find.F k x.1 x.2.1) (fun r => (.t (.int .i64) r)))
  | _ => none
theorem spec_l21Parent.run (k : Nat) (a0 : Library) (a1 : Int) : runF envX (tabC (spec_l21Parent.C k)) (tabL 20 0 (fun _ => none)) Tryz.f76 [.t .lib a0, .t (.int .i64) a1] (viewR1 (.t (.int .i64))) = spec_l21Parent.F k a0 a1 := by kernel_rfl
theorem spec_l21Parent.G (hE : EnvOk Tryz.prog envX) (pv : Nat → Value) (k : Nat) : ∀ cal A, spec_l21Parent.C k cal = some A → ArmOk Tryz.prog envX pv cal A := by
  intro cal A h
  unfold spec_l21Parent.C at h
  split at h
  · cases h; exact fun x y hy => spec_l4Find.good hE pv k x.1 x.2.1 hy
  · cases h
theorem spec_l21Parent.good (hE : EnvOk Tryz.prog envX) (pv : Nat → Value) (k : Nat) (a0 : Library) (a1 : Int) {y : _} (h : spec_l21Parent.F k a0 a1 = some y) : Meets Tryz.prog envX pv (.f 76) (tvals [.lib, (.int .i64)] (a0, a1, ())) (.t (.int .i64) y) :=
  fun_plain hE (spec_l21Parent.G hE pv k) (f := 76) (fn := Tryz.f76) (by kernel_rfl) rfl (by kernel_rfl) (by kernel_rfl) ((spec_l21Parent.run k a0 a1).trans h) fun r hr => wk_view1 hr
/-! ### 48 loop.example/g00896/spec.l21Chain -/
def spec_l21Chain.l0 : Nat → Int → Library → (List Int) → Option (Sum ((List Int) × Bool) (List Int))
  | 0, _, _, _ => none
  | k + 1, x1, x2, x6 => bif (decide (x1 ≥ 0)) then ((spec_l1Has.F k x6 x1).bind fun r1 => bif r1 then (some (.inl (x6, true))) else (bif room (x6.length + ([x1] : List Int).length) (.int .i64) then ((spec_l21Parent.F k x2 x1).bind fun r2 => spec_l21Chain.l0 k r2 x2 (x6 ++ ([x1] : List Int))) else none)) else (some (.inr x6))
def spec_l21Chain.F (k : Nat) (a0 : Library) (a1 : Int) : Option ((List Int) × Bool) := (spec_l21Chain.l0 k a1 a0 ([] : List Int)).bind fun y3 => match y3 with | .inl z4 => some (z4.1, z4.2) | .inr z4 => some (z4, false)
def spec_l21Chain.C (k : Nat) : Cal → Option CArm := fun c => match c with
  | .f 75 => some (.p [(.sl (.int .i64)), (.int .i64)] _ (fun x => spec_l1Has.F k x.1 x.2.1) (fun r => (.t .bool r)))
  | .f 76 => some (.p [.lib, (.int .i64)] _ (fun x => spec_l21Parent.F k x.1 x.2.1) (fun r => (.t (.int .i64) r)))
  | _ => none
def spec_l21Chain.sp0 : List Sp := [.t 1 (.int .i64), .boxT 2 0 .lib, .own 6 1024 3 (.int .i64) false true]
def spec_l21Chain.sp0_0 : List Sp := [.own 4 1024 3 (.int .i64) false true, .t 5 .bool]
def spec_l21Chain.sp0_1 : List Sp := [.own 6 1024 3 (.int .i64) false true]
def spec_l21Chain.A0 : LArm := .two spec_l21Chain.sp0 spec_l21Chain.sp0_0 spec_l21Chain.sp0_1 ((List Int) × Bool) ((List Int)) (fun k x => spec_l21Chain.l0 k x.1 x.2.1 x.2.2.1) .ret (.exit 0) (fun y => (y.1, y.2, ())) (fun x => (x.1, x.2.1)) (fun y => (y, ())) (fun x => x.1)
def spec_l21Chain.L : Nat → Option LArm := fun b => match b with
  | 0 => some spec_l21Chain.A0
  | _ => none
theorem spec_l21Chain.run (k : Nat) (a0 : Library) (a1 : Int) : runF envX (tabC (spec_l21Chain.C k)) (tabL 22 k spec_l21Chain.L) Tryz.f48 [.t .lib a0, .t (.int .i64) a1] (viewR2 (.fr 3 (.int .i64)) (.t .bool)) = spec_l21Chain.F k a0 a1 := by kernel_rfl
theorem spec_l21Chain.step0 (k : Nat) (x1 : Int) (x2 : Library) (x6 : List Int) : runC envX (tabC (spec_l21Chain.C k)) (tabL 22 k spec_l21Chain.L) 0 (loopAt Tryz.f48 0) (stOf 22 spec_l21Chain.sp0 (x1, x2, x6, ())) (spec_l21Chain.A0.cont 22 k) = spec_l21Chain.l0 (k + 1) x1 x2 x6 := by kernel_rfl
theorem spec_l21Chain.G (hE : EnvOk Tryz.prog envX) (pv : Nat → Value) (k : Nat) : ∀ cal A, spec_l21Chain.C k cal = some A → ArmOk Tryz.prog envX pv cal A := by
  intro cal A h
  unfold spec_l21Chain.C at h
  split at h
  · cases h; exact fun x y hy => spec_l1Has.good hE pv k x.1 x.2.1 hy
  · cases h; exact fun x y hy => spec_l21Parent.good hE pv k x.1 x.2.1 hy
  · cases h
theorem spec_l21Chain.good (hE : EnvOk Tryz.prog envX) (pv : Nat → Value) (k : Nat) (a0 : Library) (a1 : Int) {y : _} (h : spec_l21Chain.F k a0 a1 = some y) : Meets Tryz.prog envX pv (.f 48) (tvals [.lib, (.int .i64)] (a0, a1, ())) (.tup [.fr 3 (.int .i64) y.1, .t .bool y.2]) :=
  fun_loops hE (t := spec_l21Chain.C) k (fun k _ => spec_l21Chain.G hE pv k) (f := 48) (fn := Tryz.f48) (by kernel_rfl) rfl (by kernel_rfl) (by kernel_rfl) (lt := spec_l21Chain.L) (by kernel_rfl) (fun b A h => by
    unfold spec_l21Chain.L at h; split at h
    · cases h; exact ⟨by kernel_rfl, by kernel_rfl, by kernel_rfl, fun _ => rfl, fun _ => rfl, fun _ => rfl⟩
    · cases h) (fun b A h => by
    unfold spec_l21Chain.L at h; split at h
    · cases h; exact fun k x => spec_l21Chain.step0 k x.1 x.2.1 x.2.2.1
    · cases h) ((spec_l21Chain.run k a0 a1).trans h) fun r hr => wk_view2 hr
/-! ### 78 loop.example/g00896/spec.l20First -/
def spec_l20First.F (a0 : ByteArray) (a1 : ByteArray) : Option (ByteArray) := bif (beqS a0 (⟨#[]⟩ : ByteArray)) then (some a1) else (some a0)
def spec_l20First.C : Cal → Option CArm := fun c => match c with
  | _ => none
theorem spec_l20First.run (a0 : ByteArray) (a1 : ByteArray) : runF envX (tabC spec_l20First.C) (tabL 9 0 (fun _ => none)) Tryz.f78 [.t .str a0, .t .str a1] (viewR1 (.t .str)) = spec_l20First.F a0 a1 := by kernel_rfl
theorem spec_l20First.G (hE : EnvOk Tryz.prog envX) (pv : Nat → Value) : ∀ cal A, spec_l20First.C cal = some A → ArmOk Tryz.prog envX pv cal A := by
  intro cal A h
  unfold spec_l20First.C at h
  cases h
theorem spec_l20First.good (hE : EnvOk Tryz.prog envX) (pv : Nat → Value) (a0 : ByteArray) (a1 : ByteArray) {y : _} (h : spec_l20First.F a0 a1 = some y) : Meets Tryz.prog envX pv (.f 78) (tvals [.str, .str] (a0, a1, ())) (.t .str y) :=
  fun_plain hE (spec_l20First.G hE pv) (f := 78) (fn := Tryz.f78) (by kernel_rfl) rfl (by kernel_rfl) (by kernel_rfl) ((spec_l20First.run a0 a1).trans h) fun r hr => wk_view1 hr
/-! ### 50 loop.example/g00896/spec.l21Inherit -/
def spec_l21Inherit.F (k : Nat) (a0 : Entry) (a1 : Entry) : Option (Entry) := (spec_l4Copy.F k a0).bind fun r1 => (spec_l20First.F a0.publisher a1.publisher).bind fun r2 => bif (a0.date.y == 0) then (bif (a0.volume == 0) then (bif (a0.kind == 3) then ((spec_l20First.F a0.container a1.title).bind fun r3 => bif (a0.kind == 3) then (bif ((a0.editors.length : Int) == 0) then ((spec_l2Own.F k a1.editors).bind fun r4 => bif ((a1.editors.length : Int) == 0) then ((spec_l2Own.F k a1.authors).bind fun r5 => some (⟨r1.key, r1.kind, r1.authors, r5, r1.title, r3, r2, a1.date, a1.volume, r1.pages, r1.cross⟩ : Entry)) else (some (⟨r1.key, r1.kind, r1.authors, r4, r1.title, r3, r2, a1.date, a1.volume, r1.pages, r1.cross⟩ : Entry))) else (some (⟨r1.key, r1.kind, r1.authors, r1.editors, r1.title, r3, r2, a1.date, a1.volume, r1.pages, r1.cross⟩ : Entry))) else (some (⟨r1.key, r1.kind, r1.authors, r1.editors, r1.title, r3, r2, a1.date, a1.volume, r1.pages, r1.cross⟩ : Entry))) else (bif (a0.kind == 2) then ((spec_l20First.F a0.container a1.title).bind fun r6 => bif (a0.kind == 3) then (bif ((a0.editors.length : Int) == 0) then ((spec_l2Own.F k a1.editors).bind fun r7 => bif ((a1.editors.length : Int) == 0) then ((spec_l2Own.F k a1.authors).bind fun r8 => some (⟨r1.key, r1.kind, r1.authors, r8, r1.title, r6, r2, a1.date, a1.volume, r1.pages, r1.cross⟩ : Entry)) else (some (⟨r1.key, r1.kind, r1.authors, r7, r1.title, r6, r2, a1.date, a1.volume, r1.pages, r1.cross⟩ : Entry))) else (some (⟨r1.key, r1.kind, r1.authors, r1.editors, r1.title, r6, r2, a1.date, a1.volume, r1.pages, r1.cross⟩ : Entry))) else (some (⟨r1.key, r1.kind, r1.authors, r1.editors, r1.title, r6, r2, a1.date, a1.volume, r1.pages, r1.cross⟩ : Entry))) else ((spec_l20First.F a0.container a1.container).bind fun r9 => bif (a0.kind == 3) then (bif ((a0.editors.length : Int) == 0) then ((spec_l2Own.F k a1.editors).bind fun r10 => bif ((a1.editors.length : Int) == 0) then ((spec_l2Own.F k a1.authors).bind fun r11 => some (⟨r1.key, r1.kind, r1.authors, r11, r1.title, r9, r2, a1.date, a1.volume, r1.pages, r1.cross⟩ : Entry)) else (some (⟨r1.key, r1.kind, r1.authors, r10, r1.title, r9, r2, a1.date, a1.volume, r1.pages, r1.cross⟩ : Entry))) else (some (⟨r1.key, r1.kind, r1.authors, r1.editors, r1.title, r9, r2, a1.date, a1.volume, r1.pages, r1.cross⟩ : Entry))) else (some (⟨r1.key, r1.kind, r1.authors, r1.editors, r1.title, r9, r2, a1.date, a1.volume, r1.pages, r1.cross⟩ : Entry))))) else (bif (a0.kind == 3) then ((spec_l20First.F a0.container a1.title).bind fun r12 => bif (a0.kind == 3) then (bif ((a0.editors.length : Int) == 0) then ((spec_l2Own.F k a1.editors).bind fun r13 => bif ((a1.editors.length : Int) == 0) then ((spec_l2Own.F k a1.authors).bind fun r14 => some (⟨r1.key, r1.kind, r1.authors, r14, r1.title, r12, r2, a1.date, r1.volume, r1.pages, r1.cross⟩ : Entry)) else (some (⟨r1.key, r1.kind, r1.authors, r13, r1.title, r12, r2, a1.date, r1.volume, r1.pages, r1.cross⟩ : Entry))) else (some (⟨r1.key, r1.kind, r1.authors, r1.editors, r1.title, r12, r2, a1.date, r1.volume, r1.pages, r1.cross⟩ : Entry))) else (some (⟨r1.key, r1.kind, r1.authors, r1.editors, r1.title, r12, r2, a1.date, r1.volume, r1.pages, r1.cross⟩ : Entry))) else (bif (a0.kind == 2) then ((spec_l20First.F a0.container a1.title).bind fun r15 => bif (a0.kind == 3) then (bif ((a0.editors.length : Int) == 0) then ((spec_l2Own.F k a1.editors).bind fun r16 => bif ((a1.editors.length : Int) == 0) then ((spec_l2Own.F k a1.authors).bind fun r17 => some (⟨r1.key, r1.kind, r1.authors, r17, r1.title, r15, r2, a1.date, r1.volume, r1.pages, r1.cross⟩ : Entry)) else (some (⟨r1.key, r1.kind, r1.authors, r16, r1.title, r15, r2, a1.date, r1.volume, r1.pages, r1.cross⟩ : Entry))) else (some (⟨r1.key, r1.kind, r1.authors, r1.editors, r1.title, r15, r2, a1.date, r1.volume, r1.pages, r1.cross⟩ : Entry))) else (some (⟨r1.key, r1.kind, r1.authors, r1.editors, r1.title, r15, r2, a1.date, r1.volume, r1.pages, r1.cross⟩ : Entry))) else ((spec_l20First.F a0.container a1.container).bind fun r18 => bif (a0.kind == 3) then (bif ((a0.editors.length : Int) == 0) then ((spec_l2Own.F k a1.editors).bind fun r19 => bif ((a1.editors.length : Int) == 0) then ((spec_l2Own.F k a1.authors).bind fun r20 => some (⟨r1.key, r1.kind, r1.authors, r20, r1.title, r18, r2, a1.date, r1.volume, r1.pages, r1.cross⟩ : Entry)) else (some (⟨r1.key, r1.kind, r1.authors, r19, r1.title, r18, r2, a1.date, r1.volume, r1.pages, r1.cross⟩ : Entry))) else (some (⟨r1.key, r1.kind, r1.authors, r1.editors, r1.title, r18, r2, a1.date, r1.volume, r1.pages, r1.cross⟩ : Entry))) else (some (⟨r1.key, r1.kind, r1.authors, r1.editors, r1.title, r18, r2, a1.date, r1.volume, r1.pages, r1.cross⟩ : Entry)))))) else (bif (a0.volume == 0) then (bif (a0.kind == 3) then ((spec_l20First.F a0.container a1.title).bind fun r21 => bif (a0.kind == 3) then (bif ((a0.editors.length : Int) == 0) then ((spec_l2Own.F k a1.editors).bind fun r22 => bif ((a1.editors.length : Int) == 0) then ((spec_l2Own.F k a1.authors).bind fun r23 => some (⟨r1.key, r1.kind, r1.authors, r23, r1.title, r21, r2, r1.date, a1.volume, r1.pages, r1.cross⟩ : Entry)) else (some (⟨r1.key, r1.kind, r1.authors, r22, r1.title, r21, r2, r1.date, a1.volume, r1.pages, r1.cross⟩ : Entry))) else (some (⟨r1.key, r1.kind, r1.authors, r1.editors, r1.title, r21, r2, r1.date, a1.volume, r1.pages, r1.cross⟩ : Entry))) else (some (⟨r1.key, r1.kind, r1.authors, r1.editors, r1.title, r21, r2, r1.date, a1.volume, r1.pages, r1.cross⟩ : Entry))) else (bif (a0.kind == 2) then ((spec_l20First.F a0.container a1.title).bind fun r24 => bif (a0.kind == 3) then (bif ((a0.editors.length : Int) == 0) then ((spec_l2Own.F k a1.editors).bind fun r25 => bif ((a1.editors.length : Int) == 0) then ((spec_l2Own.F k a1.authors).bind fun r26 => some (⟨r1.key, r1.kind, r1.authors, r26, r1.title, r24, r2, r1.date, a1.volume, r1.pages, r1.cross⟩ : Entry)) else (some (⟨r1.key, r1.kind, r1.authors, r25, r1.title, r24, r2, r1.date, a1.volume, r1.pages, r1.cross⟩ : Entry))) else (some (⟨r1.key, r1.kind, r1.authors, r1.editors, r1.title, r24, r2, r1.date, a1.volume, r1.pages, r1.cross⟩ : Entry))) else (some (⟨r1.key, r1.kind, r1.authors, r1.editors, r1.title, r24, r2, r1.date, a1.volume, r1.pages, r1.cross⟩ : Entry))) else ((spec_l20First.F a0.container a1.container).bind fun r27 => bif (a0.kind == 3) then (bif ((a0.editors.length : Int) == 0) then ((spec_l2Own.F k a1.editors).bind fun r28 => bif ((a1.editors.length : Int) == 0) then ((spec_l2Own.F k a1.authors).bind fun r29 => some (⟨r1.key, r1.kind, r1.authors, r29, r1.title, r27, r2, r1.date, a1.volume, r1.pages, r1.cross⟩ : Entry)) else (some (⟨r1.key, r1.kind, r1.authors, r28, r1.title, r27, r2, r1.date, a1.volume, r1.pages, r1.cross⟩ : Entry))) else (some (⟨r1.key, r1.kind, r1.authors, r1.editors, r1.title, r27, r2, r1.date, a1.volume, r1.pages, r1.cross⟩ : Entry))) else (some (⟨r1.key, r1.kind, r1.authors, r1.editors, r1.title, r27, r2, r1.date, a1.volume, r1.pages, r1.cross⟩ : Entry))))) else (bif (a0.kind == 3) then ((spec_l20First.F a0.container a1.title).bind fun r30 => bif (a0.kind == 3) then (bif ((a0.editors.length : Int) == 0) then ((spec_l2Own.F k a1.editors).bind fun r31 => bif ((a1.editors.length : Int) == 0) then ((spec_l2Own.F k a1.authors).bind fun r32 => some (⟨r1.key, r1.kind, r1.authors, r32, r1.title, r30, r2, r1.date, r1.volume, r1.pages, r1.cross⟩ : Entry)) else (some (⟨r1.key, r1.kind, r1.authors, r31, r1.title, r30, r2, r1.date, r1.volume, r1.pages, r1.cross⟩ : Entry))) else (some (⟨r1.key, r1.kind, r1.authors, r1.editors, r1.title, r30, r2, r1.date, r1.volume, r1.pages, r1.cross⟩ : Entry))) else (some (⟨r1.key, r1.kind, r1.authors, r1.editors, r1.title, r30, r2, r1.date, r1.volume, r1.pages, r1.cross⟩ : Entry))) else (bif (a0.kind == 2) then ((spec_l20First.F a0.container a1.title).bind fun r33 => bif (a0.kind == 3) then (bif ((a0.editors.length : Int) == 0) then ((spec_l2Own.F k a1.editors).bind fun r34 => bif ((a1.editors.length : Int) == 0) then ((spec_l2Own.F k a1.authors).bind fun r35 => some (⟨r1.key, r1.kind, r1.authors, r35, r1.title, r33, r2, r1.date, r1.volume, r1.pages, r1.cross⟩ : Entry)) else (some (⟨r1.key, r1.kind, r1.authors, r34, r1.title, r33, r2, r1.date, r1.volume, r1.pages, r1.cross⟩ : Entry))) else (some (⟨r1.key, r1.kind, r1.authors, r1.editors, r1.title, r33, r2, r1.date, r1.volume, r1.pages, r1.cross⟩ : Entry))) else (some (⟨r1.key, r1.kind, r1.authors, r1.editors, r1.title, r33, r2, r1.date, r1.volume, r1.pages, r1.cross⟩ : Entry))) else ((spec_l20First.F a0.container a1.container).bind fun r36 => bif (a0.kind == 3) then (bif ((a0.editors.length : Int) == 0) then ((spec_l2Own.F k a1.editors).bind fun r37 => bif ((a1.editors.length : Int) == 0) then ((spec_l2Own.F k a1.authors).bind fun r38 => some (⟨r1.key, r1.kind, r1.authors, r38, r1.title, r36, r2, r1.date, r1.volume, r1.pages, r1.cross⟩ : Entry)) else (some (⟨r1.key, r1.kind, r1.authors, r37, r1.title, r36, r2, r1.date, r1.volume, r1.pages, r1.cross⟩ : Entry))) else (some (⟨r1.key, r1.kind, r1.authors, r1.editors, r1.title, r36, r2, r1.date, r1.volume, r1.pages, r1.cross⟩ : Entry))) else (some (⟨r1.key, r1.kind, r1.authors, r1.editors, r1.title, r36, r2, r1.date, r1.volume, r1.pages, r1.cross⟩ : Entry))))))
def spec_l21Inherit.C (k : Nat) : Cal → Option CArm := fun c => match c with
  | .f 49 => some (.p [.entry] _ (fun x => spec_l4Copy.F k x.1) (fun r => (.t .entry r)))
  | .f 78 => some (.p [.str, .str] _ (fun x => spec_l20First.F x.1 x.2.1) (fun r => (.t .str r)))
  | .f 77 => some (.p [(.sl .name)] _ (fun x => spec_l2Own.F k x.1) (fun r => (.fr 83 .name r)))
  | _ => none
theorem spec_l21Inherit.run (k : Nat) (a0 : Entry) (a1 : Entry) : runF envX (tabC (spec_l21Inherit.C k)) (tabL 69 0 (fun _ => none)) Tryz.f50 [.t .entry a0, .t .entry a1] (viewR1 (.t .entry)) = spec_l21Inherit.F k a0 a1 := by kernel_rfl
theorem spec_l21Inherit.G (hE : EnvOk Tryz.prog envX) (pv : Nat → Value) (k : Nat) : ∀ cal A, spec_l21Inherit.C k cal = some A → ArmOk Tryz.prog envX pv cal A := by
  intro cal A h
  unfold spec_l21Inherit.C at h
  split at h
  · cases h; exact fun x y hy => spec_l4Copy.good hE pv k x.1 hy
  · cases h; exact fun x y hy => spec_l20First.good hE pv x.1 x.2.1 hy
  · cases h; exact fun x y hy => spec_l2Own.good hE pv k x.1 hy
  · cases h
theorem spec_l21Inherit.good (hE : EnvOk Tryz.prog envX) (pv : Nat → Value) (k : Nat) (a0 : Entry) (a1 : Entry) {y : _} (h : spec_l21Inherit.F k a0 a1 = some y) : Meets Tryz.prog envX pv (.f 50) (tvals [.entry, .entry] (a0, a1, ())) (.t .entry y) :=
  fun_plain hE (spec_l21Inherit.G hE pv k) (f := 50) (fn := Tryz.f50) (by kernel_rfl) rfl (by kernel_rfl) (by kernel_rfl) ((spec_l21Inherit.run k a0 a1).trans h) fun r hr => wk_view1 hr
/-! ### 25 loop.example/g00896/spec.l21Resolve -/
def spec_l21Resolve.l0 : Nat → Library → ByteArray → Int → (List Name) → (List Name) → ByteArray → ByteArray → ByteArray → Date → Int → ByteArray → ByteArray → (List Int) → Entry → Int → Option (ByteArray × Int × (List Name) × (List Name) × ByteArray × ByteArray × ByteArray × Date × Int × ByteArray × ByteArray × Entry)
  | 0, _, _, _, _, _, _, _, _, _, _, _, _, _, _, _ => none
  | k + 1, x2, x4_0, x4_1, x4_2, x4_3, x4_4, x4_5, x4_6, x4_7, x4_8, x4_9, x4_10, x6, x8, x9 => bif (decide (x9 ≥ 0)) then (bif decide (0 ≤ x9) then (bif decide (x9 < (x6.length : Int)) then (bif decide (0 ≤ (x6.getD ((x9 : Int).toNat) 0)) then (bif decide ((x6.getD ((x9 : Int).toNat) 0) < (x2.entries.length : Int)) then ((spec_l21Inherit.F k (x2.entries.getD ((x6.getD ((x9 : Int).toNat) 0) : Int).toNat (dflt .entry)) x8).bind fun r3 => spec_l21Resolve.l0 k x2 x4_0 x4_1 x4_2 x4_3 x4_4 x4_5 x4_6 x4_7 x4_8 x4_9 x4_10 x6 r3 (IntKind.wrap .i64 (x9 - 1))) else none) else none) else none) else none) else (some (x4_0, x4_1, x4_2, x4_3, x4_4, x4_5, x4_6, x4_7, x4_8, x4_9, x4_10, x8))
def spec_l21Resolve.F (k : Nat) (a0 : Library) (a1 : Int) : Option (Entry × Bool) := (spec_l21Chain.F k a0 a1).bind fun r1 => bif r1.2 then (some ((⟨(⟨#[]⟩ : ByteArray), 0, ([] : List Name), ([] : List Name), (⟨#[]⟩ : ByteArray), (⟨#[]⟩ : ByteArray), (⟨#[]⟩ : ByteArray), (dflt .date), 0, (⟨#[]⟩ : ByteArray), (⟨#[]⟩ : ByteArray)⟩ : Entry), false)) else (bif decide (0 ≤ (IntKind.wrap .i64 ((r1.1.length : Int) - 1))) then (bif decide ((IntKind.wrap .i64 ((r1.1.length : Int) - 1)) < (r1.1.length : Int)) then (bif decide (0 ≤ (r1.1.getD (((IntKind.wrap .i64 ((r1.1.length : Int) - 1)) : Int).toNat) 0)) then (bif decide ((r1.1.getD (((IntKind.wrap .i64 ((r1.1.length : Int) - 1)) : Int).toNat) 0) < (a0.entries.length : Int)) then ((spec_l4Copy.F k (a0.entries.getD ((r1.1.getD (((IntKind.wrap .i64 ((r1.1.length : Int) - 1)) : Int).toNat) 0) : Int).toNat (dflt .entry))).bind fun r2 => (spec_l21Resolve.l0 k a0 (⟨#[]⟩ : ByteArray) 0 ([] : List Name) ([] : List Name) (⟨#[]⟩ : ByteArray) (⟨#[]⟩ : ByteArray) (⟨#[]⟩ : ByteArray) (dflt .date) 0 (⟨#[]⟩ : ByteArray) (⟨#[]⟩ : ByteArray) r1.1 r2 (IntKind.wrap .i64 ((r1.1.length : Int) - 2))).bind fun y4 => some (y4.2.2.2.2.2.2.2.2.2.2.2, true)) else none) else none) else none) else none)
def spec_l21Resolve.C (k : Nat) : Cal → Option CArm := fun c => match c with
  | .f 48 => some (.p [.lib, (.int .i64)] _ (fun x => spec_l21Chain.F k x.1 x.2.1) (fun r => (.tup [.fr 3 (.int .i64) r.1, .t .bool r.2])))
  | .f 49 => some (.p [.entry] _ (fun x => spec_l4Copy.F k x.1) (fun r => (.t .entry r)))
  | .f 50 => some (.p [.entry, .entry] _ (fun x => spec_l21Inherit.F k x.1 x.2.1) (fun r => (.t .entry r)))
  | _ => none
def spec_l21Resolve.sp0 : List Sp := [.boxT 2 0 .lib, .boxF 4 4 .entry [.t .str, .t (.int .i64), .t (.sl .name), .t (.sl .name), .t .str, .t .str, .t .str, .t .date, .t (.int .i64), .t .str, .t .str], .own 6 1032 3 (.int .i64) false true, .boxT 8 4140 .entry, .t 9 (.int .i64)]
def spec_l21Resolve.sp0_0 : List Sp := [.boxF 4 4 .entry [.t .str, .t (.int .i64), .t (.sl .name), .t (.sl .name), .t .str, .t .str, .t .str, .t .date, .t (.int .i64), .t .str, .t .str], .boxT 8 4140 .entry]
def spec_l21Resolve.A0 : LArm := .one spec_l21Resolve.sp0 spec_l21Resolve.sp0_0 (ByteArray × Int × (List Name) × (List Name) × ByteArray × ByteArray × ByteArray × Date × Int × ByteArray × ByteArray × Entry) (fun k x => spec_l21Resolve.l0 k x.1 x.2.1.1 x.2.1.2.1 x.2.1.2.2.1 x.2.1.2.2.2.1 x.2.1.2.2.2.2.1 x.2.1.2.2.2.2.2.1 x.2.1.2.2.2.2.2.2.1 x.2.1.2.2.2.2.2.2.2.1 x.2.1.2.2.2.2.2.2.2.2.1 x.2.1.2.2.2.2.2.2.2.2.2.1 x.2.1.2.2.2.2.2.2.2.2.2.2.1 x.2.2.1 x.2.2.2.1 x.2.2.2.2.1) (.exit 0) (fun y => ((y.1, y.2.1, y.2.2.1, y.2.2.2.1, y.2.2.2.2.1, y.2.2.2.2.2.1, y.2.2.2.2.2.2.1, y.2.2.2.2.2.2.2.1, y.2.2.2.2.2.2.2.2.1, y.2.2.2.2.2.2.2.2.2.1, y.2.2.2.2.2.2.2.2.2.2.1, ()), y.2.2.2.2.2.2.2.2.2.2.2, ())) (fun x => (x.1.1, x.1.2.1, x.1.2.2.1, x.1.2.2.2.1, x.1.2.2.2.2.1, x.1.2.2.2.2.2.1, x.1.2.2.2.2.2.2.1, x.1.2.2.2.2.2.2.2.1, x.1.2.2.2.2.2.2.2.2.1, x.1.2.2.2.2.2.2.2.2.2.1, x.1.2.2.2.2.2.2.2.2.2.2.1, x.2.1))
def spec_l21Resolve.L : Nat → Option LArm := fun b => match b with
  | 0 => some spec_l21Resolve.A0
  | _ => none
theorem spec_l21Resolve.run (k : Nat) (a0 : Library) (a1 : Int) : runF envX (tabC (spec_l21Resolve.C k)) (tabL 47 k spec_l21Resolve.L) Tryz.f25 [.t .lib a0, .t (.int .i64) a1] (viewR2 (.t .entry) (.t .bool)) = spec_l21Resolve.F k a0 a1 := by kernel_rfl
theorem spec_l21Resolve.step0 (k : Nat) (x2 : Library) (x4_0 : ByteArray) (x4_1 : Int) (x4_2 : List Name) (x4_3 : List Name) (x4_4 : ByteArray) (x4_5 : ByteArray) (x4_6 : ByteArray) (x4_7 : Date) (x4_8 : Int) (x4_9 : ByteArray) (x4_10 : ByteArray) (x6 : List Int) (x8 : Entry) (x9 : Int) : runC envX (tabC (spec_l21Resolve.C k)) (tabL 47 k spec_l21Resolve.L) 0 (loopAt Tryz.f25 0) (stOf 47 spec_l21Resolve.sp0 (x2, (x4_0, x4_1, x4_2, x4_3, x4_4, x4_5, x4_6, x4_7, x4_8, x4_9, x4_10, ()), x6, x8, x9, ())) (spec_l21Resolve.A0.cont 47 k) = spec_l21Resolve.l0 (k + 1) x2 x4_0 x4_1 x4_2 x4_3 x4_4 x4_5 x4_6 x4_7 x4_8 x4_9 x4_10 x6 x8 x9 := by kernel_rfl
theorem spec_l21Resolve.G (hE : EnvOk Tryz.prog envX) (pv : Nat → Value) (k : Nat) : ∀ cal A, spec_l21Resolve.C k cal = some A → ArmOk Tryz.prog envX pv cal A := by
  intro cal A h
  unfold spec_l21Resolve.C at h
  split at h
  · cases h; exact fun x y hy => spec_l21Chain.good hE pv k x.1 x.2.1 hy
  · cases h; exact fun x y hy => spec_l4Copy.good hE pv k x.1 hy
  · cases h; exact fun x y hy => spec_l21Inherit.good hE pv k x.1 x.2.1 hy
  · cases h
theorem spec_l21Resolve.good (hE : EnvOk Tryz.prog envX) (pv : Nat → Value) (k : Nat) (a0 : Library) (a1 : Int) {y : _} (h : spec_l21Resolve.F k a0 a1 = some y) : Meets Tryz.prog envX pv (.f 25) (tvals [.lib, (.int .i64)] (a0, a1, ())) (.tup [.t .entry y.1, .t .bool y.2]) :=
  fun_loops hE (t := spec_l21Resolve.C) k (fun k _ => spec_l21Resolve.G hE pv k) (f := 25) (fn := Tryz.f25) (by kernel_rfl) rfl (by kernel_rfl) (by kernel_rfl) (lt := spec_l21Resolve.L) (by kernel_rfl) (fun b A h => by
    unfold spec_l21Resolve.L at h; split at h
    · cases h; exact ⟨by kernel_rfl, by kernel_rfl, fun _ => rfl, fun _ => rfl⟩
    · cases h) (fun b A h => by
    unfold spec_l21Resolve.L at h; split at h
    · cases h; exact fun k x => spec_l21Resolve.step0 k x.1 x.2.1.1 x.2.1.2.1 x.2.1.2.2.1 x.2.1.2.2.2.1 x.2.1.2.2.2.2.1 x.2.1.2.2.2.2.2.1 x.2.1.2.2.2.2.2.2.1 x.2.1.2.2.2.2.2.2.2.1 x.2.1.2.2.2.2.2.2.2.2.1 x.2.1.2.2.2.2.2.2.2.2.2.1 x.2.1.2.2.2.2.2.2.2.2.2.2.1 x.2.2.1 x.2.2.2.1 x.2.2.2.2.1
    · cases h) ((spec_l21Resolve.run k a0 a1).trans h) fun r hr => wk_view2 hr
/-! ### 7 loop.example/g00896/spec.ResolveEntry -/
def spec_ResolveEntry.F (k : Nat) (a0 : Library) (a1 : ByteArray) : Option (Entry × Bool) := (spec_l21Asked.F k a0 a1).bind fun r1 => bif (!r1) then (some ((⟨(⟨#[]⟩ : ByteArray), 0, ([] : List Name), ([] : List Name), (⟨#[]⟩ : ByteArray), (⟨#[]⟩ : ByteArray), (⟨#[]⟩ : ByteArray), (dflt .date), 0, (⟨#[]⟩ : ByteArray), (⟨#[]⟩ : ByteArray)⟩ : Entry), false)) else ((spec_l4Find.F k a0 a1).bind fun r2 => (spec_l21Resolve.F k a0 r2).bind fun r3 => some (r3.1, r3.2))
def spec_ResolveEntry.C (k : Nat) : Cal → Option CArm := fun c => match c with
  | .f 24 => some (.p [.lib, .str] _ (fun x => spec_l21Asked.F k x.1 x.2.1) (fun r => (.t .bool r)))
  | .f 26 => some (.p [.lib, .str] _ (fun x => spec_l4Find.F k x.1 x.2.1) (fun r => (.t (.int .i64) r)))
  | .f 25 => some (.p [.lib, (.int .i64)] _ (fun x => spec_l21Resolve.F k x.1 x.2.1) (fun r => (.tup [.t .entry r.1, .t .bool r.2])))
  | _ => none
theorem spec_ResolveEntry.run (k : Nat) (a0 : Library) (a1 : ByteArray) : runF envX (tabC (spec_ResolveEntry.C k)) (tabL 18 0 (fun _ => none)) Tryz.f7 [.t .lib a0, .t .str a1] (viewR2 (.t .entry) (.t .bool)) = spec_ResolveEntry.F k a0 a1 := by kernel_rfl
theorem spec_ResolveEntry.G (hE : EnvOk Tryz.prog envX) (pv : Nat → Value) (k : Nat) : ∀ cal A, spec_ResolveEntry.C k cal = some A → ArmOk Tryz.prog envX pv cal A := by
  intro cal A h
  unfold spec_ResolveEntry.C at h
  split at h
  · cases h; exact fun x y hy => spec_l21Asked.good hE pv k x.1 x.2.1 hy
  · cases h; exact fun x y hy => spec_l4Find.good hE pv k x.1 x.2.1 hy
  · cases h; exact fun x y hy => spec_l21Resolve.good hE pv k x.1 x.2.1 hy
  · cases h
theorem spec_ResolveEntry.good (hE : EnvOk Tryz.prog envX) (pv : Nat → Value) (k : Nat) (a0 : Library) (a1 : ByteArray) {y : _} (h : spec_ResolveEntry.F k a0 a1 = some y) : Meets Tryz.prog envX pv (.f 7) (tvals [.lib, .str] (a0, a1, ())) (.tup [.t .entry y.1, .t .bool y.2]) :=
  fun_plain hE (spec_ResolveEntry.G hE pv k) (f := 7) (fn := Tryz.f7) (by kernel_rfl) rfl (by kernel_rfl) (by kernel_rfl) ((spec_ResolveEntry.run k a0 a1).trans h) fun r hr => wk_view2 hr
/-! ### 13 loop.example/g00896/laws.rTexts -/
def laws_rTexts.l0 : Nat → (List ByteArray) → (List ByteArray) → Int → Option (Sum Bool Unit)
  | 0, _, _, _ => none
  | k + 1, x0, x1, x5 => bif (decide (x5 < (x0.length : Int))) then (bif decide (0 ≤ x5) then (bif decide (x5 < (x0.length : Int)) then (bif decide (0 ≤ x5) then (bif decide (x5 < (x1.length : Int)) then (bif (!beqS (x0.getD (x5 : Int).toNat (⟨#[]⟩ : ByteArray)) (x1.getD (x5 : Int).toNat (⟨#[]⟩ : ByteArray))) then (some (.inl false)) else (laws_rTexts.l0 k x0 x1 (IntKind.wrap .i64 (x5 + 1)))) else none) else none) else none) else none) else (some (.inr ()))
def laws_rTexts.F (k : Nat) (a0 : List ByteArray) (a1 : List ByteArray) : Option (Bool) := bif ((a0.length : Int) != (a1.length : Int)) then (some false) else ((laws_rTexts.l0 k a0 a1 0).bind fun y1 => match y1 with | .inl z2 => some z2 | .inr z2 => some true)
def laws_rTexts.C (k : Nat) : Cal → Option CArm := fun c => match c with
  | _ => none
def laws_rTexts.sp0 : List Sp := [.t 0 (.sl .str), .t 1 (.sl .str), .t 5 (.int .i64)]
def laws_rTexts.sp0_0 : List Sp := [.t 4 .bool]
def laws_rTexts.sp0_1 : List Sp := []
def laws_rTexts.A0 : LArm := .two laws_rTexts.sp0 laws_rTexts.sp0_0 laws_rTexts.sp0_1 (Bool) (Unit) (fun k x => laws_rTexts.l0 k x.1 x.2.1 x.2.2.1) .ret (.exit 0) (fun y => (y, ())) (fun x => x.1) (fun y => ()) (fun x => ())
def laws_rTexts.L : Nat → Option LArm := fun b => match b with
  | 0 => some laws_rTexts.A0
  | _ => none
theorem laws_rTexts.run (k : Nat) (a0 : List ByteArray) (a1 : List ByteArray) : runF envX (tabC (laws_rTexts.C k)) (tabL 26 k laws_rTexts.L) Tryz.f13 [.t (.sl .str) a0, .t (.sl .str) a1] (viewR1 (.t .bool)) = laws_rTexts.F k a0 a1 := by kernel_rfl
theorem laws_rTexts.step0 (k : Nat) (x0 : List ByteArray) (x1 : List ByteArray) (x5 : Int) : runC envX (tabC (laws_rTexts.C k)) (tabL 26 k laws_rTexts.L) 0 (loopAt Tryz.f13 0) (stOf 26 laws_rTexts.sp0 (x0, x1, x5, ())) (laws_rTexts.A0.cont 26 k) = laws_rTexts.l0 (k + 1) x0 x1 x5 := by kernel_rfl
theorem laws_rTexts.G (hE : EnvOk Tryz.prog envX) (pv : Nat → Value) (k : Nat) : ∀ cal A, laws_rTexts.C k cal = some A → ArmOk Tryz.prog envX pv cal A := by
  intro cal A h
  unfold laws_rTexts.C at h
  cases h
theorem laws_rTexts.good (hE : EnvOk Tryz.prog envX) (pv : Nat → Value) (k : Nat) (a0 : List ByteArray) (a1 : List ByteArray) {y : _} (h : laws_rTexts.F k a0 a1 = some y) : Meets Tryz.prog envX pv (.f 13) (tvals [(.sl .str), (.sl .str)] (a0, a1, ())) (.t .bool y) :=
  fun_loops hE (t := laws_rTexts.C) k (fun k _ => laws_rTexts.G hE pv k) (f := 13) (fn := Tryz.f13) (by kernel_rfl) rfl (by kernel_rfl) (by kernel_rfl) (lt := laws_rTexts.L) (by kernel_rfl) (fun b A h => by
    unfold laws_rTexts.L at h; split at h
    · cases h; exact ⟨by kernel_rfl, by kernel_rfl, by kernel_rfl, fun _ => rfl, fun _ => rfl, fun _ => rfl⟩
    · cases h) (fun b A h => by
    unfold laws_rTexts.L at h; split at h
    · cases h; exact fun k x => laws_rTexts.step0 k x.1 x.2.1 x.2.2.1
    · cases h) ((laws_rTexts.run k a0 a1).trans h) fun r hr => wk_view1 hr
/-! ### 27 loop.example/g00896/laws.rNames -/
def laws_rNames.l0 : Nat → (List Name) → (List Name) → Int → Option (Sum Bool Unit)
  | 0, _, _, _ => none
  | k + 1, x0, x1, x5 => bif (decide (x5 < (x0.length : Int))) then (bif decide (0 ≤ x5) then (bif decide (x5 < (x0.length : Int)) then (bif decide (0 ≤ x5) then (bif decide (x5 < (x1.length : Int)) then ((laws_rTexts.F k ((x0.getD (x5 : Int).toNat (dflt .name)).given) ((x1.getD (x5 : Int).toNat (dflt .name)).given)).bind fun r1 => bif (!r1) then (some (.inl false)) else (bif decide (0 ≤ x5) then (bif decide (x5 < (x0.length : Int)) then (bif decide (0 ≤ x5) then (bif decide (x5 < (x1.length : Int)) then (bif (!beqS ((x0.getD (x5 : Int).toNat (dflt .name)).particle) ((x1.getD (x5 : Int).toNat (dflt .name)).particle)) then (some (.inl false)) else (bif decide (0 ≤ x5) then (bif decide (x5 < (x0.length : Int)) then (bif decide (0 ≤ x5) then (bif decide (x5 < (x1.length : Int)) then (bif (!beqS ((x0.getD (x5 : Int).toNat (dflt .name)).family) ((x1.getD (x5 : Int).toNat (dflt .name)).family)) then (some (.inl false)) else (bif decide (0 ≤ x5) then (bif decide (x5 < (x0.length : Int)) then (bif decide (0 ≤ x5) then (bif decide (x5 < (x1.length : Int)) then (bif (!beqS ((x0.getD (x5 : Int).toNat (dflt .name)).suffix) ((x1.getD (x5 : Int).toNat (dflt .name)).suffix)) then (some (.inl false)) else (laws_rNames.l0 k x0 x1 (IntKind.wrap .i64 (x5 + 1)))) else none) else none) else none) else none)) else none) else none) else none) else none)) else none) else none) else none) else none)) else none) else none) else none) else none) else (some (.inr ()))
def laws_rNames.F (k : Nat) (a0 : List Name) (a1 : List Name) : Option (Bool) := bif ((a0.length : Int) != (a1.length : Int)) then (some false) else ((laws_rNames.l0 k a0 a1 0).bind fun y2 => match y2 with | .inl z3 => some z3 | .inr z3 => some true)
def laws_rNames.C (k : Nat) : Cal → Option CArm := fun c => match c with
  | .f 13 => some (.p [(.sl .str), (.sl .str)] _ (fun x => laws_rTexts.F k x.1 x.2.1) (fun r => (.t .bool r)))
  | _ => none
def laws_rNames.sp0 : List Sp := [.t 0 (.sl .name), .t 1 (.sl .name), .t 5 (.int .i64)]
def laws_rNames.sp0_0 : List Sp := [.t 4 .bool]
def laws_rNames.sp0_1 : List Sp := []
def laws_rNames.A0 : LArm := .two laws_rNames.sp0 laws_rNames.sp0_0 laws_rNames.sp0_1 (Bool) (Unit) (fun k x => laws_rNames.l0 k x.1 x.2.1 x.2.2.1) .ret (.exit 0) (fun y => (y, ())) (fun x => x.1) (fun y => ()) (fun x => ())
def laws_rNames.L : Nat → Option LArm := fun b => match b with
  | 0 => some laws_rNames.A0
  | _ => none
theorem laws_rNames.run (k : Nat) (a0 : List Name) (a1 : List Name) : runF envX (tabC (laws_rNames.C k)) (tabL 68 k laws_rNames.L) Tryz.f27 [.t (.sl .name) a0, .t (.sl .name) a1] (viewR1 (.t .bool)) = laws_rNames.F k a0 a1 := by kernel_rfl
theorem laws_rNames.step0 (k : Nat) (x0 : List Name) (x1 : List Name) (x5 : Int) : runC envX (tabC (laws_rNames.C k)) (tabL 68 k laws_rNames.L) 0 (loopAt Tryz.f27 0) (stOf 68 laws_rNames.sp0 (x0, x1, x5, ())) (laws_rNames.A0.cont 68 k) = laws_rNames.l0 (k + 1) x0 x1 x5 := by kernel_rfl
theorem laws_rNames.G (hE : EnvOk Tryz.prog envX) (pv : Nat → Value) (k : Nat) : ∀ cal A, laws_rNames.C k cal = some A → ArmOk Tryz.prog envX pv cal A := by
  intro cal A h
  unfold laws_rNames.C at h
  split at h
  · cases h; exact fun x y hy => laws_rTexts.good hE pv k x.1 x.2.1 hy
  · cases h
theorem laws_rNames.good (hE : EnvOk Tryz.prog envX) (pv : Nat → Value) (k : Nat) (a0 : List Name) (a1 : List Name) {y : _} (h : laws_rNames.F k a0 a1 = some y) : Meets Tryz.prog envX pv (.f 27) (tvals [(.sl .name), (.sl .name)] (a0, a1, ())) (.t .bool y) :=
  fun_loops hE (t := laws_rNames.C) k (fun k _ => laws_rNames.G hE pv k) (f := 27) (fn := Tryz.f27) (by kernel_rfl) rfl (by kernel_rfl) (by kernel_rfl) (lt := laws_rNames.L) (by kernel_rfl) (fun b A h => by
    unfold laws_rNames.L at h; split at h
    · cases h; exact ⟨by kernel_rfl, by kernel_rfl, by kernel_rfl, fun _ => rfl, fun _ => rfl, fun _ => rfl⟩
    · cases h) (fun b A h => by
    unfold laws_rNames.L at h; split at h
    · cases h; exact fun k x => laws_rNames.step0 k x.1 x.2.1 x.2.2.1
    · cases h) ((laws_rNames.run k a0 a1).trans h) fun r hr => wk_view1 hr
/-! ### 8 loop.example/g00896/laws.rEntries -/
def laws_rEntries.F (k : Nat) (a0 : Entry) (a1 : Entry) : Option (Bool) := bif (beqS a0.key a1.key) then (bif (a0.kind == a1.kind) then ((laws_rNames.F k a0.authors a1.authors).bind fun r1 => bif r1 then ((laws_rNames.F k a0.editors a1.editors).bind fun r2 => bif r2 then (bif (beqS a0.title a1.title) then (bif (beqS a0.container a1.container) then (bif (beqS a0.publisher a1.publisher) then (bif ((a0.date.y == a1.date.y && (a0.date.m == a1.date.m && (a0.date.d == a1.date.d && a0.date.c == a1.date.c)))) then (bif (a0.volume == a1.volume) then (bif (beqS a0.pages a1.pages) then (some (beqS a0.cross a1.cross)) else (some false)) else (some false)) else (some false)) else (some false)) else (some false)) else (some false)) else (some false)) else (some false)) else (some false)) else (some false)
def laws_rEntries.C (k : Nat) : Cal → Option CArm := fun c => match c with
  | .f 27 => some (.p [(.sl .name), (.sl .name)] _ (fun x => laws_rNames.F k x.1 x.2.1) (fun r => (.t .bool r)))
  | _ => none
theorem laws_rEntries.run (k : Nat) (a0 : Entry) (a1 : Entry) : runF envX (tabC (laws_rEntries.C k)) (tabL 80 0 (fun _ => none)) Tryz.f8 [.t .entry a0, .t .entry a1] (viewR1 (.t .bool)) = laws_rEntries.F k a0 a1 := by kernel_rfl
theorem laws_rEntries.G (hE : EnvOk Tryz.prog envX) (pv : Nat → Value) (k : Nat) : ∀ cal A, laws_rEntries.C k cal = some A → ArmOk Tryz.prog envX pv cal A := by
  intro cal A h
  unfold laws_rEntries.C at h
  split at h
  · cases h; exact fun x y hy => laws_rNames.good hE pv k x.1 x.2.1 hy
  · cases h
theorem laws_rEntries.good (hE : EnvOk Tryz.prog envX) (pv : Nat → Value) (k : Nat) (a0 : Entry) (a1 : Entry) {y : _} (h : laws_rEntries.F k a0 a1 = some y) : Meets Tryz.prog envX pv (.f 8) (tvals [.entry, .entry] (a0, a1, ())) (.t .bool y) :=
  fun_plain hE (laws_rEntries.G hE pv k) (f := 8) (fn := Tryz.f8) (by kernel_rfl) rfl (by kernel_rfl) (by kernel_rfl) ((laws_rEntries.run k a0 a1).trans h) fun r hr => wk_view1 hr
/-! ### 9 loop.example/g00896/spec.FindEntry -/
def spec_FindEntry.F (k : Nat) (a0 : Library) (a1 : ByteArray) : Option (Int × Bool) := (spec_l4Good.F k a0).bind fun r1 => bif (!r1) then (some (0, false)) else ((spec_l4Find.F k a0 a1).bind fun r2 => bif (decide (r2 < 0)) then (some (0, false)) else ((spec_l4Find.F k a0 a1).bind fun r3 => some (r3, true)))
def spec_FindEntry.C (k : Nat) : Cal → Option CArm := fun c => match c with
  | .f 28 => some (.p [.lib] _ (fun x => spec_l4Good.F k x.1) (fun r => (.t .bool r)))
  | .f 26 => some (.p [.lib, .str] _ (fun x => spec_l4Find.F k x.1 x.2.1) (fun r => (.t (.int .i64) r)))
  | _ => none
theorem spec_FindEntry.run (k : Nat) (a0 : Library) (a1 : ByteArray) : runF envX (tabC (spec_FindEntry.C k)) (tabL 18 0 (fun _ => none)) Tryz.f9 [.t .lib a0, .t .str a1] (viewR2 (.t (.int .i64)) (.t .bool)) = spec_FindEntry.F k a0 a1 := by kernel_rfl
theorem spec_FindEntry.G (hE : EnvOk Tryz.prog envX) (pv : Nat → Value) (k : Nat) : ∀ cal A, spec_FindEntry.C k cal = some A → ArmOk Tryz.prog envX pv cal A := by
  intro cal A h
  unfold spec_FindEntry.C at h
  split at h
  · cases h; exact fun x y hy => spec_l4Good.good hE pv k x.1 hy
  · cases h; exact fun x y hy => spec_l4Find.good hE pv k x.1 x.2.1 hy
  · cases h
theorem spec_FindEntry.good (hE : EnvOk Tryz.prog envX) (pv : Nat → Value) (k : Nat) (a0 : Library) (a1 : ByteArray) {y : _} (h : spec_FindEntry.F k a0 a1 = some y) : Meets Tryz.prog envX pv (.f 9) (tvals [.lib, .str] (a0, a1, ())) (.tup [.t (.int .i64) y.1, .t .bool y.2]) :=
  fun_plain hE (spec_FindEntry.G hE pv k) (f := 9) (fn := Tryz.f9) (by kernel_rfl) rfl (by kernel_rfl) (by kernel_rfl) ((spec_FindEntry.run k a0 a1).trans h) fun r hr => wk_view2 hr
/-! ### 85 strings.Join -/
def strings_Join.F (a0 : List ByteArray) (a1 : ByteArray) : Option (ByteArray) := xJoin a0 a1
theorem strings_Join.good (hE : EnvOk Tryz.prog envX) (pv : Nat → Value) (a0 : List ByteArray) (a1 : ByteArray) {y : _} (h : strings_Join.F a0 a1 = some y) : Meets Tryz.prog envX pv (.f 85) (tvals [(.sl .str), .str] (a0, a1, ())) (.t .str y) :=
  ext_join (fn := Tryz.f85) (by kernel_rfl) rfl (by kernel_rfl) Tryz.strings_Join_none Tryz.strings_Join h
-- NO 133 slices.DeleteFunc[[]string,string]: a parameter's type
/-! ### 134 loop.example/g00896/impl.spaced$1 -/
def impl_spaced_1.F (a0 : ByteArray) : Option (Bool) := some (beqS a0 (⟨#[]⟩ : ByteArray))
def impl_spaced_1.C : Cal → Option CArm := fun c => match c with
  | _ => none
theorem impl_spaced_1.run (a0 : ByteArray) : runF envX (tabC impl_spaced_1.C) (tabL 5 0 (fun _ => none)) Tryz.f134 [.t .str a0] (viewR1 (.t .bool)) = impl_spaced_1.F a0 := by kernel_rfl
theorem impl_spaced_1.G (hE : EnvOk Tryz.prog envX) (pv : Nat → Value) : ∀ cal A, impl_spaced_1.C cal = some A → ArmOk Tryz.prog envX pv cal A := by
  intro cal A h
  unfold impl_spaced_1.C at h
  cases h
theorem impl_spaced_1.good (hE : EnvOk Tryz.prog envX) (pv : Nat → Value) (a0 : ByteArray) {y : _} (h : impl_spaced_1.F a0 = some y) : Meets Tryz.prog envX pv (.f 134) (tvals [.str] (a0, ())) (.t .bool y) :=
  fun_plain hE (impl_spaced_1.G hE pv) (f := 134) (fn := Tryz.f134) (by kernel_rfl) rfl (by kernel_rfl) (by kernel_rfl) ((impl_spaced_1.run a0).trans h) fun r hr => wk_view1 hr
/-! ### 112 slices.IndexFunc[[]string,string] at loop.example/g00896/impl.spaced$1 -/
def slices_IndexFunc_string_f134.l0 : Nat → (List ByteArray) → Int → Int → Option (Sum Int Unit)
  | 0, _, _, _ => none
  | k + 1, x0, x7, x8 => bif (decide (x8 < x7)) then (bif decide (0 ≤ x8) then (bif decide (x8 < (x0.length : Int)) then ((impl_spaced_1.F (x0.getD (x8 : Int).toNat (⟨#[]⟩ : ByteArray))).bind fun r1 => bif r1 then (some (.inl x8)) else (slices_IndexFunc_string_f134.l0 k x0 x7 (IntKind.wrap .i64 (x8 + 1)))) else none) else none) else (some (.inr ()))
def slices_IndexFunc_string_f134.F (k : Nat) (a0 : List ByteArray) : Option (Int) := (slices_IndexFunc_string_f134.l0 k a0 (a0.length : Int) 0).bind fun y2 => match y2 with | .inl z3 => some z3 | .inr z3 => some (-1)
def slices_IndexFunc_string_f134.C (k : Nat) : Cal → Option CArm := fun c => match c with
  | .f 134 => some (.p [.str] _ (fun x => impl_spaced_1.F x.1) (fun r => (.t .bool r)))
  | _ => none
def slices_IndexFunc_string_f134.sp0 : List Sp := [.t 0 (.sl .str), .con 1 (.clo 134), .t 7 (.int .i64), .t 8 (.int .i64)]
def slices_IndexFunc_string_f134.sp0_0 : List Sp := [.t 4 (.int .i64)]
def slices_IndexFunc_string_f134.sp0_1 : List Sp := []
def slices_IndexFunc_string_f134.A0 : LArm := .two slices_IndexFunc_string_f134.sp0 slices_IndexFunc_string_f134.sp0_0 slices_IndexFunc_string_f134.sp0_1 (Int) (Unit) (fun k x => slices_IndexFunc_string_f134.l0 k x.1 x.2.2.1 x.2.2.2.1) .ret (.exit 0) (fun y => (y, ())) (fun x => x.1) (fun y => ()) (fun x => ())
def slices_IndexFunc_string_f134.L : Nat → Option LArm := fun b => match b with
  | 0 => some slices_IndexFunc_string_f134.A0
  | _ => none
theorem slices_IndexFunc_string_f134.run (k : Nat) (a0 : List ByteArray) : runF envX (tabC (slices_IndexFunc_string_f134.C k)) (tabL 19 k slices_IndexFunc_string_f134.L) Tryz.f112 [.t (.sl .str) a0, .clo 134 []] (viewR1 (.t (.int .i64))) = slices_IndexFunc_string_f134.F k a0 := by kernel_rfl
theorem slices_IndexFunc_string_f134.step0 (k : Nat) (x0 : List ByteArray) (x7 : Int) (x8 : Int) : runC envX (tabC (slices_IndexFunc_string_f134.C k)) (tabL 19 k slices_IndexFunc_string_f134.L) 0 (loopAt Tryz.f112 0) (stOf 19 slices_IndexFunc_string_f134.sp0 (x0, (), x7, x8, ())) (slices_IndexFunc_string_f134.A0.cont 19 k) = slices_IndexFunc_string_f134.l0 (k + 1) x0 x7 x8 := by kernel_rfl
theorem slices_IndexFunc_string_f134.G (hE : EnvOk Tryz.prog envX) (pv : Nat → Value) (k : Nat) : ∀ cal A, slices_IndexFunc_string_f134.C k cal = some A → ArmOk Tryz.prog envX pv cal A := by
  intro cal A h
  unfold slices_IndexFunc_string_f134.C at h
  split at h
  · cases h; exact fun x y hy => impl_spaced_1.good hE pv x.1 hy
  · cases h
theorem slices_IndexFunc_string_f134.good (hE : EnvOk Tryz.prog envX) (pv : Nat → Value) (k : Nat) (a0 : List ByteArray) {y : _} (h : slices_IndexFunc_string_f134.F k a0 = some y) : Meets Tryz.prog envX pv (.f 112) (pvals [.t (.sl .str), .clo 134 []] (a0, (()), ())) (.t (.int .i64) y) :=
  fun_loops hE (t := slices_IndexFunc_string_f134.C) k (fun k _ => slices_IndexFunc_string_f134.G hE pv k) (f := 112) (fn := Tryz.f112) (by kernel_rfl) rfl (by kernel_rfl) (by kernel_rfl) (lt := slices_IndexFunc_string_f134.L) (by kernel_rfl) (fun b A h => by
    unfold slices_IndexFunc_string_f134.L at h; split at h
    · cases h; exact ⟨by kernel_rfl, by kernel_rfl, by kernel_rfl, fun _ => rfl, fun _ => rfl, fun _ => rfl⟩
    · cases h) (fun b A h => by
    unfold slices_IndexFunc_string_f134.L at h; split at h
    · cases h; exact fun k x => slices_IndexFunc_string_f134.step0 k x.1 x.2.2.1 x.2.2.2.1
    · cases h) ((slices_IndexFunc_string_f134.run k a0).trans h) fun r hr => wk_view1 hr
/-! ### 133 slices.DeleteFunc[[]string,string] at loop.example/g00896/impl.spaced$1 -/
def slices_DeleteFunc_string_f134.l0 : Nat → (List ByteArray) → Int → Int → Option ((List ByteArray) × Int)
  | 0, _, _, _ => none
  | k + 1, x0, x5, x6 => bif (decide (x6 < (x0.length : Int))) then (bif decide (0 ≤ x6) then (bif decide (x6 < (x0.length : Int)) then ((impl_spaced_1.F (x0.getD ((x6 : Int).toNat) (⟨#[]⟩ : ByteArray))).bind fun r2 => bif (!r2) then (bif decide (0 ≤ x5) then (bif decide (x5 < (x0.length : Int)) then (slices_DeleteFunc_string_f134.l0 k (x0.set ((x5 : Int).toNat) (x0.getD ((x6 : Int).toNat) (⟨#[]⟩ : ByteArray))) (IntKind.wrap .i64 (x5 + 1)) (IntKind.wrap .i64 (x6 + 1))) else none) else none) else (slices_DeleteFunc_string_f134.l0 k x0 x5 (IntKind.wrap .i64 (x6 + 1)))) else none) else none) else (some (x0, x5))
def slices_DeleteFunc_string_f134.F (k : Nat) (a0 : List ByteArray) : Option (List ByteArray) := (slices_IndexFunc_string_f134.F k a0).bind fun r1 => bif (r1 == (-1)) then (some a0) else ((slices_DeleteFunc_string_f134.l0 k a0 r1 (IntKind.wrap .i64 (r1 + 1))).bind fun y3 => bif decide (0 ≤ y3.2) then (bif decide (y3.2 ≤ (y3.1.length : Int)) then (bif decide (0 ≤ y3.2) then (bif decide (y3.2 ≤ ((y3.1.take ((y3.2 : Int).toNat) ++ List.replicate (y3.1.length - ((y3.2 : Int).toNat)) (⟨#[]⟩ : ByteArray)).length : Int)) then (some ((y3.1.take ((y3.2 : Int).toNat) ++ List.replicate (y3.1.length - ((y3.2 : Int).toNat)) (⟨#[]⟩ : ByteArray)).take (y3.2 : Int).toNat)) else none) else none) else none) else none)
def slices_DeleteFunc_string_f134.C (k : Nat) : Cal → Option CArm := fun c => match c with
  | .f 112 => some (.q [.t (.sl .str), .clo 134 []] _ (fun x => slices_IndexFunc_string_f134.F k x.1) (fun r => (.t (.int .i64) r)))
  | .f 134 => some (.p [.str] _ (fun x => impl_spaced_1.F x.1) (fun r => (.t .bool r)))
  | _ => none
def slices_DeleteFunc_string_f134.sp0 : List Sp := [.own 0 1099511627777 9 .str false true, .con 1 (.clo 134), .t 5 (.int .i64), .t 6 (.int .i64)]
def slices_DeleteFunc_string_f134.sp0_0 : List Sp := [.own 0 1099511627777 9 .str false true, .t 5 (.int .i64)]
def slices_DeleteFunc_string_f134.A0 : LArm := .one slices_DeleteFunc_string_f134.sp0 slices_DeleteFunc_string_f134.sp0_0 ((List ByteArray) × Int) (fun k x => slices_DeleteFunc_string_f134.l0 k x.1 x.2.2.1 x.2.2.2.1) (.exit 0) (fun y => (y.1, y.2, ())) (fun x => (x.1, x.2.1))
def slices_DeleteFunc_string_f134.L : Nat → Option LArm := fun b => match b with
  | 0 => some slices_DeleteFunc_string_f134.A0
  | _ => none
theorem slices_DeleteFunc_string_f134.run (k : Nat) (a0 : List ByteArray) : runM envX (tabC (slices_DeleteFunc_string_f134.C k)) (tabL 42 k slices_DeleteFunc_string_f134.L) Tryz.f133 mmove (.fr 9 .str a0) [.clo 134 []] (viewMov 9 .str) = slices_DeleteFunc_string_f134.F k a0 := by kernel_rfl
theorem slices_DeleteFunc_string_f134.step0 (k : Nat) (x0 : List ByteArray) (x5 : Int) (x6 : Int) : runC envX (tabC (slices_DeleteFunc_string_f134.C k)) (tabL 42 k slices_DeleteFunc_string_f134.L) 0 (loopAt Tryz.f133 0) (stOf 42 slices_DeleteFunc_string_f134.sp0 (x0, (), x5, x6, ())) (slices_DeleteFunc_string_f134.A0.cont 42 k) = slices_DeleteFunc_string_f134.l0 (k + 1) x0 x5 x6 := by kernel_rfl
theorem slices_DeleteFunc_string_f134.G (hE : EnvOk Tryz.prog envX) (pv : Nat → Value) (k : Nat) : ∀ cal A, slices_DeleteFunc_string_f134.C k cal = some A → ArmOk Tryz.prog envX pv cal A := by
  intro cal A h
  unfold slices_DeleteFunc_string_f134.C at h
  split at h
  · cases h; exact fun x y hy => slices_IndexFunc_string_f134.good hE pv k x.1 hy
  · cases h; exact fun x y hy => impl_spaced_1.good hE pv x.1 hy
  · cases h
theorem slices_DeleteFunc_string_f134.good (hE : EnvOk Tryz.prog envX) (pv : Nat → Value) (k : Nat) (a0 : List ByteArray) {y : _} (h : slices_DeleteFunc_string_f134.F k a0 = some y) : MeetsM Tryz.prog envX pv 133 (.fr 9 .str a0) (pvals [.clo 134 []] ((()), ())) (.mov 9 .str y) :=
  funM_loops hE (t := slices_DeleteFunc_string_f134.C) k (fun k _ => slices_DeleteFunc_string_f134.G hE pv k) (f := 133) (fn := Tryz.f133) (by kernel_rfl) rfl (by kernel_rfl) (.inr rfl) (by kernel_rfl) (lt := slices_DeleteFunc_string_f134.L) (by kernel_rfl) (fun b A h => by
    unfold slices_DeleteFunc_string_f134.L at h; split at h
    · cases h; exact ⟨by kernel_rfl, by kernel_rfl, fun _ => rfl, fun _ => rfl⟩
    · cases h) (fun b A h => by
    unfold slices_DeleteFunc_string_f134.L at h; split at h
    · cases h; exact fun k x => slices_DeleteFunc_string_f134.step0 k x.1 x.2.2.1 x.2.2.2.1
    · cases h) ((slices_DeleteFunc_string_f134.run k a0).trans h) fun r hr => wk_viewMov hr
/-! ### 105 loop.example/g00896/impl.spaced -/
def impl_spaced.F (k : Nat) (a0 : List ByteArray) : Option (ByteArray) := (slices_DeleteFunc_string_f134.F k a0).bind fun r1 => (strings_Join.F r1 (⟨#[32]⟩ : ByteArray)).bind fun r2 => some r2
def impl_spaced.C (k : Nat) : Cal → Option CArm := fun c => match c with
  | .f 133 => some (.mq (.fr 9 .str) [.clo 134 []] _ (fun x0 x => slices_DeleteFunc_string_f134.F k x0) (fun r => .mov 9 .str r))
  | .f 85 => some (.p [(.sl .str), .str] _ (fun x => strings_Join.F x.1 x.2.1) (fun r => (.t .str r)))
  | _ => none
theorem impl_spaced.run (k : Nat) (a0 : List ByteArray) : runM envX (tabC (impl_spaced.C k)) (tabL 6 0 (fun _ => none)) Tryz.f105 mmove (.fr 9 .str a0) [] (viewEat .str) = impl_spaced.F k a0 := by kernel_rfl
theorem impl_spaced.G (hE : EnvOk Tryz.prog envX) (pv : Nat → Value) (k : Nat) : ∀ cal A, impl_spaced.C k cal = some A → ArmOk Tryz.prog envX pv cal A := by
  intro cal A h
  unfold impl_spaced.C at h
  split at h
  · cases h; exact ⟨_, rfl, fun x0 x y hy => slices_DeleteFunc_string_f134.good hE pv k x0 hy⟩
  · cases h; exact fun x y hy => strings_Join.good hE pv x.1 x.2.1 hy
  · cases h
theorem impl_spaced.good (hE : EnvOk Tryz.prog envX) (pv : Nat → Value) (k : Nat) (a0 : List ByteArray) {y : _} (h : impl_spaced.F k a0 = some y) : MeetsM Tryz.prog envX pv 105 (.fr 9 .str a0) (tvals [] (())) (.pc false .str y) :=
  funM_plain hE (impl_spaced.G hE pv k) (f := 105) (fn := Tryz.f105) (by kernel_rfl) rfl (by kernel_rfl) (.inr rfl) (by kernel_rfl) ((impl_spaced.run k a0).trans h) fun r hr => wk_viewEat hr
/-! ### 84 loop.example/g00896/impl.inverseForm -/
def impl_inverseForm.F (k : Nat) (a0 : Name) : Option (ByteArray) := (impl_spaced.F k ([a0.particle, a0.family] : List ByteArray)).bind fun r1 => bif (decide ((a0.given.length : Int) > 0)) then ((strings_Join.F a0.given (⟨#[32]⟩ : ByteArray)).bind fun r2 => bif Nat.ble ((⟨#[44, 32]⟩ : ByteArray).size + r2.size) 9223372036854775807 then (bif Nat.ble (r1.size + ((⟨#[44, 32]⟩ : ByteArray) ++ r2).size) 9223372036854775807 then (bif (!beqS a0.suffix (⟨#[]⟩ : ByteArray)) then (bif Nat.ble ((⟨#[44, 32]⟩ : ByteArray).size + a0.suffix.size) 9223372036854775807 then (bif Nat.ble ((r1 ++ ((⟨#[44, 32]⟩ : ByteArray) ++ r2)).size + ((⟨#[44, 32]⟩ : ByteArray) ++ a0.suffix).size) 9223372036854775807 then (some ((r1 ++ ((⟨#[44, 32]⟩ : ByteArray) ++ r2)) ++ ((⟨#[44, 32]⟩ : ByteArray) ++ a0.suffix))) else none) else none) else (some (r1 ++ ((⟨#[44, 32]⟩ : ByteArray) ++ r2)))) else none) else none) else (bif (!beqS a0.suffix (⟨#[]⟩ : ByteArray)) then ((strings_Join.F a0.given (⟨#[32]⟩ : ByteArray)).bind fun r3 => bif Nat.ble ((⟨#[44, 32]⟩ : ByteArray).size + r3.size) 9223372036854775807 then (bif Nat.ble (r1.size + ((⟨#[44, 32]⟩ : ByteArray) ++ r3).size) 9223372036854775807 then (bif (!beqS a0.suffix (⟨#[]⟩ : ByteArray)) then (bif Nat.ble ((⟨#[44, 32]⟩ : ByteArray).size + a0.suffix.size) 9223372036854775807 then (bif Nat.ble ((r1 ++ ((⟨#[44, 32]⟩ : ByteArray) ++ r3)).size + ((⟨#[44, 32]⟩ : ByteArray) ++ a0.suffix).size) 9223372036854775807 then (some ((r1 ++ ((⟨#[44, 32]⟩ : ByteArray) ++ r3)) ++ ((⟨#[44, 32]⟩ : ByteArray) ++ a0.suffix))) else none) else none) else (some (r1 ++ ((⟨#[44, 32]⟩ : ByteArray) ++ r3)))) else none) else none) else (bif (!beqS a0.suffix (⟨#[]⟩ : ByteArray)) then (bif Nat.ble ((⟨#[44, 32]⟩ : ByteArray).size + a0.suffix.size) 9223372036854775807 then (bif Nat.ble (r1.size + ((⟨#[44, 32]⟩ : ByteArray) ++ a0.suffix).size) 9223372036854775807 then (some (r1 ++ ((⟨#[44, 32]⟩ : ByteArray) ++ a0.suffix))) else none) else none) else (some r1)))
def impl_inverseForm.C (k : Nat) : Cal → Option CArm := fun c => match c with
  | .f 105 => some (.m (.fr 9 .str) [] _ (fun x0 x => impl_spaced.F k x0) (fun r => .pc false .str r))
  | .f 85 => some (.p [(.sl .str), .str] _ (fun x => strings_Join.F x.1 x.2.1) (fun r => (.t .str r)))
  | _ => none
theorem impl_inverseForm.run (k : Nat) (a0 : Name) : runF envX (tabC (impl_inverseForm.C k)) (tabL 34 0 (fun _ => none)) Tryz.f84 [.t .name a0] (viewR1 (.t .str)) = impl_inverseForm.F k a0 := by kernel_rfl
theorem impl_inverseForm.G (hE : EnvOk Tryz.prog envX) (pv : Nat → Value) (k : Nat) : ∀ cal A, impl_inverseForm.C k cal = some A → ArmOk Tryz.prog envX pv cal A := by
  intro cal A h
  unfold impl_inverseForm.C at h
  split at h
  · cases h; exact ⟨_, rfl, fun x0 x y hy => impl_spaced.good hE pv k x0 hy⟩
  · cases h; exact fun x y hy => strings_Join.good hE pv x.1 x.2.1 hy
  · cases h
theorem impl_inverseForm.good (hE : EnvOk Tryz.prog envX) (pv : Nat → Value) (k : Nat) (a0 : Name) {y : _} (h : impl_inverseForm.F k a0 = some y) : Meets Tryz.prog envX pv (.f 84) (tvals [.name] (a0, ())) (.t .str y) :=
  fun_plain hE (impl_inverseForm.G hE pv k) (f := 84) (fn := Tryz.f84) (by kernel_rfl) rfl (by kernel_rfl) (by kernel_rfl) ((impl_inverseForm.run k a0).trans h) fun r hr => wk_view1 hr
/-! ### 52 loop.example/g00896/impl.namesText -/
def impl_namesText.l0 : Nat → (List ByteArray) → (List Name) → Int → Int → Option ((List ByteArray))
  | 0, _, _, _, _ => none
  | k + 1, x3, x7, x8, x9 => bif (decide (x9 < x8)) then (bif decide (0 ≤ x9) then (bif decide (x9 < (x7.length : Int)) then ((impl_inverseForm.F k (x7.getD (x9 : Int).toNat (dflt .name))).bind fun r1 => bif room (x3.length + ([r1] : List ByteArray).length) .str then (impl_namesText.l0 k (x3 ++ ([r1] : List ByteArray)) x7 x8 (IntKind.wrap .i64 (x9 + 1))) else none) else none) else none) else (some x3)
def impl_namesText.F (k : Nat) (a0 : List Name) : Option (ByteArray) := (impl_namesText.l0 k ([] : List ByteArray) a0 (a0.length : Int) 0).bind fun y2 => (strings_Join.F y2 (⟨#[59, 32]⟩ : ByteArray)).bind fun r3 => some r3
def impl_namesText.C (k : Nat) : Cal → Option CArm := fun c => match c with
  | .f 84 => some (.p [.name] _ (fun x => impl_inverseForm.F k x.1) (fun r => (.t .str r)))
  | .f 85 => some (.p [(.sl .str), .str] _ (fun x => strings_Join.F x.1 x.2.1) (fun r => (.t .str r)))
  | _ => none
def impl_namesText.sp0 : List Sp := [.own 3 1024 9 .str false true, .t 7 (.sl .name), .t 8 (.int .i64), .t 9 (.int .i64)]
def impl_namesText.sp0_0 : List Sp := [.own 3 1024 9 .str false true]
def impl_namesText.A0 : LArm := .one impl_namesText.sp0 impl_namesText.sp0_0 ((List ByteArray)) (fun k x => impl_namesText.l0 k x.1 x.2.1 x.2.2.1 x.2.2.2.1) (.exit 0) (fun y => (y, ())) (fun x => x.1)
def impl_namesText.L : Nat → Option LArm := fun b => match b with
  | 0 => some impl_namesText.A0
  | _ => none
theorem impl_namesText.run (k : Nat) (a0 : List Name) : runF envX (tabC (impl_namesText.C k)) (tabL 21 k impl_namesText.L) Tryz.f52 [.t (.sl .name) a0] (viewR1 (.t .str)) = impl_namesText.F k a0 := by kernel_rfl
theorem impl_namesText.step0 (k : Nat) (x3 : List ByteArray) (x7 : List Name) (x8 : Int) (x9 : Int) : runC envX (tabC (impl_namesText.C k)) (tabL 21 k impl_namesText.L) 0 (loopAt Tryz.f52 0) (stOf 21 impl_namesText.sp0 (x3, x7, x8, x9, ())) (impl_namesText.A0.cont 21 k) = impl_namesText.l0 (k + 1) x3 x7 x8 x9 := by kernel_rfl
theorem impl_namesText.G (hE : EnvOk Tryz.prog envX) (pv : Nat → Value) (k : Nat) : ∀ cal A, impl_namesText.C k cal = some A → ArmOk Tryz.prog envX pv cal A := by
  intro cal A h
  unfold impl_namesText.C at h
  split at h
  · cases h; exact fun x y hy => impl_inverseForm.good hE pv k x.1 hy
  · cases h; exact fun x y hy => strings_Join.good hE pv x.1 x.2.1 hy
  · cases h
theorem impl_namesText.good (hE : EnvOk Tryz.prog envX) (pv : Nat → Value) (k : Nat) (a0 : List Name) {y : _} (h : impl_namesText.F k a0 = some y) : Meets Tryz.prog envX pv (.f 52) (tvals [(.sl .name)] (a0, ())) (.t .str y) :=
  fun_loops hE (t := impl_namesText.C) k (fun k _ => impl_namesText.G hE pv k) (f := 52) (fn := Tryz.f52) (by kernel_rfl) rfl (by kernel_rfl) (by kernel_rfl) (lt := impl_namesText.L) (by kernel_rfl) (fun b A h => by
    unfold impl_namesText.L at h; split at h
    · cases h; exact ⟨by kernel_rfl, by kernel_rfl, fun _ => rfl, fun _ => rfl⟩
    · cases h) (fun b A h => by
    unfold impl_namesText.L at h; split at h
    · cases h; exact fun k x => impl_namesText.step0 k x.1 x.2.1 x.2.2.1 x.2.2.2.1
    · cases h) ((impl_namesText.run k a0).trans h) fun r hr => wk_view1 hr
/-! ### 54 strconv.Itoa -/
def strconv_Itoa.F (a0 : Int) : Option (ByteArray) := xItoaN a0
theorem strconv_Itoa.good (hE : EnvOk Tryz.prog envX) (pv : Nat → Value) (a0 : Int) {y : _} (h : strconv_Itoa.F a0 = some y) : Meets Tryz.prog envX pv (.f 54) (tvals [(.int .i64)] (a0, ())) (.t .str y) :=
  ext_itoaN (fn := Tryz.f54) (by kernel_rfl) rfl (by kernel_rfl) (g := 1) (by kernel_rfl) (by kernel_rfl) Tryz.strconv_Itoa h
/-! ### 86 loop.example/g00896/impl.digits -/
def impl_digits.l0 : Nat → Int → ByteArray → Option (ByteArray)
  | 0, _, _ => none
  | k + 1, x1, x5 => bif (decide ((x5.size : Int) < x1)) then (bif Nat.ble ((⟨#[48]⟩ : ByteArray).size + x5.size) 9223372036854775807 then (impl_digits.l0 k x1 ((⟨#[48]⟩ : ByteArray) ++ x5)) else none) else (some x5)
def impl_digits.F (k : Nat) (a0 : Int) (a1 : Int) : Option (ByteArray) := (strconv_Itoa.F a0).bind fun r1 => (impl_digits.l0 k a1 r1).bind fun y2 => some y2
def impl_digits.C (k : Nat) : Cal → Option CArm := fun c => match c with
  | .f 54 => some (.p [(.int .i64)] _ (fun x => strconv_Itoa.F x.1) (fun r => (.t .str r)))
  | _ => none
def impl_digits.sp0 : List Sp := [.t 1 (.int .i64), .t 5 .str]
def impl_digits.sp0_0 : List Sp := [.t 5 .str]
def impl_digits.A0 : LArm := .one impl_digits.sp0 impl_digits.sp0_0 (ByteArray) (fun k x => impl_digits.l0 k x.1 x.2.1) (.exit 0) (fun y => (y, ())) (fun x => x.1)
def impl_digits.L : Nat → Option LArm := fun b => match b with
  | 0 => some impl_digits.A0
  | _ => none
theorem impl_digits.run (k : Nat) (a0 : Int) (a1 : Int) : runF envX (tabC (impl_digits.C k)) (tabL 15 k impl_digits.L) Tryz.f86 [.t (.int .i64) a0, .t (.int .i64) a1] (viewR1 (.t .str)) = impl_digits.F k a0 a1 := by kernel_rfl
theorem impl_digits.step0 (k : Nat) (x1 : Int) (x5 : ByteArray) : runC envX (tabC (impl_digits.C k)) (tabL 15 k impl_digits.L) 0 (loopAt Tryz.f86 0) (stOf 15 impl_digits.sp0 (x1, x5, ())) (impl_digits.A0.cont 15 k) = impl_digits.l0 (k + 1) x1 x5 := by kernel_rfl
theorem impl_digits.G (hE : EnvOk Tryz.prog envX) (pv : Nat → Value) (k : Nat) : ∀ cal A, impl_digits.C k cal = some A → ArmOk Tryz.prog envX pv cal A := by
  intro cal A h
  unfold impl_digits.C at h
  split at h
  · cases h; exact fun x y hy => strconv_Itoa.good hE pv x.1 hy
  · cases h
theorem impl_digits.good (hE : EnvOk Tryz.prog envX) (pv : Nat → Value) (k : Nat) (a0 : Int) (a1 : Int) {y : _} (h : impl_digits.F k a0 a1 = some y) : Meets Tryz.prog envX pv (.f 86) (tvals [(.int .i64), (.int .i64)] (a0, a1, ())) (.t .str y) :=
  fun_loops hE (t := impl_digits.C) k (fun k _ => impl_digits.G hE pv k) (f := 86) (fn := Tryz.f86) (by kernel_rfl) rfl (by kernel_rfl) (by kernel_rfl) (lt := impl_digits.L) (by kernel_rfl) (fun b A h => by
    unfold impl_digits.L at h; split at h
    · cases h; exact ⟨by kernel_rfl, by kernel_rfl, fun _ => rfl, fun _ => rfl⟩
    · cases h) (fun b A h => by
    unfold impl_digits.L at h; split at h
    · cases h; exact fun k x => impl_digits.step0 k x.1 x.2.1
    · cases h) ((impl_digits.run k a0 a1).trans h) fun r hr => wk_view1 hr
/-! ### 53 loop.example/g00896/impl.formatDate -/
def impl_formatDate.F (k : Nat) (a0 : Date) : Option (ByteArray) := bif (a0.y == 0) then (some (⟨#[117, 110, 107, 110, 111, 119, 110]⟩ : ByteArray)) else ((impl_digits.F k a0.y 4).bind fun r1 => bif a0.c then (bif Nat.ble ((⟨#[99]⟩ : ByteArray).size + r1.size) 9223372036854775807 then (bif (decide (a0.m > 0)) then ((impl_digits.F k a0.m 2).bind fun r2 => bif Nat.ble ((⟨#[45]⟩ : ByteArray).size + r2.size) 9223372036854775807 then (bif Nat.ble (((⟨#[99]⟩ : ByteArray) ++ r1).size + ((⟨#[45]⟩ : ByteArray) ++ r2).size) 9223372036854775807 then (bif (decide (a0.d > 0)) then ((impl_digits.F k a0.d 2).bind fun r3 => bif Nat.ble ((⟨#[45]⟩ : ByteArray).size + r3.size) 9223372036854775807 then (bif Nat.ble ((((⟨#[99]⟩ : ByteArray) ++ r1) ++ ((⟨#[45]⟩ : ByteArray) ++ r2)).size + ((⟨#[45]⟩ : ByteArray) ++ r3).size) 9223372036854775807 then (some ((((⟨#[99]⟩ : ByteArray) ++ r1) ++ ((⟨#[45]⟩ : ByteArray) ++ r2)) ++ ((⟨#[45]⟩ : ByteArray) ++ r3))) else none) else none) else (some (((⟨#[99]⟩ : ByteArray) ++ r1) ++ ((⟨#[45]⟩ : ByteArray) ++ r2)))) else none) else none) else (bif (decide (a0.d > 0)) then ((impl_digits.F k a0.d 2).bind fun r4 => bif Nat.ble ((⟨#[45]⟩ : ByteArray).size + r4.size) 9223372036854775807 then (bif Nat.ble (((⟨#[99]⟩ : ByteArray) ++ r1).size + ((⟨#[45]⟩ : ByteArray) ++ r4).size) 9223372036854775807 then (some (((⟨#[99]⟩ : ByteArray) ++ r1) ++ ((⟨#[45]⟩ : ByteArray) ++ r4))) else none) else none) else (some ((⟨#[99]⟩ : ByteArray) ++ r1)))) else none) else (bif (decide (a0.m > 0)) then ((impl_digits.F k a0.m 2).bind fun r5 => bif Nat.ble ((⟨#[45]⟩ : ByteArray).size + r5.size) 9223372036854775807 then (bif Nat.ble (r1.size + ((⟨#[45]⟩ : ByteArray) ++ r5).size) 9223372036854775807 then (bif (decide (a0.d > 0)) then ((impl_digits.F k a0.d 2).bind fun r6 => bif Nat.ble ((⟨#[45]⟩ : ByteArray).size + r6.size) 9223372036854775807 then (bif Nat.ble ((r1 ++ ((⟨#[45]⟩ : ByteArray) ++ r5)).size + ((⟨#[45]⟩ : ByteArray) ++ r6).size) 9223372036854775807 then (some ((r1 ++ ((⟨#[45]⟩ : ByteArray) ++ r5)) ++ ((⟨#[45]⟩ : ByteArray) ++ r6))) else none) else none) else (some (r1 ++ ((⟨#[45]⟩ : ByteArray) ++ r5)))) else none) else none) else (bif (decide (a0.d > 0)) then ((impl_digits.F k a0.d 2).bind fun r7 => bif Nat.ble ((⟨#[45]⟩ : ByteArray).size + r7.size) 9223372036854775807 then (bif Nat.ble (r1.size + ((⟨#[45]⟩ : ByteArray) ++ r7).size) 9223372036854775807 then (some (r1 ++ ((⟨#[45]⟩ : ByteArray) ++ r7))) else none) else none) else (some r1))))
def impl_formatDate.C (k : Nat) : Cal → Option CArm := fun c => match c with
  | .f 86 => some (.p [(.int .i64), (.int .i64)] _ (fun x => impl_digits.F k x.1 x.2.1) (fun r => (.t .str r)))
  | _ => none
theorem impl_formatDate.run (k : Nat) (a0 : Date) : runF envX (tabC (impl_formatDate.C k)) (tabL 33 0 (fun _ => none)) Tryz.f53 [.t .date a0] (viewR1 (.t .str)) = impl_formatDate.F k a0 := by kernel_rfl
theorem impl_formatDate.G (hE : EnvOk Tryz.prog envX) (pv : Nat → Value) (k : Nat) : ∀ cal A, impl_formatDate.C k cal = some A → ArmOk Tryz.prog envX pv cal A := by
  intro cal A h
  unfold impl_formatDate.C at h
  split at h
  · cases h; exact fun x y hy => impl_digits.good hE pv k x.1 x.2.1 hy
  · cases h
theorem impl_formatDate.good (hE : EnvOk Tryz.prog envX) (pv : Nat → Value) (k : Nat) (a0 : Date) {y : _} (h : impl_formatDate.F k a0 = some y) : Meets Tryz.prog envX pv (.f 53) (tvals [.date] (a0, ())) (.t .str y) :=
  fun_plain hE (impl_formatDate.G hE pv k) (f := 53) (fn := Tryz.f53) (by kernel_rfl) rfl (by kernel_rfl) (by kernel_rfl) ((impl_formatDate.run k a0).trans h) fun r hr => wk_view1 hr
/-! ### 29 loop.example/g00896/impl.fieldText -/
def impl_fieldText.F (k : Nat) (a0 : Entry) (a1 : ByteArray) : Option (ByteArray) := bif (beqS a1 (⟨#[97, 117, 116, 104, 111, 114, 115]⟩ : ByteArray)) then ((impl_namesText.F k a0.authors).bind fun r1 => some r1) else (bif (beqS a1 (⟨#[101, 100, 105, 116, 111, 114, 115]⟩ : ByteArray)) then ((impl_namesText.F k a0.editors).bind fun r2 => some r2) else (bif (beqS a1 (⟨#[116, 105, 116, 108, 101]⟩ : ByteArray)) then (some a0.title) else (bif (beqS a1 (⟨#[99, 111, 110, 116, 97, 105, 110, 101, 114]⟩ : ByteArray)) then (some a0.container) else (bif (beqS a1 (⟨#[112, 117, 98, 108, 105, 115, 104, 101, 114]⟩ : ByteArray)) then (some a0.publisher) else (bif (beqS a1 (⟨#[100, 97, 116, 101]⟩ : ByteArray)) then (bif (decide (a0.date.y > 0)) then ((impl_formatDate.F k a0.date).bind fun r3 => some r3) else (some (⟨#[]⟩ : ByteArray))) else (bif (beqS a1 (⟨#[118, 111, 108, 117, 109, 101]⟩ : ByteArray)) then (bif (decide (a0.volume > 0)) then ((strconv_Itoa.F a0.volume).bind fun r4 => some r4) else (some (⟨#[]⟩ : ByteArray))) else (bif (beqS a1 (⟨#[112, 97, 103, 101, 115]⟩ : ByteArray)) then (some a0.pages) else (some (⟨#[]⟩ : ByteArray)))))))))
def impl_fieldText.C (k : Nat) : Cal → Option CArm := fun c => match c with
  | .f 52 => some (.p [(.sl .name)] _ (fun x => impl_namesText.F k x.1) (fun r => (.t .str r)))
  | .f 53 => some (.p [.date] _ (fun x => impl_formatDate.F k x.1) (fun r => (.t .str r)))
  | .f 54 => some (.p [(.int .i64)] _ (fun x => strconv_Itoa.F x.1) (fun r => (.t .str r)))
  | _ => none
theorem impl_fieldText.run (k : Nat) (a0 : Entry) (a1 : ByteArray) : runF envX (tabC (impl_fieldText.C k)) (tabL 49 0 (fun _ => none)) Tryz.f29 [.t .entry a0, .t .str a1] (viewR1 (.t .str)) = impl_fieldText.F k a0 a1 := by kernel_rfl
theorem impl_fieldText.G (hE : EnvOk Tryz.prog envX) (pv : Nat → Value) (k : Nat) : ∀ cal A, impl_fieldText.C k cal = some A → ArmOk Tryz.prog envX pv cal A := by
  intro cal A h
  unfold impl_fieldText.C at h
  split at h
  · cases h; exact fun x y hy => impl_namesText.good hE pv k x.1 hy
  · cases h; exact fun x y hy => impl_formatDate.good hE pv k x.1 hy
  · cases h; exact fun x y hy => strconv_Itoa.good hE pv x.1 hy
  · cases h
theorem impl_fieldText.good (hE : EnvOk Tryz.prog envX) (pv : Nat → Value) (k : Nat) (a0 : Entry) (a1 : ByteArray) {y : _} (h : impl_fieldText.F k a0 a1 = some y) : Meets Tryz.prog envX pv (.f 29) (tvals [.entry, .str] (a0, a1, ())) (.t .str y) :=
  fun_plain hE (impl_fieldText.G hE pv k) (f := 29) (fn := Tryz.f29) (by kernel_rfl) rfl (by kernel_rfl) (by kernel_rfl) ((impl_fieldText.run k a0 a1).trans h) fun r hr => wk_view1 hr
/-! ### 10 loop.example/g00896/impl.FieldConflicts -/
def impl_FieldConflicts.l0 : Nat → Entry → Entry → (List ByteArray) → (List ByteArray) → Int → Option ((List ByteArray))
  | 0, _, _, _, _, _ => none
  | k + 1, x2, x3, x6, x20, x21 => bif (decide (x21 < 8)) then (bif decide (0 ≤ x21) then (bif decide (x21 < (8 : Int)) then ((impl_fieldText.F k x2 (x20.getD (x21 : Int).toNat ⟨#[]⟩)).bind fun r3 => (impl_fieldText.F k x3 (x20.getD (x21 : Int).toNat ⟨#[]⟩)).bind fun r4 => bif (!beqS r3 (⟨#[]⟩ : ByteArray)) then (bif (!beqS r4 (⟨#[]⟩ : ByteArray)) then (bif (!beqS r3 r4) then (bif room (x6.length + ([(x20.getD (x21 : Int).toNat ⟨#[]⟩)] : List ByteArray).length) .str then (impl_FieldConflicts.l0 k x2 x3 (x6 ++ ([(x20.getD (x21 : Int).toNat ⟨#[]⟩)] : List ByteArray)) x20 (IntKind.wrap .i64 (x21 + 1))) else none) else (impl_FieldConflicts.l0 k x2 x3 x6 x20 (IntKind.wrap .i64 (x21 + 1)))) else (impl_FieldConflicts.l0 k x2 x3 x6 x20 (IntKind.wrap .i64 (x21 + 1)))) else (impl_FieldConflicts.l0 k x2 x3 x6 x20 (IntKind.wrap .i64 (x21 + 1)))) else none) else none) else (some x6)
def impl_FieldConflicts.F (k : Nat) (a0 : Entry) (a1 : Entry) : Option ((List ByteArray) × Bool) := (impl_IsValidEntry.F k a0).bind fun r1 => bif (!r1) then (some ([], false)) else ((impl_IsValidEntry.F k a1).bind fun r2 => bif (!r2) then (some ([], false)) else ((impl_FieldConflicts.l0 k a0 a1 ([] : List ByteArray) glV0 0).bind fun y5 => some (y5, true)))
def impl_FieldConflicts.C (k : Nat) : Cal → Option CArm := fun c => match c with
  | .f 14 => some (.p [.entry] _ (fun x => impl_IsValidEntry.F k x.1) (fun r => (.t .bool r)))
  | .f 29 => some (.p [.entry, .str] _ (fun x => impl_fieldText.F k x.1 x.2.1) (fun r => (.t .str r)))
  | _ => none
def impl_FieldConflicts.sp0 : List Sp := [.boxT 2 0 .entry, .boxT 3 4 .entry, .own 6 3072 9 .str false true, .t 20 (.arr 8 .str), .t 21 (.int .i64)]
def impl_FieldConflicts.sp0_0 : List Sp := [.own 6 3072 9 .str false true]
def impl_FieldConflicts.A0 : LArm := .one impl_FieldConflicts.sp0 impl_FieldConflicts.sp0_0 ((List ByteArray)) (fun k x => impl_FieldConflicts.l0 k x.1 x.2.1 x.2.2.1 x.2.2.2.1 x.2.2.2.2.1) (.exit 0) (fun y => (y, ())) (fun x => x.1)
def impl_FieldConflicts.L : Nat → Option LArm := fun b => match b with
  | 0 => some impl_FieldConflicts.A0
  | _ => none
theorem impl_FieldConflicts.run (k : Nat) (a0 : Entry) (a1 : Entry) : runF envX (tabC (impl_FieldConflicts.C k)) (tabL 47 k impl_FieldConflicts.L) Tryz.f10 [.t .entry a0, .t .entry a1] (viewR2 (.fr 9 .str) (.t .bool)) = impl_FieldConflicts.F k a0 a1 := by kernel_rfl
theorem impl_FieldConflicts.step0 (k : Nat) (x2 : Entry) (x3 : Entry) (x6 : List ByteArray) (x20 : List ByteArray) (x21 : Int) : runC envX (tabC (impl_FieldConflicts.C k)) (tabL 47 k impl_FieldConflicts.L) 0 (loopAt Tryz.f10 0) (stOf 47 impl_FieldConflicts.sp0 (x2, x3, x6, x20, x21, ())) (impl_FieldConflicts.A0.cont 47 k) = impl_FieldConflicts.l0 (k + 1) x2 x3 x6 x20 x21 := by kernel_rfl
theorem impl_FieldConflicts.G (hE : EnvOk Tryz.prog envX) (pv : Nat → Value) (k : Nat) : ∀ cal A, impl_FieldConflicts.C k cal = some A → ArmOk Tryz.prog envX pv cal A := by
  intro cal A h
  unfold impl_FieldConflicts.C at h
  split at h
  · cases h; exact fun x y hy => impl_IsValidEntry.good hE pv k x.1 hy
  · cases h; exact fun x y hy => impl_fieldText.good hE pv k x.1 x.2.1 hy
  · cases h
theorem impl_FieldConflicts.good (hE : EnvOk Tryz.prog envX) (pv : Nat → Value) (k : Nat) (a0 : Entry) (a1 : Entry) {y : _} (h : impl_FieldConflicts.F k a0 a1 = some y) : Meets Tryz.prog envX pv (.f 10) (tvals [.entry, .entry] (a0, a1, ())) (.tup [.fr 9 .str y.1, .t .bool y.2]) :=
  fun_loops hE (t := impl_FieldConflicts.C) k (fun k _ => impl_FieldConflicts.G hE pv k) (f := 10) (fn := Tryz.f10) (by kernel_rfl) rfl (by kernel_rfl) (by kernel_rfl) (lt := impl_FieldConflicts.L) (by kernel_rfl) (fun b A h => by
    unfold impl_FieldConflicts.L at h; split at h
    · cases h; exact ⟨by kernel_rfl, by kernel_rfl, fun _ => rfl, fun _ => rfl⟩
    · cases h) (fun b A h => by
    unfold impl_FieldConflicts.L at h; split at h
    · cases h; exact fun k x => impl_FieldConflicts.step0 k x.1 x.2.1 x.2.2.1 x.2.2.2.1 x.2.2.2.2.1
    · cases h) ((impl_FieldConflicts.run k a0 a1).trans h) fun r hr => wk_view2 hr
/-! ### 30 loop.example/g00896/impl.entryOf -/
def impl_entryOf.F (k : Nat) (a0 : Library) (a1 : ByteArray) : Option (Entry) := (impl_entryIndex.F k a0 a1).bind fun r1 => bif decide (0 ≤ r1) then (bif decide (r1 < (a0.entries.length : Int)) then (some (a0.entries.getD (r1 : Int).toNat (dflt .entry))) else none) else none
def impl_entryOf.C (k : Nat) : Cal → Option CArm := fun c => match c with
  | .f 22 => some (.p [.lib, .str] _ (fun x => impl_entryIndex.F k x.1 x.2.1) (fun r => (.t (.int .i64) r)))
  | _ => none
theorem impl_entryOf.run (k : Nat) (a0 : Library) (a1 : ByteArray) : runF envX (tabC (impl_entryOf.C k)) (tabL 12 0 (fun _ => none)) Tryz.f30 [.t .lib a0, .t .str a1] (viewR1 (.t .entry)) = impl_entryOf.F k a0 a1 := by kernel_rfl
theorem impl_entryOf.G (hE : EnvOk Tryz.prog envX) (pv : Nat → Value) (k : Nat) : ∀ cal A, impl_entryOf.C k cal = some A → ArmOk Tryz.prog envX pv cal A := by
  intro cal A h
  unfold impl_entryOf.C at h
  split at h
  · cases h; exact fun x y hy => impl_entryIndex.good hE pv k x.1 x.2.1 hy
  · cases h
theorem impl_entryOf.good (hE : EnvOk Tryz.prog envX) (pv : Nat → Value) (k : Nat) (a0 : Library) (a1 : ByteArray) {y : _} (h : impl_entryOf.F k a0 a1 = some y) : Meets Tryz.prog envX pv (.f 30) (tvals [.lib, .str] (a0, a1, ())) (.t .entry y) :=
  fun_plain hE (impl_entryOf.G hE pv k) (f := 30) (fn := Tryz.f30) (by kernel_rfl) rfl (by kernel_rfl) (by kernel_rfl) ((impl_entryOf.run k a0 a1).trans h) fun r hr => wk_view1 hr
/-! ### 11 loop.example/g00896/impl.InheritedFields -/
def impl_InheritedFields.l0 : Nat → Entry → Entry → (List ByteArray) → (List ByteArray) → Int → Int → Option ((List ByteArray))
  | 0, _, _, _, _, _, _ => none
  | k + 1, x6, x8, x9, x24, x25, x26 => bif (decide (x26 < x25)) then (bif decide (0 ≤ x26) then (bif decide (x26 < (x24.length : Int)) then ((impl_fieldText.F k x8 (x24.getD ((x26 : Int).toNat) (⟨#[]⟩ : ByteArray))).bind fun r3 => bif (beqS r3 (⟨#[]⟩ : ByteArray)) then ((impl_fieldText.F k x6 (x24.getD ((x26 : Int).toNat) (⟨#[]⟩ : ByteArray))).bind fun r4 => bif (!beqS r4 (⟨#[]⟩ : ByteArray)) then (bif room (x9.length + ([(x24.getD ((x26 : Int).toNat) (⟨#[]⟩ : ByteArray))] : List ByteArray).length) .str then (impl_InheritedFields.l0 k x6 x8 (x9 ++ ([(x24.getD ((x26 : Int).toNat) (⟨#[]⟩ : ByteArray))] : List ByteArray)) x24 x25 (IntKind.wrap .i64 (x26 + 1))) else none) else (impl_InheritedFields.l0 k x6 x8 x9 x24 x25 (IntKind.wrap .i64 (x26 + 1)))) else (impl_InheritedFields.l0 k x6 x8 x9 x24 x25 (IntKind.wrap .i64 (x26 + 1)))) else none) else none) else (some x9)
def impl_InheritedFields.F (k : Nat) (a0 : Library) (a1 : ByteArray) : Option ((List ByteArray) × Bool) := (impl_ResolveEntry.F k a0 a1).bind fun r1 => bif (!r1.2) then (some ([], false)) else ((impl_entryOf.F k a0 a1).bind fun r2 => (impl_InheritedFields.l0 k r1.1 r2 ([] : List ByteArray) ([(⟨#[101, 100, 105, 116, 111, 114, 115]⟩ : ByteArray), (⟨#[99, 111, 110, 116, 97, 105, 110, 101, 114]⟩ : ByteArray), (⟨#[112, 117, 98, 108, 105, 115, 104, 101, 114]⟩ : ByteArray), (⟨#[100, 97, 116, 101]⟩ : ByteArray), (⟨#[118, 111, 108, 117, 109, 101]⟩ : ByteArray)] : List ByteArray) (([(⟨#[101, 100, 105, 116, 111, 114, 115]⟩ : ByteArray), (⟨#[99, 111, 110, 116, 97, 105, 110, 101, 114]⟩ : ByteArray), (⟨#[112, 117, 98, 108, 105, 115, 104, 101, 114]⟩ : ByteArray), (⟨#[100, 97, 116, 101]⟩ : ByteArray), (⟨#[118, 111, 108, 117, 109, 101]⟩ : ByteArray)] : List ByteArray).length : Int) 0).bind fun y5 => some (y5, true))
def impl_InheritedFields.C (k : Nat) : Cal → Option CArm := fun c => match c with
  | .f 6 => some (.p [.lib, .str] _ (fun x => impl_ResolveEntry.F k x.1 x.2.1) (fun r => (.tup [.t .entry r.1, .t .bool r.2])))
  | .f 30 => some (.p [.lib, .str] _ (fun x => impl_entryOf.F k x.1 x.2.1) (fun r => (.t .entry r)))
  | .f 29 => some (.p [.entry, .str] _ (fun x => impl_fieldText.F k x.1 x.2.1) (fun r => (.t .str r)))
  | _ => none
def impl_InheritedFields.sp0 : List Sp := [.boxT 6 1048 .entry, .boxT 8 4112 .entry, .own 9 4108 9 .str false true, .own 24 5120 9 .str false true, .t 25 (.int .i64), .t 26 (.int .i64)]
def impl_InheritedFields.sp0_0 : List Sp := [.own 9 4108 9 .str false true]
def impl_InheritedFields.A0 : LArm := .one impl_InheritedFields.sp0 impl_InheritedFields.sp0_0 ((List ByteArray)) (fun k x => impl_InheritedFields.l0 k x.1 x.2.1 x.2.2.1 x.2.2.2.1 x.2.2.2.2.1 x.2.2.2.2.2.1) (.exit 0) (fun y => (y, ())) (fun x => x.1)
def impl_InheritedFields.L : Nat → Option LArm := fun b => match b with
  | 0 => some impl_InheritedFields.A0
  | _ => none
theorem impl_InheritedFields.run (k : Nat) (a0 : Library) (a1 : ByteArray) : runF envX (tabC (impl_InheritedFields.C k)) (tabL 46 k impl_InheritedFields.L) Tryz.f11 [.t .lib a0, .t .str a1] (viewR2 (.fr 9 .str) (.t .bool)) = impl_InheritedFields.F k a0 a1 := by kernel_rfl
theorem impl_InheritedFields.step0 (k : Nat) (x6 : Entry) (x8 : Entry) (x9 : List ByteArray) (x24 : List ByteArray) (x25 : Int) (x26 : Int) : runC envX (tabC (impl_InheritedFields.C k)) (tabL 46 k impl_InheritedFields.L) 0 (loopAt Tryz.f11 0) (stOf 46 impl_InheritedFields.sp0 (x6, x8, x9, x24, x25, x26, ())) (impl_InheritedFields.A0.cont 46 k) = impl_InheritedFields.l0 (k + 1) x6 x8 x9 x24 x25 x26 := by kernel_rfl
theorem impl_InheritedFields.G (hE : EnvOk Tryz.prog envX) (pv : Nat → Value) (k : Nat) : ∀ cal A, impl_InheritedFields.C k cal = some A → ArmOk Tryz.prog envX pv cal A := by
  intro cal A h
  unfold impl_InheritedFields.C at h
  split at h
  · cases h; exact fun x y hy => impl_ResolveEntry.good hE pv k x.1 x.2.1 hy
  · cases h; exact fun x y hy => impl_entryOf.good hE pv k x.1 x.2.1 hy
  · cases h; exact fun x y hy => impl_fieldText.good hE pv k x.1 x.2.1 hy
  · cases h
theorem impl_InheritedFields.good (hE : EnvOk Tryz.prog envX) (pv : Nat → Value) (k : Nat) (a0 : Library) (a1 : ByteArray) {y : _} (h : impl_InheritedFields.F k a0 a1 = some y) : Meets Tryz.prog envX pv (.f 11) (tvals [.lib, .str] (a0, a1, ())) (.tup [.fr 9 .str y.1, .t .bool y.2]) :=
  fun_loops hE (t := impl_InheritedFields.C) k (fun k _ => impl_InheritedFields.G hE pv k) (f := 11) (fn := Tryz.f11) (by kernel_rfl) rfl (by kernel_rfl) (by kernel_rfl) (lt := impl_InheritedFields.L) (by kernel_rfl) (fun b A h => by
    unfold impl_InheritedFields.L at h; split at h
    · cases h; exact ⟨by kernel_rfl, by kernel_rfl, fun _ => rfl, fun _ => rfl⟩
    · cases h) (fun b A h => by
    unfold impl_InheritedFields.L at h; split at h
    · cases h; exact fun k x => impl_InheritedFields.step0 k x.1 x.2.1 x.2.2.1 x.2.2.2.1 x.2.2.2.2.1 x.2.2.2.2.2.1
    · cases h) ((impl_InheritedFields.run k a0 a1).trans h) fun r hr => wk_view2 hr
/-! ### 110 loop.example/g00896/spec.l2Join -/
def spec_l2Join.l0 : Nat → (List ByteArray) → ByteArray → Int → Option (ByteArray)
  | 0, _, _, _ => none
  | k + 1, x0, x3, x4 => bif (decide (x4 < (x0.length : Int))) then (bif (!beqS x3 (⟨#[]⟩ : ByteArray)) then (bif decide (0 ≤ x4) then (bif decide (x4 < (x0.length : Int)) then (bif (!beqS (x0.getD (x4 : Int).toNat (⟨#[]⟩ : ByteArray)) (⟨#[]⟩ : ByteArray)) then (bif Nat.ble (x3.size + (⟨#[32]⟩ : ByteArray).size) 9223372036854775807 then (bif decide (0 ≤ x4) then (bif decide (x4 < (x0.length : Int)) then (bif Nat.ble ((x3 ++ (⟨#[32]⟩ : ByteArray)).size + (x0.getD (x4 : Int).toNat (⟨#[]⟩ : ByteArray)).size) 9223372036854775807 then (spec_l2Join.l0 k x0 ((x3 ++ (⟨#[32]⟩ : ByteArray)) ++ (x0.getD (x4 : Int).toNat (⟨#[]⟩ : ByteArray))) (IntKind.wrap .i64 (x4 + 1))) else none) else none) else none) else none) else (bif decide (0 ≤ x4) then (bif decide (x4 < (x0.length : Int)) then (bif Nat.ble (x3.size + (x0.getD (x4 : Int).toNat (⟨#[]⟩ : ByteArray)).size) 9223372036854775807 then (spec_l2Join.l0 k x0 (x3 ++ (x0.getD (x4 : Int).toNat (⟨#[]⟩ : ByteArray))) (IntKind.wrap .i64 (x4 + 1))) else none) else none) else none)) else none) else none) else (bif decide (0 ≤ x4) then (bif decide (x4 < (x0.length : Int)) then (bif Nat.ble (x3.size + (x0.getD (x4 : Int).toNat (⟨#[]⟩ : ByteArray)).size) 9223372036854775807 then (spec_l2Join.l0 k x0 (x3 ++ (x0.getD (x4 : Int).toNat (⟨#[]⟩ : ByteArray))) (IntKind.wrap .i64 (x4 + 1))) else none) else none) else none)) else (some x3)
def spec_l2Join.F (k : Nat) (a0 : List ByteArray) : Option (ByteArray) := (spec_l2Join.l0 k a0 (⟨#[]⟩ : ByteArray) 0).bind fun y1 => some y1
def spec_l2Join.C (k : Nat) : Cal → Option CArm := fun c => match c with
  | _ => none
def spec_l2Join.sp0 : List Sp := [.t 0 (.sl .str), .t 3 .str, .t 4 (.int .i64)]
def spec_l2Join.sp0_0 : List Sp := [.t 3 .str]
def spec_l2Join.A0 : LArm := .one spec_l2Join.sp0 spec_l2Join.sp0_0 (ByteArray) (fun k x => spec_l2Join.l0 k x.1 x.2.1 x.2.2.1) (.exit 0) (fun y => (y, ())) (fun x => x.1)
def spec_l2Join.L : Nat → Option LArm := fun b => match b with
  | 0 => some spec_l2Join.A0
  | _ => none
theorem spec_l2Join.run (k : Nat) (a0 : List ByteArray) : runF envX (tabC (spec_l2Join.C k)) (tabL 29 k spec_l2Join.L) Tryz.f110 [.t (.sl .str) a0] (viewR1 (.t .str)) = spec_l2Join.F k a0 := by kernel_rfl
theorem spec_l2Join.step0 (k : Nat) (x0 : List ByteArray) (x3 : ByteArray) (x4 : Int) : runC envX (tabC (spec_l2Join.C k)) (tabL 29 k spec_l2Join.L) 0 (loopAt Tryz.f110 0) (stOf 29 spec_l2Join.sp0 (x0, x3, x4, ())) (spec_l2Join.A0.cont 29 k) = spec_l2Join.l0 (k + 1) x0 x3 x4 := by kernel_rfl
theorem spec_l2Join.G (hE : EnvOk Tryz.prog envX) (pv : Nat → Value) (k : Nat) : ∀ cal A, spec_l2Join.C k cal = some A → ArmOk Tryz.prog envX pv cal A := by
  intro cal A h
  unfold spec_l2Join.C at h
  cases h
theorem spec_l2Join.good (hE : EnvOk Tryz.prog envX) (pv : Nat → Value) (k : Nat) (a0 : List ByteArray) {y : _} (h : spec_l2Join.F k a0 = some y) : Meets Tryz.prog envX pv (.f 110) (tvals [(.sl .str)] (a0, ())) (.t .str y) :=
  fun_loops hE (t := spec_l2Join.C) k (fun k _ => spec_l2Join.G hE pv k) (f := 110) (fn := Tryz.f110) (by kernel_rfl) rfl (by kernel_rfl) (by kernel_rfl) (lt := spec_l2Join.L) (by kernel_rfl) (fun b A h => by
    unfold spec_l2Join.L at h; split at h
    · cases h; exact ⟨by kernel_rfl, by kernel_rfl, fun _ => rfl, fun _ => rfl⟩
    · cases h) (fun b A h => by
    unfold spec_l2Join.L at h; split at h
    · cases h; exact fun k x => spec_l2Join.step0 k x.1 x.2.1 x.2.2.1
    · cases h) ((spec_l2Join.run k a0).trans h) fun r hr => wk_view1 hr
/-! ### 111 loop.example/g00896/spec.l2Given -/
def spec_l2Given.F (k : Nat) (a0 : Name) : Option (ByteArray) := (spec_l2Join.F k a0.given).bind fun r1 => some r1
def spec_l2Given.C (k : Nat) : Cal → Option CArm := fun c => match c with
  | .f 110 => some (.p [(.sl .str)] _ (fun x => spec_l2Join.F k x.1) (fun r => (.t .str r)))
  | _ => none
theorem spec_l2Given.run (k : Nat) (a0 : Name) : runF envX (tabC (spec_l2Given.C k)) (tabL 6 0 (fun _ => none)) Tryz.f111 [.t .name a0] (viewR1 (.t .str)) = spec_l2Given.F k a0 := by kernel_rfl
theorem spec_l2Given.G (hE : EnvOk Tryz.prog envX) (pv : Nat → Value) (k : Nat) : ∀ cal A, spec_l2Given.C k cal = some A → ArmOk Tryz.prog envX pv cal A := by
  intro cal A h
  unfold spec_l2Given.C at h
  split at h
  · cases h; exact fun x y hy => spec_l2Join.good hE pv k x.1 hy
  · cases h
theorem spec_l2Given.good (hE : EnvOk Tryz.prog envX) (pv : Nat → Value) (k : Nat) (a0 : Name) {y : _} (h : spec_l2Given.F k a0 = some y) : Meets Tryz.prog envX pv (.f 111) (tvals [.name] (a0, ())) (.t .str y) :=
  fun_plain hE (spec_l2Given.G hE pv k) (f := 111) (fn := Tryz.f111) (by kernel_rfl) rfl (by kernel_rfl) (by kernel_rfl) ((spec_l2Given.run k a0).trans h) fun r hr => wk_view1 hr
/-! ### 88 loop.example/g00896/spec.l2Inverse -/
def spec_l2Inverse.F (k : Nat) (a0 : Name) : Option (ByteArray) := (spec_l2Join.F k ([a0.particle, a0.family] : List ByteArray)).bind fun r1 => bif (decide ((a0.given.length : Int) > 0)) then (bif Nat.ble (r1.size + (⟨#[44, 32]⟩ : ByteArray).size) 9223372036854775807 then ((spec_l2Given.F k a0).bind fun r2 => bif Nat.ble ((r1 ++ (⟨#[44, 32]⟩ : ByteArray)).size + r2.size) 9223372036854775807 then (bif (!beqS a0.suffix (⟨#[]⟩ : ByteArray)) then (bif Nat.ble (((r1 ++ (⟨#[44, 32]⟩ : ByteArray)) ++ r2).size + (⟨#[44, 32]⟩ : ByteArray).size) 9223372036854775807 then (bif Nat.ble ((((r1 ++ (⟨#[44, 32]⟩ : ByteArray)) ++ r2) ++ (⟨#[44, 32]⟩ : ByteArray)).size + a0.suffix.size) 9223372036854775807 then (some ((((r1 ++ (⟨#[44, 32]⟩ : ByteArray)) ++ r2) ++ (⟨#[44, 32]⟩ : ByteArray)) ++ a0.suffix)) else none) else none) else (some ((r1 ++ (⟨#[44, 32]⟩ : ByteArray)) ++ r2))) else none) else none) else (bif (!beqS a0.suffix (⟨#[]⟩ : ByteArray)) then (bif Nat.ble (r1.size + (⟨#[44, 32]⟩ : ByteArray).size) 9223372036854775807 then ((spec_l2Given.F k a0).bind fun r3 => bif Nat.ble ((r1 ++ (⟨#[44, 32]⟩ : ByteArray)).size + r3.size) 9223372036854775807 then (bif (!beqS a0.suffix (⟨#[]⟩ : ByteArray)) then (bif Nat.ble (((r1 ++ (⟨#[44, 32]⟩ : ByteArray)) ++ r3).size + (⟨#[44, 32]⟩ : ByteArray).size) 9223372036854775807 then (bif Nat.ble ((((r1 ++ (⟨#[44, 32]⟩ : ByteArray)) ++ r3) ++ (⟨#[44, 32]⟩ : ByteArray)).size + a0.suffix.size) 9223372036854775807 then (some ((((r1 ++ (⟨#[44, 32]⟩ : ByteArray)) ++ r3) ++ (⟨#[44, 32]⟩ : ByteArray)) ++ a0.suffix)) else none) else none) else (some ((r1 ++ (⟨#[44, 32]⟩ : ByteArray)) ++ r3))) else none) else none) else (bif (!beqS a0.suffix (⟨#[]⟩ : ByteArray)) then (bif Nat.ble (r1.size + (⟨#[44, 32]⟩ : ByteArray).size) 9223372036854775807 then (bif Nat.ble ((r1 ++ (⟨#[44, 32]⟩ : ByteArray)).size + a0.suffix.size) 9223372036854775807 then (some ((r1 ++ (⟨#[44, 32]⟩ : ByteArray)) ++ a0.suffix)) else none) else none) else (some r1)))
def spec_l2Inverse.C (k : Nat) : Cal → Option CArm := fun c => match c with
  | .f 110 => some (.p [(.sl .str)] _ (fun x => spec_l2Join.F k x.1) (fun r => (.t .str r)))
  | .f 111 => some (.p [.name] _ (fun x => spec_l2Given.F k x.1) (fun r => (.t .str r)))
  | _ => none
theorem spec_l2Inverse.run (k : Nat) (a0 : Name) : runF envX (tabC (spec_l2Inverse.C k)) (tabL 33 0 (fun _ => none)) Tryz.f88 [.t .name a0] (viewR1 (.t .str)) = spec_l2Inverse.F k a0 := by kernel_rfl
theorem spec_l2Inverse.G (hE : EnvOk Tryz.prog envX) (pv : Nat → Value) (k : Nat) : ∀ cal A, spec_l2Inverse.C k cal = some A → ArmOk Tryz.prog envX pv cal A := by
  intro cal A h
  unfold spec_l2Inverse.C at h
  split at h
  · cases h; exact fun x y hy => spec_l2Join.good hE pv k x.1 hy
  · cases h; exact fun x y hy => spec_l2Given.good hE pv k x.1 hy
  · cases h
theorem spec_l2Inverse.good (hE : EnvOk Tryz.prog envX) (pv : Nat → Value) (k : Nat) (a0 : Name) {y : _} (h : spec_l2Inverse.F k a0 = some y) : Meets Tryz.prog envX pv (.f 88) (tvals [.name] (a0, ())) (.t .str y) :=
  fun_plain hE (spec_l2Inverse.G hE pv k) (f := 88) (fn := Tryz.f88) (by kernel_rfl) rfl (by kernel_rfl) (by kernel_rfl) ((spec_l2Inverse.run k a0).trans h) fun r hr => wk_view1 hr
/-! ### 55 loop.example/g00896/spec.l4Names -/
def spec_l4Names.l0 : Nat → (List Name) → ByteArray → Int → Option (ByteArray)
  | 0, _, _, _ => none
  | k + 1, x0, x3, x4 => bif (decide (x4 < (x0.length : Int))) then (bif (decide (x4 > 0)) then (bif Nat.ble (x3.size + (⟨#[59, 32]⟩ : ByteArray).size) 9223372036854775807 then (bif decide (0 ≤ x4) then (bif decide (x4 < (x0.length : Int)) then ((spec_l2Inverse.F k (x0.getD (x4 : Int).toNat (dflt .name))).bind fun r1 => bif Nat.ble ((x3 ++ (⟨#[59, 32]⟩ : ByteArray)).size + r1.size) 9223372036854775807 then (spec_l4Names.l0 k x0 ((x3 ++ (⟨#[59, 32]⟩ : ByteArray)) ++ r1) (IntKind.wrap .i64 (x4 + 1))) else none) else none) else none) else none) else (bif decide (0 ≤ x4) then (bif decide (x4 < (x0.length : Int)) then ((spec_l2Inverse.F k (x0.getD (x4 : Int).toNat (dflt .name))).bind fun r2 => bif Nat.ble (x3.size + r2.size) 9223372036854775807 then (spec_l4Names.l0 k x0 (x3 ++ r2) (IntKind.wrap .i64 (x4 + 1))) else none) else none) else none)) else (some x3)
def spec_l4Names.F (k : Nat) (a0 : List Name) : Option (ByteArray) := (spec_l4Names.l0 k a0 (⟨#[]⟩ : ByteArray) 0).bind fun y3 => some y3
def spec_l4Names.C (k : Nat) : Cal → Option CArm := fun c => match c with
  | .f 88 => some (.p [.name] _ (fun x => spec_l2Inverse.F k x.1) (fun r => (.t .str r)))
  | _ => none
def spec_l4Names.sp0 : List Sp := [.t 0 (.sl .name), .t 3 .str, .t 4 (.int .i64)]
def spec_l4Names.sp0_0 : List Sp := [.t 3 .str]
def spec_l4Names.A0 : LArm := .one spec_l4Names.sp0 spec_l4Names.sp0_0 (ByteArray) (fun k x => spec_l4Names.l0 k x.1 x.2.1 x.2.2.1) (.exit 0) (fun y => (y, ())) (fun x => x.1)
def spec_l4Names.L : Nat → Option LArm := fun b => match b with
  | 0 => some spec_l4Names.A0
  | _ => none
theorem spec_l4Names.run (k : Nat) (a0 : List Name) : runF envX (tabC (spec_l4Names.C k)) (tabL 23 k spec_l4Names.L) Tryz.f55 [.t (.sl .name) a0] (viewR1 (.t .str)) = spec_l4Names.F k a0 := by kernel_rfl
theorem spec_l4Names.step0 (k : Nat) (x0 : List Name) (x3 : ByteArray) (x4 : Int) : runC envX (tabC (spec_l4Names.C k)) (tabL 23 k spec_l4Names.L) 0 (loopAt Tryz.f55 0) (stOf 23 spec_l4Names.sp0 (x0, x3, x4, ())) (spec_l4Names.A0.cont 23 k) = spec_l4Names.l0 (k + 1) x0 x3 x4 := by kernel_rfl
theorem spec_l4Names.G (hE : EnvOk Tryz.prog envX) (pv : Nat → Value) (k : Nat) : ∀ cal A, spec_l4Names.C k cal = some A → ArmOk Tryz.prog envX pv cal A := by
  intro cal A h
  unfold spec_l4Names.C at h
  split at h
  · cases h; exact fun x y hy => spec_l2Inverse.good hE pv k x.1 hy
  · cases h
theorem spec_l4Names.good (hE : EnvOk Tryz.prog envX) (pv : Nat → Value) (k : Nat) (a0 : List Name) {y : _} (h : spec_l4Names.F k a0 = some y) : Meets Tryz.prog envX pv (.f 55) (tvals [(.sl .name)] (a0, ())) (.t .str y) :=
  fun_loops hE (t := spec_l4Names.C) k (fun k _ => spec_l4Names.G hE pv k) (f := 55) (fn := Tryz.f55) (by kernel_rfl) rfl (by kernel_rfl) (by kernel_rfl) (lt := spec_l4Names.L) (by kernel_rfl) (fun b A h => by
    unfold spec_l4Names.L at h; split at h
    · cases h; exact ⟨by kernel_rfl, by kernel_rfl, fun _ => rfl, fun _ => rfl⟩
    · cases h) (fun b A h => by
    unfold spec_l4Names.L at h; split at h
    · cases h; exact fun k x => spec_l4Names.step0 k x.1 x.2.1 x.2.2.1
    · cases h) ((spec_l4Names.run k a0).trans h) fun r hr => wk_view1 hr
/-! ### 89 loop.example/g00896/spec.l3Pad -/
def spec_l3Pad.l0 : Nat → Int → ByteArray → Option (ByteArray)
  | 0, _, _ => none
  | k + 1, x1, x5 => bif (decide ((x5.size : Int) < x1)) then (bif Nat.ble ((⟨#[48]⟩ : ByteArray).size + x5.size) 9223372036854775807 then (spec_l3Pad.l0 k x1 ((⟨#[48]⟩ : ByteArray) ++ x5)) else none) else (some x5)
def spec_l3Pad.F (k : Nat) (a0 : Int) (a1 : Int) : Option (ByteArray) := (spec_l1Num.F k a0).bind fun r1 => (spec_l3Pad.l0 k a1 r1).bind fun y2 => some y2
def spec_l3Pad.C (k : Nat) : Cal → Option CArm := fun c => match c with
  | .f 57 => some (.p [(.int .i64)] _ (fun x => spec_l1Num.F k x.1) (fun r => (.t .str r)))
  | _ => none
def spec_l3Pad.sp0 : List Sp := [.t 1 (.int .i64), .t 5 .str]
def spec_l3Pad.sp0_0 : List Sp := [.t 5 .str]
def spec_l3Pad.A0 : LArm := .one spec_l3Pad.sp0 spec_l3Pad.sp0_0 (ByteArray) (fun k x => spec_l3Pad.l0 k x.1 x.2.1) (.exit 0) (fun y => (y, ())) (fun x => x.1)
def spec_l3Pad.L : Nat → Option LArm := fun b => match b with
  | 0 => some spec_l3Pad.A0
  | _ => none
theorem spec_l3Pad.run (k : Nat) (a0 : Int) (a1 : Int) : runF envX (tabC (spec_l3Pad.C k)) (tabL 15 k spec_l3Pad.L) Tryz.f89 [.t (.int .i64) a0, .t (.int .i64) a1] (viewR1 (.t .str)) = spec_l3Pad.F k a0 a1 := by kernel_rfl
theorem spec_l3Pad.step0 (k : Nat) (x1 : Int) (x5 : ByteArray) : runC envX (tabC (spec_l3Pad.C k)) (tabL 15 k spec_l3Pad.L) 0 (loopAt Tryz.f89 0) (stOf 15 spec_l3Pad.sp0 (x1, x5, ())) (spec_l3Pad.A0.cont 15 k) = spec_l3Pad.l0 (k + 1) x1 x5 := by kernel_rfl
theorem spec_l3Pad.G (hE : EnvOk Tryz.prog envX) (pv : Nat → Value) (k : Nat) : ∀ cal A, spec_l3Pad.C k cal = some A → ArmOk Tryz.prog envX pv cal A := by
  intro cal A h
  unfold spec_l3Pad.C at h
  split at h
  · cases h; exact fun x y hy => spec_l1Num.good hE pv k x.1 hy
  · cases h
theorem spec_l3Pad.good (hE : EnvOk Tryz.prog envX) (pv : Nat → Value) (k : Nat) (a0 : Int) (a1 : Int) {y : _} (h : spec_l3Pad.F k a0 a1 = some y) : Meets Tryz.prog envX pv (.f 89) (tvals [(.int .i64), (.int .i64)] (a0, a1, ())) (.t .str y) :=
  fun_loops hE (t := spec_l3Pad.C) k (fun k _ => spec_l3Pad.G hE pv k) (f := 89) (fn := Tryz.f89) (by kernel_rfl) rfl (by kernel_rfl) (by kernel_rfl) (lt := spec_l3Pad.L) (by kernel_rfl) (fun b A h => by
    unfold spec_l3Pad.L at h; split at h
    · cases h; exact ⟨by kernel_rfl, by kernel_rfl, fun _ => rfl, fun _ => rfl⟩
    · cases h) (fun b A h => by
    unfold spec_l3Pad.L at h; split at h
    · cases h; exact fun k x => spec_l3Pad.step0 k x.1 x.2.1
    · cases h) ((spec_l3Pad.run k a0 a1).trans h) fun r hr => wk_view1 hr
/-! ### 56 loop.example/g00896/spec.l3Text -/
def spec_l3Text.F (k : Nat) (a0 : Date) : Option (ByteArray) := bif (a0.y == 0) then (some (⟨#[117, 110, 107, 110, 111, 119, 110]⟩ : ByteArray)) else ((spec_l3Pad.F k a0.y 4).bind fun r1 => bif (decide (a0.m > 0)) then (bif Nat.ble (r1.size + (⟨#[45]⟩ : ByteArray).size) 9223372036854775807 then ((spec_l3Pad.F k a0.m 2).bind fun r2 => bif Nat.ble ((r1 ++ (⟨#[45]⟩ : ByteArray)).size + r2.size) 9223372036854775807 then (bif (decide (a0.d > 0)) then (bif Nat.ble (((r1 ++ (⟨#[45]⟩ : ByteArray)) ++ r2).size + (⟨#[45]⟩ : ByteArray).size) 9223372036854775807 then ((spec_l3Pad.F k a0.d 2).bind fun r3 => bif Nat.ble ((((r1 ++ (⟨#[45]⟩ : ByteArray)) ++ r2) ++ (⟨#[45]⟩ : ByteArray)).size + r3.size) 9223372036854775807 then (bif a0.c then (bif Nat.ble ((⟨#[99]⟩ : ByteArray).size + ((((r1 ++ (⟨#[45]⟩ : ByteArray)) ++ r2) ++ (⟨#[45]⟩ : ByteArray)) ++ r3).size) 9223372036854775807 then (some ((⟨#[99]⟩ : ByteArray) ++ ((((r1 ++ (⟨#[45]⟩ : ByteArray)) ++ r2) ++ (⟨#[45]⟩ : ByteArray)) ++ r3))) else none) else (some ((((r1 ++ (⟨#[45]⟩ : ByteArray)) ++ r2) ++ (⟨#[45]⟩ : ByteArray)) ++ r3))) else none) else none) else (bif a0.c then (bif Nat.ble ((⟨#[99]⟩ : ByteArray).size + ((r1 ++ (⟨#[45]⟩ : ByteArray)) ++ r2).size) 9223372036854775807 then (some ((⟨#[99]⟩ : ByteArray) ++ ((r1 ++ (⟨#[45]⟩ : ByteArray)) ++ r2))) else none) else (some ((r1 ++ (⟨#[45]⟩ : ByteArray)) ++ r2)))) else none) else none) else (bif (decide (a0.d > 0)) then (bif Nat.ble (r1.size + (⟨#[45]⟩ : ByteArray).size) 9223372036854775807 then ((spec_l3Pad.F k a0.d 2).bind fun r4 => bif Nat.ble ((r1 ++ (⟨#[45]⟩ : ByteArray)).size + r4.size) 9223372036854775807 then (bif a0.c then (bif Nat.ble ((⟨#[99]⟩ : ByteArray).size + ((r1 ++ (⟨#[45]⟩ : ByteArray)) ++ r4).size) 9223372036854775807 then (some ((⟨#[99]⟩ : ByteArray) ++ ((r1 ++ (⟨#[45]⟩ : ByteArray)) ++ r4))) else none) else (some ((r1 ++ (⟨#[45]⟩ : ByteArray)) ++ r4))) else none) else none) else (bif a0.c then (bif Nat.ble ((⟨#[99]⟩ : ByteArray).size + r1.size) 9223372036854775807 then (some ((⟨#[99]⟩ : ByteArray) ++ r1)) else none) else (some r1))))
def spec_l3Text.C (k : Nat) : Cal → Option CArm := fun c => match c with
  | .f 89 => some (.p [(.int .i64), (.int .i64)] _ (fun x => spec_l3Pad.F k x.1 x.2.1) (fun r => (.t .str r)))
  | _ => none
theorem spec_l3Text.run (k : Nat) (a0 : Date) : runF envX (tabC (spec_l3Text.C k)) (tabL 33 0 (fun _ => none)) Tryz.f56 [.t .date a0] (viewR1 (.t .str)) = spec_l3Text.F k a0 := by kernel_rfl
theorem spec_l3Text.G (hE : EnvOk Tryz.prog envX) (pv : Nat → Value) (k : Nat) : ∀ cal A, spec_l3Text.C k cal = some A → ArmOk Tryz.prog envX pv cal A := by
  intro cal A h
  unfold spec_l3Text.C at h
  split at h
  · cases h; exact fun x y hy => spec_l3Pad.good hE pv k x.1 x.2.1 hy
  · cases h
theorem spec_l3Text.good (hE : EnvOk Tryz.prog envX) (pv : Nat → Value) (k : Nat) (a0 : Date) {y : _} (h : spec_l3Text.F k a0 = some y) : Meets Tryz.prog envX pv (.f 56) (tvals [.date] (a0, ())) (.t .str y) :=
  fun_plain hE (spec_l3Text.G hE pv k) (f := 56) (fn := Tryz.f56) (by kernel_rfl) rfl (by kernel_rfl) (by kernel_rfl) ((spec_l3Text.run k a0).trans h) fun r hr => wk_view1 hr
/-! ### 31 loop.example/g00896/spec.l4Field -/
def spec_l4Field.F (k : Nat) (a0 : Entry) (a1 : ByteArray) : Option (ByteArray × Bool) := bif (beqS a1 (⟨#[97, 117, 116, 104, 111, 114, 115]⟩ : ByteArray)) then ((spec_l4Names.F k a0.authors).bind fun r1 => some (r1, true)) else (bif (beqS a1 (⟨#[101, 100, 105, 116, 111, 114, 115]⟩ : ByteArray)) then ((spec_l4Names.F k a0.editors).bind fun r2 => some (r2, true)) else (bif (beqS a1 (⟨#[116, 105, 116, 108, 101]⟩ : ByteArray)) then (some (a0.title, true)) else (bif (beqS a1 (⟨#[99, 111, 110, 116, 97, 105, 110, 101, 114]⟩ : ByteArray)) then (some (a0.container, true)) else (bif (beqS a1 (⟨#[112, 117, 98, 108, 105, 115, 104, 101, 114]⟩ : ByteArray)) then (some (a0.publisher, true)) else (bif (beqS a1 (⟨#[112, 97, 103, 101, 115]⟩ : ByteArray)) then (some (a0.pages, true)) else (bif (beqS a1 (⟨#[100, 97, 116, 101]⟩ : ByteArray)) then (bif (a0.date.y == 0) then (some ((⟨#[]⟩ : ByteArray), true)) else ((spec_l3Text.F k a0.date).bind fun r3 => some (r3, true))) else (bif (beqS a1 (⟨#[118, 111, 108, 117, 109, 101]⟩ : ByteArray)) then (bif (a0.volume == 0) then (some ((⟨#[]⟩ : ByteArray), true)) else ((spec_l1Num.F k a0.volume).bind fun r4 => some (r4, true))) else (some ((⟨#[]⟩ : ByteArray), false)))))))))
def spec_l4Field.C (k : Nat) : Cal → Option CArm := fun c => match c with
  | .f 55 => some (.p [(.sl .name)] _ (fun x => spec_l4Names.F k x.1) (fun r => (.t .str r)))
  | .f 56 => some (.p [.date] _ (fun x => spec_l3Text.F k x.1) (fun r => (.t .str r)))
  | .f 57 => some (.p [(.int .i64)] _ (fun x => spec_l1Num.F k x.1) (fun r => (.t .str r)))
  | _ => none
theorem spec_l4Field.run (k : Nat) (a0 : Entry) (a1 : ByteArray) : runF envX (tabC (spec_l4Field.C k)) (tabL 50 0 (fun _ => none)) Tryz.f31 [.t .entry a0, .t .str a1] (viewR2 (.t .str) (.t .bool)) = spec_l4Field.F k a0 a1 := by kernel_rfl
theorem spec_l4Field.G (hE : EnvOk Tryz.prog envX) (pv : Nat → Value) (k : Nat) : ∀ cal A, spec_l4Field.C k cal = some A → ArmOk Tryz.prog envX pv cal A := by
  intro cal A h
  unfold spec_l4Field.C at h
  split at h
  · cases h; exact fun x y hy => spec_l4Names.good hE pv k x.1 hy
  · cases h; exact fun x y hy => spec_l3Text.good hE pv k x.1 hy
  · cases h; exact fun x y hy => spec_l1Num.good hE pv k x.1 hy
  · cases h
theorem spec_l4Field.good (hE : EnvOk Tryz.prog envX) (pv : Nat → Value) (k : Nat) (a0 : Entry) (a1 : ByteArray) {y : _} (h : spec_l4Field.F k a0 a1 = some y) : Meets Tryz.prog envX pv (.f 31) (tvals [.entry, .str] (a0, a1, ())) (.tup [.t .str y.1, .t .bool y.2]) :=
  fun_plain hE (spec_l4Field.G hE pv k) (f := 31) (fn := Tryz.f31) (by kernel_rfl) rfl (by kernel_rfl) (by kernel_rfl) ((spec_l4Field.run k a0 a1).trans h) fun r hr => wk_view2 hr
/-! ### 12 loop.example/g00896/spec.InheritedFields -/
def spec_InheritedFields.l0 : Nat → (List ByteArray) → Entry → Entry → (List ByteArray) → Int → Option ((List ByteArray))
  | 0, _, _, _, _, _ => none
  | k + 1, x6, x7, x9, x10, x11 => bif (decide (x11 < (x10.length : Int))) then (bif decide (0 ≤ x11) then (bif decide (x11 < (x10.length : Int)) then ((spec_l4Field.F k x9 (x10.getD ((x11 : Int).toNat) (⟨#[]⟩ : ByteArray))).bind fun r3 => bif decide (0 ≤ x11) then (bif decide (x11 < (x10.length : Int)) then ((spec_l4Field.F k x7 (x10.getD ((x11 : Int).toNat) (⟨#[]⟩ : ByteArray))).bind fun r4 => bif (beqS r3.1 (⟨#[]⟩ : ByteArray)) then (bif (!beqS r4.1 (⟨#[]⟩ : ByteArray)) then (bif decide (0 ≤ x11) then (bif decide (x11 < (x10.length : Int)) then (bif room (x6.length + ([(x10.getD ((x11 : Int).toNat) (⟨#[]⟩ : ByteArray))] : List ByteArray).length) .str then (spec_InheritedFields.l0 k (x6 ++ ([(x10.getD ((x11 : Int).toNat) (⟨#[]⟩ : ByteArray))] : List ByteArray)) x7 x9 x10 (IntKind.wrap .i64 (x11 + 1))) else none) else none) else none) else (spec_InheritedFields.l0 k x6 x7 x9 x10 (IntKind.wrap .i64 (x11 + 1)))) else (spec_InheritedFields.l0 k x6 x7 x9 x10 (IntKind.wrap .i64 (x11 + 1)))) else none) else none) else none) else none) else (some x6)
def spec_InheritedFields.F (k : Nat) (a0 : Library) (a1 : ByteArray) : Option ((List ByteArray) × Bool) := (spec_ResolveEntry.F k a0 a1).bind fun r1 => bif (!r1.2) then (some (([] : List ByteArray), false)) else ((spec_l4Find.F k a0 a1).bind fun r2 => bif decide (0 ≤ r2) then (bif decide (r2 < (a0.entries.length : Int)) then ((spec_InheritedFields.l0 k ([] : List ByteArray) r1.1 (a0.entries.getD (r2 : Int).toNat (dflt .entry)) ([(⟨#[101, 100, 105, 116, 111, 114, 115]⟩ : ByteArray), (⟨#[99, 111, 110, 116, 97, 105, 110, 101, 114]⟩ : ByteArray), (⟨#[112, 117, 98, 108, 105, 115, 104, 101, 114]⟩ : ByteArray), (⟨#[100, 97, 116, 101]⟩ : ByteArray), (⟨#[118, 111, 108, 117, 109, 101]⟩ : ByteArray)] : List ByteArray) 0).bind fun y5 => some (y5, true)) else none) else none)
def spec_InheritedFields.C (k : Nat) : Cal → Option CArm := fun c => match c with
  | .f 7 => some (.p [.lib, .str] _ (fun x => spec_ResolveEntry.F k x.1 x.2.1) (fun r => (.tup [.t .entry r.1, .t .bool r.2])))
  | .f 26 => some (.p [.lib, .str] _ (fun x => spec_l4Find.F k x.1 x.2.1) (fun r => (.t (.int .i64) r)))
  | .f 31 => some (.p [.entry, .str] _ (fun x => spec_l4Field.F k x.1 x.2.1) (fun r => (.tup [.t .str r.1, .t .bool r.2])))
  | _ => none
def spec_InheritedFields.sp0 : List Sp := [.own 6 1024 9 .str false true, .boxT 7 2072 .entry, .boxT 9 5148 .entry, .own 10 6144 9 .str false true, .t 11 (.int .i64)]
def spec_InheritedFields.sp0_0 : List Sp := [.own 6 1024 9 .str false true]
def spec_InheritedFields.A0 : LArm := .one spec_InheritedFields.sp0 spec_InheritedFields.sp0_0 ((List ByteArray)) (fun k x => spec_InheritedFields.l0 k x.1 x.2.1 x.2.2.1 x.2.2.2.1 x.2.2.2.2.1) (.exit 0) (fun y => (y, ())) (fun x => x.1)
def spec_InheritedFields.L : Nat → Option LArm := fun b => match b with
  | 0 => some spec_InheritedFields.A0
  | _ => none
theorem spec_InheritedFields.run (k : Nat) (a0 : Library) (a1 : ByteArray) : runF envX (tabC (spec_InheritedFields.C k)) (tabL 72 k spec_InheritedFields.L) Tryz.f12 [.t .lib a0, .t .str a1] (viewR2 (.fr 9 .str) (.t .bool)) = spec_InheritedFields.F k a0 a1 := by kernel_rfl
theorem spec_InheritedFields.step0 (k : Nat) (x6 : List ByteArray) (x7 : Entry) (x9 : Entry) (x10 : List ByteArray) (x11 : Int) : runC envX (tabC (spec_InheritedFields.C k)) (tabL 72 k spec_InheritedFields.L) 0 (loopAt Tryz.f12 0) (stOf 72 spec_InheritedFields.sp0 (x6, x7, x9, x10, x11, ())) (spec_InheritedFields.A0.cont 72 k) = spec_InheritedFields.l0 (k + 1) x6 x7 x9 x10 x11 := by kernel_rfl
theorem spec_InheritedFields.G (hE : EnvOk Tryz.prog envX) (pv : Nat → Value) (k : Nat) : ∀ cal A, spec_InheritedFields.C k cal = some A → ArmOk Tryz.prog envX pv cal A := by
  intro cal A h
  unfold spec_InheritedFields.C at h
  split at h
  · cases h; exact fun x y hy => spec_ResolveEntry.good hE pv k x.1 x.2.1 hy
  · cases h; exact fun x y hy => spec_l4Find.good hE pv k x.1 x.2.1 hy
  · cases h; exact fun x y hy => spec_l4Field.good hE pv k x.1 x.2.1 hy
  · cases h
theorem spec_InheritedFields.good (hE : EnvOk Tryz.prog envX) (pv : Nat → Value) (k : Nat) (a0 : Library) (a1 : ByteArray) {y : _} (h : spec_InheritedFields.F k a0 a1 = some y) : Meets Tryz.prog envX pv (.f 12) (tvals [.lib, .str] (a0, a1, ())) (.tup [.fr 9 .str y.1, .t .bool y.2]) :=
  fun_loops hE (t := spec_InheritedFields.C) k (fun k _ => spec_InheritedFields.G hE pv k) (f := 12) (fn := Tryz.f12) (by kernel_rfl) rfl (by kernel_rfl) (by kernel_rfl) (lt := spec_InheritedFields.L) (by kernel_rfl) (fun b A h => by
    unfold spec_InheritedFields.L at h; split at h
    · cases h; exact ⟨by kernel_rfl, by kernel_rfl, fun _ => rfl, fun _ => rfl⟩
    · cases h) (fun b A h => by
    unfold spec_InheritedFields.L at h; split at h
    · cases h; exact fun k x => spec_InheritedFields.step0 k x.1 x.2.1 x.2.2.1 x.2.2.2.1 x.2.2.2.2.1
    · cases h) ((spec_InheritedFields.run k a0 a1).trans h) fun r hr => wk_view2 hr
/-! ### 15 loop.example/g00896/spec.DrawResolveLibrary -/
def spec_DrawResolveLibrary.F (k : Nat) (a0 : List Int) : Option (Library) := (spec_l1Cur_crossed.F k (⟨a0, 0, 0⟩ : Cur)).bind fun r1 => some r1.2
def spec_DrawResolveLibrary.C (k : Nat) : Cal → Option CArm := fun c => match c with
  | .f 38 => some (.m (.bx .cur) [] _ (fun x0 x => spec_l1Cur_crossed.F k x0) (fun r => .kep (.bx .cur r.1) (.t .lib r.2)))
  | _ => none
theorem spec_DrawResolveLibrary.run (k : Nat) (a0 : List Int) : runF envX (tabC (spec_DrawResolveLibrary.C k)) (tabL 9 0 (fun _ => none)) Tryz.f15 [.t (.sl (.int .u8)) a0] (viewR1 (.t .lib)) = spec_DrawResolveLibrary.F k a0 := by kernel_rfl
theorem spec_DrawResolveLibrary.G (hE : EnvOk Tryz.prog envX) (pv : Nat → Value) (k : Nat) : ∀ cal A, spec_DrawResolveLibrary.C k cal = some A → ArmOk Tryz.prog envX pv cal A := by
  intro cal A h
  unfold spec_DrawResolveLibrary.C at h
  split at h
  · cases h; exact ⟨_, rfl, fun x0 x y hy => spec_l1Cur_crossed.good hE pv k x0 hy⟩
  · cases h
theorem spec_DrawResolveLibrary.good (hE : EnvOk Tryz.prog envX) (pv : Nat → Value) (k : Nat) (a0 : List Int) {y : _} (h : spec_DrawResolveLibrary.F k a0 = some y) : Meets Tryz.prog envX pv (.f 15) (tvals [(.sl (.int .u8))] (a0, ())) (.t .lib y) :=
  fun_plain hE (spec_DrawResolveLibrary.G hE pv k) (f := 15) (fn := Tryz.f15) (by kernel_rfl) rfl (by kernel_rfl) (by kernel_rfl) ((spec_DrawResolveLibrary.run k a0).trans h) fun r hr => wk_view1 hr
/-! ### 16 loop.example/g00896/impl.ResolveLibrary -/
def impl_ResolveLibrary.l0 : Nat → Library → (List Entry) → (List Entry) → Int → Int → Option (Sum ((List Entry) × Bool) ((List Entry) × (List Entry)))
  | 0, _, _, _, _, _ => none
  | k + 1, x1, x2, x4, x16, x17 => bif (decide (x17 < x16)) then ((impl_resolveEntry.F k x1 x17).bind fun r2 => bif (!r2.2) then (some (.inl (([] : List Entry), false))) else (bif room (x4.length + ([r2.1] : List Entry).length) .entry then (impl_ResolveLibrary.l0 k x1 x2 (x4 ++ ([r2.1] : List Entry)) x16 (IntKind.wrap .i64 (x17 + 1))) else none)) else (some (.inr (x2, x4)))
def impl_ResolveLibrary.F (k : Nat) (a0 : Library) : Option (Library × Bool) := (impl_IsValidLibrary.F k a0).bind fun r1 => bif (!r1) then (some ((⟨([] : List Entry)⟩ : Library), false)) else ((impl_ResolveLibrary.l0 k a0 ([] : List Entry) ([] : List Entry) (a0.entries.length : Int) 0).bind fun y3 => match y3 with | .inl z4 => some ((⟨z4.1⟩ : Library), z4.2) | .inr z4 => some ((⟨z4.2⟩ : Library), true))
def impl_ResolveLibrary.C (k : Nat) : Cal → Option CArm := fun c => match c with
  | .f 20 => some (.p [.lib] _ (fun x => impl_IsValidLibrary.F k x.1) (fun r => (.t .bool r)))
  | .f 23 => some (.p [.lib, (.int .i64)] _ (fun x => impl_resolveEntry.F k x.1 x.2.1) (fun r => (.tup [.t .entry r.1, .t .bool r.2])))
  | _ => none
def impl_ResolveLibrary.sp0 : List Sp := [.boxT 1 0 .lib, .boxF 2 4 .lib [.t (.sl .entry)], .boxF 4 3080 .lib [.own 3072 33 .entry false true], .t 16 (.int .i64), .t 17 (.int .i64)]
def impl_ResolveLibrary.sp0_0 : List Sp := [.boxF 2 4 .lib [.t (.sl .entry)], .t 3 .bool]
def impl_ResolveLibrary.sp0_1 : List Sp := [.boxF 2 4 .lib [.t (.sl .entry)], .boxF 4 3080 .lib [.own 3072 33 .entry false true]]
def impl_ResolveLibrary.A0 : LArm := .two impl_ResolveLibrary.sp0 impl_ResolveLibrary.sp0_0 impl_ResolveLibrary.sp0_1 ((List Entry) × Bool) ((List Entry) × (List Entry)) (fun k x => impl_ResolveLibrary.l0 k x.1 x.2.1.1 x.2.2.1.1 x.2.2.2.1 x.2.2.2.2.1) .ret (.exit 0) (fun y => ((y.1, ()), y.2, ())) (fun x => (x.1.1, x.2.1)) (fun y => ((y.1, ()), (y.2, ()), ())) (fun x => (x.1.1, x.2.1.1))
def impl_ResolveLibrary.L : Nat → Option LArm := fun b => match b with
  | 0 => some impl_ResolveLibrary.A0
  | _ => none
theorem impl_ResolveLibrary.run (k : Nat) (a0 : Library) : runF envX (tabC (impl_ResolveLibrary.C k)) (tabL 37 k impl_ResolveLibrary.L) Tryz.f16 [.t .lib a0] (viewR2 (.t .lib) (.t .bool)) = impl_ResolveLibrary.F k a0 := by kernel_rfl
theorem impl_ResolveLibrary.step0 (k : Nat) (x1 : Library) (x2 : List Entry) (x4 : List Entry) (x16 : Int) (x17 : Int) : runC envX (tabC (impl_ResolveLibrary.C k)) (tabL 37 k impl_ResolveLibrary.L) 0 (loopAt Tryz.f16 0) (stOf 37 impl_ResolveLibrary.sp0 (x1, (x2, ()), (x4, ()), x16, x17, ())) (impl_ResolveLibrary.A0.cont 37 k) = impl_ResolveLibrary.l0 (k + 1) x1 x2 x4 x16 x17 := by kernel_rfl
theorem impl_ResolveLibrary.G (hE : EnvOk Tryz.prog envX) (pv : Nat → Value) (k : Nat) : ∀ cal A, impl_ResolveLibrary.C k cal = some A → ArmOk Tryz.prog envX pv cal A := by
  intro cal A h
  unfold impl_ResolveLibrary.C at h
  split at h
  · cases h; exact fun x y hy => impl_IsValidLibrary.good hE pv k x.1 hy
  · cases h; exact fun x y hy => impl_resolveEntry.good hE pv k x.1 x.2.1 hy
  · cases h
theorem impl_ResolveLibrary.good (hE : EnvOk Tryz.prog envX) (pv : Nat → Value) (k : Nat) (a0 : Library) {y : _} (h : impl_ResolveLibrary.F k a0 = some y) : Meets Tryz.prog envX pv (.f 16) (tvals [.lib] (a0, ())) (.tup [.t .lib y.1, .t .bool y.2]) :=
  fun_loops hE (t := impl_ResolveLibrary.C) k (fun k _ => impl_ResolveLibrary.G hE pv k) (f := 16) (fn := Tryz.f16) (by kernel_rfl) rfl (by kernel_rfl) (by kernel_rfl) (lt := impl_ResolveLibrary.L) (by kernel_rfl) (fun b A h => by
    unfold impl_ResolveLibrary.L at h; split at h
    · cases h; exact ⟨by kernel_rfl, by kernel_rfl, by kernel_rfl, fun _ => rfl, fun _ => rfl, fun _ => rfl⟩
    · cases h) (fun b A h => by
    unfold impl_ResolveLibrary.L at h; split at h
    · cases h; exact fun k x => impl_ResolveLibrary.step0 k x.1 x.2.1.1 x.2.2.1.1 x.2.2.2.1 x.2.2.2.2.1
    · cases h) ((impl_ResolveLibrary.run k a0).trans h) fun r hr => wk_view2 hr
/-! ### 17 loop.example/g00896/spec.ResolveLibrary -/
def spec_ResolveLibrary.l0 : Nat → Library → (List Entry) → (List Entry) → Int → Option (Sum ((List Entry) × Bool) ((List Entry) × (List Entry)))
  | 0, _, _, _, _ => none
  | k + 1, x1, x2, x4, x5 => bif (decide (x5 < (x1.entries.length : Int))) then ((spec_l21Resolve.F k x1 x5).bind fun r2 => bif (!r2.2) then (some (.inl (([] : List Entry), false))) else (bif room (x4.length + ([r2.1] : List Entry).length) .entry then (spec_ResolveLibrary.l0 k x1 x2 (x4 ++ ([r2.1] : List Entry)) (IntKind.wrap .i64 (x5 + 1))) else none)) else (some (.inr (x2, x4)))
def spec_ResolveLibrary.F (k : Nat) (a0 : Library) : Option (Library × Bool) := (spec_l4Good.F k a0).bind fun r1 => bif (!r1) then (some ((⟨([] : List Entry)⟩ : Library), false)) else ((spec_ResolveLibrary.l0 k a0 ([] : List Entry) ([] : List Entry) 0).bind fun y3 => match y3 with | .inl z4 => some ((⟨z4.1⟩ : Library), z4.2) | .inr z4 => some ((⟨z4.2⟩ : Library), true))
def spec_ResolveLibrary.C (k : Nat) : Cal → Option CArm := fun c => match c with
  | .f 28 => some (.p [.lib] _ (fun x => spec_l4Good.F k x.1) (fun r => (.t .bool r)))
  | .f 25 => some (.p [.lib, (.int .i64)] _ (fun x => spec_l21Resolve.F k x.1 x.2.1) (fun r => (.tup [.t .entry r.1, .t .bool r.2])))
  | _ => none
def spec_ResolveLibrary.sp0 : List Sp := [.boxT 1 0 .lib, .boxF 2 4 .lib [.t (.sl .entry)], .boxF 4 1032 .lib [.own 1024 33 .entry false true], .t 5 (.int .i64)]
def spec_ResolveLibrary.sp0_0 : List Sp := [.boxF 2 4 .lib [.t (.sl .entry)], .t 3 .bool]
def spec_ResolveLibrary.sp0_1 : List Sp := [.boxF 2 4 .lib [.t (.sl .entry)], .boxF 4 1032 .lib [.own 1024 33 .entry false true]]
def spec_ResolveLibrary.A0 : LArm := .two spec_ResolveLibrary.sp0 spec_ResolveLibrary.sp0_0 spec_ResolveLibrary.sp0_1 ((List Entry) × Bool) ((List Entry) × (List Entry)) (fun k x => spec_ResolveLibrary.l0 k x.1 x.2.1.1 x.2.2.1.1 x.2.2.2.1) .ret (.exit 0) (fun y => ((y.1, ()), y.2, ())) (fun x => (x.1.1, x.2.1)) (fun y => ((y.1, ()), (y.2, ()), ())) (fun x => (x.1.1, x.2.1.1))
def spec_ResolveLibrary.L : Nat → Option LArm := fun b => match b with
  | 0 => some spec_ResolveLibrary.A0
  | _ => none
theorem spec_ResolveLibrary.run (k : Nat) (a0 : Library) : runF envX (tabC (spec_ResolveLibrary.C k)) (tabL 37 k spec_ResolveLibrary.L) Tryz.f17 [.t .lib a0] (viewR2 (.t .lib) (.t .bool)) = spec_ResolveLibrary.F k a0 := by kernel_rfl
theorem spec_ResolveLibrary.step0 (k : Nat) (x1 : Library) (x2 : List Entry) (x4 : List Entry) (x5 : Int) : runC envX (tabC (spec_ResolveLibrary.C k)) (tabL 37 k spec_ResolveLibrary.L) 0 (loopAt Tryz.f17 0) (stOf 37 spec_ResolveLibrary.sp0 (x1, (x2, ()), (x4, ()), x5, ())) (spec_ResolveLibrary.A0.cont 37 k) = spec_ResolveLibrary.l0 (k + 1) x1 x2 x4 x5 := by kernel_rfl
theorem spec_ResolveLibrary.G (hE : EnvOk Tryz.prog envX) (pv : Nat → Value) (k : Nat) : ∀ cal A, spec_ResolveLibrary.C k cal = some A → ArmOk Tryz.prog envX pv cal A := by
  intro cal A h
  unfold spec_ResolveLibrary.C at h
  split at h
  · cases h; exact fun x y hy => spec_l4Good.good hE pv k x.1 hy
  · cases h; exact fun x y hy => spec_l21Resolve.good hE pv k x.1 x.2.1 hy
  · cases h
theorem spec_ResolveLibrary.good (hE : EnvOk Tryz.prog envX) (pv : Nat → Value) (k : Nat) (a0 : Library) {y : _} (h : spec_ResolveLibrary.F k a0 = some y) : Meets Tryz.prog envX pv (.f 17) (tvals [.lib] (a0, ())) (.tup [.t .lib y.1, .t .bool y.2]) :=
  fun_loops hE (t := spec_ResolveLibrary.C) k (fun k _ => spec_ResolveLibrary.G hE pv k) (f := 17) (fn := Tryz.f17) (by kernel_rfl) rfl (by kernel_rfl) (by kernel_rfl) (lt := spec_ResolveLibrary.L) (by kernel_rfl) (fun b A h => by
    unfold spec_ResolveLibrary.L at h; split at h
    · cases h; exact ⟨by kernel_rfl, by kernel_rfl, by kernel_rfl, fun _ => rfl, fun _ => rfl, fun _ => rfl⟩
    · cases h) (fun b A h => by
    unfold spec_ResolveLibrary.L at h; split at h
    · cases h; exact fun k x => spec_ResolveLibrary.step0 k x.1 x.2.1.1 x.2.2.1.1 x.2.2.2.1
    · cases h) ((spec_ResolveLibrary.run k a0).trans h) fun r hr => wk_view2 hr
/-! ### 18 loop.example/g00896/laws.rLibraries -/
def laws_rLibraries.l0 : Nat → Library → Library → Int → Option (Sum Bool Unit)
  | 0, _, _, _ => none
  | k + 1, x2, x3, x5 => bif (decide (x5 < (x2.entries.length : Int))) then (bif decide (0 ≤ x5) then (bif decide (x5 < (x2.entries.length : Int)) then (bif decide (0 ≤ x5) then (bif decide (x5 < (x3.entries.length : Int)) then ((laws_rEntries.F k (x2.entries.getD (x5 : Int).toNat (dflt .entry)) (x3.entries.getD (x5 : Int).toNat (dflt .entry))).bind fun r1 => bif (!r1) then (some (.inl false)) else (laws_rLibraries.l0 k x2 x3 (IntKind.wrap .i64 (x5 + 1)))) else none) else none) else none) else none) else (some (.inr ()))
def laws_rLibraries.F (k : Nat) (a0 : Library) (a1 : Library) : Option (Bool) := bif ((a0.entries.length : Int) != (a1.entries.length : Int)) then (some false) else ((laws_rLibraries.l0 k a0 a1 0).bind fun y2 => match y2 with | .inl z3 => some z3 | .inr z3 => some true)
def laws_rLibraries.C (k : Nat) : Cal → Option CArm := fun c => match c with
  | .f 8 => some (.p [.entry, .entry] _ (fun x => laws_rEntries.F k x.1 x.2.1) (fun r => (.t .bool r)))
  | _ => none
def laws_rLibraries.sp0 : List Sp := [.boxT 2 0 .lib, .boxT 3 4 .lib, .t 5 (.int .i64)]
def laws_rLibraries.sp0_0 : List Sp := [.t 4 .bool]
def laws_rLibraries.sp0_1 : List Sp := []
def laws_rLibraries.A0 : LArm := .two laws_rLibraries.sp0 laws_rLibraries.sp0_0 laws_rLibraries.sp0_1 (Bool) (Unit) (fun k x => laws_rLibraries.l0 k x.1 x.2.1 x.2.2.1) .ret (.exit 0) (fun y => (y, ())) (fun x => x.1) (fun y => ()) (fun x => ())
def laws_rLibraries.L : Nat → Option LArm := fun b => match b with
  | 0 => some laws_rLibraries.A0
  | _ => none
theorem laws_rLibraries.run (k : Nat) (a0 : Library) (a1 : Library) : runF envX (tabC (laws_rLibraries.C k)) (tabL 32 k laws_rLibraries.L) Tryz.f18 [.t .lib a0, .t .lib a1] (viewR1 (.t .bool)) = laws_rLibraries.F k a0 a1 := by kernel_rfl
theorem laws_rLibraries.step0 (k : Nat) (x2 : Library) (x3 : Library) (x5 : Int) : runC envX (tabC (laws_rLibraries.C k)) (tabL 32 k laws_rLibraries.L) 0 (loopAt Tryz.f18 0) (stOf 32 laws_rLibraries.sp0 (x2, x3, x5, ())) (laws_rLibraries.A0.cont 32 k) = laws_rLibraries.l0 (k + 1) x2 x3 x5 := by kernel_rfl
theorem laws_rLibraries.G (hE : EnvOk Tryz.prog envX) (pv : Nat → Value) (k : Nat) : ∀ cal A, laws_rLibraries.C k cal = some A → ArmOk Tryz.prog envX pv cal A := by
  intro cal A h
  unfold laws_rLibraries.C at h
  split at h
  · cases h; exact fun x y hy => laws_rEntries.good hE pv k x.1 x.2.1 hy
  · cases h
theorem laws_rLibraries.good (hE : EnvOk Tryz.prog envX) (pv : Nat → Value) (k : Nat) (a0 : Library) (a1 : Library) {y : _} (h : laws_rLibraries.F k a0 a1 = some y) : Meets Tryz.prog envX pv (.f 18) (tvals [.lib, .lib] (a0, a1, ())) (.t .bool y) :=
  fun_loops hE (t := laws_rLibraries.C) k (fun k _ => laws_rLibraries.G hE pv k) (f := 18) (fn := Tryz.f18) (by kernel_rfl) rfl (by kernel_rfl) (by kernel_rfl) (lt := laws_rLibraries.L) (by kernel_rfl) (fun b A h => by
    unfold laws_rLibraries.L at h; split at h
    · cases h; exact ⟨by kernel_rfl, by kernel_rfl, by kernel_rfl, fun _ => rfl, fun _ => rfl, fun _ => rfl⟩
    · cases h) (fun b A h => by
    unfold laws_rLibraries.L at h; split at h
    · cases h; exact fun k x => laws_rLibraries.step0 k x.1 x.2.1 x.2.2.1
    · cases h) ((laws_rLibraries.run k a0 a1).trans h) fun r hr => wk_view1 hr
/-! ### 41 slices.Min[[]int,int] -/
def slices_Min_int.l0 : Nat → (List Int) → Int → Int → Option (Int)
  | 0, _, _, _ => none
  | k + 1, x0, x3, x4 => bif (decide (x4 < (x0.length : Int))) then (bif decide (0 ≤ x4) then (bif decide (x4 < (x0.length : Int)) then (slices_Min_int.l0 k x0 (if (x0.getD (x4 : Int).toNat 0) < x3 then (x0.getD (x4 : Int).toNat 0) else x3) (IntKind.wrap .i64 (x4 + 1))) else none) else none) else (some x3)
def slices_Min_int.F (k : Nat) (a0 : List Int) : Option (Int) := bif (decide ((a0.length : Int) < 1)) then (none) else (bif decide (0 ≤ 0) then (bif decide (0 < (a0.length : Int)) then ((slices_Min_int.l0 k a0 (a0.getD (0 : Int).toNat 0) 1).bind fun y1 => some y1) else none) else none)
def slices_Min_int.C (k : Nat) : Cal → Option CArm := fun c => match c with
  | _ => none
def slices_Min_int.sp0 : List Sp := [.t 0 (.sl (.int .i64)), .t 3 (.int .i64), .t 4 (.int .i64)]
def slices_Min_int.sp0_0 : List Sp := [.t 3 (.int .i64)]
def slices_Min_int.A0 : LArm := .one slices_Min_int.sp0 slices_Min_int.sp0_0 (Int) (fun k x => slices_Min_int.l0 k x.1 x.2.1 x.2.2.1) (.exit 0) (fun y => (y, ())) (fun x => x.1)
def slices_Min_int.L : Nat → Option LArm := fun b => match b with
  | 0 => some slices_Min_int.A0
  | _ => none
theorem slices_Min_int.run (k : Nat) (a0 : List Int) : runF envX (tabC (slices_Min_int.C k)) (tabL 25 k slices_Min_int.L) Tryz.f41 [.t (.sl (.int .i64)) a0] (viewR1 (.t (.int .i64))) = slices_Min_int.F k a0 := by kernel_rfl
theorem slices_Min_int.step0 (k : Nat) (x0 : List Int) (x3 : Int) (x4 : Int) : runC envX (tabC (slices_Min_int.C k)) (tabL 25 k slices_Min_int.L) 0 (loopAt Tryz.f41 0) (stOf 25 slices_Min_int.sp0 (x0, x3, x4, ())) (slices_Min_int.A0.cont 25 k) = slices_Min_int.l0 (k + 1) x0 x3 x4 := by kernel_rfl
theorem slices_Min_int.G (hE : EnvOk Tryz.prog envX) (pv : Nat → Value) (k : Nat) : ∀ cal A, slices_Min_int.C k cal = some A → ArmOk Tryz.prog envX pv cal A := by
  intro cal A h
  unfold slices_Min_int.C at h
  cases h
theorem slices_Min_int.good (hE : EnvOk Tryz.prog envX) (pv : Nat → Value) (k : Nat) (a0 : List Int) {y : _} (h : slices_Min_int.F k a0 = some y) : Meets Tryz.prog envX pv (.f 41) (tvals [(.sl (.int .i64))] (a0, ())) (.t (.int .i64) y) :=
  fun_loops hE (t := slices_Min_int.C) k (fun k _ => slices_Min_int.G hE pv k) (f := 41) (fn := Tryz.f41) (by kernel_rfl) rfl (by kernel_rfl) (by kernel_rfl) (lt := slices_Min_int.L) (by kernel_rfl) (fun b A h => by
    unfold slices_Min_int.L at h; split at h
    · cases h; exact ⟨by kernel_rfl, by kernel_rfl, fun _ => rfl, fun _ => rfl⟩
    · cases h) (fun b A h => by
    unfold slices_Min_int.L at h; split at h
    · cases h; exact fun k x => slices_Min_int.step0 k x.1 x.2.1 x.2.2.1
    · cases h) ((slices_Min_int.run k a0).trans h) fun r hr => wk_view1 hr
/-! ### 42 loop.example/g00896/impl.keysOf -/
def impl_keysOf.l0 : Nat → Library → (List ByteArray) → (List Int) → Int → Int → Option ((List ByteArray))
  | 0, _, _, _, _, _ => none
  | k + 1, x2, x5, x9, x10, x11 => bif (decide (x11 < x10)) then (bif decide (0 ≤ x11) then (bif decide (x11 < (x9.length : Int)) then (bif decide (0 ≤ (x9.getD (x11 : Int).toNat 0)) then (bif decide ((x9.getD (x11 : Int).toNat 0) < (x2.entries.length : Int)) then (bif room (x5.length + ([(x2.entries.getD ((x9.getD (x11 : Int).toNat 0) : Int).toNat (dflt .entry)).key] : List ByteArray).length) .str then (impl_keysOf.l0 k x2 (x5 ++ ([(x2.entries.getD ((x9.getD (x11 : Int).toNat 0) : Int).toNat (dflt .entry)).key] : List ByteArray)) x9 x10 (IntKind.wrap .i64 (x11 + 1))) else none) else none) else none) else none) else none) else (some x5)
def impl_keysOf.F (k : Nat) (a0 : Library) (a1 : List Int) : Option (List ByteArray) := (impl_keysOf.l0 k a0 ([] : List ByteArray) a1 (a1.length : Int) 0).bind fun y1 => some y1
def impl_keysOf.C (k : Nat) : Cal → Option CArm := fun c => match c with
  | _ => none
def impl_keysOf.sp0 : List Sp := [.boxT 2 0 .lib, .own 5 1024 9 .str false true, .t 9 (.sl (.int .i64)), .t 10 (.int .i64), .t 11 (.int .i64)]
def impl_keysOf.sp0_0 : List Sp := [.own 5 1024 9 .str false true]
def impl_keysOf.A0 : LArm := .one impl_keysOf.sp0 impl_keysOf.sp0_0 ((List ByteArray)) (fun k x => impl_keysOf.l0 k x.1 x.2.1 x.2.2.1 x.2.2.2.1 x.2.2.2.2.1) (.exit 0) (fun y => (y, ())) (fun x => x.1)
def impl_keysOf.L : Nat → Option LArm := fun b => match b with
  | 0 => some impl_keysOf.A0
  | _ => none
theorem impl_keysOf.run (k : Nat) (a0 : Library) (a1 : List Int) : runF envX (tabC (impl_keysOf.C k)) (tabL 26 k impl_keysOf.L) Tryz.f42 [.t .lib a0, .t (.sl (.int .i64)) a1] (viewR1 (.fr 9 .str)) = impl_keysOf.F k a0 a1 := by kernel_rfl
theorem impl_keysOf.step0 (k : Nat) (x2 : Library) (x5 : List ByteArray) (x9 : List Int) (x10 : Int) (x11 : Int) : runC envX (tabC (impl_keysOf.C k)) (tabL 26 k impl_keysOf.L) 0 (loopAt Tryz.f42 0) (stOf 26 impl_keysOf.sp0 (x2, x5, x9, x10, x11, ())) (impl_keysOf.A0.cont 26 k) = impl_keysOf.l0 (k + 1) x2 x5 x9 x10 x11 := by kernel_rfl
theorem impl_keysOf.G (hE : EnvOk Tryz.prog envX) (pv : Nat → Value) (k : Nat) : ∀ cal A, impl_keysOf.C k cal = some A → ArmOk Tryz.prog envX pv cal A := by
  intro cal A h
  unfold impl_keysOf.C at h
  cases h
theorem impl_keysOf.good (hE : EnvOk Tryz.prog envX) (pv : Nat → Value) (k : Nat) (a0 : Library) (a1 : List Int) {y : _} (h : impl_keysOf.F k a0 a1 = some y) : Meets Tryz.prog envX pv (.f 42) (tvals [.lib, (.sl (.int .i64))] (a0, a1, ())) (.fr 9 .str y) :=
  fun_loops hE (t := impl_keysOf.C) k (fun k _ => impl_keysOf.G hE pv k) (f := 42) (fn := Tryz.f42) (by kernel_rfl) rfl (by kernel_rfl) (by kernel_rfl) (lt := impl_keysOf.L) (by kernel_rfl) (fun b A h => by
    unfold impl_keysOf.L at h; split at h
    · cases h; exact ⟨by kernel_rfl, by kernel_rfl, fun _ => rfl, fun _ => rfl⟩
    · cases h) (fun b A h => by
    unfold impl_keysOf.L at h; split at h
    · cases h; exact fun k x => impl_keysOf.step0 k x.1 x.2.1 x.2.2.1 x.2.2.2.1 x.2.2.2.2.1
    · cases h) ((impl_keysOf.run k a0 a1).trans h) fun r hr => wk_view1 hr
/-! ### 19 loop.example/g00896/impl.CrossCycles -/
def impl_CrossCycles.l0 : Nat → Library → (List (List ByteArray)) → Int → Int → Option ((List (List ByteArray)))
  | 0, _, _, _, _ => none
  | k + 1, x1, x4, x14, x15 => bif (decide (x15 < x14)) then ((impl_chainOf.F k x1 x15).bind fun r2 => bif r2.2 then (bif decide (0 ≤ (IntKind.wrap .i64 ((r2.1.length : Int) - 1))) then (bif decide ((IntKind.wrap .i64 ((r2.1.length : Int) - 1)) < (r2.1.length : Int)) then ((impl_parentIndex.F k x1 (r2.1.getD (((IntKind.wrap .i64 ((r2.1.length : Int) - 1)) : Int).toNat) 0)).bind fun r3 => bif (r3 == x15) then ((slices_Min_int.F k r2.1).bind fun r4 => bif (r4 == x15) then ((impl_keysOf.F k x1 r2.1).bind fun r5 => bif room (x4.length + ([r5] : List (List ByteArray)).length) (.sl .str) then (impl_CrossCycles.l0 k x1 (x4 ++ ([r5] : List (List ByteArray))) x14 (IntKind.wrap .i64 (x15 + 1))) else none) else (impl_CrossCycles.l0 k x1 x4 x14 (IntKind.wrap .i64 (x15 + 1)))) else (impl_CrossCycles.l0 k x1 x4 x14 (IntKind.wrap .i64 (x15 + 1)))) else none) else none) else (impl_CrossCycles.l0 k x1 x4 x14 (IntKind.wrap .i64 (x15 + 1)))) else (some x4)
def impl_CrossCycles.F (k : Nat) (a0 : Library) : Option ((List (List ByteArray)) × Bool) := (impl_IsValidLibrary.F k a0).bind fun r1 => bif (!r1) then (some ([], false)) else ((impl_CrossCycles.l0 k a0 ([] : List (List ByteArray)) (a0.entries.length : Int) 0).bind fun y6 => some (y6, true))
def impl_CrossCycles.C (k : Nat) : Cal → Option CArm := fun c => match c with
  | .f 20 => some (.p [.lib] _ (fun x => impl_IsValidLibrary.F k x.1) (fun r => (.t .bool r)))
  | .f 39 => some (.p [.lib, (.int .i64)] _ (fun x => impl_chainOf.F k x.1 x.2.1) (fun r => (.tup [.fr 3 (.int .i64) r.1, .t .bool r.2])))
  | .f 40 => some (.p [.lib, (.int .i64)] _ (fun x => impl_parentIndex.F k x.1 x.2.1) (fun r => (.t (.int .i64) r)))
  | .f 41 => some (.p [(.sl (.int .i64))] _ (fun x => slices_Min_int.F k x.1) (fun r => (.t (.int .i64) r)))
  | .f 42 => some (.p [.lib, (.sl (.int .i64))] _ (fun x => impl_keysOf.F k x.1 x.2.1) (fun r => (.fr 9 .str r)))
  | _ => none
def impl_CrossCycles.sp0 : List Sp := [.boxT 1 0 .lib, .own 4 3072 39 (.sl .str) false true, .t 14 (.int .i64), .t 15 (.int .i64)]
def impl_CrossCycles.sp0_0 : List Sp := [.own 4 3072 39 (.sl .str) false true]
def impl_CrossCycles.A0 : LArm := .one impl_CrossCycles.sp0 impl_CrossCycles.sp0_0 ((List (List ByteArray))) (fun k x => impl_CrossCycles.l0 k x.1 x.2.1 x.2.2.1 x.2.2.2.1) (.exit 0) (fun y => (y, ())) (fun x => x.1)
def impl_CrossCycles.L : Nat → Option LArm := fun b => match b with
  | 0 => some impl_CrossCycles.A0
  | _ => none
theorem impl_CrossCycles.run (k : Nat) (a0 : Library) : runF envX (tabC (impl_CrossCycles.C k)) (tabL 51 k impl_CrossCycles.L) Tryz.f19 [.t .lib a0] (viewR2 (.fr 39 (.sl .str)) (.t .bool)) = impl_CrossCycles.F k a0 := by kernel_rfl
theorem impl_CrossCycles.step0 (k : Nat) (x1 : Library) (x4 : List (List ByteArray)) (x14 : Int) (x15 : Int) : runC envX (tabC (impl_CrossCycles.C k)) (tabL 51 k impl_CrossCycles.L) 0 (loopAt Tryz.f19 0) (stOf 51 impl_CrossCycles.sp0 (x1, x4, x14, x15, ())) (impl_CrossCycles.A0.cont 51 k) = impl_CrossCycles.l0 (k + 1) x1 x4 x14 x15 := by kernel_rfl
theorem impl_CrossCycles.G (hE : EnvOk Tryz.prog envX) (pv : Nat → Value) (k : Nat) : ∀ cal A, impl_CrossCycles.C k cal = some A → ArmOk Tryz.prog envX pv cal A := by
  intro cal A h
  unfold impl_CrossCycles.C at h
  split at h
  · cases h; exact fun x y hy => impl_IsValidLibrary.good hE pv k x.1 hy
  · cases h; exact fun x y hy => impl_chainOf.good hE pv k x.1 x.2.1 hy
  · cases h; exact fun x y hy => impl_parentIndex.good hE pv k x.1 x.2.1 hy
  · cases h; exact fun x y hy => slices_Min_int.good hE pv k x.1 hy
  · cases h; exact fun x y hy => impl_keysOf.good hE pv k x.1 x.2.1 hy
  · cases h
theorem impl_CrossCycles.good (hE : EnvOk Tryz.prog envX) (pv : Nat → Value) (k : Nat) (a0 : Library) {y : _} (h : impl_CrossCycles.F k a0 = some y) : Meets Tryz.prog envX pv (.f 19) (tvals [.lib] (a0, ())) (.tup [.fr 39 (.sl .str) y.1, .t .bool y.2]) :=
  fun_loops hE (t := impl_CrossCycles.C) k (fun k _ => impl_CrossCycles.G hE pv k) (f := 19) (fn := Tryz.f19) (by kernel_rfl) rfl (by kernel_rfl) (by kernel_rfl) (lt := impl_CrossCycles.L) (by kernel_rfl) (fun b A h => by
    unfold impl_CrossCycles.L at h; split at h
    · cases h; exact ⟨by kernel_rfl, by kernel_rfl, fun _ => rfl, fun _ => rfl⟩
    · cases h) (fun b A h => by
    unfold impl_CrossCycles.L at h; split at h
    · cases h; exact fun k x => impl_CrossCycles.step0 k x.1 x.2.1 x.2.2.1 x.2.2.2.1
    · cases h) ((impl_CrossCycles.run k a0).trans h) fun r hr => wk_view2 hr
/-! ### 3 loop.example/g00896/laws.FnInheritance -/
def laws_FnInheritance.F (k : Nat) (a0 : List Int) : Option (Bool) := (laws_rBig.F a0).bind fun r1 => bif r1 then (some true) else ((spec_DrawResolveEntry.F k a0).bind fun r2 => (impl_ResolveEntry.F k r2.1 r2.2).bind fun r3 => (spec_ResolveEntry.F k r2.1 r2.2).bind fun r4 => bif (!(r3.2 == r4.2)) then (some false) else ((laws_rEntries.F k r3.1 r4.1).bind fun r5 => bif (!r5) then (some false) else (bif r3.2 then ((spec_FindEntry.F k r2.1 r2.2).bind fun r6 => bif decide (0 ≤ r6.1) then (bif decide (r6.1 < (r2.1.entries.length : Int)) then ((impl_FieldConflicts.F k (r2.1.entries.getD (r6.1 : Int).toNat (dflt .entry)) r3.1).bind fun r7 => (impl_InheritedFields.F k r2.1 r2.2).bind fun r8 => (spec_InheritedFields.F k r2.1 r2.2).bind fun r9 => bif (!r6.2) then (some false) else (bif (!r7.2) then (some false) else (bif (!r8.2) then (some false) else (bif ((r7.1.length : Int) != 0) then (some false) else ((laws_rTexts.F k r8.1 r9.1).bind fun r10 => bif (!r10) then (some false) else ((impl_IsValidEntry.F k r3.1).bind fun r11 => bif (!r11) then (some false) else ((spec_DrawResolveLibrary.F k a0).bind fun r12 => (impl_ResolveLibrary.F k r12).bind fun r13 => (spec_ResolveLibrary.F k r12).bind fun r14 => bif (!(r13.2 == r14.2)) then (bif (r13.2 == r14.2) then ((laws_rLibraries.F k r13.1 r14.1).bind fun r15 => some r15) else (some false)) else ((laws_rLibraries.F k r13.1 r14.1).bind fun r16 => bif (!r16) then (bif (r13.2 == r14.2) then ((laws_rLibraries.F k r13.1 r14.1).bind fun r17 => some r17) else (some false)) else (bif (!r13.2) then (bif (r13.2 == r14.2) then ((laws_rLibraries.F k r13.1 r14.1).bind fun r18 => some r18) else (some false)) else ((impl_ResolveLibrary.F k r13.1).bind fun r19 => (impl_CrossCycles.F k r12).bind fun r20 => bif r19.2 then (bif r20.2 then (bif ((r20.1.length : Int) == 0) then ((impl_IsValidLibrary.F k r13.1).bind fun r21 => bif r21 then (some ((r19.1.entries.length : Int) == (r13.1.entries.length : Int))) else (some false)) else (some false)) else (some false)) else (some false))))))))))) else none) else none) else ((spec_DrawResolveLibrary.F k a0).bind fun r22 => (impl_ResolveLibrary.F k r22).bind fun r23 => (spec_ResolveLibrary.F k r22).bind fun r24 => bif (!(r23.2 == r24.2)) then (bif (r23.2 == r24.2) then ((laws_rLibraries.F k r23.1 r24.1).bind fun r25 => some r25) else (some false)) else ((laws_rLibraries.F k r23.1 r24.1).bind fun r26 => bif (!r26) then (bif (r23.2 == r24.2) then ((laws_rLibraries.F k r23.1 r24.1).bind fun r27 => some r27) else (some false)) else (bif (!r23.2) then (bif (r23.2 == r24.2) then ((laws_rLibraries.F k r23.1 r24.1).bind fun r28 => some r28) else (some false)) else ((impl_ResolveLibrary.F k r23.1).bind fun r29 => (impl_CrossCycles.F k r22).bind fun r30 => bif r29.2 then (bif r30.2 then (bif ((r30.1.length : Int) == 0) then ((impl_IsValidLibrary.F k r23.1).bind fun r31 => bif r31 then (some ((r29.1.entries.length : Int) == (r23.1.entries.length : Int))) else (some false)) else (some false)) else (some false)) else (some false))))))))
def laws_FnInheritance.C (k : Nat) : Cal → Option CArm := fun c => match c with
  | .f 4 => some (.p [(.sl (.int .u8))] _ (fun x => laws_rBig.F x.1) (fun r => (.t .bool r)))
  | .f 5 => some (.p [(.sl (.int .u8))] _ (fun x => spec_DrawResolveEntry.F k x.1) (fun r => (.tup [.t .lib r.1, .t .str r.2])))
  | .f 6 => some (.p [.lib, .str] _ (fun x => impl_ResolveEntry.F k x.1 x.2.1) (fun r => (.tup [.t .entry r.1, .t .bool r.2])))
  | .f 7 => some (.p [.lib, .str] _ (fun x => spec_ResolveEntry.F k x.1 x.2.1) (fun r => (.tup [.t .entry r.1, .t .bool r.2])))
  | .f 8 => some (.p [.entry, .entry] _ (fun x => laws_rEntries.F k x.1 x.2.1) (fun r => (.t .bool r)))
  | .f 9 => some (.p [.lib, .str] _ (fun x => spec_FindEntry.F k x.1 x.2.1) (fun r => (.tup [.t (.int .i64) r.1, .t .bool r.2])))
  | .f 10 => some (.p [.entry, .entry] _ (fun x => impl_FieldConflicts.F k x.1 x.2.1) (fun r => (.tup [.fr 9 .str r.1, .t .bool r.2])))
  | .f 11 => some (.p [.lib, .str] _ (fun x => impl_InheritedFields.F k x.1 x.2.1) (fun r => (.tup [.fr 9 .str r.1, .t .bool r.2])))
  | .f 12 => some (.p [.lib, .str] _ (fun x => spec_InheritedFields.F k x.1 x.2.1) (fun r => (.tup [.fr 9 .str r.1, .t .bool r.2])))
  | .f 13 => some (.p [(.sl .str), (.sl .str)] _ (fun x => laws_rTexts.F k x.1 x.2.1) (fun r => (.t .bool r)))
  | .f 14 => some (.p [.entry] _ (fun x => impl_IsValidEntry.F k x.1) (fun r => (.t .bool r)))
  | .f 15 => some (.p [(.sl (.int .u8))] _ (fun x => spec_DrawResolveLibrary.F k x.1) (fun r => (.t .lib r)))
  | .f 16 => some (.p [.lib] _ (fun x => impl_ResolveLibrary.F k x.1) (fun r => (.tup [.t .lib r.1, .t .bool r.2])))
  | .f 17 => some (.p [.lib] _ (fun x => spec_ResolveLibrary.F k x.1) (fun r => (.tup [.t .lib r.1, .t .bool r.2])))
  | .f 18 => some (.p [.lib, .lib] _ (fun x => laws_rLibraries.F k x.1 x.2.1) (fun r => (.t .bool r)))
  | .f 19 => some (.p [.lib] _ (fun x => impl_CrossCycles.F k x.1) (fun r => (.tup [.fr 39 (.sl .str) r.1, .t .bool r.2])))
  | .f 20 => some (.p [.lib] _ (fun x => impl_IsValidLibrary.F k x.1) (fun r => (.t .bool r)))
  | _ => none
theorem laws_FnInheritance.run (k : Nat) (a0 : List Int) : runF envX (tabC (laws_FnInheritance.C k)) (tabL 174 0 (fun _ => none)) Tryz.f3 [.t (.sl (.int .u8)) a0] (viewR1 (.t .bool)) = laws_FnInheritance.F k a0 := by kernel_rfl
theorem laws_FnInheritance.G (hE : EnvOk Tryz.prog envX) (pv : Nat → Value) (k : Nat) : ∀ cal A, laws_FnInheritance.C k cal = some A → ArmOk Tryz.prog envX pv cal A := by
  intro cal A h
  unfold laws_FnInheritance.C at h
  split at h
  · cases h; exact fun x y hy => laws_rBig.good hE pv x.1 hy
  · cases h; exact fun x y hy => spec_DrawResolveEntry.good hE pv k x.1 hy
  · cases h; exact fun x y hy => impl_ResolveEntry.good hE pv k x.1 x.2.1 hy
  · cases h; exact fun x y hy => spec_ResolveEntry.good hE pv k x.1 x.2.1 hy
  · cases h; exact fun x y hy => laws_rEntries.good hE pv k x.1 x.2.1 hy
  · cases h; exact fun x y hy => spec_FindEntry.good hE pv k x.1 x.2.1 hy
  · cases h; exact fun x y hy => impl_FieldConflicts.good hE pv k x.1 x.2.1 hy
  · cases h; exact fun x y hy => impl_InheritedFields.good hE pv k x.1 x.2.1 hy
  · cases h; exact fun x y hy => spec_InheritedFields.good hE pv k x.1 x.2.1 hy
  · cases h; exact fun x y hy => laws_rTexts.good hE pv k x.1 x.2.1 hy
  · cases h; exact fun x y hy => impl_IsValidEntry.good hE pv k x.1 hy
  · cases h; exact fun x y hy => spec_DrawResolveLibrary.good hE pv k x.1 hy
  · cases h; exact fun x y hy => impl_ResolveLibrary.good hE pv k x.1 hy
  · cases h; exact fun x y hy => spec_ResolveLibrary.good hE pv k x.1 hy
  · cases h; exact fun x y hy => laws_rLibraries.good hE pv k x.1 x.2.1 hy
  · cases h; exact fun x y hy => impl_CrossCycles.good hE pv k x.1 hy
  · cases h; exact fun x y hy => impl_IsValidLibrary.good hE pv k x.1 hy
  · cases h
theorem laws_FnInheritance.good (hE : EnvOk Tryz.prog envX) (pv : Nat → Value) (k : Nat) (a0 : List Int) {y : _} (h : laws_FnInheritance.F k a0 = some y) : Meets Tryz.prog envX pv (.f 3) (tvals [(.sl (.int .u8))] (a0, ())) (.t .bool y) :=
  fun_plain hE (laws_FnInheritance.G hE pv k) (f := 3) (fn := Tryz.f3) (by kernel_rfl) rfl (by kernel_rfl) (by kernel_rfl) ((laws_FnInheritance.run k a0).trans h) fun r hr => wk_view1 hr
end Go.Proofs.YtjbjijgncebbbaaGreatDoor
end
section
/- Plain laws: bytes, pieces, edges of a text; no function of the program. -/
namespace Go.Proofs.YtjbjijgncebbbaaGreatDoor
open Go.Gx
set_option linter.unusedVariables false
set_option linter.unusedSimpArgs false

theorem getD_at {α : Type} {xs : List α} {i : Nat} (h : i < xs.length) (d : α) : xs.getD i d = xs[i] := by simp [List.getD, List.getElem?_eq_getElem h]
theorem size_pos {s : ByteArray} : (!beqS s ⟨#[]⟩) = decide (0 < s.size) := by
  rw [beqS_eq]
  have : L ⟨#[]⟩ = [] := rfl
  rw [this, ← L_size]
  cases L s <;> rfl
theorem size_app (s t : ByteArray) : (s ++ t).size = s.size + t.size := by
  rw [← L_size, L_append, List.length_append, L_size, L_size]
theorem bytesL_len (s : ByteArray) : (bytesL s).length = s.size := by
  simp only [bytesL, List.length_map, Array.length_toList]; rfl
theorem bytesL_map (s : ByteArray) : bytesL s = (L s).map fun b => (b.toNat : Int) := rfl
theorem bt_bytes (s : ByteArray) (i : Nat) (h : i < (bytesL s).length) : bt s i = (bytesL s)[i] := by
  rw [L_bt]
  have h' : i < (L s).length := by simpa [bytesL_map] using h
  simp [bytesL_map, List.getD, h']
theorem all_bytes {s : ByteArray} {i : Nat} (h : i < (bytesL s).length) (p : Int → Bool) : ((bytesL s).drop i).all p = (p (bytesL s)[i] && ((bytesL s).drop (i + 1)).all p) := by
  rw [List.drop_eq_getElem_cons h]; rfl
theorem sub_tail (s : ByteArray) (st a : Nat) : (s.extract st s.size).extract a (s.extract st s.size).size = s.extract (st + a) s.size := by
  apply L_inj
  have e : (L s).take s.size = L s := List.take_of_length_le (Nat.le_refl _)
  rw [L_extract, L_extract s (st + a), ← L_size (s.extract st s.size), L_extract, List.take_length, List.drop_drop, e]
theorem sub_head (s : ByteArray) (st i : Nat) (h : st ≤ i) (hi : i ≤ s.size) : (s.extract st s.size).extract 0 (i - st) = s.extract st i := by
  apply L_inj
  rw [L_extract, L_extract, L_extract, List.drop_zero, List.take_of_length_le (show (L s).length ≤ s.size from Nat.le_refl _), List.drop_take]
def sp : ByteArray := ⟨#[32]⟩
theorem ib_hit {l : List UInt8} {c : UInt8} {i : Nat} (h : l[i]? = some c) (hn : ∀ j, j < i → l[j]? ≠ some c) : Lib.indexByte l c = i := by
  have hg := Lib.indexByte_ge l c
  by_cases e : Lib.indexByte l c = -1
  · exact absurd h (Lib.indexByte_none e i)
  · obtain ⟨o, ho⟩ : ∃ o : Nat, Lib.indexByte l c = o := ⟨(Lib.indexByte l c).toNat, by omega⟩
    obtain ⟨h1, h2⟩ := Lib.indexByte_some ho
    rcases Nat.lt_trichotomy o i with h3 | h3 | h3
    · exact absurd h1 (hn o h3)
    · rw [ho, h3]
    · exact absurd h (h2 i h3)
theorem ib_miss {l : List UInt8} {c : UInt8} (hn : ∀ j : Nat, l[j]? ≠ some c) : Lib.indexByte l c = -1 := by
  have hg := Lib.indexByte_ge l c
  by_cases e : Lib.indexByte l c = -1
  · exact e
  · obtain ⟨o, ho⟩ : ∃ o : Nat, Lib.indexByte l c = o := ⟨(Lib.indexByte l c).toNat, by omega⟩
    exact absurd (Lib.indexByte_some ho).1 (hn o)
theorem indexB_sp (s : ByteArray) : Lib.indexB s sp = Lib.indexByte (L s) 32 := Lib.one s sp rfl
theorem sub_at (s : ByteArray) (st j : Nat) : (L (s.extract st s.size))[j]? = (L s)[st + j]? := by
  rw [L_extract, List.take_of_length_le (show (L s).length ≤ s.size from Nat.le_refl _), List.getElem?_drop]
def wordsFrom (s : ByteArray) (st : Nat) : List ByteArray := Lib.splitB sp 0 (Lib.countB (s.extract st s.size) sp) (s.extract st s.size)
theorem words_end (s : ByteArray) (st : Nat) (h : ∀ j, st ≤ j → (L s)[j]? ≠ some 32) : wordsFrom s st = [s.extract st s.size] := by
  unfold wordsFrom
  rw [Lib.countB_miss _ _ ((indexB_sp _).trans (ib_miss fun j => by rw [sub_at]; exact h _ (by omega)))]
  rfl
theorem words_hit (s : ByteArray) (st i : Nat) (h1 : st ≤ i) (hi : i < s.size) (hb : (L s)[i]? = some 32) (h : ∀ j, st ≤ j → j < i → (L s)[j]? ≠ some 32) : wordsFrom s st = s.extract st i :: wordsFrom s (i + 1) := by
  have e : Lib.indexB (s.extract st s.size) sp = ((i - st : Nat) : Int) := (indexB_sp _).trans (ib_hit (by rw [sub_at, show st + (i - st) = i by omega]; exact hb) fun j hj => by rw [sub_at]; exact h _ (by omega) (by omega))
  have e1 : sp.size = 1 := rfl
  unfold wordsFrom
  rw [Lib.countB_hit _ _ _ (by rw [e1]; exact Nat.le_refl _) e, Nat.add_comm 1, Lib.splitB_hit _ _ _ _ _ e, Nat.add_zero, sub_head s st i h1 (by omega), e1, sub_tail, show st + (i - st + 1) = i + 1 by omega]
theorem sub_self (s : ByteArray) : s.extract 0 s.size = s := by
  apply L_inj
  rw [L_extract, List.take_of_length_le (show (L s).length ≤ s.size from Nat.le_refl _), List.drop_zero]
def words (s : ByteArray) : List ByteArray := Lib.splitB sp 0 (Lib.countB s sp) s
theorem words_from (s : ByteArray) : wordsFrom s 0 = words s := by unfold wordsFrom words; rw [sub_self]
theorem words_small : ∀ (k : Nat) (s : ByteArray), ∀ x ∈ Lib.splitB sp 0 k s, x.size ≤ s.size
  | 0, s, x, hx => by
    rw [Lib.splitB_zero] at hx
    simp only [List.mem_singleton] at hx
    rw [hx]; exact Nat.le_refl _
  | k + 1, s, x, hx => by
    unfold Lib.splitB at hx
    split at hx
    · simp only [List.mem_singleton] at hx
      rw [hx]; exact Nat.le_refl _
    · rcases List.mem_cons.1 hx with rfl | hx
      · rw [ByteArray.size_extract]; omega
      · have := words_small k _ x hx
        rw [ByteArray.size_extract] at this
        omega
theorem words_len (s : ByteArray) : 1 ≤ (words s).length ∧ (words s).length ≤ s.size + 1 := by
  unfold words
  have h1 : 1 ≤ sp.size := Nat.le_refl 1
  rw [Lib.splitB_all sp h1 0 _ s rfl]
  have := Lib.countB_le sp h1 s.size s (Nat.le_refl _)
  omega
theorem dropWhile_self {α : Type} (p : α → Bool) : ∀ l : List α, l.dropWhile p = l ↔ (∀ a, l.head? = some a → p a = false)
  | [] => by simp
  | a :: l => by
    have hl : (l.dropWhile p).length ≤ l.length := (List.dropWhile_sublist p).length_le
    cases h : p a with
    | true =>
      rw [List.dropWhile_cons_of_pos h]
      constructor
      · intro e
        have := congrArg List.length e
        simp at this
        omega
      · intro e
        have := e a rfl
        rw [h] at this; cases this
    | false =>
      rw [List.dropWhile_cons_of_neg (by rw [h]; exact Bool.noConfusion)]
      simp [h]
theorem trimB_self (l : List UInt8) (c : UInt8) : Lib.trimB l c = l ↔ l.head? ≠ some c ∧ l.getLast? ≠ some c := by
  unfold Lib.trimB Lib.trimLeftB Lib.trimRightB
  have h1 : ∀ m : List UInt8, m.dropWhile (· == c) = m ↔ m.head? ≠ some c := fun m => by
    rw [dropWhile_self]
    constructor
    · intro h e; have := h c e; simp at this
    · intro h a e
      have : a ≠ c := fun e' => h (e' ▸ e)
      simpa using this
  constructor
  · intro h
    have h2 : ((l.reverse.dropWhile (· == c)).reverse).length ≤ l.length := by
      have := (List.dropWhile_sublist (p := (· == c)) (l := l.reverse)).length_le
      simpa using this
    have h3 := (List.dropWhile_sublist (p := (· == c)) (l := (l.reverse.dropWhile (· == c)).reverse))
    have h4 : (l.reverse.dropWhile (· == c)).reverse = l := by
      have h5 : (l.reverse.dropWhile (· == c)).reverse.length = l.length := by
        have := h3.length_le
        rw [h] at this
        omega
      have h6 : l.reverse.dropWhile (· == c) = l.reverse := (List.dropWhile_sublist (p := (· == c)) (l := l.reverse)).eq_of_length (by simpa using h5)
      rw [h6, List.reverse_reverse]
    rw [h4] at h
    refine ⟨(h1 l).1 h, ?_⟩
    have h6 : l.reverse.dropWhile (· == c) = l.reverse := by rw [← List.reverse_inj, h4, List.reverse_reverse]
    have := (h1 _).1 h6
    simpa using this
  · rintro ⟨ha, hb⟩
    have h6 : l.reverse.dropWhile (· == c) = l.reverse := (h1 _).2 (by simpa using hb)
    rw [h6, List.reverse_reverse]
    exact (h1 l).2 ha
def vis (lo b : Int) : Bool := decide (lo ≤ b) && decide (b ≤ 126)
theorem bt_sp {s : ByteArray} {i : Nat} (hi : i < s.size) : bt s i = 32 ↔ (L s)[i]? = some 32 := by
  have hi' : i < (L s).length := hi
  have hbt : bt s i = ((L s)[i].toNat : Int) := by rw [L_bt, getD_at hi']
  rw [List.getElem?_eq_getElem hi', hbt]
  have : (32 : UInt8).toNat = 32 := rfl
  constructor
  · intro h
    congr 1
    apply UInt8.toNat_inj.1
    omega
  · intro h
    rw [Option.some.inj h]; rfl
def edge (s : ByteArray) : Bool := (decide (s.size = 0)) || (bt s 0 != 32 && bt s (s.size - 1) != 32)
theorem edge_eq (s : ByteArray) : beqS ⟨(Lib.trimB (L s) 32).toArray⟩ s = edge s := by
  rw [Bool.eq_iff_iff, beqS_iff]
  have h1 : (⟨(Lib.trimB (L s) 32).toArray⟩ : ByteArray) = s ↔ Lib.trimB (L s) 32 = L s := by
    constructor
    · intro h
      have := congrArg L h
      rwa [L_mk] at this
    · intro h
      apply L_inj
      rw [L_mk, h]
  rw [h1, trimB_self]
  unfold edge
  by_cases hz : s.size = 0
  · have : L s = [] := List.eq_nil_of_length_eq_zero hz
    rw [this]
    simp [hz]
  · have h2 : (L s).head? = (L s)[0]? := List.head?_eq_getElem?
    have h3 : (L s).getLast? = (L s)[s.size - 1]? := by rw [List.getLast?_eq_getElem?]; rfl
    rw [h2, h3, Bool.or_eq_true, decide_eq_true_eq, Bool.and_eq_true, bne_iff_ne, bne_iff_ne, Ne, Ne, Ne, Ne, bt_sp (by omega), bt_sp (by omega)]
    simp [hz]
def pos (s : ByteArray) : Bool := decide (0 < s.size)
theorem room_s {n : Nat} (h : n ≤ 8192) : room n .str = true := by
  unfold room
  rw [Nat.ble_eq]
  have : nb .str = 16 := rfl
  rw [this]
  omega
theorem tail_cons (x : List UInt8) (r : List (List UInt8)) : Lib.joinTail [32] (x :: r) = 32 :: (x ++ Lib.joinTail [32] r) := by simp [Lib.joinTail]
theorem L32 : L ⟨#[32]⟩ = [32] := rfl
/-! ### A list, changed from its begin -/
def ms {α : Type} (f : α → α) (W : List α) (i : Nat) : List α := (W.take i).map f ++ W.drop i
section
variable {α : Type} (f : α → α) (W : List α)
end
end Go.Proofs.YtjbjijgncebbbaaGreatDoor
end
section
/- Plain laws: texts of an entry. -/
namespace Go.Proofs.YtjbjijgncebbbaaGreatDoor
open Go.Gx
set_option linter.unusedVariables false
set_option linter.unusedSimpArgs false

theorem edge_trim (s : ByteArray) (hs : s.size ≤ 1048576) : strings_Trim.F s ⟨#[32]⟩ = some ⟨(Lib.trimB (L s) 32).toArray⟩ := by
  unfold strings_Trim.F xTrim1
  rw [Nat.ble_eq_true_of_le (by omega)]
  rfl
theorem specText_l0 (s : ByteArray) (hs : s.size ≤ 1048576) : ∀ n i : Nat, i + n = s.size → Ev (fun k => spec_l4Text.l0 k s i) (if ((bytesL s).drop i).all (vis 32) = true then .inr s else .inl false)
  | 0, i, h => by
    refine Ev.step (fun k => by rw [spec_l4Text.l0]) ?_
    simp (disch := omega) only [cneg]
    rw [List.drop_eq_nil_of_le (by rw [bytesL_len]; omega)]
    exact Ev.pure _
  | n + 1, i, h => by
    have hl := bytesL_len s
    have hi : i < (bytesL s).length := by omega
    refine Ev.step (fun k => by rw [spec_l4Text.l0]) ?_
    simp (disch := omega) only [cpos, Int.toNat_natCast, bt_bytes s i hi]
    rw [all_bytes hi]
    unfold vis
    by_cases c1 : (bytesL s)[i] < 32
    · simp (disch := omega) only [cpos, dneg, Bool.false_and]; exact Ev.pure _
    · by_cases c2 : (bytesL s)[i] > 126
      · simp (disch := omega) only [cpos, cneg, dneg, Bool.and_false, Bool.false_and]; exact Ev.pure _
      · simp (disch := omega) only [cpos, cneg, dpos, Bool.and_self, Bool.true_and, wrap_in]
        exact specText_l0 s hs n (i + 1) (by omega)
theorem isPrint_l0 (s : ByteArray) (hs : s.size ≤ 1048576) : ∀ n i : Nat, i + n = s.size → Ev (fun k => impl_isPrintable.l0 k s i) (if ((bytesL s).drop i).all (vis 32) = true then .inr s else .inl false)
  | 0, i, h => by
    refine Ev.step (fun k => by rw [impl_isPrintable.l0]) ?_
    simp (disch := omega) only [cneg]
    rw [List.drop_eq_nil_of_le (by rw [bytesL_len]; omega)]
    exact Ev.pure _
  | n + 1, i, h => by
    have hl := bytesL_len s
    have hi : i < (bytesL s).length := by omega
    refine Ev.step (fun k => by rw [impl_isPrintable.l0]) ?_
    simp (disch := omega) only [cpos, Int.toNat_natCast, bt_bytes s i hi]
    rw [all_bytes hi]
    unfold vis
    by_cases c1 : (bytesL s)[i] < 32
    · simp (disch := omega) only [cpos, dneg, Bool.false_and]; exact Ev.pure _
    · by_cases c2 : (bytesL s)[i] > 126
      · simp (disch := omega) only [cpos, cneg, dneg, Bool.and_false, Bool.false_and]; exact Ev.pure _
      · simp (disch := omega) only [cpos, cneg, dpos, Bool.and_self, Bool.true_and, wrap_in]
        exact isPrint_l0 s hs n (i + 1) (by omega)
def textB (s : ByteArray) : Bool := decide (s.size ≤ 40) && ((bytesL s).all (vis 32) && edge s)
theorem specText_ev (s : ByteArray) : Ev (fun k => spec_l4Text.F k s) (textB s) := by
  unfold spec_l4Text.F textB
  by_cases c : (s.size : Int) > 40
  · simp (disch := omega) only [cpos, dneg, Bool.false_and]
    exact Ev.pure _
  · simp (disch := omega) only [cneg, dpos, Bool.true_and]
    have := specText_l0 s (by omega) s.size 0 (by omega)
    rw [List.drop_zero] at this
    cases h : (bytesL s).all (vis 32) with
    | false => rw [h] at this; exact Ev.bind this (Ev.pure _)
    | true =>
      rw [h] at this
      refine Ev.bind (a := .inr s) this ?_
      dsimp only
      have he : beqS s ⟨#[]⟩ = decide (s.size = 0) := by
        rw [← Bool.not_not (b := beqS s ⟨#[]⟩), size_pos]
        by_cases hz : s.size = 0
        · simp [hz]
        · rw [decide_eq_true (by omega : 0 < s.size), decide_eq_false hz]; rfl
      rw [he]
      unfold edge
      by_cases hz : s.size = 0
      · rw [decide_eq_true hz]; exact Ev.pure _
      · rw [decide_eq_false hz]
        simp (disch := omega) only [cond_false, cond_true, cpos, wrap_in]
        rw [show ((s.size : Int) - 1).toNat = s.size - 1 by omega, show (0 : Int).toNat = 0 from rfl, Bool.false_or, Bool.true_and]
        cases (bt s 0 != 32) with
        | true => exact Ev.pure _
        | false => exact Ev.pure _
theorem isText_ev (s : ByteArray) : Ev (fun k => impl_isText.F k s) (textB s) := by
  unfold impl_isText.F textB
  by_cases c : (s.size : Int) ≤ 40
  · simp (disch := omega) only [cpos, dpos, Bool.true_and]
    refine Ev.bind ?_ (Ev.pure _)
    unfold impl_isPrintable.F
    have := isPrint_l0 s (by omega) s.size 0 (by omega)
    rw [List.drop_zero] at this
    cases h : (bytesL s).all (vis 32) with
    | false => rw [h] at this; exact Ev.bind this (Ev.pure _)
    | true =>
      rw [h] at this
      refine Ev.bind (a := .inr s) this ?_
      dsimp only
      refine Ev.bind0 (edge_trim s (by omega)) ?_
      simp only [edge_eq, Bool.true_and]
      exact Ev.pure _
  · simp (disch := omega) only [cneg, dneg, Bool.false_and]
    exact Ev.pure _
end Go.Proofs.YtjbjijgncebbbaaGreatDoor
end
section
/- Plain laws: a text split at its spaces. -/
namespace Go.Proofs.YtjbjijgncebbbaaGreatDoor
open Go.Gx
set_option linter.unusedVariables false
set_option linter.unusedSimpArgs false

theorem split_ev (s : ByteArray) (hs : s.size ≤ 1048576) : strings_Split.F s ⟨#[32]⟩ = some (words s) := by
  unfold strings_Split.F xSplit
  rw [Nat.ble_eq_true_of_le (by omega)]
  rfl
end Go.Proofs.YtjbjijgncebbbaaGreatDoor
end
section
/- Plain laws: a text split at its spaces, the other way. -/
namespace Go.Proofs.YtjbjijgncebbbaaGreatDoor
open Go.Gx
set_option linter.unusedVariables false
set_option linter.unusedSimpArgs false

theorem split_l0 (s : ByteArray) (hs : s.size ≤ 1048576) : ∀ n i : Nat, i + n = s.size → ∀ st : Nat, st ≤ i → (∀ j, st ≤ j → j < i → (L s)[j]? ≠ some 32) → ∀ acc : List ByteArray, acc.length ≤ i →
    ∃ acc' st', Ev (fun k => spec_l1Split.l0 k s 32 acc st i) (s, acc', ((st' : Nat) : Int)) ∧ st' ≤ s.size ∧ acc'.length ≤ s.size ∧ acc' ++ [s.extract st' s.size] = acc ++ wordsFrom s st
  | 0, i, h, st, h1, hn, acc, ha => by
    refine ⟨acc, st, Ev.step (fun k => by rw [spec_l1Split.l0]) ?_, by omega, by omega, ?_⟩
    · simp (disch := omega) only [cneg]
      exact Ev.pure _
    · rw [words_end s st fun j hj => ?_]
      by_cases hj2 : j < i
      · exact hn j hj hj2
      · rw [List.getElem?_eq_none (by rw [L_size]; omega)]; exact fun h => by cases h
  | n + 1, i, h, st, h1, hn, acc, ha => by
    have hi : i < (L s).length := by rw [L_size]; omega
    have hbt : bt s i = ((L s)[i].toNat : Int) := by rw [L_bt, getD_at hi]
    by_cases c : bt s i = 32
    · have hb : (L s)[i]? = some 32 := by
        rw [List.getElem?_eq_getElem hi]
        congr 1
        apply UInt8.toNat_inj.1
        have : (32 : UInt8).toNat = 32 := rfl
        omega
      obtain ⟨acc', st', r1, r2, r3, r4⟩ := split_l0 s hs n (i + 1) (by omega) (i + 1) (Nat.le_refl _) (fun j h1 h2 => by omega) (acc ++ [s.extract st i]) (by simp; omega)
      refine ⟨acc', st', Ev.step (fun k => by rw [spec_l1Split.l0]) ?_, r2, r3, ?_⟩
      · have hr : room (acc.length + ([s.extract st i] : List ByteArray).length) .str = true := by
          unfold room
          rw [Nat.ble_eq]
          have : nb .str = 16 := rfl
          rw [this]
          simp; omega
        simp (disch := omega) only [cpos, Int.toNat_natCast, ceq, hr, cond_true, wrap_in]
        exact r1
      · rw [r4, words_hit s st i h1 (by omega) hb hn]; simp
    · obtain ⟨acc', st', r1, r2, r3, r4⟩ := split_l0 s hs n (i + 1) (by omega) st (by omega) (fun j h1 h2 => by
        rcases Nat.lt_or_ge j i with h3 | h3
        · exact hn j h1 h3
        · obtain rfl : j = i := by omega
          rw [List.getElem?_eq_getElem hi]
          intro e
          apply c
          rw [hbt, Option.some.inj e]; rfl) acc (by omega)
      refine ⟨acc', st', Ev.step (fun k => by rw [spec_l1Split.l0]) ?_, r2, r3, r4⟩
      simp (disch := omega) only [cpos, Int.toNat_natCast, cne, wrap_in]
      exact r1
theorem specSplit_ev (s : ByteArray) (hs : s.size ≤ 1048576) : Ev (fun k => spec_l1Split.F k s 32) (words s) := by
  unfold spec_l1Split.F
  obtain ⟨acc', st', r1, r2, r3, r4⟩ := split_l0 s hs s.size 0 (by omega) 0 (Nat.le_refl _) (fun j h1 h2 => by omega) [] (Nat.le_refl _)
  refine Ev.bind r1 ?_
  have hr : room (acc'.length + ([s.extract st' s.size] : List ByteArray).length) .str = true := by
    unfold room
    rw [Nat.ble_eq]
    have : nb .str = 16 := rfl
    rw [this]
    simp; omega
  simp (disch := omega) only [cpos, Int.toNat_natCast, hr, cond_true, r4, words_from, List.nil_append]
  exact Ev.pure _
end Go.Proofs.YtjbjijgncebbbaaGreatDoor
end
section
/- Plain laws: lists of texts: size, copy, equality. -/
namespace Go.Proofs.YtjbjijgncebbbaaGreatDoor
open Go.Gx
set_option linter.unusedVariables false
set_option linter.unusedSimpArgs false

def totS (xs : List ByteArray) : Nat := (xs.map ByteArray.size).sum
end Go.Proofs.YtjbjijgncebbbaaGreatDoor
end
section
/- Plain laws: names, entries, libraries: size, copy, equality. -/
namespace Go.Proofs.YtjbjijgncebbbaaGreatDoor
open Go.Gx
set_option linter.unusedVariables false
set_option linter.unusedSimpArgs false

def totN (n : Name) : Nat := n.given.length + totS n.given + n.particle.size + n.family.size + n.suffix.size
def totNs (xs : List Name) : Nat := xs.length + (xs.map totN).sum
def totE (e : Entry) : Nat := e.key.size + totNs e.authors + totNs e.editors + e.title.size + e.container.size + e.publisher.size + e.pages.size + e.cross.size
def totEs (xs : List Entry) : Nat := xs.length + (xs.map totE).sum
theorem sum_mem {α : Type} (f : α → Nat) {xs : List α} {x : α} (h : x ∈ xs) : f x ≤ (xs.map f).sum := by
  induction xs with
  | nil => cases h
  | cons b l ih =>
    simp only [List.map_cons, List.sum_cons]
    rcases List.mem_cons.1 h with rfl | h
    · omega
    · have := ih h; omega
def smallN (n : Name) : Prop := totN n ≤ 1048576
def smallE (e : Entry) : Prop := totE e ≤ 1048576
def smallL (l : Library) : Prop := totEs l.entries ≤ 1048576
theorem smallL_at {l : Library} (h : smallL l) {e : Entry} (he : e ∈ l.entries) : smallE e := by
  have := sum_mem totE he
  unfold smallL totEs at h
  unfold smallE
  omega
theorem smallNs_at {xs : List Name} (h : totNs xs ≤ 1048576) {n : Name} (hn : n ∈ xs) : smallN n := by
  have := sum_mem totN hn
  unfold totNs at h
  unfold smallN
  omega
theorem smallE_a {e : Entry} (h : smallE e) : totNs e.authors ≤ 1048576 := by unfold smallE totE at h; omega
theorem smallE_e {e : Entry} (h : smallE e) : totNs e.editors ≤ 1048576 := by unfold smallE totE at h; omega
theorem smallNs_len {xs : List Name} (h : totNs xs ≤ 1048576) : xs.length ≤ 1048576 := by unfold totNs at h; omega
theorem smallL_len {l : Library} (h : smallL l) : l.entries.length ≤ 1048576 := by unfold smallL totEs at h; omega
/-! ### Copies -/
/-! ### Equality -/
end Go.Proofs.YtjbjijgncebbbaaGreatDoor
end
section
/- Plain laws: slices.IndexFunc, slices.DeleteFunc, as they are printed for a function value. -/
namespace Go.Gx
set_option linter.unusedVariables false
set_option linter.unusedSimpArgs false

section
variable {α : Type} {d : α} {p : α → Bool} {q : Nat → α → Option Bool} {xs : List α}
theorem getDat {α : Type} {xs : List α} {i : Nat} (h : i < xs.length) (d : α) : xs.getD i d = xs[i] := by simp [List.getD, List.getElem?_eq_getElem h]
theorem idx_l0 {l0 : Nat → List α → Int → Int → Option (Sum Int Unit)} (H : ∀ k x0 x7 x8, l0 (k + 1) x0 x7 x8 = bif (decide (x8 < x7)) then (bif decide (0 ≤ x8) then (bif decide (x8 < (x0.length : Int)) then ((q k (x0.getD (x8 : Int).toNat d)).bind fun r1 => bif r1 then (some (.inl x8)) else (l0 k x0 x7 (IntKind.wrap .i64 (x8 + 1)))) else none) else none) else (some (.inr ())))
    (hq : ∀ x, x ∈ xs → Ev (fun k => q k x) (p x)) (hl : xs.length ≤ 4611686018427387904) : ∀ n i : Nat, i + n = xs.length → (∀ x ∈ xs.take i, p x = false) →
    ∃ r, Ev (fun k => l0 k xs xs.length i) r ∧ ((r = .inr () ∧ ∀ x ∈ xs, p x = false) ∨ ∃ j : Nat, r = .inl j ∧ j < xs.length ∧ p (xs.getD j d) = true ∧ ∀ x ∈ xs.take j, p x = false)
  | 0, i, h, ht => by
    refine ⟨.inr (), Ev.step (fun k => by rw [H]) ?_, .inl ⟨rfl, by rw [List.take_of_length_le (by omega)] at ht; exact ht⟩⟩
    simp (disch := omega) only [cneg]
    exact Ev.pure _
  | n + 1, i, h, ht => by
    have hi : i < xs.length := by omega
    cases hp : p xs[i] with
    | true =>
      refine ⟨.inl i, Ev.step (fun k => by rw [H]) ?_, .inr ⟨i, rfl, hi, by rw [getDat hi, hp], ht⟩⟩
      simp (disch := omega) only [cpos, Int.toNat_natCast, getDat hi]
      refine Ev.bind (hq _ (List.getElem_mem hi)) ?_
      rw [hp]
      exact Ev.pure _
    | false =>
      obtain ⟨r, h1, h2⟩ := idx_l0 H hq hl n (i + 1) (by omega) (by
        intro x hx
        rw [List.take_add_one, List.getElem?_eq_getElem hi] at hx
        rcases List.mem_append.1 hx with hx | hx
        · exact ht x hx
        · simp only [Option.toList_some, List.mem_singleton] at hx
          rw [hx, hp])
      refine ⟨r, Ev.step (fun k => by rw [H]) ?_, h2⟩
      simp (disch := omega) only [cpos, Int.toNat_natCast, getDat hi]
      refine Ev.bind (hq _ (List.getElem_mem hi)) ?_
      rw [hp]
      simp (disch := omega) only [cond_false, wrap_in]
      exact h1
theorem idx_ev {l0 : Nat → List α → Int → Int → Option (Sum Int Unit)} (H : ∀ k x0 x7 x8, l0 (k + 1) x0 x7 x8 = bif (decide (x8 < x7)) then (bif decide (0 ≤ x8) then (bif decide (x8 < (x0.length : Int)) then ((q k (x0.getD (x8 : Int).toNat d)).bind fun r1 => bif r1 then (some (.inl x8)) else (l0 k x0 x7 (IntKind.wrap .i64 (x8 + 1)))) else none) else none) else (some (.inr ())))
    (hq : ∀ x, x ∈ xs → Ev (fun k => q k x) (p x)) (hl : xs.length ≤ 4611686018427387904) {F : Nat → List α → Option Int} (HF : ∀ k a0, F k a0 = (l0 k a0 (a0.length : Int) 0).bind fun y2 => match y2 with | .inl z3 => some z3 | .inr z3 => some (-1)) :
    ∃ r, Ev (fun k => F k xs) r ∧ ((r = -1 ∧ ∀ x ∈ xs, p x = false) ∨ ∃ j : Nat, r = j ∧ j < xs.length ∧ p (xs.getD j d) = true ∧ ∀ x ∈ xs.take j, p x = false) := by
  obtain ⟨r, h1, h2⟩ := idx_l0 H hq hl xs.length 0 (by omega) (fun x hx => by simp at hx)
  rcases h2 with ⟨rfl, h2⟩ | ⟨j, rfl, h2⟩
  · exact ⟨-1, Ev.congr (Ev.bind h1 (Ev.pure _)) (fun k => HF k xs), .inl ⟨rfl, h2⟩⟩
  · exact ⟨j, Ev.congr (Ev.bind h1 (Ev.pure _)) (fun k => HF k xs), .inr ⟨j, rfl, h2⟩⟩
theorem del_l0 {l0 : Nat → List α → Int → Int → Option (List α × Int)} (H : ∀ k x0 x5 x6, l0 (k + 1) x0 x5 x6 = bif (decide (x6 < (x0.length : Int))) then (bif decide (0 ≤ x6) then (bif decide (x6 < (x0.length : Int)) then ((q k (x0.getD ((x6 : Int).toNat) d)).bind fun r2 => bif (!r2) then (bif decide (0 ≤ x5) then (bif decide (x5 < (x0.length : Int)) then (l0 k (x0.set ((x5 : Int).toNat) (x0.getD ((x6 : Int).toNat) d)) (IntKind.wrap .i64 (x5 + 1)) (IntKind.wrap .i64 (x6 + 1))) else none) else none) else (l0 k x0 x5 (IntKind.wrap .i64 (x6 + 1)))) else none) else none) else (some (x0, x5)))
    (hq : ∀ x, x ∈ xs → Ev (fun k => q k x) (p x)) (hl : xs.length ≤ 4611686018427387904) : ∀ n j : Nat, j + n = xs.length → ∀ (ys : List α) (i : Nat), ys.length = xs.length → i ≤ j → ys.drop j = xs.drop j →
    ∃ zs, ∃ i' : Nat, Ev (fun k => l0 k ys i j) (zs, (i' : Int)) ∧ i' ≤ xs.length ∧ zs.length = xs.length ∧ zs.take i' = ys.take i ++ (xs.drop j).filter fun x => !p x
  | 0, j, h, ys, i, hy, hij, hd => by
    refine ⟨ys, i, Ev.step (fun k => by rw [H]) ?_, by omega, hy, ?_⟩
    · simp (disch := omega) only [cneg]
      exact Ev.pure _
    · rw [List.drop_eq_nil_of_le (by omega), List.filter_nil, List.append_nil]
  | n + 1, j, h, ys, i, hy, hij, hd => by
    have hj : j < xs.length := by omega
    have hj' : j < ys.length := by omega
    have hx : ys[j] = xs[j] := by
      have h0 := congrArg (·[0]?) hd
      simpa [hj, hj'] using h0
    have hd1 : ys.drop (j + 1) = xs.drop (j + 1) := by
      have := congrArg (List.drop 1) hd
      simpa [List.drop_drop] using this
    cases hp : p xs[j] with
    | true =>
      obtain ⟨zs, i', h1, h2, h3, h4⟩ := del_l0 H hq hl n (j + 1) (by omega) ys i hy (by omega) hd1
      refine ⟨zs, i', Ev.step (fun k => by rw [H]) ?_, h2, h3, ?_⟩
      · simp (disch := omega) only [cpos, Int.toNat_natCast, getDat hj', hx]
        refine Ev.bind (hq _ (List.getElem_mem hj)) ?_
        rw [hp]
        simp (disch := omega) only [Bool.not_true, cond_false, wrap_in]
        exact h1
      · rw [h4, List.drop_eq_getElem_cons hj, List.filter_cons_of_neg (by rw [hp]; decide)]
    | false =>
      obtain ⟨zs, i', h1, h2, h3, h4⟩ := del_l0 H hq hl n (j + 1) (by omega) (ys.set i xs[j]) (i + 1) (by simpa using hy) (by omega) (by rw [List.drop_set_of_lt (by omega)]; exact hd1)
      refine ⟨zs, i', Ev.step (fun k => by rw [H]) ?_, h2, h3, ?_⟩
      · simp (disch := omega) only [cpos, Int.toNat_natCast, getDat hj', hx]
        refine Ev.bind (hq _ (List.getElem_mem hj)) ?_
        rw [hp]
        simp (disch := omega) only [Bool.not_false, cond_true, cpos, Int.toNat_natCast, wrap_in]
        exact h1
      · rw [h4, List.drop_eq_getElem_cons hj, List.filter_cons_of_pos (by rw [hp]; decide), List.take_add_one, List.take_set_of_le (Nat.le_refl i)]
        have : (ys.set i xs[j])[i]? = some xs[j] := by rw [List.getElem?_set_self (by omega)]
        rw [this]
        simp
theorem delete_ev {l0 : Nat → List α → Int → Int → Option (List α × Int)} (H : ∀ k x0 x5 x6, l0 (k + 1) x0 x5 x6 = bif (decide (x6 < (x0.length : Int))) then (bif decide (0 ≤ x6) then (bif decide (x6 < (x0.length : Int)) then ((q k (x0.getD ((x6 : Int).toNat) d)).bind fun r2 => bif (!r2) then (bif decide (0 ≤ x5) then (bif decide (x5 < (x0.length : Int)) then (l0 k (x0.set ((x5 : Int).toNat) (x0.getD ((x6 : Int).toNat) d)) (IntKind.wrap .i64 (x5 + 1)) (IntKind.wrap .i64 (x6 + 1))) else none) else none) else (l0 k x0 x5 (IntKind.wrap .i64 (x6 + 1)))) else none) else none) else (some (x0, x5)))
    (hq : ∀ x, x ∈ xs → Ev (fun k => q k x) (p x)) (hl : xs.length ≤ 4611686018427387904) {I F : Nat → List α → Option _} {e : α}
    (hI : ∃ r : Int, Ev (fun k => I k xs) r ∧ ((r = -1 ∧ ∀ x ∈ xs, p x = false) ∨ ∃ j : Nat, r = j ∧ j < xs.length ∧ p (xs.getD j d) = true ∧ ∀ x ∈ xs.take j, p x = false))
    (HF : ∀ k a0, F k a0 = (I k a0).bind fun r1 => bif (r1 == (-1)) then (some a0) else ((l0 k a0 r1 (IntKind.wrap .i64 (r1 + 1))).bind fun y3 => bif decide (0 ≤ y3.2) then (bif decide (y3.2 ≤ (y3.1.length : Int)) then (bif decide (0 ≤ y3.2) then (bif decide (y3.2 ≤ ((y3.1.take ((y3.2 : Int).toNat) ++ List.replicate (y3.1.length - ((y3.2 : Int).toNat)) e).length : Int)) then (some ((y3.1.take ((y3.2 : Int).toNat) ++ List.replicate (y3.1.length - ((y3.2 : Int).toNat)) e).take (y3.2 : Int).toNat)) else none) else none) else none) else none)) :
    Ev (fun k => F k xs) (xs.filter fun x => !p x) := by
  obtain ⟨r, h1, h2⟩ := hI
  refine Ev.congr (?_ : Ev _ _) (fun k => HF k xs)
  refine Ev.bind h1 ?_
  rcases h2 with ⟨rfl, h2⟩ | ⟨j, rfl, hj, hp, h2⟩
  · have : (xs.filter fun x => !p x) = xs := List.filter_eq_self.2 fun x hx => by rw [h2 x hx]; rfl
    rw [this]
    exact Ev.pure _
  · obtain ⟨zs, i', h3, h4, h5, h6⟩ := del_l0 H hq hl (xs.length - (j + 1)) (j + 1) (by omega) xs j rfl (by omega) rfl
    rw [getDat hj] at hp
    have hz : zs.take i' = xs.filter fun x => !p x := by
      rw [h6]
      conv => rhs; rw [← List.take_append_drop j xs, List.filter_append, List.drop_eq_getElem_cons hj, List.filter_cons_of_neg (by rw [hp]; decide)]
      congr 1
      exact (List.filter_eq_self.2 fun x hx => by rw [h2 x hx]; rfl).symm
    simp (disch := omega) only [cne, wrap_in]
    refine Ev.bind h3 ?_
    have e1 : ((zs.take i' ++ List.replicate (zs.length - i') e)).length = zs.length := by simp; omega
    simp (disch := (try simp only [Int.toNat_natCast, e1]); omega) only [cpos, Int.toNat_natCast, e1]
    rw [List.take_append_of_le_length (by simp; omega), List.take_take, Nat.min_self, hz]
    exact Ev.pure _
end
end Go.Gx
end
section
/- Plain laws: keys, names, dates, entries, libraries: are they valid? -/
namespace Go.Proofs.YtjbjijgncebbbaaGreatDoor
open Go.Gx
set_option linter.unusedVariables false
set_option linter.unusedSimpArgs false

theorem in_ev (a b c : Int) : spec_l1In.F a b c = some (decide (a ≥ b) && decide (a ≤ c)) := by
  unfold spec_l1In.F
  cases decide (a ≥ b) <;> rfl
theorem inside_ev (a b c : Int) : impl_inside.F a b c = some (decide (a ≥ b) && decide (a ≤ c)) := by
  unfold impl_inside.F
  cases decide (a ≥ b) <;> rfl
theorem and_step {f : Nat → Option Bool} {b c : Bool} (h : b = true → Ev f c) : Ev (fun k => bif (!b) then some false else f k) (b && c) := by
  cases b with
  | false => exact Ev.pure _
  | true => exact h rfl
theorem and_step' {f : Nat → Option Bool} {b c : Bool} (h : b = true → Ev f c) : Ev (fun k => bif b then f k else some false) (b && c) := by
  cases b with
  | false => exact Ev.pure _
  | true => exact h rfl
/-! ### Bytes -/
def lowc (b : Int) : Bool := decide (97 ≤ b) && decide (b ≤ 122)
def upc (b : Int) : Bool := decide (65 ≤ b) && decide (b ≤ 90)
def ltr (b : Int) : Bool := upc b || lowc b
def dig (b : Int) : Bool := decide (48 ≤ b) && decide (b ≤ 57)
theorem sLower (b : Int) : spec_l2Lower.F b = some (lowc b) := by
  unfold spec_l2Lower.F lowc
  simp only [ge_iff_le]
  cases decide (97 ≤ b) <;> rfl
theorem sUpper (b : Int) : spec_l2Upper.F b = some (upc b) := by
  unfold spec_l2Upper.F upc
  simp only [ge_iff_le]
  cases decide (65 ≤ b) <;> rfl
theorem sLetter (b : Int) : spec_l2Letter.F b = some (ltr b) := by
  unfold spec_l2Letter.F ltr
  rw [sUpper, sLower]
  cases upc b <;> rfl
theorem iLower (b : Int) : impl_isLower.F b = some (lowc b) := by
  unfold impl_isLower.F lowc
  simp only [ge_iff_le]
  cases decide (97 ≤ b) <;> rfl
theorem iUpper (b : Int) : impl_isUpper.F b = some (upc b) := by
  unfold impl_isUpper.F upc
  simp only [ge_iff_le]
  cases decide (65 ≤ b) <;> rfl
theorem iLetter (b : Int) : impl_isLetter.F b = some (ltr b) := by
  unfold impl_isLetter.F ltr
  rw [iUpper, iLower]
  cases upc b <;> rfl
theorem iDigit (b : Int) : impl_isDigit.F b = some (dig b) := by
  unfold impl_isDigit.F dig
  simp only [ge_iff_le]
  cases decide (48 ≤ b) <;> rfl
def ins (n : Nat) (lo hi : Int) : Bool := decide ((n : Int) ≥ lo) && decide ((n : Int) ≤ hi)
theorem ins_le {n : Nat} {lo hi : Int} (h : ins n lo hi = true) : lo ≤ n ∧ (n : Int) ≤ hi := by
  unfold ins at h
  simp only [Bool.and_eq_true, decide_eq_true_eq] at h
  exact h

/-! ### Keys -/
def kb (s : ByteArray) (i : Nat) : Bool := lowc (bt s i) || dig (bt s i)
def keyB (s : ByteArray) : Bool := ins s.size 1 10 && (lowc (bt s 0) && (List.range' 0 s.size).all (kb s))
theorem specKey_l0 (s : ByteArray) (hs : s.size ≤ 10) : Ev (fun k => spec_l4Key.l0 k s ((0 : Nat) : Int)) (if (List.range' 0 s.size).all (kb s) = true then .inr () else .inl false) := by
  refine loop_all (f := fun k i => spec_l4Key.l0 k s i) (n := s.size) (fun i hi hp => ?_) (fun i r hi hp ih => ?_) ?_ s.size 0 (by omega)
  · refine Ev.step (fun k => by rw [spec_l4Key.l0]) ?_
    unfold kb at hp
    rw [Bool.or_eq_false_iff] at hp
    simp (disch := omega) only [cpos, Int.toNat_natCast]
    refine Ev.bind0 (sLower _) ?_
    rw [hp.1]
    have h2 := hp.2
    unfold dig at h2
    by_cases c : bt s i < 48
    · simp (disch := omega) only [cpos, Bool.not_false, cond_true]
      exact Ev.pure _
    · have c2 : bt s i > 57 := by
        rw [decide_eq_true (show 48 ≤ bt s i by omega), Bool.true_and, decide_eq_false_iff_not] at h2
        omega
      simp (disch := omega) only [cpos, cneg, Bool.not_false, cond_true]
      exact Ev.pure _
  · refine Ev.step (fun k => by rw [spec_l4Key.l0]) ?_
    simp (disch := omega) only [cpos, Int.toNat_natCast]
    refine Ev.bind0 (sLower _) ?_
    cases hl : lowc (bt s i) with
    | true =>
      simp (disch := omega) only [Bool.not_true, cond_false, wrap_in]
      exact ih
    | false =>
      unfold kb at hp
      rw [hl, Bool.false_or] at hp
      unfold dig at hp
      simp only [Bool.and_eq_true, decide_eq_true_eq] at hp
      simp (disch := omega) only [Bool.not_false, cond_true, cpos, cneg, wrap_in]
      exact ih
  · refine Ev.step (fun k => by rw [spec_l4Key.l0]) ?_
    simp (disch := omega) only [cneg]
    exact Ev.pure _
theorem isKey_l0 (s : ByteArray) (hs : s.size ≤ 10) : Ev (fun k => impl_isKey.l0 k s ((0 : Nat) : Int)) (if (List.range' 0 s.size).all (kb s) = true then .inr () else .inl false) := by
  refine loop_all (f := fun k i => impl_isKey.l0 k s i) (n := s.size) (fun i hi hp => ?_) (fun i r hi hp ih => ?_) ?_ s.size 0 (by omega)
  · refine Ev.step (fun k => by rw [impl_isKey.l0]) ?_
    unfold kb at hp
    rw [Bool.or_eq_false_iff] at hp
    simp (disch := omega) only [cpos, Int.toNat_natCast]
    refine Ev.bind0 (iLower _) ?_
    rw [hp.1]
    simp (disch := omega) only [Bool.not_false, cond_true, cpos]
    refine Ev.bind0 (iDigit _) ?_
    rw [hp.2]
    exact Ev.pure _
  · refine Ev.step (fun k => by rw [impl_isKey.l0]) ?_
    simp (disch := omega) only [cpos, Int.toNat_natCast]
    refine Ev.bind0 (iLower _) ?_
    cases hl : lowc (bt s i) with
    | true =>
      simp (disch := omega) only [Bool.not_true, cond_false, wrap_in]
      exact ih
    | false =>
      unfold kb at hp
      rw [hl, Bool.false_or] at hp
      simp (disch := omega) only [Bool.not_false, cond_true, cpos]
      refine Ev.bind0 (iDigit _) ?_
      rw [hp]
      simp (disch := omega) only [Bool.not_true, cond_false, wrap_in]
      exact ih
  · refine Ev.step (fun k => by rw [impl_isKey.l0]) ?_
    simp (disch := omega) only [cneg]
    exact Ev.pure _
theorem specKey_ev (s : ByteArray) : Ev (fun k => spec_l4Key.F k s) (keyB s) := by
  unfold spec_l4Key.F keyB
  refine Ev.bind0 (in_ev _ _ _) (and_step fun h => ?_)
  obtain ⟨h1, h2⟩ := ins_le h
  simp (disch := omega) only [cpos, show (0 : Int).toNat = 0 from rfl]
  refine Ev.bind0 (sLower _) (and_step fun _ => ?_)
  have := specKey_l0 s (by omega)
  cases ha : (List.range' 0 s.size).all (kb s) with
  | true => rw [ha] at this; exact Ev.bind this (Ev.pure _)
  | false => rw [ha] at this; exact Ev.bind this (Ev.pure _)
theorem isKey_ev (s : ByteArray) : Ev (fun k => impl_isKey.F k s) (keyB s) := by
  unfold impl_isKey.F keyB
  refine Ev.bind0 (inside_ev _ _ _) (and_step fun h => ?_)
  obtain ⟨h1, h2⟩ := ins_le h
  simp (disch := omega) only [cpos, show (0 : Int).toNat = 0 from rfl]
  refine Ev.bind0 (iLower _) (and_step fun _ => ?_)
  have := isKey_l0 s (by omega)
  cases ha : (List.range' 0 s.size).all (kb s) with
  | true => rw [ha] at this; exact Ev.bind this (Ev.pure _)
  | false => rw [ha] at this; exact Ev.bind this (Ev.pure _)

/-! ### Words of names -/
def wp (s : ByteArray) (i : Nat) : Bool := ltr (bt s i) || ((bt s i == 45 || bt s i == 39) && ltr (bt s (i - 1)))
def wordB (s : ByteArray) : Bool := ins s.size 1 12 && (ltr (bt s 0) && (ltr (bt s (s.size - 1)) && (List.range' 1 (s.size - 1)).all (wp s)))
theorem wcase {s : ByteArray} {i : Nat} (h : ltr (bt s i) = false) (h1 : bt s i ≠ 45) (h2 : bt s i ≠ 39) : wp s i = false := by
  unfold wp
  rw [h, show (bt s i == 45) = false by simpa using h1, show (bt s i == 39) = false by simpa using h2]; rfl
theorem wcase' {s : ByteArray} {i : Nat} (h : ltr (bt s i) = false) (h1 : bt s i = 45 ∨ bt s i = 39) : wp s i = ltr (bt s (i - 1)) := by
  unfold wp
  rw [h]
  rcases h1 with h1 | h1 <;> rw [h1] <;> simp
theorem specWord_l0 (s : ByteArray) (hs : s.size ≤ 12) : ∀ m i : Nat, i + m = s.size → 1 ≤ i → Ev (fun k => spec_l2Word.l0 k s i) (if (List.range' i m).all (wp s) = true then .inr () else .inl false)
  | 0, i, h, h1 => by
    refine Ev.step (fun k => by rw [spec_l2Word.l0]) ?_
    simp (disch := omega) only [cneg]
    exact Ev.pure _
  | m + 1, i, h, h1 => by
    have ih := specWord_l0 s hs m (i + 1) (by omega) (by omega)
    have et : ((i : Int) - 1).toNat = i - 1 := by omega
    refine Ev.step (fun k => by rw [spec_l2Word.l0]) ?_
    rw [List.range'_succ, List.all_cons]
    simp (disch := omega) only [cpos, Int.toNat_natCast]
    refine Ev.bind0 (sLetter _) ?_
    cases hl : ltr (bt s i) with
    | true =>
      have : wp s i = true := by unfold wp; rw [hl]; rfl
      rw [this]
      simp (disch := omega) only [Bool.not_true, cond_false, Bool.true_and, wrap_in]
      exact ih
    | false =>
      have fin : (bt s i = 45 ∨ bt s i = 39) → Ev (fun k => (spec_l2Letter.F (bt s (i - 1))).bind fun r5 => bif (!r5) then (some (.inl false)) else (spec_l2Word.l0 k s ((i : Int) + 1))) (if (wp s i && (List.range' (i + 1) m).all (wp s)) = true then .inr () else .inl false) := fun hh => by
        refine Ev.bind0 (sLetter _) ?_
        rw [wcase' hl hh]
        cases ltr (bt s (i - 1)) with
        | true => exact ih
        | false => exact Ev.pure _
      by_cases c1 : bt s i = 45
      · simp (disch := first | exact c1 | omega) only [Bool.not_false, cond_true, cpos, cbeq, wrap_in, et]
        exact fin (.inl c1)
      · by_cases c2 : bt s i = 39
        · simp (disch := first | exact c1 | exact c2 | omega) only [Bool.not_false, cond_true, cpos, cbne, cbeq, wrap_in, et]
          exact fin (.inr c2)
        · rw [wcase hl c1 c2]
          simp (disch := first | exact c1 | exact c2 | omega) only [Bool.not_false, cond_true, cpos, cbne]
          exact Ev.pure _
theorem isWord_l0 (s : ByteArray) (hs : s.size ≤ 12) : ∀ m i : Nat, i + m = s.size → 1 ≤ i → Ev (fun k => impl_isNameWord.l0 k s i) (if (List.range' i m).all (wp s) = true then .inr () else .inl false)
  | 0, i, h, h1 => by
    refine Ev.step (fun k => by rw [impl_isNameWord.l0]) ?_
    simp (disch := omega) only [cneg]
    exact Ev.pure _
  | m + 1, i, h, h1 => by
    have ih := isWord_l0 s hs m (i + 1) (by omega) (by omega)
    have et : ((i : Int) - 1).toNat = i - 1 := by omega
    refine Ev.step (fun k => by rw [impl_isNameWord.l0]) ?_
    rw [List.range'_succ, List.all_cons]
    simp (disch := omega) only [cpos, Int.toNat_natCast]
    refine Ev.bind0 (iLetter _) ?_
    cases hl : ltr (bt s i) with
    | true =>
      have : wp s i = true := by unfold wp; rw [hl]; rfl
      rw [this]
      simp (disch := omega) only [Bool.not_true, cond_false, Bool.true_and, wrap_in]
      exact ih
    | false =>
      have fin : (bt s i = 45 ∨ bt s i = 39) → Ev (fun k => (impl_isLetter.F (bt s (i - 1))).bind fun r5 => bif (!r5) then (some (.inl false)) else (impl_isNameWord.l0 k s ((i : Int) + 1))) (if (wp s i && (List.range' (i + 1) m).all (wp s)) = true then .inr () else .inl false) := fun hh => by
        refine Ev.bind0 (iLetter _) ?_
        rw [wcase' hl hh]
        cases ltr (bt s (i - 1)) with
        | true => exact ih
        | false => exact Ev.pure _
      by_cases c1 : bt s i = 45
      · simp (disch := first | exact c1 | omega) only [Bool.not_false, cond_true, cpos, cbeq, wrap_in, et]
        exact fin (.inl c1)
      · by_cases c2 : bt s i = 39
        · simp (disch := first | exact c1 | exact c2 | omega) only [Bool.not_false, cond_true, cpos, cbne, cbeq, wrap_in, et]
          exact fin (.inr c2)
        · rw [wcase hl c1 c2]
          simp (disch := first | exact c1 | exact c2 | omega) only [Bool.not_false, cond_true, cpos, cbne]
          exact Ev.pure _
theorem specWord_ev (s : ByteArray) : Ev (fun k => spec_l2Word.F k s) (wordB s) := by
  unfold spec_l2Word.F wordB
  refine Ev.bind0 (in_ev _ _ _) (and_step fun h => ?_)
  obtain ⟨h1, h2⟩ := ins_le h
  have et : ((s.size : Int) - 1).toNat = s.size - 1 := by omega
  simp (disch := omega) only [cpos, show (0 : Int).toNat = 0 from rfl, wrap_in, et]
  refine Ev.bind0 (sLetter _) (and_step fun _ => ?_)
  refine Ev.bind0 (sLetter _) (and_step fun _ => ?_)
  have := specWord_l0 s (by omega) (s.size - 1) 1 (by omega) (Nat.le_refl _)
  cases ha : (List.range' 1 (s.size - 1)).all (wp s) with
  | true => rw [ha] at this; exact Ev.bind this (Ev.pure _)
  | false => rw [ha] at this; exact Ev.bind this (Ev.pure _)
theorem isWord_ev (s : ByteArray) : Ev (fun k => impl_isNameWord.F k s) (wordB s) := by
  unfold impl_isNameWord.F wordB
  refine Ev.bind0 (inside_ev _ _ _) (and_step fun h => ?_)
  obtain ⟨h1, h2⟩ := ins_le h
  have et : ((s.size : Int) - 1).toNat = s.size - 1 := by omega
  simp (disch := omega) only [cpos, show (0 : Int).toNat = 0 from rfl, wrap_in, et]
  refine (Ev.bind0 (iLetter _) (and_step (c := ltr (bt s 0) && (List.range' 1 (s.size - 1)).all (wp s)) fun _ => ?_)).eq (Bool.and_left_comm _ _ _)
  refine Ev.bind0 (iLetter _) (and_step fun h0 => ?_)
  have := isWord_l0 s (by omega) (s.size - 1) 1 (by omega) (Nat.le_refl _)
  refine Ev.bind (a := if (List.range' 1 (s.size - 1)).all (wp s) = true then .inr () else .inl false) ?_ ?_
  · refine Ev.step (fun k => by rw [impl_isNameWord.l0]) ?_
    simp (disch := omega) only [cpos, show (0 : Int).toNat = 0 from rfl]
    refine Ev.bind0 (iLetter _) ?_
    rw [h0]
    simp (disch := omega) only [Bool.not_true, cond_false, wrap_in]
    exact this
  · cases (List.range' 1 (s.size - 1)).all (wp s) <;> exact Ev.pure _

/-! ### Particles -/
def lowA (s : ByteArray) : Bool := (List.range' 0 s.size).all fun i => lowc (bt s i)
theorem lowA_word {s : ByteArray} (h : lowA s = true) : wordB s = ins s.size 1 12 := by
  unfold lowA at h
  rw [List.all_eq_true] at h
  have hl : ∀ i, i < s.size → ltr (bt s i) = true := fun i hi => by
    unfold ltr
    rw [h i (by rw [List.mem_range'_1]; omega), Bool.or_true]
  unfold wordB
  cases hi : ins s.size 1 12 with
  | false => rfl
  | true =>
    obtain ⟨h1, h2⟩ := ins_le hi
    rw [hl 0 (by omega), hl (s.size - 1) (by omega)]
    have : (List.range' 1 (s.size - 1)).all (wp s) = true := by
      rw [List.all_eq_true]
      intro i hi
      rw [List.mem_range'_1] at hi
      unfold wp
      rw [hl i (by omega)]; rfl
    rw [this]; rfl
def pw (s : ByteArray) : Bool := ins s.size 1 12 && lowA s
theorem pw_eq (s : ByteArray) : (wordB s && lowA s) = pw s := by
  unfold pw
  cases h : lowA s with
  | false => rw [Bool.and_false, Bool.and_false]
  | true => rw [lowA_word h]
def particleB (s : ByteArray) : Bool := decide (s.size = 0) || ((words s).all pw && decide ((words s).length ≤ 2))
theorem empty_eq (s : ByteArray) : beqS s ⟨#[]⟩ = decide (s.size = 0) := by
  rw [← Bool.not_not (b := beqS s ⟨#[]⟩), size_pos]
  by_cases hz : s.size = 0
  · simp [hz]
  · rw [decide_eq_true (by omega : 0 < s.size), decide_eq_false hz]; rfl
theorem specPart_l2 (W : List ByteArray) (i : Nat) (hi : i < W.length) (hs : W[i].size ≤ 1048576) : Ev (fun k => spec_l2Particle.l2 k W i ((0 : Nat) : Int)) (if lowA W[i] = true then .inr (W, (i : Int)) else .inl false) := by
  refine loop_all (f := fun k j => spec_l2Particle.l2 k W i j) (n := W[i].size) (p := fun j => lowc (bt W[i] j)) (fun j hj hp => ?_) (fun j r hj hp ih => ?_) ?_ W[i].size 0 (by omega)
  · refine Ev.step (fun k => by rw [spec_l2Particle.l2]) ?_
    simp (disch := omega) only [cpos, Int.toNat_natCast, getD_at hi]
    refine Ev.bind0 (sLower _) ?_
    rw [hp]
    exact Ev.pure _
  · refine Ev.step (fun k => by rw [spec_l2Particle.l2]) ?_
    simp (disch := omega) only [cpos, Int.toNat_natCast, getD_at hi]
    refine Ev.bind0 (sLower _) ?_
    rw [hp]
    simp (disch := omega) only [Bool.not_true, cond_false, wrap_in]
    exact ih
  · refine Ev.step (fun k => by rw [spec_l2Particle.l2]) ?_
    simp (disch := omega) only [cpos, cneg, Int.toNat_natCast, getD_at hi]
    exact Ev.pure _
theorem isPart_l2 (W : List ByteArray) (w : ByteArray) (n i : Int) (hs : w.size ≤ 1048576) : Ev (fun k => impl_isParticle.l2 k W w ((0 : Nat) : Int) n i) (if lowA w = true then .inr (W, n, i) else .inl false) := by
  refine loop_all (f := fun k j => impl_isParticle.l2 k W w j n i) (n := w.size) (p := fun j => lowc (bt w j)) (fun j hj hp => ?_) (fun j r hj hp ih => ?_) ?_ w.size 0 (by omega)
  · refine Ev.step (fun k => by rw [impl_isParticle.l2]) ?_
    simp (disch := omega) only [cpos, Int.toNat_natCast]
    refine Ev.bind0 (iLower _) ?_
    rw [hp]
    exact Ev.pure _
  · refine Ev.step (fun k => by rw [impl_isParticle.l2]) ?_
    simp (disch := omega) only [cpos, Int.toNat_natCast]
    refine Ev.bind0 (iLower _) ?_
    rw [hp]
    simp (disch := omega) only [Bool.not_true, cond_false, wrap_in]
    exact ih
  · refine Ev.step (fun k => by rw [impl_isParticle.l2]) ?_
    simp (disch := omega) only [cneg]
    exact Ev.pure _
theorem specPart_l0 (W : List ByteArray) (hl : W.length ≤ 1048577) (hW : ∀ x ∈ W, x.size ≤ 1048576) : Ev (fun k => spec_l2Particle.l0 k W ((0 : Nat) : Int)) (if (List.range' 0 W.length).all (fun i => pw (W.getD i ⟨#[]⟩)) = true then .inr W else .inl false) := by
  refine loop_all (f := fun k j => spec_l2Particle.l0 k W j) (n := W.length) (p := fun i => pw (W.getD i ⟨#[]⟩)) (fun j hj hp => ?_) (fun j r hj hp ih => ?_) ?_ W.length 0 (by omega)
  · rw [getD_at hj, ← pw_eq] at hp
    refine Ev.step (fun k => by rw [spec_l2Particle.l0]) ?_
    simp (disch := omega) only [cpos, Int.toNat_natCast, getD_at hj]
    refine Ev.bind (specWord_ev _) ?_
    cases hw : wordB W[j] with
    | false => exact Ev.pure _
    | true =>
      rw [hw, Bool.true_and] at hp
      have := specPart_l2 W j hj (hW _ (List.getElem_mem hj))
      rw [hp] at this
      exact Ev.bind this (Ev.pure _)
  · rw [getD_at hj, ← pw_eq, Bool.and_eq_true] at hp
    refine Ev.step (fun k => by rw [spec_l2Particle.l0]) ?_
    simp (disch := omega) only [cpos, Int.toNat_natCast, getD_at hj]
    refine Ev.bind (specWord_ev _) ?_
    rw [hp.1]
    have := specPart_l2 W j hj (hW _ (List.getElem_mem hj))
    rw [hp.2] at this
    refine Ev.bind (a := .inr (W, (j : Int))) this ?_
    simp (disch := omega) only [wrap_in]
    exact ih
  · refine Ev.step (fun k => by rw [spec_l2Particle.l0]) ?_
    simp (disch := omega) only [cneg]
    exact Ev.pure _
theorem isPart_l0 (W : List ByteArray) (hl : W.length ≤ 1048577) (hW : ∀ x ∈ W, x.size ≤ 1048576) : Ev (fun k => impl_isParticle.l0 k W W.length ((0 : Nat) : Int)) (if (List.range' 0 W.length).all (fun i => pw (W.getD i ⟨#[]⟩)) = true then .inr W else .inl false) := by
  refine loop_all (f := fun k j => impl_isParticle.l0 k W W.length j) (n := W.length) (p := fun i => pw (W.getD i ⟨#[]⟩)) (fun j hj hp => ?_) (fun j r hj hp ih => ?_) ?_ W.length 0 (by omega)
  · rw [getD_at hj] at hp
    unfold pw at hp
    refine Ev.step (fun k => by rw [impl_isParticle.l0]) ?_
    simp (disch := omega) only [cpos, Int.toNat_natCast, getD_at hj]
    refine Ev.bind0 (inside_ev _ _ _) ?_
    cases hw : ins W[j].size 1 12 with
    | false =>
      unfold ins at hw
      rw [hw]
      exact Ev.pure _
    | true =>
      rw [hw, Bool.true_and] at hp
      unfold ins at hw
      rw [hw]
      have := isPart_l2 W W[j] W.length j (hW _ (List.getElem_mem hj))
      rw [hp] at this
      exact Ev.bind this (Ev.pure _)
  · rw [getD_at hj] at hp
    unfold pw at hp
    rw [Bool.and_eq_true] at hp
    obtain ⟨hp1, hp2⟩ := hp
    unfold ins at hp1
    refine Ev.step (fun k => by rw [impl_isParticle.l0]) ?_
    simp (disch := omega) only [cpos, Int.toNat_natCast, getD_at hj]
    refine Ev.bind0 (inside_ev _ _ _) ?_
    rw [hp1]
    have := isPart_l2 W W[j] W.length j (hW _ (List.getElem_mem hj))
    rw [hp2] at this
    refine Ev.bind (a := .inr (W, (W.length : Int), (j : Int))) this ?_
    simp (disch := omega) only [wrap_in]
    exact ih
  · refine Ev.step (fun k => by rw [impl_isParticle.l0]) ?_
    simp (disch := omega) only [cneg]
    exact Ev.pure _
theorem specPart_ev (s : ByteArray) (hs : s.size ≤ 1048576) : Ev (fun k => spec_l2Particle.F k s) (particleB s) := by
  unfold spec_l2Particle.F particleB
  rw [empty_eq]
  cases decide (s.size = 0) with
  | true => exact Ev.pure _
  | false =>
    refine Ev.bind (specSplit_ev s hs) ?_
    have := specPart_l0 (words s) (by have := (words_len s).2; omega) (fun x hx => by have := words_small _ _ x hx; omega)
    rw [range_all (words s) ⟨#[]⟩ pw] at this
    rw [Bool.false_or]
    cases ha : (words s).all pw with
    | true =>
      rw [ha] at this
      refine Ev.bind this ((Ev.pure _).eq ?_)
      rw [Bool.true_and]; exact decide_eq_decide.2 (by omega)
    | false => rw [ha] at this; exact Ev.bind this (Ev.pure _)
theorem isPart_ev (s : ByteArray) (hs : s.size ≤ 1048576) : Ev (fun k => impl_isParticle.F k s) (particleB s) := by
  unfold impl_isParticle.F particleB
  rw [empty_eq]
  cases decide (s.size = 0) with
  | true => exact Ev.pure _
  | false =>
    refine Ev.bind0 (split_ev s hs) ?_
    have := isPart_l0 (words s) (by have := (words_len s).2; omega) (fun x hx => by have := words_small _ _ x hx; omega)
    rw [range_all (words s) ⟨#[]⟩ pw] at this
    rw [Bool.false_or]
    cases ha : (words s).all pw with
    | true =>
      rw [ha] at this
      refine Ev.bind this ((Ev.pure _).eq ?_)
      rw [Bool.true_and]; exact decide_eq_decide.2 (by omega)
    | false => rw [ha] at this; exact Ev.bind this (Ev.pure _)

/-! ### Names -/
def gw (s : ByteArray) : Bool := wordB s && upc (bt s 0)
theorem word_size {s : ByteArray} (h : wordB s = true) : 1 ≤ s.size := by
  unfold wordB at h
  rw [Bool.and_eq_true] at h
  have := (ins_le h.1).1
  omega
theorem isGreat_ev (s : ByteArray) : Ev (fun k => impl_isGreatWord.F k s) (gw s) := by
  unfold impl_isGreatWord.F gw
  refine Ev.bind (isWord_ev s) (and_step' fun h => ?_)
  have := word_size h
  simp (disch := omega) only [cpos, show (0 : Int).toNat = 0 from rfl]
  exact Ev.bind0 (iUpper _) (Ev.pure _)
def suffB (s : ByteArray) : Bool := decide (s.size = 0) || wordB s
def nameB (n : Name) : Bool := n.given.all gw && (decide (n.given.length ≤ 3) && (particleB n.particle && (gw n.family && suffB n.suffix)))
theorem specGood_l0 (n : Name) (hn : n.given.length ≤ 1048576) : Ev (fun k => spec_l2Good.l0 k n ((0 : Nat) : Int)) (if (List.range' 0 n.given.length).all (fun i => gw (n.given.getD i ⟨#[]⟩)) = true then .inr n else .inl false) := by
  refine loop_all (f := fun k j => spec_l2Good.l0 k n j) (n := n.given.length) (p := fun i => gw (n.given.getD i ⟨#[]⟩)) (fun j hj hp => ?_) (fun j r hj hp ih => ?_) ?_ n.given.length 0 (by omega)
  · rw [getD_at hj] at hp
    unfold gw at hp
    refine Ev.step (fun k => by rw [spec_l2Good.l0]) ?_
    simp (disch := omega) only [cpos, Int.toNat_natCast, getD_at hj]
    refine Ev.bind (specWord_ev _) ?_
    cases hw : wordB n.given[j] with
    | false => exact Ev.pure _
    | true =>
      rw [hw, Bool.true_and] at hp
      have := word_size hw
      simp (disch := omega) only [cpos, show (0 : Int).toNat = 0 from rfl, Bool.not_true, cond_false]
      refine Ev.bind0 (sUpper _) ?_
      rw [hp]
      exact Ev.pure _
  · rw [getD_at hj] at hp
    unfold gw at hp
    rw [Bool.and_eq_true] at hp
    have := word_size hp.1
    refine Ev.step (fun k => by rw [spec_l2Good.l0]) ?_
    simp (disch := omega) only [cpos, Int.toNat_natCast, getD_at hj]
    refine Ev.bind (specWord_ev _) ?_
    rw [hp.1]
    simp (disch := omega) only [cpos, show (0 : Int).toNat = 0 from rfl, Bool.not_true, cond_false]
    refine Ev.bind0 (sUpper _) ?_
    rw [hp.2]
    simp (disch := omega) only [Bool.not_true, cond_false, wrap_in]
    exact ih
  · refine Ev.step (fun k => by rw [spec_l2Good.l0]) ?_
    simp (disch := omega) only [cneg]
    exact Ev.pure _
theorem specName_ev (n : Name) (hs : smallN n) : Ev (fun k => spec_l2Good.F k n) (nameB n) := by
  have hg : n.given.length ≤ 1048576 := by unfold smallN totN at hs; omega
  have hp : n.particle.size ≤ 1048576 := by unfold smallN totN at hs; omega
  unfold spec_l2Good.F nameB
  have := specGood_l0 n hg
  rw [range_all n.given ⟨#[]⟩ gw] at this
  cases ha : n.given.all gw with
  | false => rw [ha] at this; exact Ev.bind this (Ev.pure _)
  | true =>
    rw [ha] at this
    refine Ev.bind (a := .inr n) this ?_
    dsimp only
    rw [Bool.true_and, show decide (n.given.length ≤ 3) = decide ((n.given.length : Int) ≤ 3) from decide_eq_decide.2 (by omega)]
    refine and_step' fun _ => ?_
    refine Ev.bind (specPart_ev _ hp) (and_step' fun _ => ?_)
    unfold gw
    rw [Bool.and_assoc]
    refine Ev.bind (specWord_ev _) (and_step' fun h => ?_)
    have := word_size h
    simp (disch := omega) only [cpos, show (0 : Int).toNat = 0 from rfl]
    refine Ev.bind0 (sUpper _) (and_step' fun _ => ?_)
    unfold suffB
    rw [empty_eq]
    cases decide (n.suffix.size = 0) with
    | true => exact Ev.pure _
    | false => exact Ev.bind (specWord_ev _) (Ev.pure _)
theorem isName_ev (n : Name) (hs : smallN n) : Ev (fun k => impl_IsValidName.F k n) (nameB n) := by
  have hg : n.given.length ≤ 1048576 := by unfold smallN totN at hs; omega
  have hp : n.particle.size ≤ 1048576 := by unfold smallN totN at hs; omega
  unfold impl_IsValidName.F nameB
  by_cases c : n.given.length ≤ 3
  · simp (disch := omega) only [cneg, dpos, Bool.true_and]
    have hq : ∀ x, x ∈ n.given → Ev (fun k => impl_IsValidName_1.F k x) (!gw x) := fun x _ => by
      unfold impl_IsValidName_1.F
      exact Ev.bind (isGreat_ev x) (Ev.pure _)
    obtain ⟨r, h1, h2⟩ := idx_ev (d := (⟨#[]⟩ : ByteArray)) (p := fun x => !gw x) (q := impl_IsValidName_1.F) (xs := n.given) (l0 := slices_IndexFunc_string_f92.l0) (fun k x0 x7 x8 => by rw [slices_IndexFunc_string_f92.l0]) hq (by omega) (F := slices_IndexFunc_string_f92.F) (fun k a0 => rfl)
    refine Ev.bind (a := !n.given.all gw) ?_ ?_
    · unfold slices_ContainsFunc_string_f92.F
      refine Ev.bind h1 ((Ev.pure _).eq ?_)
      rcases h2 with ⟨rfl, h2⟩ | ⟨j, rfl, hj, hp, _⟩
      · have : n.given.all gw = true := List.all_eq_true.2 fun x hx => by have := h2 x hx; simpa using this
        rw [this]; rfl
      · have : n.given.all gw = false := by
          rw [List.all_eq_false]
          refine ⟨n.given[j], List.getElem_mem hj, ?_⟩
          rw [getD_at hj] at hp
          simpa using hp
        rw [this, decide_eq_true (by omega)]; rfl
    · cases n.given.all gw with
      | false => exact Ev.pure _
      | true =>
        rw [Bool.true_and]
        refine Ev.bind (isPart_ev _ hp) (and_step' fun _ => ?_)
        refine Ev.bind (isGreat_ev _) (and_step' fun _ => ?_)
        unfold suffB
        rw [empty_eq]
        cases decide (n.suffix.size = 0) with
        | true => exact Ev.pure _
        | false => exact Ev.bind (isWord_ev _) (Ev.pure _)
  · simp (disch := omega) only [cpos, dneg, Bool.false_and, Bool.and_false]
    exact Ev.pure _
def namesB (l : List Name) : Bool := l.all nameB && decide (l.length ≤ 4)
theorem specList_l0 (l : List Name) (hl : l.length ≤ 1048576) (hs : ∀ n ∈ l, smallN n) : ∀ m i : Nat, i + m = l.length → ∃ r, Ev (fun k => spec_l2List.l0 k l i) r ∧ (r = .inl false ∨ r = .inr l) ∧ (l.length ≤ 4 → r = if (l.drop i).all nameB = true then .inr l else .inl false)
  | 0, i, h => by
    refine ⟨.inr l, Ev.step (fun k => by rw [spec_l2List.l0]) ?_, .inr rfl, fun _ => by rw [List.drop_eq_nil_of_le (by omega)]; rfl⟩
    simp (disch := omega) only [cneg]
    exact Ev.pure _
  | m + 1, i, h => by
    have hi : i < l.length := by omega
    by_cases c4 : (i : Int) ≤ 4
    · cases hn : nameB l[i] with
      | false =>
        refine ⟨.inl false, Ev.step (fun k => by rw [spec_l2List.l0]) ?_, .inl rfl, fun _ => by rw [List.drop_eq_getElem_cons hi, List.all_cons, hn]; rfl⟩
        simp (disch := omega) only [cpos, Int.toNat_natCast, getD_at hi]
        refine Ev.bind (specName_ev _ (hs _ (List.getElem_mem hi))) ?_
        rw [hn]
        exact Ev.pure _
      | true =>
        obtain ⟨r, h1, h2, h3⟩ := specList_l0 l hl hs m (i + 1) (by omega)
        refine ⟨r, Ev.step (fun k => by rw [spec_l2List.l0]) ?_, h2, fun h4 => by rw [h3 h4, List.drop_eq_getElem_cons hi, List.all_cons, hn, Bool.true_and]⟩
        simp (disch := omega) only [cpos, Int.toNat_natCast, getD_at hi]
        refine Ev.bind (specName_ev _ (hs _ (List.getElem_mem hi))) ?_
        rw [hn]
        simp (disch := omega) only [Bool.not_true, cond_false, wrap_in]
        exact h1
    · refine ⟨.inr l, Ev.step (fun k => by rw [spec_l2List.l0]) ?_, .inr rfl, fun h4 => by omega⟩
      simp (disch := omega) only [cpos, cneg]
      exact Ev.pure _
theorem specNames_ev (l : List Name) (hl : totNs l ≤ 1048576) : Ev (fun k => spec_l2List.F k l) (namesB l) := by
  unfold spec_l2List.F namesB
  obtain ⟨r, h1, h2, h3⟩ := specList_l0 l (smallNs_len hl) (fun n hn => smallNs_at hl hn) l.length 0 (by omega)
  rw [List.drop_zero] at h3
  have e : decide (l.length ≤ 4) = decide ((l.length : Int) ≤ 4) := decide_eq_decide.2 (by omega)
  rw [e]
  by_cases c : l.length ≤ 4
  · rw [h3 c] at h1
    cases ha : l.all nameB with
    | true => rw [ha] at h1; exact Ev.bind h1 (Ev.pure _)
    | false => rw [ha] at h1; exact Ev.bind h1 (Ev.pure _)
  · rw [decide_eq_false (show ¬ (l.length : Int) ≤ 4 by omega), Bool.and_false]
    rcases h2 with rfl | rfl
    · exact Ev.bind h1 (Ev.pure _)
    · exact Ev.bind h1 ((Ev.pure _).eq (decide_eq_false (by omega)))
theorem areNames_ev (l : List Name) (hl : totNs l ≤ 1048576) : Ev (fun k => impl_areNames.F k l) (namesB l) := by
  have hlen := smallNs_len hl
  unfold impl_areNames.F namesB
  by_cases c : l.length ≤ 4
  · simp (disch := omega) only [cpos, dpos, Bool.and_true]
    have hq : ∀ x, x ∈ l → Ev (fun k => impl_areNames_1.F k x) (!nameB x) := fun x hx => by
      unfold impl_areNames_1.F
      exact Ev.bind (isName_ev x (smallNs_at hl hx)) (Ev.pure _)
    obtain ⟨r, h1, h2⟩ := idx_ev (d := (dflt .name : Name)) (p := fun x => !nameB x) (q := impl_areNames_1.F) (xs := l) (l0 := slices_IndexFunc_Name_f61.l0) (fun k x0 x7 x8 => by rw [slices_IndexFunc_Name_f61.l0]) hq (by omega) (F := slices_IndexFunc_Name_f61.F) (fun k a0 => rfl)
    refine Ev.bind (a := !l.all nameB) ?_ ?_
    · unfold slices_ContainsFunc_Name_f61.F
      refine Ev.bind h1 ((Ev.pure _).eq ?_)
      rcases h2 with ⟨rfl, h2⟩ | ⟨j, rfl, hj, hp, _⟩
      · have : l.all nameB = true := List.all_eq_true.2 fun x hx => by have := h2 x hx; simpa using this
        rw [this]; rfl
      · have : l.all nameB = false := by
          rw [List.all_eq_false]
          refine ⟨l[j], List.getElem_mem hj, ?_⟩
          rw [getD_at hj] at hp
          simpa using hp
        rw [this, decide_eq_true (by omega)]; rfl
    · rw [Bool.not_not]; exact Ev.pure _
  · simp (disch := omega) only [cneg, dneg, Bool.and_false]
    exact Ev.pure _

/-! ### Dates -/
theorem days_eq (y m : Int) (hy : 0 ≤ y) : ∃ r, spec_l3Days.F y m = some r ∧ impl_daysInMonth.F y m = some r := by
  have e1 : Int.tmod y 4 = y % 4 := Int.tmod_eq_emod_of_nonneg hy
  have e2 : Int.tmod y 100 = y % 100 := Int.tmod_eq_emod_of_nonneg hy
  have e3 : Int.tmod y 400 = y % 400 := Int.tmod_eq_emod_of_nonneg hy
  have z1 : ((4 : Nat) == 0) = false := rfl
  have z2 : ((100 : Nat) == 0) = false := rfl
  have z3 : ((400 : Nat) == 0) = false := rfl
  unfold spec_l3Days.F impl_daysInMonth.F
  rw [e1, e2, e3]
  by_cases c2 : m = 2
  · by_cases d1 : y % 4 = 0
    · by_cases d2 : y % 100 = 0
      · by_cases d3 : y % 400 = 0
        · exact ⟨29, by simp (disch := first | assumption | omega) only [ceq, cbeq, z1, z2, z3, cond_false], by simp (disch := first | assumption | omega) only [ceq, cbeq, z1, z2, z3, cond_false]⟩
        · exact ⟨28, by simp (disch := first | assumption | omega) only [ceq, cne, cbeq, z1, z2, z3, cond_false], by simp (disch := first | assumption | omega) only [ceq, cne, cbeq, z1, z2, z3, cond_false]⟩
      · exact ⟨29, by simp (disch := first | assumption | omega) only [ceq, cbne, z1, z2, z3, cond_false], by simp (disch := first | assumption | omega) only [ceq, cbne, z1, z2, z3, cond_false]⟩
    · have d3 : y % 400 ≠ 0 := by omega
      exact ⟨28, by simp (disch := first | assumption | omega) only [ceq, cne, z1, z2, z3, cond_false], by simp (disch := first | assumption | omega) only [ceq, cne, z1, z2, z3, cond_false]⟩
  · by_cases a : m = 4
    · exact ⟨30, by simp (disch := first | assumption | omega) only [ceq, cne], by simp (disch := first | assumption | omega) only [ceq, cne]⟩
    · by_cases b : m = 6
      · exact ⟨30, by simp (disch := first | assumption | omega) only [ceq, cne], by simp (disch := first | assumption | omega) only [ceq, cne]⟩
      · by_cases c : m = 9
        · exact ⟨30, by simp (disch := first | assumption | omega) only [ceq, cne], by simp (disch := first | assumption | omega) only [ceq, cne]⟩
        · by_cases d : m = 11
          · exact ⟨30, by simp (disch := first | assumption | omega) only [ceq, cne], by simp (disch := first | assumption | omega) only [ceq, cne]⟩
          · exact ⟨31, by simp (disch := first | assumption | omega) only [cne], by simp (disch := first | assumption | omega) only [cne]⟩
theorem date_eq2 (d : Date) : ∃ b, spec_l3Good.F d = some b ∧ impl_IsValidDate.F d = some b := by
  unfold spec_l3Good.F impl_IsValidDate.F
  cases (d.y == 0 && (d.m == 0 && (d.d == 0 && d.c == false))) with
  | true => exact ⟨true, rfl, rfl⟩
  | false =>
    rw [in_ev, inside_ev]
    simp only [Option.bind_some, cond_false]
    cases h1 : (decide (d.y ≥ 1) && decide (d.y ≤ 2999)) with
    | false => exact ⟨false, rfl, rfl⟩
    | true =>
      have hy : 0 ≤ d.y := by
        simp only [Bool.and_eq_true, decide_eq_true_eq] at h1; omega
      rw [in_ev, inside_ev]
      simp only [Option.bind_some, Bool.not_true, cond_false]
      cases h2 : (decide (d.m ≥ 0) && decide (d.m ≤ 12)) with
      | false => exact ⟨false, rfl, rfl⟩
      | true =>
        obtain ⟨r, r1, r2⟩ := days_eq d.y d.m hy
        rw [r1, r2]
        simp only [Option.bind_some, Bool.not_true, cond_false, in_ev, inside_ev]
        cases d.c with
        | true =>
          by_cases c : d.m = 0
          · exact ⟨d.d == 0, by simp (disch := first | assumption | omega) only [cond_true, ceq], by simp (disch := first | assumption | omega) only [cond_true, ceq, cbeq]⟩
          · exact ⟨false, by simp (disch := first | assumption | omega) only [cond_true, cne], by simp (disch := first | assumption | omega) only [cond_true, cbne]⟩
        | false => exact ⟨bif d.m == 0 then (d.d == 0) else (decide (d.d ≥ 0) && decide (d.d ≤ r)), by cases (d.m == 0) <;> rfl, by cases (d.m == 0) <;> rfl⟩
open Classical in
noncomputable def dateB (d : Date) : Bool := (date_eq2 d).choose
theorem specDate_ev (d : Date) : spec_l3Good.F d = some (dateB d) := (date_eq2 d).choose_spec.1
theorem isDate_ev (d : Date) : impl_IsValidDate.F d = some (dateB d) := (date_eq2 d).choose_spec.2

/-! ### Entries -/
def insI (n lo hi : Int) : Bool := decide (n ≥ lo) && decide (n ≤ hi)
def crossB (e : Entry) : Bool := decide (e.cross.size = 0) || (keyB e.cross && !beqS e.cross e.key)
noncomputable def entryB (e : Entry) : Bool := keyB e.key && (insI e.kind 1 4 && (namesB e.authors && (namesB e.editors && (textB e.title && (textB e.container && (textB e.publisher && (textB e.pages && (dateB e.date && (insI e.volume 0 9999 && crossB e)))))))))
theorem specEntry_ev (e : Entry) (hs : smallE e) : Ev (fun k => spec_l4Entry.F k e) (entryB e) := by
  unfold spec_l4Entry.F entryB
  refine Ev.bind (specKey_ev _) (and_step fun _ => ?_)
  refine Ev.bind0 (in_ev _ _ _) (and_step fun _ => ?_)
  refine Ev.bind (specNames_ev _ (smallE_a hs)) (and_step fun _ => ?_)
  refine Ev.bind (specNames_ev _ (smallE_e hs)) (and_step fun _ => ?_)
  refine Ev.bind (specText_ev _) (and_step fun _ => ?_)
  refine Ev.bind (specText_ev _) (and_step fun _ => ?_)
  refine Ev.bind (specText_ev _) (and_step fun _ => ?_)
  refine Ev.bind (specText_ev _) (and_step fun _ => ?_)
  refine Ev.bind0 (specDate_ev _) (and_step' fun _ => ?_)
  refine Ev.bind0 (in_ev _ _ _) (and_step' fun _ => ?_)
  unfold crossB
  rw [empty_eq]
  cases decide (e.cross.size = 0) with
  | true => exact Ev.pure _
  | false =>
    refine (Ev.bind (specKey_ev _) (and_step' fun _ => ?_)).eq (Bool.false_or _).symm
    exact Ev.pure _
theorem isEntry_ev (e : Entry) (hs : smallE e) : Ev (fun k => impl_IsValidEntry.F k e) (entryB e) := by
  have key : Ev (fun k => impl_IsValidEntry.F k e) (keyB e.key && (insI e.kind 1 4 && (namesB e.authors && (namesB e.editors && (dateB e.date && (insI e.volume 0 9999 && (textB e.title && (textB e.container && (textB e.publisher && (textB e.pages && crossB e)))))))))) := by
    unfold impl_IsValidEntry.F
    refine Ev.bind (isKey_ev _) (and_step fun _ => ?_)
    refine Ev.bind0 (a := insI e.kind 1 4) ?_ (and_step fun _ => ?_)
    · unfold impl_isKind.F; rw [inside_ev]; rfl
    refine Ev.bind (areNames_ev _ (smallE_a hs)) (and_step fun _ => ?_)
    refine Ev.bind (areNames_ev _ (smallE_e hs)) (and_step fun _ => ?_)
    refine Ev.bind0 (isDate_ev _) (and_step fun _ => ?_)
    refine Ev.bind0 (inside_ev _ _ _) (and_step fun _ => ?_)
    refine Ev.bind (isText_ev _) (and_step' fun _ => ?_)
    refine Ev.bind (isText_ev _) (and_step' fun _ => ?_)
    refine Ev.bind (isText_ev _) (and_step' fun _ => ?_)
    refine Ev.bind (isText_ev _) (and_step' fun _ => ?_)
    unfold crossB
    rw [empty_eq]
    cases decide (e.cross.size = 0) with
    | true => exact Ev.pure _
    | false =>
      refine (Ev.bind (isKey_ev _) (and_step' fun _ => ?_)).eq (Bool.false_or _).symm
      exact Ev.pure _
  refine key.eq ?_
  unfold entryB
  ac_rfl

/-! ### Libraries -/
noncomputable def okL (l : Library) (i : Nat) : Bool := entryB (l.entries.getD i (dflt .entry)) && (decide (i = 0) || ltS (l.entries.getD (i - 1) (dflt .entry)).key (l.entries.getD i (dflt .entry)).key)
noncomputable def libB (l : Library) : Bool := (List.range' 0 l.entries.length).all (okL l) && decide (l.entries.length ≤ 8)
theorem specGoodL_l0 (l : Library) (hs : smallL l) : Ev (fun k => spec_l4Good.l0 k l ((0 : Nat) : Int)) (if (List.range' 0 l.entries.length).all (okL l) = true then .inr () else .inl false) := by
  have hlen := smallL_len hs
  refine loop_all (f := fun k i => spec_l4Good.l0 k l i) (n := l.entries.length) (fun i hi hp => ?_) (fun i r hi hp ih => ?_) ?_ l.entries.length 0 (by omega)
  · unfold okL at hp
    refine Ev.step (fun k => by rw [spec_l4Good.l0]) ?_
    have hsm : smallE (l.entries.getD i (dflt .entry)) := by rw [getD_at hi]; exact smallL_at hs (List.getElem_mem hi)
    simp (disch := omega) only [cpos, Int.toNat_natCast]
    refine Ev.bind (specEntry_ev _ hsm) ?_
    cases he : entryB (l.entries.getD i (dflt .entry)) with
    | false => exact Ev.pure _
    | true =>
      rw [he, Bool.true_and, Bool.or_eq_false_iff, decide_eq_false_iff_not] at hp
      have et : ((i : Int) - 1).toNat = i - 1 := by omega
      simp (disch := omega) only [Bool.not_true, cond_false, cpos, wrap_in, et, hp.2, Bool.not_false, cond_true]
      exact Ev.pure _
  · unfold okL at hp
    rw [Bool.and_eq_true] at hp
    refine Ev.step (fun k => by rw [spec_l4Good.l0]) ?_
    have hsm : smallE (l.entries.getD i (dflt .entry)) := by rw [getD_at hi]; exact smallL_at hs (List.getElem_mem hi)
    simp (disch := omega) only [cpos, Int.toNat_natCast]
    refine Ev.bind (specEntry_ev _ hsm) ?_
    rw [hp.1]
    by_cases c : i = 0
    · simp (disch := omega) only [Bool.not_true, cond_false, cneg, wrap_in]
      exact ih
    · have et : ((i : Int) - 1).toNat = i - 1 := by omega
      have h2 := hp.2
      rw [decide_eq_false c, Bool.false_or] at h2
      simp (disch := omega) only [Bool.not_true, cond_false, cpos, wrap_in, et, h2]
      exact ih
  · refine Ev.step (fun k => by rw [spec_l4Good.l0]) ?_
    simp (disch := omega) only [cneg]
    exact Ev.pure _
theorem isLib_l0 (l : Library) (hs : smallL l) : Ev (fun k => impl_IsValidLibrary.l0 k l l.entries l.entries.length ((0 : Nat) : Int)) (if (List.range' 0 l.entries.length).all (okL l) = true then .inr l else .inl false) := by
  have hlen := smallL_len hs
  refine loop_all (f := fun k i => impl_IsValidLibrary.l0 k l l.entries l.entries.length i) (n := l.entries.length) (fun i hi hp => ?_) (fun i r hi hp ih => ?_) ?_ l.entries.length 0 (by omega)
  · unfold okL at hp
    refine Ev.step (fun k => by rw [impl_IsValidLibrary.l0]) ?_
    have hsm : smallE (l.entries.getD i (dflt .entry)) := by rw [getD_at hi]; exact smallL_at hs (List.getElem_mem hi)
    simp (disch := omega) only [cpos, Int.toNat_natCast]
    refine Ev.bind (isEntry_ev _ hsm) ?_
    cases he : entryB (l.entries.getD i (dflt .entry)) with
    | false => exact Ev.pure _
    | true =>
      rw [he, Bool.true_and, Bool.or_eq_false_iff, decide_eq_false_iff_not] at hp
      have et : ((i : Int) - 1).toNat = i - 1 := by omega
      simp (disch := omega) only [Bool.not_true, cond_false, cpos, wrap_in, et, hp.2, Bool.not_false, cond_true]
      exact Ev.pure _
  · unfold okL at hp
    rw [Bool.and_eq_true] at hp
    refine Ev.step (fun k => by rw [impl_IsValidLibrary.l0]) ?_
    have hsm : smallE (l.entries.getD i (dflt .entry)) := by rw [getD_at hi]; exact smallL_at hs (List.getElem_mem hi)
    simp (disch := omega) only [cpos, Int.toNat_natCast]
    refine Ev.bind (isEntry_ev _ hsm) ?_
    rw [hp.1]
    by_cases c : i = 0
    · simp (disch := omega) only [Bool.not_true, cond_false, cneg, wrap_in]
      exact ih
    · have et : ((i : Int) - 1).toNat = i - 1 := by omega
      have h2 := hp.2
      rw [decide_eq_false c, Bool.false_or] at h2
      simp (disch := omega) only [Bool.not_true, cond_false, cpos, wrap_in, et, h2]
      exact ih
  · refine Ev.step (fun k => by rw [impl_IsValidLibrary.l0]) ?_
    simp (disch := omega) only [cneg]
    exact Ev.pure _
theorem specLib_ev (l : Library) (hs : smallL l) : Ev (fun k => spec_l4Good.F k l) (libB l) := by
  unfold spec_l4Good.F libB
  by_cases c : l.entries.length ≤ 8
  · simp (disch := omega) only [cneg, dpos, Bool.and_true]
    have := specGoodL_l0 l hs
    cases ha : (List.range' 0 l.entries.length).all (okL l) with
    | true => rw [ha] at this; exact Ev.bind this (Ev.pure _)
    | false => rw [ha] at this; exact Ev.bind this (Ev.pure _)
  · simp (disch := omega) only [cpos, dneg, Bool.and_false]
    exact Ev.pure _
theorem isLib_ev (l : Library) (hs : smallL l) : Ev (fun k => impl_IsValidLibrary.F k l) (libB l) := by
  unfold impl_IsValidLibrary.F libB
  have := isLib_l0 l hs
  cases ha : (List.range' 0 l.entries.length).all (okL l) with
  | true =>
    rw [ha] at this
    refine Ev.bind this ((Ev.pure _).eq ?_)
    rw [Bool.true_and]; exact decide_eq_decide.2 (by omega)
  | false => rw [ha] at this; exact Ev.bind this (Ev.pure _)
theorem libB_len {l : Library} (h : libB l = true) : l.entries.length ≤ 8 := by
  unfold libB at h
  rw [Bool.and_eq_true, decide_eq_true_eq] at h
  exact h.2
end Go.Proofs.YtjbjijgncebbbaaGreatDoor
end
section
/- Plain laws: an entry found by its key; its parent. -/
namespace Go.Proofs.YtjbjijgncebbbaaGreatDoor
open Go.Gx
set_option linter.unusedVariables false
set_option linter.unusedSimpArgs false

theorem find_l (l : Library) (key : ByteArray) (hl : l.entries.length ≤ 1048576) : ∀ n i : Nat, i + n = l.entries.length →
    ∃ r : Sum Int Unit, Ev (fun k => spec_l4Find.l0 k key l i) r ∧ Ev (fun k => slices_IndexFunc_Entry_f45.l0 k l.entries key l.entries.length i) r ∧ ∀ z, r = .inl z → 0 ≤ z ∧ z < l.entries.length
  | 0, i, h => by
    refine ⟨.inr (), Ev.step (fun k => by rw [spec_l4Find.l0]) ?_, Ev.step (fun k => by rw [slices_IndexFunc_Entry_f45.l0]) ?_, fun z hz => by cases hz⟩
    · simp (disch := omega) only [cneg]; exact Ev.pure _
    · simp (disch := omega) only [cneg]; exact Ev.pure _
  | n + 1, i, h => by
    have hi : i < l.entries.length := by omega
    have e1 : impl_entryIndex_1.F l.entries[i] key = some (beqS l.entries[i].key key) := rfl
    cases hb : beqS l.entries[i].key key with
    | true =>
      refine ⟨.inl i, Ev.step (fun k => by rw [spec_l4Find.l0]) ?_, Ev.step (fun k => by rw [slices_IndexFunc_Entry_f45.l0]) ?_, fun z hz => by cases hz; omega⟩
      · simp (disch := omega) only [cpos, Int.toNat_natCast, getD_at hi, hb, cond_true]
        exact Ev.pure _
      · simp (disch := omega) only [cpos, Int.toNat_natCast, getD_at hi]
        refine Ev.bind0 e1 ?_
        rw [hb]
        exact Ev.pure _
    | false =>
      obtain ⟨r, r1, r2, r3⟩ := find_l l key hl n (i + 1) (by omega)
      refine ⟨r, Ev.step (fun k => by rw [spec_l4Find.l0]) ?_, Ev.step (fun k => by rw [slices_IndexFunc_Entry_f45.l0]) ?_, r3⟩
      · simp (disch := omega) only [cpos, Int.toNat_natCast, getD_at hi, hb, cond_false, wrap_in]
        exact r1
      · simp (disch := omega) only [cpos, Int.toNat_natCast, getD_at hi]
        refine Ev.bind0 e1 ?_
        rw [hb]
        simp (disch := omega) only [cond_false, wrap_in]
        exact r2
theorem find_ev (l : Library) (key : ByteArray) (hl : l.entries.length ≤ 1048576) : ∃ r : Int, Ev (fun k => spec_l4Find.F k l key) r ∧ Ev (fun k => impl_entryIndex.F k l key) r ∧ -1 ≤ r ∧ r < l.entries.length := by
  obtain ⟨r, r1, r2, r3⟩ := find_l l key hl l.entries.length 0 (by omega)
  unfold spec_l4Find.F impl_entryIndex.F slices_IndexFunc_Entry_f45.F
  cases r with
  | inl z => exact ⟨z, Ev.bind r1 (Ev.pure _), Ev.bind (Ev.bind r2 (Ev.pure _)) (Ev.pure _), by have := r3 z rfl; omega, (r3 z rfl).2⟩
  | inr u => exact ⟨-1, Ev.bind r1 (Ev.pure _), Ev.bind (Ev.bind r2 (Ev.pure _)) (Ev.pure _), by omega, by omega⟩
theorem parent_ev (l : Library) (hl : l.entries.length ≤ 1048576) (i : Int) (h0 : 0 ≤ i) (h1 : i < l.entries.length) : ∃ r : Int, Ev (fun k => spec_l21Parent.F k l i) r ∧ Ev (fun k => impl_parentIndex.F k l i) r ∧ -1 ≤ r ∧ r < l.entries.length := by
  unfold spec_l21Parent.F impl_parentIndex.F
  cases hb : beqS (l.entries.getD i.toNat (dflt .entry)).cross ⟨#[]⟩ with
  | true =>
    refine ⟨-1, ?_, ?_, by omega, by omega⟩
    · simp (disch := omega) only [cpos, cond_true]; exact Ev.pure _
    · simp (disch := omega) only [cpos, cond_true]; exact Ev.pure _
  | false =>
    obtain ⟨r, r1, r2, r3⟩ := find_ev l (l.entries.getD i.toNat (dflt .entry)).cross hl
    refine ⟨r, ?_, ?_, r3⟩
    · simp (disch := omega) only [cpos, cond_false]; exact Ev.bind r1 (Ev.pure _)
    · simp (disch := omega) only [cpos, cond_false]; exact Ev.bind r2 (Ev.pure _)
end Go.Proofs.YtjbjijgncebbbaaGreatDoor
end
section
/- Plain laws: the chain of an entry, keys, entries found by their keys. -/
namespace Go.Proofs.YtjbjijgncebbbaaGreatDoor
open Go.Gx
set_option linter.unusedVariables false
set_option linter.unusedSimpArgs false

theorem bl_irr : ∀ x : List UInt8, Op.bytesLess x x = false
  | [] => rfl
  | a :: x => by
    have : ¬ a < a := by simp
    simp [Op.bytesLess, bl_irr x]
theorem bl_trans : ∀ {x y z : List UInt8}, Op.bytesLess x y = true → Op.bytesLess y z = true → Op.bytesLess x z = true
  | x, y, [], _, h => by cases y <;> simp [Op.bytesLess] at h
  | x, [], c :: z, h, _ => by cases x <;> simp [Op.bytesLess] at h
  | [], b :: y, c :: z, _, _ => rfl
  | a :: x, b :: y, c :: z, h, k => by
    simp only [Op.bytesLess, Bool.or_eq_true, decide_eq_true_eq, Bool.and_eq_true, beq_iff_eq] at h k ⊢
    rcases h with h | ⟨rfl, h⟩
    · rcases k with k | ⟨rfl, k⟩
      · exact .inl (UInt8.lt_trans h k)
      · exact .inl h
    · rcases k with k | ⟨rfl, k⟩
      · exact .inl k
      · exact .inr ⟨rfl, bl_trans h k⟩
def kAt (l : Library) (x : Int) : ByteArray := (l.entries.getD x.toNat (dflt .entry)).key
theorem keys_lt {l : Library} (h : libB l = true) : ∀ (d i : Nat), i + d + 1 < l.entries.length → ltS (l.entries.getD i (dflt .entry)).key (l.entries.getD (i + d + 1) (dflt .entry)).key = true := by
  have hok : ∀ j, j < l.entries.length → okL l j = true := by
    intro j hj
    unfold libB at h
    simp only [Bool.and_eq_true, List.all_eq_true] at h
    exact h.1 j (by simp; omega)
  have step : ∀ j, j + 1 < l.entries.length → ltS (l.entries.getD j (dflt .entry)).key (l.entries.getD (j + 1) (dflt .entry)).key = true := by
    intro j hj
    have := hok (j + 1) hj
    unfold okL at this
    simp only [Bool.and_eq_true, Bool.or_eq_true, decide_eq_true_eq] at this
    rcases this.2 with h0 | h0
    · omega
    · exact h0
  intro d
  induction d with
  | zero => intro i hi; exact step i hi
  | succ d ih =>
    intro i hi
    exact bl_trans (ih i (by omega)) (step (i + d + 1) (by omega))
theorem keys_ne {l : Library} (h : libB l = true) {i j : Nat} (hi : i < l.entries.length) (hj : j < l.entries.length) (he : (l.entries.getD i (dflt .entry)).key = (l.entries.getD j (dflt .entry)).key) : i = j := by
  apply Classical.byContradiction
  intro hne
  rcases Nat.lt_or_gt_of_ne hne with hlt | hlt
  · obtain ⟨d, rfl⟩ : ∃ d, j = i + d + 1 := ⟨j - i - 1, by omega⟩
    have := keys_lt h d i hj
    rw [he] at this
    unfold ltS at this
    rw [bl_irr] at this
    cases this
  · obtain ⟨d, rfl⟩ : ∃ d, i = j + d + 1 := ⟨i - j - 1, by omega⟩
    have := keys_lt h d j hi
    rw [he] at this
    unfold ltS at this
    rw [bl_irr] at this
    cases this
theorem findK_l (l : Library) (key : ByteArray) (hl : l.entries.length ≤ 1048576) : ∀ n i : Nat, i + n = l.entries.length →
    ∃ r : Sum Int Unit, Ev (fun k => spec_l4Find.l0 k key l i) r ∧ (∀ z, r = .inl z → ∃ j : Nat, z = j ∧ i ≤ j ∧ j < l.entries.length ∧ (l.entries.getD j (dflt .entry)).key = key) ∧ (∀ u, r = .inr u → ∀ j, i ≤ j → j < l.entries.length → (l.entries.getD j (dflt .entry)).key ≠ key)
  | 0, i, h => by
    refine ⟨.inr (), Ev.step (fun k => by rw [spec_l4Find.l0]) ?_, (fun z hz => by cases hz), fun u _ j h1 h2 => by omega⟩
    simp (disch := omega) only [cneg]; exact Ev.pure _
  | n + 1, i, h => by
    have hi : i < l.entries.length := by omega
    cases hb : beqS l.entries[i].key key with
    | true =>
      refine ⟨.inl i, Ev.step (fun k => by rw [spec_l4Find.l0]) ?_, fun z hz => ?_, (fun u hu => by cases hu)⟩
      · simp (disch := omega) only [cpos, Int.toNat_natCast, getD_at hi, hb, cond_true]
        exact Ev.pure _
      · cases hz
        exact ⟨i, rfl, Nat.le_refl _, hi, by rw [getD_at hi]; exact beqS_iff.1 hb⟩
    | false =>
      obtain ⟨r, r1, r2, r3⟩ := findK_l l key hl n (i + 1) (by omega)
      refine ⟨r, Ev.step (fun k => by rw [spec_l4Find.l0]) ?_, fun z hz => ?_, fun u hu j h1 h2 => ?_⟩
      · simp (disch := omega) only [cpos, Int.toNat_natCast, getD_at hi, hb, cond_false, wrap_in]
        exact r1
      · obtain ⟨j, e, h1, h2⟩ := r2 z hz
        exact ⟨j, e, by omega, h2⟩
      · by_cases e : j = i
        · subst e
          rw [getD_at hi]
          intro he
          rw [he, beqS_self] at hb
          cases hb
        · exact r3 u hu j (by omega) h2
/-- The entry with a key. -/
theorem findK_ev (l : Library) (key : ByteArray) (hl : l.entries.length ≤ 1048576) : ∃ r : Int, Ev (fun k => spec_l4Find.F k l key) r ∧ Ev (fun k => impl_entryIndex.F k l key) r ∧ -1 ≤ r ∧ r < l.entries.length ∧ (0 ≤ r → kAt l r = key) ∧ (r < 0 → ∀ j, j < l.entries.length → (l.entries.getD j (dflt .entry)).key ≠ key) := by
  obtain ⟨r, r1, r2, r3, r4⟩ := find_ev l key hl
  obtain ⟨q, q1, q2, q3⟩ := findK_l l key hl l.entries.length 0 (by omega)
  refine ⟨r, r1, r2, r3, r4, ?_⟩
  have hF : Ev (fun k => spec_l4Find.F k l key) (match q with | .inl z => z | .inr _ => -1) := by
    unfold spec_l4Find.F
    cases q with
    | inl z => exact Ev.bind q1 (Ev.pure _)
    | inr u => exact Ev.bind q1 (Ev.pure _)
  have e := Ev.uniq r1 hF
  cases q with
  | inl z =>
    obtain ⟨j, rfl, _, _, h⟩ := q2 z rfl
    have e : r = (j : Int) := e
    exact ⟨fun _ => by rw [e]; unfold kAt; rw [Int.toNat_natCast]; exact h, fun h0 => by omega⟩
  | inr u =>
    have e : r = -1 := e
    exact ⟨fun h0 => by omega, fun _ j hj => q3 u rfl j (Nat.zero_le _) hj⟩

/-! ### A number in a list -/
theorem has_l (xs : List Int) (v : Int) (hl : xs.length ≤ 1048576) : ∀ n i : Nat, i + n = xs.length → Ev (fun k => spec_l1Has.l0 k xs v i) (if v ∈ xs.drop i then .inl true else .inr ()) ∧
    ∃ r : Sum Int Unit, Ev (fun k => slices_Index_int.l0 k xs v xs.length i) r ∧ (v ∈ xs.drop i → ∃ z : Int, r = .inl z ∧ 0 ≤ z) ∧ (v ∉ xs.drop i → r = .inr ())
  | 0, i, h => by
    have hd : xs.drop i = [] := List.drop_eq_nil_of_le (by omega)
    rw [hd]
    refine ⟨Ev.step (fun k => by rw [spec_l1Has.l0]) ?_, .inr (), Ev.step (fun k => by rw [slices_Index_int.l0]) ?_, (fun h => by cases h), fun _ => rfl⟩
    · simp (disch := omega) only [cneg]
      exact (Ev.pure _).eq (by simp)
    · simp (disch := omega) only [cneg]; exact Ev.pure _
  | n + 1, i, h => by
    have hi : i < xs.length := by omega
    have hd : xs.drop i = xs[i] :: xs.drop (i + 1) := List.drop_eq_getElem_cons hi
    obtain ⟨h1, r, h2, h3, h4⟩ := has_l xs v hl n (i + 1) (by omega)
    by_cases hv : xs[i] = v
    · have hm : v ∈ xs.drop i := by rw [hd, hv]; exact List.mem_cons_self
      refine ⟨Ev.step (fun k => by rw [spec_l1Has.l0]) ?_, .inl i, Ev.step (fun k => by rw [slices_Index_int.l0]) ?_, fun _ => ⟨i, rfl, by omega⟩, fun hn => absurd hm hn⟩
      · rw [if_pos hm]
        simp (disch := omega) only [cpos, Int.toNat_natCast, getD_at hi, ceq]
        exact Ev.pure _
      · simp (disch := omega) only [cpos, Int.toNat_natCast, getD_at hi, ceq]
        exact Ev.pure _
    · have hm : v ∈ xs.drop i ↔ v ∈ xs.drop (i + 1) := by
        rw [hd, List.mem_cons]
        exact ⟨fun h => h.resolve_left fun e => hv e.symm, .inr⟩
      refine ⟨Ev.step (fun k => by rw [spec_l1Has.l0]) ?_, r, Ev.step (fun k => by rw [slices_Index_int.l0]) ?_, fun h => h3 (hm.1 h), fun h => h4 fun h' => h (hm.2 h')⟩
      · simp (disch := omega) only [cpos, Int.toNat_natCast, getD_at hi, cne, wrap_in]
        exact h1.eq (by simp only [hm])
      · simp (disch := omega) only [cpos, Int.toNat_natCast, getD_at hi, cne, wrap_in]
        exact h2
theorem has_ev (xs : List Int) (v : Int) (hl : xs.length ≤ 1048576) : Ev (fun k => spec_l1Has.F k xs v) (decide (v ∈ xs)) ∧ Ev (fun k => slices_Contains_int.F k xs v) (decide (v ∈ xs)) := by
  obtain ⟨h1, r, h2, h3, h4⟩ := has_l xs v hl xs.length 0 (by omega)
  rw [List.drop_zero] at h1 h3 h4
  unfold spec_l1Has.F slices_Contains_int.F slices_Index_int.F
  by_cases hv : v ∈ xs
  · rw [if_pos hv] at h1
    obtain ⟨z, rfl, hz⟩ := h3 hv
    rw [decide_eq_true hv]
    refine ⟨Ev.bind h1 (Ev.pure _), Ev.bind (a := z) (Ev.bind h2 (Ev.pure _)) ((Ev.pure _).eq ?_)⟩
    rw [decide_eq_true (by omega)]
  · rw [if_neg hv] at h1
    obtain rfl := h4 hv
    rw [decide_eq_false hv]
    exact ⟨Ev.bind h1 (Ev.pure _), Ev.bind (a := -1) (Ev.bind h2 (Ev.pure _)) (Ev.pure _)⟩

/-! ### Chains -/
theorem pigeon : ∀ (n : Nat) (l : List Int), l.Nodup → (∀ x ∈ l, 0 ≤ x ∧ x < n) → l.length ≤ n
  | 0, l, _, h => by
    cases l with
    | nil => simp
    | cons a l => have := h a List.mem_cons_self; omega
  | n + 1, l, hn, h => by
    by_cases hm : (n : Int) ∈ l
    · have h1 := pigeon n (l.erase n) (hn.erase _) fun x hx => by
        rw [hn.mem_erase_iff] at hx
        have := h x hx.2
        have := hx.1
        omega
      rw [List.length_erase_of_mem hm] at h1
      omega
    · have h1 := pigeon n l hn fun x hx => by
        have := h x hx
        have : x ≠ n := fun e => hm (e ▸ hx)
        omega
      omega
theorem room_i8 {n : Nat} (h : n ≤ 8192) : room n (.int .i64) = true := by
  show Nat.ble (n * 8) 140737488355328 = true
  exact Nat.ble_eq_true_of_le (by omega)
def chR (l : Library) : Sum (List Int × Bool) (List Int) → Prop
  | .inl p => p.2 = true ∧ p.1.Nodup ∧ ∀ x ∈ p.1, 0 ≤ x ∧ x < l.entries.length
  | .inr c => c.Nodup ∧ ∀ x ∈ c, 0 ≤ x ∧ x < l.entries.length
def chL : Sum (List Int × Bool) (List Int) → List Int
  | .inl p => p.1
  | .inr c => c
theorem chain_l (l : Library) (hl : l.entries.length ≤ 8) : ∀ (d : Nat) (acc : List Int) (i : Int), acc.length + d = l.entries.length + 1 → -1 ≤ i → i < l.entries.length → acc.Nodup → (∀ x ∈ acc, 0 ≤ x ∧ x < l.entries.length) →
    ∃ r, Ev (fun k => spec_l21Chain.l0 k i l acc) r ∧ Ev (fun k => impl_chainOf.l0 k i l acc) r ∧ chR l r ∧ ∃ t, chL r = acc ++ t ∧ (0 ≤ i → i ∉ acc → t ≠ [])
  | 0, acc, i, hd, _, _, hn, ha => by have := pigeon _ _ hn ha; omega
  | d + 1, acc, i, hd, h0, h1, hn, ha => by
    have hlen := pigeon _ _ hn ha
    by_cases hi : i < 0
    · refine ⟨.inr acc, Ev.step (fun k => by rw [spec_l21Chain.l0]) ?_, Ev.step (fun k => by rw [impl_chainOf.l0]) ?_, ⟨hn, ha⟩, [], by simp [chL], fun h => absurd hi (by omega)⟩
      · simp (disch := omega) only [cneg]; exact Ev.pure _
      · simp (disch := omega) only [cneg]; exact Ev.pure _
    · obtain ⟨e1, e2⟩ := has_ev acc i (by omega)
      by_cases hm : i ∈ acc
      · rw [decide_eq_true hm] at e1 e2
        refine ⟨.inl (acc, true), Ev.step (fun k => by rw [spec_l21Chain.l0]) ?_, Ev.step (fun k => by rw [impl_chainOf.l0]) ?_, ⟨rfl, hn, ha⟩, [], by simp [chL], fun _ h => absurd hm h⟩
        · simp (disch := omega) only [cpos]; exact Ev.bind e1 (Ev.pure _)
        · simp (disch := omega) only [cpos]; exact Ev.bind e2 (Ev.pure _)
      · rw [decide_eq_false hm] at e1 e2
        obtain ⟨p, p1, p2, p3, p4⟩ := parent_ev l (by omega) i (by omega) h1
        obtain ⟨r, r1, r2, r3, t, r4, _⟩ := chain_l l hl d (acc ++ [i]) p (by simp; omega) p3 p4 (List.nodup_append.2 ⟨hn, by simp, fun a ha' b hb => by simp at hb; subst hb; exact fun e => hm (e ▸ ha')⟩) (fun x hx => by
          rcases List.mem_append.1 hx with hx | hx
          · exact ha x hx
          · simp at hx; subst hx; omega)
        have hr : room (acc.length + ([i] : List Int).length) (.int .i64) = true := room_i8 (by simp; omega)
        refine ⟨r, Ev.step (fun k => by rw [spec_l21Chain.l0]) ?_, Ev.step (fun k => by rw [impl_chainOf.l0]) ?_, r3, i :: t, by rw [r4]; simp, fun _ _ h => by cases h⟩
        · simp (disch := omega) only [cpos]
          refine Ev.bind e1 ?_
          simp only [cond_false, hr, cond_true]
          exact Ev.bind p1 r1
        · simp (disch := omega) only [cpos]
          refine Ev.bind e2 ?_
          simp only [cond_false, hr, cond_true]
          exact Ev.bind p2 r2
theorem chain_ev1 (l : Library) (hl : l.entries.length ≤ 8) (i : Int) (h0 : 0 ≤ i) (h1 : i < l.entries.length) :
    ∃ c b, Ev (fun k => spec_l21Chain.F k l i) (c, b) ∧ Ev (fun k => impl_chainOf.F k l i) (c, b) ∧ c.Nodup ∧ (∀ x ∈ c, 0 ≤ x ∧ x < l.entries.length) ∧ c.length ≤ l.entries.length ∧ 1 ≤ c.length := by
  obtain ⟨r, r1, r2, r3, t, r4, r5⟩ := chain_l l hl (l.entries.length + 1) [] i (by simp) (by omega) h1 List.nodup_nil (fun x hx => by cases hx)
  have hpos : 1 ≤ (chL r).length := by
    rw [r4]
    cases t with
    | nil => exact absurd rfl (r5 h0 (by simp))
    | cons x t => simp
  unfold spec_l21Chain.F impl_chainOf.F
  cases r with
  | inl p =>
    obtain ⟨c, b⟩ := p
    exact ⟨c, b, Ev.bind r1 (Ev.pure _), Ev.bind r2 (Ev.pure _), r3.2.1, r3.2.2, pigeon _ _ r3.2.1 r3.2.2, hpos⟩
  | inr c => exact ⟨c, false, Ev.bind r1 (Ev.pure _), Ev.bind r2 (Ev.pure _), r3.1, r3.2, pigeon _ _ r3.1 r3.2, hpos⟩
end Go.Proofs.YtjbjijgncebbbaaGreatDoor
end
