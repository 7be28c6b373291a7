/- Library functions: their contracts, proved once for any program, as what a callee keeps to. By an AI agent's session. -/
import Derived.Test.YtolcacancfmmiaaGreatDoorMbi3
import Derived.Shelf.Vars
import Derived.Below
import Derived.Lib.IndexMore
import Derived.Lib.Split
import Derived.Lib.SplitLaws
import Derived.Lib.Repeat
import Derived.Deep.Draws
import Derived.Lib.Join
import Derived.Lib.SlTrimSet
import Derived.Lib.IndexAny
import Derived.Lib.TrimByte
import Derived.Laws.AppendOwn
import Derived.Test.YtolcacancfmmiaaGreatDoorMbi4
import Derived.Lib.ItoaNum
import Derived.Sort.Grow
import Derived.Test.YtolcacancfmmiaaGreatDoorMbi5
import Derived.Test.YtolcacancfmmiaaGreatDoorProg
import Derived.KernelRfl
section
namespace Go.Gx
open Go.RowKit Go.Lib
set_option linter.unusedVariables false
theorem ext_goes {P : Program} {f : FuncId} {fn : Func} {c : Code} (hf : P.funcs[f]? = some fn) (hb : fn.body = some c) (hname : (fn.name == "runtime.NumGoroutine") = false) {args : Array Value} {w : World} {R : Value → World → Prop}
    (h : Calls P f args w fun e w' => ∃ v, e = .returned v ∧ R v w') : Goes P f args w R := by
  have hcall : (callFunc f args).run P w = .ok (.enter f args) w := by
    have hn' : fn.name ≠ "runtime.NumGoroutine" := by simpa using hname
    simp [callFunc, hf, hn', hb]
  unfold Goes
  rw [hcall]
  exact h
theorem args_nil {S : Nat → Prop} {w : World} {pv : Nat → Value} {vs : List Value} (h : ArgsOk S w pv [] vs) : vs = [] := List.eq_nil_of_length_eq_zero h.1
theorem args_cons {S : Nat → Prop} {w : World} {pv : Nat → Value} {a : AV} {al : List AV} {vs : List Value} (h : ArgsOk S w pv (a :: al) vs) : ∃ cs vs', AR S w (fun _ => none) (fun _ => none) pv a cs ∧ vs = valOf a cs :: vs' ∧ ArgsOk S w pv al vs' := by
  match vs, h with
  | [], h => cases h.1
  | v :: vs', ⟨h1, h2⟩ =>
    obtain ⟨cs, hc, rfl⟩ := h2 0 a v rfl rfl
    exact ⟨cs, vs', hc, rfl, by simpa using h1, fun i b u hb hu => h2 (i + 1) b u (by simpa using hb) (by simpa using hu)⟩
theorem args_str {S : Nat → Prop} {w : World} {pv : Nat → Value} {s : ByteArray} {al : List AV} {vs : List Value} (h : ArgsOk S w pv (.t .str s :: al) vs) : ∃ vs', vs = .string s :: vs' ∧ ArgsOk S w pv al vs' := by
  obtain ⟨cs, vs', hc, rfl, h'⟩ := args_cons h
  cases hc with | t _ _ _ hc => cases hc; exact ⟨vs', rfl, h'⟩
section
variable {P : Program} {E : Env} {pv : Nat → Value} {f : FuncId} {fn : Func} {c : Code}
theorem ext_flat (hf : P.funcs[f]? = some fn) (hb : fn.body = some c) (hname : (fn.name == "runtime.NumGoroutine") = false) {args : List AV} {τ : Ty} {y : den τ} {v : Value} (hy : ∀ S w, ∃ cs, CR S w τ y cs ∧ v = valOf (.t τ y) cs)
    (h : ∀ S w vs, (∀ b, S b → b < w.heap.size) → GlOk E pv S w → ArgsOk S w pv args vs → Calls P f vs.toArray w fun e w' => e = .returned v ∧ Below w.heap.size w w') : Meets P E pv (.f f) args (.t τ y) := by
  intro S w vs hS hgl hargs
  refine ext_goes hf hb hname ((h S w vs hS hgl hargs).mono fun e w' ⟨he, hbl⟩ => ⟨v, he, hbl, S, fun b hb => hb, fun b hb => .inl hb, ?_⟩)
  obtain ⟨cs, hc, rfl⟩ := hy S w'
  exact ⟨none, .plain _ _ (.t _ _ _ hc)⟩
theorem ext_strs (hf : P.funcs[f]? = some fn) (hb : fn.body = some c) (hname : (fn.name == "runtime.NumGoroutine") = false) {args : List AV} {te : Nat} {xs : List ByteArray} (hx : xs.length ≤ maxLen)
    (h : ∀ S w vs, (∀ b, S b → b < w.heap.size) → GlOk E pv S w → ArgsOk S w pv args vs → Calls P f vs.toArray w fun e w' => e = .returned (.slice (some ⟨w.heap.size, 0, none⟩) xs.length xs.length) ∧ w' = w.alloc (.cells (xs.map Value.string).toArray te)) : Meets P E pv (.f f) args (.fr te .str xs) := by
  intro S w vs hS hgl hargs
  refine ext_goes hf hb hname ((h S w vs hS hgl hargs).mono fun e w' ⟨he, hw⟩ => ⟨_, he, ?_⟩)
  subst hw
  refine ⟨(Below.refl _ w).alloc (Nat.le_refl _) _, S, fun b hb => hb, fun b hb => .inl hb, some w.heap.size, .fr te .str xs w.heap.size xs.length (Nat.le_refl _) (fun hs => absurd (hS _ hs) (Nat.lt_irrefl _)) ⟨(xs.map Value.string).toArray, (0, 0), ?_, ?_, Nat.le_refl _, hx, fun _ => rfl, .inl (Nat.le_refl _), by decide, fun i hi => ⟨[.string xs[i]], .str _, fun j v hj => ?_⟩⟩⟩
  · show (w.heap.push _)[w.heap.size]? = _
    simp
  · simp [nc]
  · cases j with
    | zero =>
      simp only [List.getElem?_cons_zero, Option.some.injEq] at hj
      subst hj
      simp [nc, hi]
    | succ j => simp at hj
end
def xSplit (s sep : ByteArray) : Option (List ByteArray) := bif Nat.ble s.size 4294967280 && Nat.ble 1 sep.size then some (Lib.splitB sep 0 (Lib.countB s sep) s) else none
theorem ext_split {P : Program} {E : Env} {pv : Nat → Value} {f : FuncId} {fn : Func} {c : Code} (hf : P.funcs[f]? = some fn) (hb : fn.body = some c) (hname : (fn.name == "runtime.NumGoroutine") = false) {mx : Nat} (hmx : E.gi mx = true) {te : Nat}
    (hc : ∀ (s sep : ByteArray) (m : Int) (w : World), s.size < 4294967281 → w.cell? ⟨mx, 0, none⟩ = some (.int .i64 m) → 1 ≤ sep.size → Calls P f #[.string s, .string sep] w fun e w' =>
      e = .returned (.slice (some ⟨w.heap.size, 0, none⟩) (Lib.countB s sep + 1) (Lib.countB s sep + 1)) ∧ w' = w.alloc (.cells ((Lib.splitB sep 0 (Lib.countB s sep) s).map Value.string).toArray te))
    {s sep : ByteArray} {y : List ByteArray} (h : xSplit s sep = some y) : Meets P E pv (.f f) (tvals [.str, .str] (s, sep, ())) (.fr te .str y) := by
  unfold xSplit at h
  cases hs : Nat.ble s.size 4294967280 && Nat.ble 1 sep.size with
  | false => rw [hs] at h; cases h
  | true =>
    rw [hs] at h
    cases h
    rw [Bool.and_eq_true] at hs
    have h1 := Nat.le_of_ble_eq_true hs.1
    have h2 := Nat.le_of_ble_eq_true hs.2
    have hl := Lib.splitB_all sep h2 0 _ s rfl
    have hle := Lib.countB_le sep h2 s.size s (Nat.le_refl _)
    have hm : maxLen = 9223372036854775807 := by decide
    refine ext_strs hf hb hname (by rw [hl, hm]; omega) fun S w vs hS hgl ha => ?_
    obtain ⟨_, rfl, ha1⟩ := args_str ha
    obtain ⟨_, rfl, ha2⟩ := args_str ha1
    obtain rfl := args_nil ha2
    obtain ⟨_, m, hm⟩ := hgl.2.1 mx hmx
    rw [hl]
    exact hc s sep m w (by omega) hm h2
def xJoin (xs : List ByteArray) (sep : ByteArray) : Option ByteArray := bif Nat.ble xs.length 140737488355328 && Nat.ble (Lib.join (xs.map (·.data.toList)) sep.data.toList).length 140737488355328 then some ⟨(Lib.join (xs.map (·.data.toList)) sep.data.toList).toArray⟩ else none
theorem ext_join {P : Program} {E : Env} {pv : Nat → Value} {f : FuncId} {fn : Func} {c : Code} (hf : P.funcs[f]? = some fn) (hb : fn.body = some c) (hname : (fn.name == "runtime.NumGoroutine") = false)
    (hc0 : ∀ (a : Option Addr) (c : Nat) (sep : ByteArray) (w : World), Calls P f #[.slice a 0 c, .string sep] w fun e w' => e = .returned (.string ⟨#[]⟩) ∧ w' = w)
    (hc : ∀ (bk o c : Nat) (xs : List ByteArray) (sep : ByteArray) (w : World), (∀ (j : Nat) x, xs[j]? = some x → w.cell? ⟨bk, o + j, none⟩ = some (.string x)) → bk < w.heap.size → xs.length ≤ 140737488355328 → xs.length ≤ c →
      (Lib.join (xs.map (·.data.toList)) sep.data.toList).length ≤ 140737488355328 → Calls P f #[.slice (some ⟨bk, o, none⟩) xs.length c, .string sep] w fun e w' => e = .returned (.string ⟨(Lib.join (xs.map (·.data.toList)) sep.data.toList).toArray⟩) ∧ Below w.heap.size w w')
    {xs : List ByteArray} {sep : ByteArray} {y : ByteArray} (h : xJoin xs sep = some y) : Meets P E pv (.f f) (tvals [.sl .str, .str] (xs, sep, ())) (.t .str y) := by
  unfold xJoin at h
  cases hs : Nat.ble xs.length 140737488355328 && Nat.ble (Lib.join (xs.map (·.data.toList)) sep.data.toList).length 140737488355328 with
  | false => rw [hs] at h; cases h
  | true =>
    rw [hs] at h
    cases h
    rw [Bool.and_eq_true] at hs
    refine ext_flat hf hb hname (v := .string _) (fun S w => ⟨_, .str _, rfl⟩) fun S w vs hS hgl ha => ?_
    obtain ⟨cs, _, hcr, rfl, ha1⟩ := args_cons ha
    obtain ⟨_, rfl, ha2⟩ := args_str ha1
    obtain rfl := args_nil ha2
    cases hcr with
    | t _ _ _ hcr =>
      cases hcr with
      | sl e xs A c cv hle hm h1 h2 =>
        match xs, A, hle, h1, h2, hs with
        | [], A, _, _, _, _ => exact (hc0 A c sep w).mono fun e w' ⟨he, hw⟩ => ⟨he, hw ▸ Below.refl _ _⟩
        | x :: l, A, hle, h1, h2, hs =>
          obtain ⟨g, o, rfl, hg, _⟩ := h2 0 (Nat.succ_pos _)
          refine hc g o c (x :: l) sep w (fun j z hj => ?_) (hS g hg) (Nat.le_of_ble_eq_true hs.1) hle (Nat.le_of_ble_eq_true hs.2)
          obtain ⟨hj', hz⟩ := List.getElem?_eq_some_iff.1 hj
          obtain ⟨g', o', e', _, hcell⟩ := h2 j hj'
          cases e'
          have hcv := h1 j hj'
          rw [hz] at hcv
          have hq : ∀ q, CR S w .str z q → q[0]? = some (.string z) := fun q hq => by cases hq; rfl
          have := hcell 0 (.string z) (hq _ hcv)
          simpa [nc] using this
def xTrim1 (s cs : ByteArray) : Option ByteArray := match cs with
  | ⟨⟨[c]⟩⟩ => bif Nat.ble s.size 9223372036854775807 && Nat.blt c.toNat 128 then some ⟨(Lib.trimB s.data.toList c).toArray⟩ else none
  | _ => none
theorem ext_trim1 {P : Program} {E : Env} {pv : Nat → Value} {f : FuncId} {fn : Func} {c : Code} (hf : P.funcs[f]? = some fn) (hb : fn.body = some c) (hname : (fn.name == "runtime.NumGoroutine") = false)
    (hc : ∀ (s : ByteArray) (c : UInt8), c.toNat < 128 → ∀ (w : World), s.size ≤ 9223372036854775807 → Calls P f #[.string s, .string ⟨#[c]⟩] w fun e w' => e = .returned (.string ⟨(Lib.trimB s.data.toList c).toArray⟩) ∧ (w' = w ∨ w' = w.drew))
    {s cs : ByteArray} {y : ByteArray} (h : xTrim1 s cs = some y) : Meets P E pv (.f f) (tvals [.str, .str] (s, cs, ())) (.t .str y) := by
  unfold xTrim1 at h
  split at h
  · rename_i c0
    cases hs : Nat.ble s.size 9223372036854775807 && Nat.blt c0.toNat 128 with
    | false => rw [hs] at h; cases h
    | true =>
      rw [hs] at h
      cases h
      rw [Bool.and_eq_true] at hs
      refine ext_flat hf hb hname (v := .string _) (fun S w => ⟨_, .str _, rfl⟩) fun S w vs hS hgl ha => ?_
      obtain ⟨_, rfl, ha1⟩ := args_str ha
      obtain ⟨_, rfl, ha2⟩ := args_str ha1
      obtain rfl := args_nil ha2
      refine (hc s c0 (Nat.le_of_ble_eq_true hs.2) w (Nat.le_of_ble_eq_true hs.1)).mono fun e w' ⟨he, hw⟩ => ⟨he, ?_⟩
      rcases hw with rfl | rfl
      · exact Below.refl _ _
      · exact (Below.refl _ _).drew
  · cases h
end Go.Gx
end
section
/- A library function by its contract: strconv.Itoa. -/
namespace Go.Gx
set_option linter.unusedVariables false
set_option linter.unusedSimpArgs false
def xCompare (a b : ByteArray) : Option Int := some (Lib.compareBytes a.data.toList b.data.toList)
theorem ext_compare {P : Program} {E : Env} {pv : Nat → Value} {f : FuncId} {fn : Func} {c : Code} (hf : P.funcs[f]? = some fn) (hb : fn.body = some c) (hname : (fn.name == "runtime.NumGoroutine") = false)
    (hc : ∀ (a b : ByteArray) (w : World), Calls P f #[.string a, .string b] w fun e w' => e = .returned (.int .i64 (Lib.compareBytes a.data.toList b.data.toList)) ∧ w' = w)
    {a b : ByteArray} {y : Int} (h : xCompare a b = some y) : Meets P E pv (.f f) (tvals [.str, .str] (a, b, ())) (.t (.int .i64) y) := by
  cases h
  refine ext_flat hf hb hname (v := .int .i64 _) (fun S w => ⟨_, .int .i64 _, rfl⟩) fun S w vs hS hgl ha => ?_
  obtain ⟨_, rfl, ha1⟩ := args_str ha
  obtain ⟨_, rfl, ha2⟩ := args_str ha1
  obtain rfl := args_nil ha2
  refine (hc a b w).mono fun e w' ⟨he, hw⟩ => ⟨he, ?_⟩
  subst hw
  exact RowKit.Below.refl _ _
end Go.Gx
end
section
namespace Go.Proofs.YtolcacancfmmiaaGreatDoor
open Go.Gx
set_option linter.unusedVariables false
set_option maxRecDepth 100000
def tyT (t : Nat) : Option Ty := match t with
  | 2 => some (.int .i64)
  | 3 => some (.int .i64)
  | 4 => some .bool
  | 5 => some (.int .u8)
  | 6 => some (.int .u8)
  | 9 => some .str
  | 10 => some .str
  | 11 => some .str
  | 21 => some (.int .i32)
  | 22 => some (.sl .entry)
  | 24 => some .lib
  | 25 => some (.sl .str)
  | 30 => some (.sl .entry)
  | 32 => some .lib
  | 47 => some (.sl .name)
  | 49 => some .date
  | 51 => some .entry
  | 56 => some (.sl .name)
  | 57 => some .date
  | 59 => some .entry
  | 67 => some (.sl (.int .u8))
  | 79 => some .name
  | 81 => some .name
  | 92 => some (.int .u64)
  | 101 => some (.int .i64)
  | 109 => some (.int .u32)
  | 111 => some (.int .u64)
  | 112 => some (.sl (.int .i64))
  | 119 => some (.int .u64)
  | 149 => some (.arr 256 .bool)
  | 166 => some (.arr 256 (.int .u8))
  | 181 => some (.int .u8)
  | _ => none
def elT (t : Nat) : Nat := match t with
  | 22 => 51
  | 25 => 9
  | 30 => 59
  | 47 => 81
  | 56 => 79
  | 67 => 5
  | 112 => 3
  | _ => 0
def mdT (f : Nat) : Bool := match f with
  | 13 => true
  | 22 => true
  | 33 => true
  | 38 => true
  | 48 => true
  | 51 => true
  | 68 => true
  | 78 => true
  | 130 => true
  | 147 => true
  | _ => false
def strV0 : ByteArray := ⟨#[0, 1, 2, 2, 3, 3, 3, 3, 4, 4, 4, 4, 4, 4, 4, 4, 5, 5, 5, 5, 5, 5, 5, 5, 5, 5, 5, 5, 5, 5, 5, 5, 6, 6, 6, 6, 6, 6, 6, 6, 6, 6, 6, 6, 6, 6, 6, 6, 6, 6, 6, 6, 6, 6, 6, 6, 6, 6, 6, 6, 6, 6, 6, 6, 7, 7, 7, 7, 7, 7, 7, 7, 7, 7, 7, 7, 7, 7, 7, 7, 7, 7, 7, 7, 7, 7, 7, 7, 7, 7, 7, 7, 7, 7, 7, 7, 7, 7, 7, 7, 7, 7, 7, 7, 7, 7, 7, 7, 7, 7, 7, 7, 7, 7, 7, 7, 7, 7, 7, 7, 7, 7, 7, 7, 7, 7, 7, 7, 8, 8, 8, 8, 8, 8, 8, 8, 8, 8, 8, 8, 8, 8, 8, 8, 8, 8, 8, 8, 8, 8, 8, 8, 8, 8, 8, 8, 8, 8, 8, 8, 8, 8, 8, 8, 8, 8, 8, 8, 8, 8, 8, 8, 8, 8, 8, 8, 8, 8, 8, 8, 8, 8, 8, 8, 8, 8, 8, 8, 8, 8, 8, 8, 8, 8, 8, 8, 8, 8, 8, 8, 8, 8, 8, 8, 8, 8, 8, 8, 8, 8, 8, 8, 8, 8, 8, 8, 8, 8, 8, 8, 8, 8, 8, 8, 8, 8, 8, 8, 8, 8, 8, 8, 8, 8, 8, 8, 8, 8, 8, 8, 8, 8, 8, 8, 8, 8, 8, 8, 8, 8, 8, 8, 8, 8, 8, 8]⟩
def glT (g : Nat) : Option AV := match g with
  | _ => none
def giT (g : Nat) : Bool := match g with
  | 0 => true
  | _ => false
def dmT (f : Nat) : Bool := match f with
  | 12 => true
  | 13 => true
  | 22 => true
  | 38 => true
  | _ => false
def pmT (f : Nat) : Bool := match f with
  | 7 => true
  | 29 => true
  | 63 => true
  | _ => false
def envX : Env := { ty := tyT, el := elT, gl := glT, md := mdT, gi := giT, dm := dmT, pm := pmT }
def envP : Env := { ty := tyT, el := elT, gl := glT, md := mdT, gi := giT, on := true }
theorem env_ty : ∀ T τ, envX.ty T = some τ → TyOk Tryz.prog envX T τ := fun T τ h => by
  dsimp only [envX, tyT] at h
  split at h <;> first
    | (cases h; done)
    | (cases h; exact tyOk_of (by kernel_rfl) (by kernel_rfl))
theorem envOk : EnvOk Tryz.prog envX := ⟨env_ty, by kernel_rfl, fun T h => by
  dsimp only [envX, tyT] at h
  split at h <;> first
    | (cases h; done)
    | exact date_eq env_ty rfl (by kernel_rfl) (by kernel_rfl) (by kernel_rfl), fun T h => by
  dsimp only [envX, tyT] at h
  split at h <;> first
    | (cases h; done)
    | exact abbr_eq env_ty rfl (by kernel_rfl) (by kernel_rfl) (by kernel_rfl)⟩
theorem env_tyP : ∀ T τ, envP.ty T = some τ → TyOk Tryz.prog envP T τ := fun T τ h => by
  dsimp only [envP, tyT] at h
  split at h <;> first
    | (cases h; done)
    | (cases h; exact tyOk_of (by kernel_rfl) (by kernel_rfl))
theorem envOkP : EnvOk Tryz.prog envP := ⟨env_tyP, by kernel_rfl, fun T h => by
  dsimp only [envP, tyT] at h
  split at h <;> first
    | (cases h; done)
    | exact date_eq env_tyP rfl (by kernel_rfl) (by kernel_rfl) (by kernel_rfl), fun T h => by
  dsimp only [envP, tyT] at h
  split at h <;> first
    | (cases h; done)
    | exact abbr_eq env_tyP rfl (by kernel_rfl) (by kernel_rfl) (by kernel_rfl)⟩
def laws_szStringS.l0 : Nat → (List ByteArray) → Int → Int → Option (Sum Int Int)
  | 0, _, _, _ => none
  | k + 1, x0, x1, x5 => bif (decide (x5 < (x0.length : Int))) then (bif decide (0 ≤ x5) then (bif decide (x5 < (x0.length : Int)) then (bif (decide ((IntKind.wrap .i64 (x1 - ((x0.getD (x5 : Int).toNat (⟨#[]⟩ : ByteArray)).size : Int))) < 0)) then (some (.inl (-1))) else (laws_szStringS.l0 k x0 (IntKind.wrap .i64 (x1 - ((x0.getD (x5 : Int).toNat (⟨#[]⟩ : ByteArray)).size : Int))) (IntKind.wrap .i64 (x5 + 1)))) else none) else none) else (some (.inr x1))
def laws_szStringS.F (k : Nat) (a0 : List ByteArray) (a1 : Int) : Option (Int) := bif (decide ((IntKind.wrap .i64 (a1 - (a0.length : Int))) < 0)) then (some (-1)) else ((laws_szStringS.l0 k a0 (IntKind.wrap .i64 (a1 - (a0.length : Int))) 0).bind fun y1 => match y1 with | .inl z2 => some z2 | .inr z2 => some z2)
def laws_szStringS.C (k : Nat) : Cal → Option CArm := fun c => match c with
  | _ => none
def laws_szStringS.sp0 : List Sp := [.t 0 (.sl .str), .t 1 (.int .i64), .t 5 (.int .i64)]
def laws_szStringS.sp0_0 : List Sp := [.t 4 (.int .i64)]
def laws_szStringS.sp0_1 : List Sp := [.t 1 (.int .i64)]
def laws_szStringS.A0 : LArm := .two laws_szStringS.sp0 laws_szStringS.sp0_0 laws_szStringS.sp0_1 (Int) (Int) (fun k x => laws_szStringS.l0 k x.1 x.2.1 x.2.2.1) .ret (.exit 0) (fun y => (y, ())) (fun x => x.1) (fun y => (y, ())) (fun x => x.1)
def laws_szStringS.L : Nat → Option LArm := fun b => match b with
  | 0 => some laws_szStringS.A0
  | _ => none
theorem laws_szStringS.run (k : Nat) (a0 : List ByteArray) (a1 : Int) : runF envX (tabC (laws_szStringS.C k)) (tabL 28 k laws_szStringS.L) Tryz.f5 [.t (.sl .str) a0, .t (.int .i64) a1] (viewR1 (.t (.int .i64))) = laws_szStringS.F k a0 a1 := by kernel_rfl
theorem laws_szStringS.step0 (k : Nat) (x0 : List ByteArray) (x1 : Int) (x5 : Int) : runC envX (tabC (laws_szStringS.C k)) (tabL 28 k laws_szStringS.L) 0 (loopAt Tryz.f5 0) (stOf 28 laws_szStringS.sp0 (x0, x1, x5, ())) (laws_szStringS.A0.cont 28 k) = laws_szStringS.l0 (k + 1) x0 x1 x5 := by kernel_rfl
theorem laws_szStringS.G (hE : EnvOk Tryz.prog envX) (pv : Nat → Value) (k : Nat) : ∀ cal A, laws_szStringS.C k cal = some A → ArmOk Tryz.prog envX pv cal A := by
  intro cal A h
  unfold laws_szStringS.C at h
  cases h
theorem laws_szStringS.good (hE : EnvOk Tryz.prog envX) (pv : Nat → Value) (k : Nat) (a0 : List ByteArray) (a1 : Int) {y : _} (h : laws_szStringS.F k a0 a1 = some y) : Meets Tryz.prog envX pv (.f 5) (tvals [(.sl .str), (.int .i64)] (a0, a1, ())) (.t (.int .i64) y) :=
  fun_loops hE (t := laws_szStringS.C) k (fun k _ => laws_szStringS.G hE pv k) (f := 5) (fn := Tryz.f5) (by kernel_rfl) rfl (by kernel_rfl) (by kernel_rfl) (lt := laws_szStringS.L) (by kernel_rfl) (fun b A h => by
    unfold laws_szStringS.L at h; split at h
    · cases h; exact ⟨by kernel_rfl, by kernel_rfl, by kernel_rfl, fun _ => rfl, fun _ => rfl, fun _ => rfl⟩
    · cases h) (fun b A h => by
    unfold laws_szStringS.L at h; split at h
    · cases h; exact fun k x => laws_szStringS.step0 k x.1 x.2.1 x.2.2.1
    · cases h) ((laws_szStringS.run k a0 a1).trans h) fun r hr => wk_view1 hr
def laws_szName.F (k : Nat) (a0 : Name) (a1 : Int) : Option (Int) := (laws_szStringS.F k a0.given a1).bind fun r1 => bif (decide (r1 < 0)) then (some (-1)) else (bif (decide ((IntKind.wrap .i64 (r1 - (a0.particle.size : Int))) < 0)) then (some (-1)) else (bif (decide ((IntKind.wrap .i64 ((IntKind.wrap .i64 (r1 - (a0.particle.size : Int))) - (a0.family.size : Int))) < 0)) then (some (-1)) else (bif (decide ((IntKind.wrap .i64 ((IntKind.wrap .i64 ((IntKind.wrap .i64 (r1 - (a0.particle.size : Int))) - (a0.family.size : Int))) - (a0.suffix.size : Int))) < 0)) then (some (-1)) else (some (IntKind.wrap .i64 ((IntKind.wrap .i64 ((IntKind.wrap .i64 (r1 - (a0.particle.size : Int))) - (a0.family.size : Int))) - (a0.suffix.size : Int)))))))
def laws_szName.C (k : Nat) : Cal → Option CArm := fun c => match c with
  | .f 5 => some (.p [(.sl .str), (.int .i64)] _ (fun x => laws_szStringS.F k x.1 x.2.1) (fun r => (.t (.int .i64) r)))
  | _ => none
theorem laws_szName.run (k : Nat) (a0 : Name) (a1 : Int) : runF envX (tabC (laws_szName.C k)) (tabL 33 0 (fun _ => none)) Tryz.f55 [.t .name a0, .t (.int .i64) a1] (viewR1 (.t (.int .i64))) = laws_szName.F k a0 a1 := by kernel_rfl
theorem laws_szName.G (hE : EnvOk Tryz.prog envX) (pv : Nat → Value) (k : Nat) : ∀ cal A, laws_szName.C k cal = some A → ArmOk Tryz.prog envX pv cal A := by
  intro cal A h
  unfold laws_szName.C at h
  split at h
  · cases h; exact fun x y hy => laws_szStringS.good hE pv k x.1 x.2.1 hy
  · cases h
theorem laws_szName.good (hE : EnvOk Tryz.prog envX) (pv : Nat → Value) (k : Nat) (a0 : Name) (a1 : Int) {y : _} (h : laws_szName.F k a0 a1 = some y) : Meets Tryz.prog envX pv (.f 55) (tvals [.name, (.int .i64)] (a0, a1, ())) (.t (.int .i64) y) :=
  fun_plain hE (laws_szName.G hE pv k) (f := 55) (fn := Tryz.f55) (by kernel_rfl) rfl (by kernel_rfl) (by kernel_rfl) ((laws_szName.run k a0 a1).trans h) fun r hr => wk_view1 hr
def laws_szNameS.l0 : Nat → (List Name) → Int → Int → Option (Sum Int Int)
  | 0, _, _, _ => none
  | k + 1, x0, x1, x5 => bif (decide (x5 < (x0.length : Int))) then (bif decide (0 ≤ x5) then (bif decide (x5 < (x0.length : Int)) then ((laws_szName.F k (x0.getD (x5 : Int).toNat (dflt .name)) x1).bind fun r1 => bif (decide (r1 < 0)) then (some (.inl (-1))) else (laws_szNameS.l0 k x0 r1 (IntKind.wrap .i64 (x5 + 1)))) else none) else none) else (some (.inr x1))
def laws_szNameS.F (k : Nat) (a0 : List Name) (a1 : Int) : Option (Int) := bif (decide ((IntKind.wrap .i64 (a1 - (a0.length : Int))) < 0)) then (some (-1)) else ((laws_szNameS.l0 k a0 (IntKind.wrap .i64 (a1 - (a0.length : Int))) 0).bind fun y2 => match y2 with | .inl z3 => some z3 | .inr z3 => some z3)
def laws_szNameS.C (k : Nat) : Cal → Option CArm := fun c => match c with
  | .f 55 => some (.p [.name, (.int .i64)] _ (fun x => laws_szName.F k x.1 x.2.1) (fun r => (.t (.int .i64) r)))
  | _ => none
def laws_szNameS.sp0 : List Sp := [.t 0 (.sl .name), .t 1 (.int .i64), .t 5 (.int .i64)]
def laws_szNameS.sp0_0 : List Sp := [.t 4 (.int .i64)]
def laws_szNameS.sp0_1 : List Sp := [.t 1 (.int .i64)]
def laws_szNameS.A0 : LArm := .two laws_szNameS.sp0 laws_szNameS.sp0_0 laws_szNameS.sp0_1 (Int) (Int) (fun k x => laws_szNameS.l0 k x.1 x.2.1 x.2.2.1) .ret (.exit 0) (fun y => (y, ())) (fun x => x.1) (fun y => (y, ())) (fun x => x.1)
def laws_szNameS.L : Nat → Option LArm := fun b => match b with
  | 0 => some laws_szNameS.A0
  | _ => none
theorem laws_szNameS.run (k : Nat) (a0 : List Name) (a1 : Int) : runF envX (tabC (laws_szNameS.C k)) (tabL 27 k laws_szNameS.L) Tryz.f39 [.t (.sl .name) a0, .t (.int .i64) a1] (viewR1 (.t (.int .i64))) = laws_szNameS.F k a0 a1 := by kernel_rfl
theorem laws_szNameS.step0 (k : Nat) (x0 : List Name) (x1 : Int) (x5 : Int) : runC envX (tabC (laws_szNameS.C k)) (tabL 27 k laws_szNameS.L) 0 (loopAt Tryz.f39 0) (stOf 27 laws_szNameS.sp0 (x0, x1, x5, ())) (laws_szNameS.A0.cont 27 k) = laws_szNameS.l0 (k + 1) x0 x1 x5 := by kernel_rfl
theorem laws_szNameS.G (hE : EnvOk Tryz.prog envX) (pv : Nat → Value) (k : Nat) : ∀ cal A, laws_szNameS.C k cal = some A → ArmOk Tryz.prog envX pv cal A := by
  intro cal A h
  unfold laws_szNameS.C at h
  split at h
  · cases h; exact fun x y hy => laws_szName.good hE pv k x.1 x.2.1 hy
  · cases h
theorem laws_szNameS.good (hE : EnvOk Tryz.prog envX) (pv : Nat → Value) (k : Nat) (a0 : List Name) (a1 : Int) {y : _} (h : laws_szNameS.F k a0 a1 = some y) : Meets Tryz.prog envX pv (.f 39) (tvals [(.sl .name), (.int .i64)] (a0, a1, ())) (.t (.int .i64) y) :=
  fun_loops hE (t := laws_szNameS.C) k (fun k _ => laws_szNameS.G hE pv k) (f := 39) (fn := Tryz.f39) (by kernel_rfl) rfl (by kernel_rfl) (by kernel_rfl) (lt := laws_szNameS.L) (by kernel_rfl) (fun b A h => by
    unfold laws_szNameS.L at h; split at h
    · cases h; exact ⟨by kernel_rfl, by kernel_rfl, by kernel_rfl, fun _ => rfl, fun _ => rfl, fun _ => rfl⟩
    · cases h) (fun b A h => by
    unfold laws_szNameS.L at h; split at h
    · cases h; exact fun k x => laws_szNameS.step0 k x.1 x.2.1 x.2.2.1
    · cases h) ((laws_szNameS.run k a0 a1).trans h) fun r hr => wk_view1 hr
def laws_szEntry.F (k : Nat) (a0 : Entry) (a1 : Int) : Option (Int) := bif (decide ((IntKind.wrap .i64 (a1 - (a0.key.size : Int))) < 0)) then (some (-1)) else ((laws_szNameS.F k a0.authors (IntKind.wrap .i64 (a1 - (a0.key.size : Int)))).bind fun r1 => bif (decide (r1 < 0)) then (some (-1)) else ((laws_szNameS.F k a0.editors r1).bind fun r2 => bif (decide (r2 < 0)) then (some (-1)) else (bif (decide ((IntKind.wrap .i64 (r2 - (a0.title.size : Int))) < 0)) then (some (-1)) else (bif (decide ((IntKind.wrap .i64 ((IntKind.wrap .i64 (r2 - (a0.title.size : Int))) - (a0.container.size : Int))) < 0)) then (some (-1)) else (bif (decide ((IntKind.wrap .i64 ((IntKind.wrap .i64 ((IntKind.wrap .i64 (r2 - (a0.title.size : Int))) - (a0.container.size : Int))) - (a0.publisher.size : Int))) < 0)) then (some (-1)) else (bif (decide ((IntKind.wrap .i64 ((IntKind.wrap .i64 ((IntKind.wrap .i64 ((IntKind.wrap .i64 (r2 - (a0.title.size : Int))) - (a0.container.size : Int))) - (a0.publisher.size : Int))) - (a0.pages.size : Int))) < 0)) then (some (-1)) else (bif (decide ((IntKind.wrap .i64 ((IntKind.wrap .i64 ((IntKind.wrap .i64 ((IntKind.wrap .i64 ((IntKind.wrap .i64 (r2 - (a0.title.size : Int))) - (a0.container.size : Int))) - (a0.publisher.size : Int))) - (a0.pages.size : Int))) - (a0.cross.size : Int))) < 0)) then (some (-1)) else (some (IntKind.wrap .i64 ((IntKind.wrap .i64 ((IntKind.wrap .i64 ((IntKind.wrap .i64 ((IntKind.wrap .i64 (r2 - (a0.title.size : Int))) - (a0.container.size : Int))) - (a0.publisher.size : Int))) - (a0.pages.size : Int))) - (a0.cross.size : Int)))))))))))
def laws_szEntry.C (k : Nat) : Cal → Option CArm := fun c => match c with
  | .f 39 => some (.p [(.sl .name), (.int .i64)] _ (fun x => laws_szNameS.F k x.1 x.2.1) (fun r => (.t (.int .i64) r)))
  | _ => none
theorem laws_szEntry.run (k : Nat) (a0 : Entry) (a1 : Int) : runF envX (tabC (laws_szEntry.C k)) (tabL 60 0 (fun _ => none)) Tryz.f24 [.t .entry a0, .t (.int .i64) a1] (viewR1 (.t (.int .i64))) = laws_szEntry.F k a0 a1 := by kernel_rfl
theorem laws_szEntry.G (hE : EnvOk Tryz.prog envX) (pv : Nat → Value) (k : Nat) : ∀ cal A, laws_szEntry.C k cal = some A → ArmOk Tryz.prog envX pv cal A := by
  intro cal A h
  unfold laws_szEntry.C at h
  split at h
  · cases h; exact fun x y hy => laws_szNameS.good hE pv k x.1 x.2.1 hy
  · cases h
theorem laws_szEntry.good (hE : EnvOk Tryz.prog envX) (pv : Nat → Value) (k : Nat) (a0 : Entry) (a1 : Int) {y : _} (h : laws_szEntry.F k a0 a1 = some y) : Meets Tryz.prog envX pv (.f 24) (tvals [.entry, (.int .i64)] (a0, a1, ())) (.t (.int .i64) y) :=
  fun_plain hE (laws_szEntry.G hE pv k) (f := 24) (fn := Tryz.f24) (by kernel_rfl) rfl (by kernel_rfl) (by kernel_rfl) ((laws_szEntry.run k a0 a1).trans h) fun r hr => wk_view1 hr
def laws_szEntryS.l0 : Nat → (List Entry) → Int → Int → Option (Sum Int Int)
  | 0, _, _, _ => none
  | k + 1, x0, x1, x5 => bif (decide (x5 < (x0.length : Int))) then (bif decide (0 ≤ x5) then (bif decide (x5 < (x0.length : Int)) then ((laws_szEntry.F k (x0.getD (x5 : Int).toNat (dflt .entry)) x1).bind fun r1 => bif (decide (r1 < 0)) then (some (.inl (-1))) else (laws_szEntryS.l0 k x0 r1 (IntKind.wrap .i64 (x5 + 1)))) else none) else none) else (some (.inr x1))
def laws_szEntryS.F (k : Nat) (a0 : List Entry) (a1 : Int) : Option (Int) := bif (decide ((IntKind.wrap .i64 (a1 - (a0.length : Int))) < 0)) then (some (-1)) else ((laws_szEntryS.l0 k a0 (IntKind.wrap .i64 (a1 - (a0.length : Int))) 0).bind fun y2 => match y2 with | .inl z3 => some z3 | .inr z3 => some z3)
def laws_szEntryS.C (k : Nat) : Cal → Option CArm := fun c => match c with
  | .f 24 => some (.p [.entry, (.int .i64)] _ (fun x => laws_szEntry.F k x.1 x.2.1) (fun r => (.t (.int .i64) r)))
  | _ => none
def laws_szEntryS.sp0 : List Sp := [.t 0 (.sl .entry), .t 1 (.int .i64), .t 5 (.int .i64)]
def laws_szEntryS.sp0_0 : List Sp := [.t 4 (.int .i64)]
def laws_szEntryS.sp0_1 : List Sp := [.t 1 (.int .i64)]
def laws_szEntryS.A0 : LArm := .two laws_szEntryS.sp0 laws_szEntryS.sp0_0 laws_szEntryS.sp0_1 (Int) (Int) (fun k x => laws_szEntryS.l0 k x.1 x.2.1 x.2.2.1) .ret (.exit 0) (fun y => (y, ())) (fun x => x.1) (fun y => (y, ())) (fun x => x.1)
def laws_szEntryS.L : Nat → Option LArm := fun b => match b with
  | 0 => some laws_szEntryS.A0
  | _ => none
theorem laws_szEntryS.run (k : Nat) (a0 : List Entry) (a1 : Int) : runF envX (tabC (laws_szEntryS.C k)) (tabL 27 k laws_szEntryS.L) Tryz.f15 [.t (.sl .entry) a0, .t (.int .i64) a1] (viewR1 (.t (.int .i64))) = laws_szEntryS.F k a0 a1 := by kernel_rfl
theorem laws_szEntryS.step0 (k : Nat) (x0 : List Entry) (x1 : Int) (x5 : Int) : runC envX (tabC (laws_szEntryS.C k)) (tabL 27 k laws_szEntryS.L) 0 (loopAt Tryz.f15 0) (stOf 27 laws_szEntryS.sp0 (x0, x1, x5, ())) (laws_szEntryS.A0.cont 27 k) = laws_szEntryS.l0 (k + 1) x0 x1 x5 := by kernel_rfl
theorem laws_szEntryS.G (hE : EnvOk Tryz.prog envX) (pv : Nat → Value) (k : Nat) : ∀ cal A, laws_szEntryS.C k cal = some A → ArmOk Tryz.prog envX pv cal A := by
  intro cal A h
  unfold laws_szEntryS.C at h
  split at h
  · cases h; exact fun x y hy => laws_szEntry.good hE pv k x.1 x.2.1 hy
  · cases h
theorem laws_szEntryS.good (hE : EnvOk Tryz.prog envX) (pv : Nat → Value) (k : Nat) (a0 : List Entry) (a1 : Int) {y : _} (h : laws_szEntryS.F k a0 a1 = some y) : Meets Tryz.prog envX pv (.f 15) (tvals [(.sl .entry), (.int .i64)] (a0, a1, ())) (.t (.int .i64) y) :=
  fun_loops hE (t := laws_szEntryS.C) k (fun k _ => laws_szEntryS.G hE pv k) (f := 15) (fn := Tryz.f15) (by kernel_rfl) rfl (by kernel_rfl) (by kernel_rfl) (lt := laws_szEntryS.L) (by kernel_rfl) (fun b A h => by
    unfold laws_szEntryS.L at h; split at h
    · cases h; exact ⟨by kernel_rfl, by kernel_rfl, by kernel_rfl, fun _ => rfl, fun _ => rfl, fun _ => rfl⟩
    · cases h) (fun b A h => by
    unfold laws_szEntryS.L at h; split at h
    · cases h; exact fun k x => laws_szEntryS.step0 k x.1 x.2.1 x.2.2.1
    · cases h) ((laws_szEntryS.run k a0 a1).trans h) fun r hr => wk_view1 hr
def laws_szLibrary.F (k : Nat) (a0 : Library) (a1 : Int) : Option (Int) := (laws_szEntryS.F k a0.entries a1).bind fun r1 => bif (decide (r1 < 0)) then (some (-1)) else (some r1)
def laws_szLibrary.C (k : Nat) : Cal → Option CArm := fun c => match c with
  | .f 15 => some (.p [(.sl .entry), (.int .i64)] _ (fun x => laws_szEntryS.F k x.1 x.2.1) (fun r => (.t (.int .i64) r)))
  | _ => none
theorem laws_szLibrary.run (k : Nat) (a0 : Library) (a1 : Int) : runF envX (tabC (laws_szLibrary.C k)) (tabL 12 0 (fun _ => none)) Tryz.f4 [.t .lib a0, .t (.int .i64) a1] (viewR1 (.t (.int .i64))) = laws_szLibrary.F k a0 a1 := by kernel_rfl
theorem laws_szLibrary.G (hE : EnvOk Tryz.prog envX) (pv : Nat → Value) (k : Nat) : ∀ cal A, laws_szLibrary.C k cal = some A → ArmOk Tryz.prog envX pv cal A := by
  intro cal A h
  unfold laws_szLibrary.C at h
  split at h
  · cases h; exact fun x y hy => laws_szEntryS.good hE pv k x.1 x.2.1 hy
  · cases h
theorem laws_szLibrary.good (hE : EnvOk Tryz.prog envX) (pv : Nat → Value) (k : Nat) (a0 : Library) (a1 : Int) {y : _} (h : laws_szLibrary.F k a0 a1 = some y) : Meets Tryz.prog envX pv (.f 4) (tvals [.lib, (.int .i64)] (a0, a1, ())) (.t (.int .i64) y) :=
  fun_plain hE (laws_szLibrary.G hE pv k) (f := 4) (fn := Tryz.f4) (by kernel_rfl) rfl (by kernel_rfl) (by kernel_rfl) ((laws_szLibrary.run k a0 a1).trans h) fun r hr => wk_view1 hr
def spec_l1In.F (a0 : Int) (a1 : Int) (a2 : Int) : Option (Bool) := bif (decide (a0 ≥ a1)) then (some (decide (a0 ≤ a2))) else (some false)
def spec_l1In.C : Cal → Option CArm := fun c => match c with
  | _ => none
theorem spec_l1In.run (a0 : Int) (a1 : Int) (a2 : Int) : runF envX (tabC spec_l1In.C) (tabL 15 0 (fun _ => none)) Tryz.f26 [.t (.int .i64) a0, .t (.int .i64) a1, .t (.int .i64) a2] (viewR1 (.t .bool)) = spec_l1In.F a0 a1 a2 := by kernel_rfl
theorem spec_l1In.G (hE : EnvOk Tryz.prog envX) (pv : Nat → Value) : ∀ cal A, spec_l1In.C cal = some A → ArmOk Tryz.prog envX pv cal A := by
  intro cal A h
  unfold spec_l1In.C at h
  cases h
theorem spec_l1In.good (hE : EnvOk Tryz.prog envX) (pv : Nat → Value) (a0 : Int) (a1 : Int) (a2 : Int) {y : _} (h : spec_l1In.F a0 a1 a2 = some y) : Meets Tryz.prog envX pv (.f 26) (tvals [(.int .i64), (.int .i64), (.int .i64)] (a0, a1, a2, ())) (.t .bool y) :=
  fun_plain hE (spec_l1In.G hE pv) (f := 26) (fn := Tryz.f26) (by kernel_rfl) rfl (by kernel_rfl) (by kernel_rfl) ((spec_l1In.run a0 a1 a2).trans h) fun r hr => wk_view1 hr
def spec_l2Lower.F (a0 : Int) : Option (Bool) := bif (decide (a0 ≥ 97)) then (some (decide (a0 ≤ 122))) else (some false)
def spec_l2Lower.C : Cal → Option CArm := fun c => match c with
  | _ => none
theorem spec_l2Lower.run (a0 : Int) : runF envX (tabC spec_l2Lower.C) (tabL 9 0 (fun _ => none)) Tryz.f110 [.t (.int .u8) a0] (viewR1 (.t .bool)) = spec_l2Lower.F a0 := by kernel_rfl
theorem spec_l2Lower.G (hE : EnvOk Tryz.prog envX) (pv : Nat → Value) : ∀ cal A, spec_l2Lower.C cal = some A → ArmOk Tryz.prog envX pv cal A := by
  intro cal A h
  unfold spec_l2Lower.C at h
  cases h
theorem spec_l2Lower.good (hE : EnvOk Tryz.prog envX) (pv : Nat → Value) (a0 : Int) {y : _} (h : spec_l2Lower.F a0 = some y) : Meets Tryz.prog envX pv (.f 110) (tvals [(.int .u8)] (a0, ())) (.t .bool y) :=
  fun_plain hE (spec_l2Lower.G hE pv) (f := 110) (fn := Tryz.f110) (by kernel_rfl) rfl (by kernel_rfl) (by kernel_rfl) ((spec_l2Lower.run a0).trans h) fun r hr => wk_view1 hr
def spec_l4Key.l0 : Nat → ByteArray → Int → Option (Sum Bool Unit)
  | 0, _, _ => none
  | k + 1, x0, x3 => bif (decide (x3 < (x0.size : Int))) then (bif decide (0 ≤ x3) then (bif decide (x3 < (x0.size : Int)) then ((spec_l2Lower.F (bt x0 (x3 : Int).toNat)).bind fun r3 => bif (!r3) then (bif decide (0 ≤ x3) then (bif decide (x3 < (x0.size : Int)) then (bif (decide ((bt x0 (x3 : Int).toNat) < 48)) then (some (.inl false)) else (bif decide (0 ≤ x3) then (bif decide (x3 < (x0.size : Int)) then (bif (decide ((bt x0 (x3 : Int).toNat) > 57)) then (some (.inl false)) else (spec_l4Key.l0 k x0 (IntKind.wrap .i64 (x3 + 1)))) else none) else none)) else none) else none) else (spec_l4Key.l0 k x0 (IntKind.wrap .i64 (x3 + 1)))) else none) else none) else (some (.inr ()))
def spec_l4Key.F (k : Nat) (a0 : ByteArray) : Option (Bool) := (spec_l1In.F (a0.size : Int) 1 10).bind fun r1 => bif (!r1) then (some false) else (bif decide (0 ≤ 0) then (bif decide (0 < (a0.size : Int)) then ((spec_l2Lower.F (bt a0 (0 : Int).toNat)).bind fun r2 => bif (!r2) then (some false) else ((spec_l4Key.l0 k a0 0).bind fun y4 => match y4 with | .inl z5 => some z5 | .inr z5 => some true)) else none) else none)
def spec_l4Key.C (k : Nat) : Cal → Option CArm := fun c => match c with
  | .f 26 => some (.p [(.int .i64), (.int .i64), (.int .i64)] _ (fun x => spec_l1In.F x.1 x.2.1 x.2.2.1) (fun r => (.t .bool r)))
  | .f 110 => some (.p [(.int .u8)] _ (fun x => spec_l2Lower.F x.1) (fun r => (.t .bool r)))
  | _ => none
def spec_l4Key.sp0 : List Sp := [.t 0 .str, .t 3 (.int .i64)]
def spec_l4Key.sp0_0 : List Sp := [.t 2 .bool]
def spec_l4Key.sp0_1 : List Sp := []
def spec_l4Key.A0 : LArm := .two spec_l4Key.sp0 spec_l4Key.sp0_0 spec_l4Key.sp0_1 (Bool) (Unit) (fun k x => spec_l4Key.l0 k x.1 x.2.1) .ret (.exit 0) (fun y => (y, ())) (fun x => x.1) (fun y => ()) (fun x => ())
def spec_l4Key.L : Nat → Option LArm := fun b => match b with
  | 0 => some spec_l4Key.A0
  | _ => none
theorem spec_l4Key.run (k : Nat) (a0 : ByteArray) : runF envX (tabC (spec_l4Key.C k)) (tabL 37 k spec_l4Key.L) Tryz.f81 [.t .str a0] (viewR1 (.t .bool)) = spec_l4Key.F k a0 := by kernel_rfl
theorem spec_l4Key.step0 (k : Nat) (x0 : ByteArray) (x3 : Int) : runC envX (tabC (spec_l4Key.C k)) (tabL 37 k spec_l4Key.L) 0 (loopAt Tryz.f81 0) (stOf 37 spec_l4Key.sp0 (x0, x3, ())) (spec_l4Key.A0.cont 37 k) = spec_l4Key.l0 (k + 1) x0 x3 := by kernel_rfl
theorem spec_l4Key.G (hE : EnvOk Tryz.prog envX) (pv : Nat → Value) (k : Nat) : ∀ cal A, spec_l4Key.C k cal = some A → ArmOk Tryz.prog envX pv cal A := by
  intro cal A h
  unfold spec_l4Key.C at h
  split at h
  · cases h; exact fun x y hy => spec_l1In.good hE pv x.1 x.2.1 x.2.2.1 hy
  · cases h; exact fun x y hy => spec_l2Lower.good hE pv x.1 hy
  · cases h
theorem spec_l4Key.good (hE : EnvOk Tryz.prog envX) (pv : Nat → Value) (k : Nat) (a0 : ByteArray) {y : _} (h : spec_l4Key.F k a0 = some y) : Meets Tryz.prog envX pv (.f 81) (tvals [.str] (a0, ())) (.t .bool y) :=
  fun_loops hE (t := spec_l4Key.C) k (fun k _ => spec_l4Key.G hE pv k) (f := 81) (fn := Tryz.f81) (by kernel_rfl) rfl (by kernel_rfl) (by kernel_rfl) (lt := spec_l4Key.L) (by kernel_rfl) (fun b A h => by
    unfold spec_l4Key.L at h; split at h
    · cases h; exact ⟨by kernel_rfl, by kernel_rfl, by kernel_rfl, fun _ => rfl, fun _ => rfl, fun _ => rfl⟩
    · cases h) (fun b A h => by
    unfold spec_l4Key.L at h; split at h
    · cases h; exact fun k x => spec_l4Key.step0 k x.1 x.2.1
    · cases h) ((spec_l4Key.run k a0).trans h) fun r hr => wk_view1 hr
def spec_l2Upper.F (a0 : Int) : Option (Bool) := bif (decide (a0 ≥ 65)) then (some (decide (a0 ≤ 90))) else (some false)
def spec_l2Upper.C : Cal → Option CArm := fun c => match c with
  | _ => none
theorem spec_l2Upper.run (a0 : Int) : runF envX (tabC spec_l2Upper.C) (tabL 9 0 (fun _ => none)) Tryz.f116 [.t (.int .u8) a0] (viewR1 (.t .bool)) = spec_l2Upper.F a0 := by kernel_rfl
theorem spec_l2Upper.G (hE : EnvOk Tryz.prog envX) (pv : Nat → Value) : ∀ cal A, spec_l2Upper.C cal = some A → ArmOk Tryz.prog envX pv cal A := by
  intro cal A h
  unfold spec_l2Upper.C at h
  cases h
theorem spec_l2Upper.good (hE : EnvOk Tryz.prog envX) (pv : Nat → Value) (a0 : Int) {y : _} (h : spec_l2Upper.F a0 = some y) : Meets Tryz.prog envX pv (.f 116) (tvals [(.int .u8)] (a0, ())) (.t .bool y) :=
  fun_plain hE (spec_l2Upper.G hE pv) (f := 116) (fn := Tryz.f116) (by kernel_rfl) rfl (by kernel_rfl) (by kernel_rfl) ((spec_l2Upper.run a0).trans h) fun r hr => wk_view1 hr
def spec_l2Letter.F (a0 : Int) : Option (Bool) := (spec_l2Upper.F a0).bind fun r1 => bif r1 then (some true) else ((spec_l2Lower.F a0).bind fun r2 => some r2)
def spec_l2Letter.C : Cal → Option CArm := fun c => match c with
  | .f 116 => some (.p [(.int .u8)] _ (fun x => spec_l2Upper.F x.1) (fun r => (.t .bool r)))
  | .f 110 => some (.p [(.int .u8)] _ (fun x => spec_l2Lower.F x.1) (fun r => (.t .bool r)))
  | _ => none
theorem spec_l2Letter.run (a0 : Int) : runF envX (tabC spec_l2Letter.C) (tabL 9 0 (fun _ => none)) Tryz.f152 [.t (.int .u8) a0] (viewR1 (.t .bool)) = spec_l2Letter.F a0 := by kernel_rfl
theorem spec_l2Letter.G (hE : EnvOk Tryz.prog envX) (pv : Nat → Value) : ∀ cal A, spec_l2Letter.C cal = some A → ArmOk Tryz.prog envX pv cal A := by
  intro cal A h
  unfold spec_l2Letter.C at h
  split at h
  · cases h; exact fun x y hy => spec_l2Upper.good hE pv x.1 hy
  · cases h; exact fun x y hy => spec_l2Lower.good hE pv x.1 hy
  · cases h
theorem spec_l2Letter.good (hE : EnvOk Tryz.prog envX) (pv : Nat → Value) (a0 : Int) {y : _} (h : spec_l2Letter.F a0 = some y) : Meets Tryz.prog envX pv (.f 152) (tvals [(.int .u8)] (a0, ())) (.t .bool y) :=
  fun_plain hE (spec_l2Letter.G hE pv) (f := 152) (fn := Tryz.f152) (by kernel_rfl) rfl (by kernel_rfl) (by kernel_rfl) ((spec_l2Letter.run a0).trans h) fun r hr => wk_view1 hr
def spec_l2Word.l0 : Nat → ByteArray → Int → Option (Sum Bool Unit)
  | 0, _, _ => none
  | k + 1, x0, x3 => bif (decide (x3 < (x0.size : Int))) then (bif decide (0 ≤ x3) then (bif decide (x3 < (x0.size : Int)) then ((spec_l2Letter.F (bt x0 (x3 : Int).toNat)).bind fun r4 => bif (!r4) then (bif decide (0 ≤ x3) then (bif decide (x3 < (x0.size : Int)) then (bif ((bt x0 (x3 : Int).toNat) != 45) then (bif decide (0 ≤ x3) then (bif decide (x3 < (x0.size : Int)) then (bif ((bt x0 (x3 : Int).toNat) != 39) then (some (.inl false)) else (bif decide (0 ≤ (IntKind.wrap .i64 (x3 - 1))) then (bif decide ((IntKind.wrap .i64 (x3 - 1)) < (x0.size : Int)) then ((spec_l2Letter.F (bt x0 ((IntKind.wrap .i64 (x3 - 1)) : Int).toNat)).bind fun r5 => bif (!r5) then (some (.inl false)) else (spec_l2Word.l0 k x0 (IntKind.wrap .i64 (x3 + 1)))) else none) else none)) else none) else none) else (bif decide (0 ≤ (IntKind.wrap .i64 (x3 - 1))) then (bif decide ((IntKind.wrap .i64 (x3 - 1)) < (x0.size : Int)) then ((spec_l2Letter.F (bt x0 ((IntKind.wrap .i64 (x3 - 1)) : Int).toNat)).bind fun r6 => bif (!r6) then (some (.inl false)) else (spec_l2Word.l0 k x0 (IntKind.wrap .i64 (x3 + 1)))) else none) else none)) else none) else none) else (spec_l2Word.l0 k x0 (IntKind.wrap .i64 (x3 + 1)))) else none) else none) else (some (.inr ()))
def spec_l2Word.F (k : Nat) (a0 : ByteArray) : Option (Bool) := (spec_l1In.F (a0.size : Int) 1 12).bind fun r1 => bif (!r1) then (some false) else (bif decide (0 ≤ 0) then (bif decide (0 < (a0.size : Int)) then ((spec_l2Letter.F (bt a0 (0 : Int).toNat)).bind fun r2 => bif (!r2) then (some false) else (bif decide (0 ≤ (IntKind.wrap .i64 ((a0.size : Int) - 1))) then (bif decide ((IntKind.wrap .i64 ((a0.size : Int) - 1)) < (a0.size : Int)) then ((spec_l2Letter.F (bt a0 ((IntKind.wrap .i64 ((a0.size : Int) - 1)) : Int).toNat)).bind fun r3 => bif (!r3) then (some false) else ((spec_l2Word.l0 k a0 1).bind fun y7 => match y7 with | .inl z8 => some z8 | .inr z8 => some true)) else none) else none)) else none) else none)
def spec_l2Word.C (k : Nat) : Cal → Option CArm := fun c => match c with
  | .f 26 => some (.p [(.int .i64), (.int .i64), (.int .i64)] _ (fun x => spec_l1In.F x.1 x.2.1 x.2.2.1) (fun r => (.t .bool r)))
  | .f 152 => some (.p [(.int .u8)] _ (fun x => spec_l2Letter.F x.1) (fun r => (.t .bool r)))
  | _ => none
def spec_l2Word.sp0 : List Sp := [.t 0 .str, .t 3 (.int .i64)]
def spec_l2Word.sp0_0 : List Sp := [.t 2 .bool]
def spec_l2Word.sp0_1 : List Sp := []
def spec_l2Word.A0 : LArm := .two spec_l2Word.sp0 spec_l2Word.sp0_0 spec_l2Word.sp0_1 (Bool) (Unit) (fun k x => spec_l2Word.l0 k x.1 x.2.1) .ret (.exit 0) (fun y => (y, ())) (fun x => x.1) (fun y => ()) (fun x => ())
def spec_l2Word.L : Nat → Option LArm := fun b => match b with
  | 0 => some spec_l2Word.A0
  | _ => none
theorem spec_l2Word.run (k : Nat) (a0 : ByteArray) : runF envX (tabC (spec_l2Word.C k)) (tabL 54 k spec_l2Word.L) Tryz.f135 [.t .str a0] (viewR1 (.t .bool)) = spec_l2Word.F k a0 := by kernel_rfl
theorem spec_l2Word.step0 (k : Nat) (x0 : ByteArray) (x3 : Int) : runC envX (tabC (spec_l2Word.C k)) (tabL 54 k spec_l2Word.L) 0 (loopAt Tryz.f135 0) (stOf 54 spec_l2Word.sp0 (x0, x3, ())) (spec_l2Word.A0.cont 54 k) = spec_l2Word.l0 (k + 1) x0 x3 := by kernel_rfl
theorem spec_l2Word.G (hE : EnvOk Tryz.prog envX) (pv : Nat → Value) (k : Nat) : ∀ cal A, spec_l2Word.C k cal = some A → ArmOk Tryz.prog envX pv cal A := by
  intro cal A h
  unfold spec_l2Word.C at h
  split at h
  · cases h; exact fun x y hy => spec_l1In.good hE pv x.1 x.2.1 x.2.2.1 hy
  · cases h; exact fun x y hy => spec_l2Letter.good hE pv x.1 hy
  · cases h
theorem spec_l2Word.good (hE : EnvOk Tryz.prog envX) (pv : Nat → Value) (k : Nat) (a0 : ByteArray) {y : _} (h : spec_l2Word.F k a0 = some y) : Meets Tryz.prog envX pv (.f 135) (tvals [.str] (a0, ())) (.t .bool y) :=
  fun_loops hE (t := spec_l2Word.C) k (fun k _ => spec_l2Word.G hE pv k) (f := 135) (fn := Tryz.f135) (by kernel_rfl) rfl (by kernel_rfl) (by kernel_rfl) (lt := spec_l2Word.L) (by kernel_rfl) (fun b A h => by
    unfold spec_l2Word.L at h; split at h
    · cases h; exact ⟨by kernel_rfl, by kernel_rfl, by kernel_rfl, fun _ => rfl, fun _ => rfl, fun _ => rfl⟩
    · cases h) (fun b A h => by
    unfold spec_l2Word.L at h; split at h
    · cases h; exact fun k x => spec_l2Word.step0 k x.1 x.2.1
    · cases h) ((spec_l2Word.run k a0).trans h) fun r hr => wk_view1 hr
def spec_l1Split.l0 : Nat → ByteArray → Int → (List ByteArray) → Int → Int → Option (ByteArray × (List ByteArray) × Int)
  | 0, _, _, _, _, _ => none
  | k + 1, x0, x1, x5, x6, x7 => bif (decide (x7 < (x0.size : Int))) then (bif decide (0 ≤ x7) then (bif decide (x7 < (x0.size : Int)) then (bif ((bt x0 (x7 : Int).toNat) == x1) then (bif decide (0 ≤ x7) then (bif decide (x7 ≤ (x0.size : Int)) then (bif decide (0 ≤ x6) then (bif decide (x6 ≤ x7) then (bif room (x5.length + ([(x0.extract (x6 : Int).toNat (x7 : Int).toNat)] : List ByteArray).length) .str then (spec_l1Split.l0 k x0 x1 (x5 ++ ([(x0.extract (x6 : Int).toNat (x7 : Int).toNat)] : List ByteArray)) (IntKind.wrap .i64 (x7 + 1)) (IntKind.wrap .i64 (x7 + 1))) else none) else none) else none) else none) else none) else (spec_l1Split.l0 k x0 x1 x5 x6 (IntKind.wrap .i64 (x7 + 1)))) else none) else none) else (some (x0, x5, x6))
def spec_l1Split.F (k : Nat) (a0 : ByteArray) (a1 : Int) : Option (List ByteArray) := (spec_l1Split.l0 k a0 a1 ([] : List ByteArray) 0 0).bind fun y1 => bif decide (0 ≤ y1.2.2) then (bif decide (y1.2.2 ≤ (y1.1.size : Int)) then (bif room (y1.2.1.length + ([(y1.1.extract (y1.2.2 : Int).toNat y1.1.size)] : List ByteArray).length) .str then (some (y1.2.1 ++ ([(y1.1.extract (y1.2.2 : Int).toNat y1.1.size)] : List ByteArray))) else none) else none) else none
def spec_l1Split.C (k : Nat) : Cal → Option CArm := fun c => match c with
  | _ => none
def spec_l1Split.sp0 : List Sp := [.t 0 .str, .t 1 (.int .u8), .own 5 1024 9 .str false true, .t 6 (.int .i64), .t 7 (.int .i64)]
def spec_l1Split.sp0_0 : List Sp := [.t 0 .str, .own 5 1024 9 .str false true, .t 6 (.int .i64)]
def spec_l1Split.A0 : LArm := .one spec_l1Split.sp0 spec_l1Split.sp0_0 (ByteArray × (List ByteArray) × Int) (fun k x => spec_l1Split.l0 k x.1 x.2.1 x.2.2.1 x.2.2.2.1 x.2.2.2.2.1) (.exit 0) (fun y => (y.1, y.2.1, y.2.2, ())) (fun x => (x.1, x.2.1, x.2.2.1))
def spec_l1Split.L : Nat → Option LArm := fun b => match b with
  | 0 => some spec_l1Split.A0
  | _ => none
theorem spec_l1Split.run (k : Nat) (a0 : ByteArray) (a1 : Int) : runF envX (tabC (spec_l1Split.C k)) (tabL 35 k spec_l1Split.L) Tryz.f153 [.t .str a0, .t (.int .u8) a1] (viewR1 (.fr 9 .str)) = spec_l1Split.F k a0 a1 := by kernel_rfl
theorem spec_l1Split.step0 (k : Nat) (x0 : ByteArray) (x1 : Int) (x5 : List ByteArray) (x6 : Int) (x7 : Int) : runC envX (tabC (spec_l1Split.C k)) (tabL 35 k spec_l1Split.L) 0 (loopAt Tryz.f153 0) (stOf 35 spec_l1Split.sp0 (x0, x1, x5, x6, x7, ())) (spec_l1Split.A0.cont 35 k) = spec_l1Split.l0 (k + 1) x0 x1 x5 x6 x7 := by kernel_rfl
theorem spec_l1Split.G (hE : EnvOk Tryz.prog envX) (pv : Nat → Value) (k : Nat) : ∀ cal A, spec_l1Split.C k cal = some A → ArmOk Tryz.prog envX pv cal A := by
  intro cal A h
  unfold spec_l1Split.C at h
  cases h
theorem spec_l1Split.good (hE : EnvOk Tryz.prog envX) (pv : Nat → Value) (k : Nat) (a0 : ByteArray) (a1 : Int) {y : _} (h : spec_l1Split.F k a0 a1 = some y) : Meets Tryz.prog envX pv (.f 153) (tvals [.str, (.int .u8)] (a0, a1, ())) (.fr 9 .str y) :=
  fun_loops hE (t := spec_l1Split.C) k (fun k _ => spec_l1Split.G hE pv k) (f := 153) (fn := Tryz.f153) (by kernel_rfl) rfl (by kernel_rfl) (by kernel_rfl) (lt := spec_l1Split.L) (by kernel_rfl) (fun b A h => by
    unfold spec_l1Split.L at h; split at h
    · cases h; exact ⟨by kernel_rfl, by kernel_rfl, fun _ => rfl, fun _ => rfl⟩
    · cases h) (fun b A h => by
    unfold spec_l1Split.L at h; split at h
    · cases h; exact fun k x => spec_l1Split.step0 k x.1 x.2.1 x.2.2.1 x.2.2.2.1 x.2.2.2.2.1
    · cases h) ((spec_l1Split.run k a0 a1).trans h) fun r hr => wk_view1 hr
def spec_l2Particle.l2 : Nat → (List ByteArray) → Int → Int → Option (Sum Bool ((List ByteArray) × Int))
  | 0, _, _, _ => none
  | k + 1, x3, x4, x5 => bif decide (0 ≤ x4) then (bif decide (x4 < (x3.length : Int)) then (bif (decide (x5 < ((x3.getD ((x4 : Int).toNat) (⟨#[]⟩ : ByteArray)).size : Int))) then (bif decide (0 ≤ x4) then (bif decide (x4 < (x3.length : Int)) then (bif decide (0 ≤ x5) then (bif decide (x5 < ((x3.getD ((x4 : Int).toNat) (⟨#[]⟩ : ByteArray)).size : Int)) then ((spec_l2Lower.F (bt (x3.getD ((x4 : Int).toNat) (⟨#[]⟩ : ByteArray)) (x5 : Int).toNat)).bind fun r3 => bif (!r3) then (some (.inl false)) else (spec_l2Particle.l2 k x3 x4 (IntKind.wrap .i64 (x5 + 1)))) else none) else none) else none) else none) else (some (.inr (x3, x4)))) else none) else none
def spec_l2Particle.l0 : Nat → (List ByteArray) → Int → Option (Sum Bool (List ByteArray))
  | 0, _, _ => none
  | k + 1, x3, x4 => bif (decide (x4 < (x3.length : Int))) then (bif decide (0 ≤ x4) then (bif decide (x4 < (x3.length : Int)) then ((spec_l2Word.F k (x3.getD ((x4 : Int).toNat) (⟨#[]⟩ : ByteArray))).bind fun r2 => bif (!r2) then (some (.inl false)) else ((spec_l2Particle.l2 k x3 x4 0).bind fun y4 => match y4 with | .inl z5 => some (.inl z5) | .inr z5 => spec_l2Particle.l0 k z5.1 (IntKind.wrap .i64 (z5.2 + 1)))) else none) else none) else (some (.inr x3))
def spec_l2Particle.F (k : Nat) (a0 : ByteArray) : Option (Bool) := bif (beqS a0 (⟨#[]⟩ : ByteArray)) then (some true) else ((spec_l1Split.F k a0 32).bind fun r1 => (spec_l2Particle.l0 k r1 0).bind fun y6 => match y6 with | .inl z7 => some z7 | .inr z7 => some (decide ((z7.length : Int) ≤ 2)))
def spec_l2Particle.C (k : Nat) : Cal → Option CArm := fun c => match c with
  | .f 153 => some (.p [.str, (.int .u8)] _ (fun x => spec_l1Split.F k x.1 x.2.1) (fun r => (.fr 9 .str r)))
  | .f 135 => some (.p [.str] _ (fun x => spec_l2Word.F k x.1) (fun r => (.t .bool r)))
  | .f 110 => some (.p [(.int .u8)] _ (fun x => spec_l2Lower.F x.1) (fun r => (.t .bool r)))
  | _ => none
def spec_l2Particle.sp2 : List Sp := [.own 3 3076 9 .str false true, .t 4 (.int .i64), .t 5 (.int .i64)]
def spec_l2Particle.sp2_0 : List Sp := [.t 2 .bool]
def spec_l2Particle.sp2_1 : List Sp := [.own 3 3076 9 .str false true, .t 4 (.int .i64)]
def spec_l2Particle.A2 : LArm := .two spec_l2Particle.sp2 spec_l2Particle.sp2_0 spec_l2Particle.sp2_1 (Bool) ((List ByteArray) × Int) (fun k x => spec_l2Particle.l2 k x.1 x.2.1 x.2.2.1) .ret (.exit 2) (fun y => (y, ())) (fun x => x.1) (fun y => (y.1, y.2, ())) (fun x => (x.1, x.2.1))
def spec_l2Particle.sp0 : List Sp := [.own 3 3076 9 .str false true, .t 4 (.int .i64)]
def spec_l2Particle.sp0_0 : List Sp := [.t 2 .bool]
def spec_l2Particle.sp0_1 : List Sp := [.own 3 3076 9 .str false true]
def spec_l2Particle.A0 : LArm := .two spec_l2Particle.sp0 spec_l2Particle.sp0_0 spec_l2Particle.sp0_1 (Bool) ((List ByteArray)) (fun k x => spec_l2Particle.l0 k x.1 x.2.1) .ret (.exit 0) (fun y => (y, ())) (fun x => x.1) (fun y => (y, ())) (fun x => x.1)
def spec_l2Particle.L : Nat → Option LArm := fun b => match b with
  | 2 => some spec_l2Particle.A2
  | 0 => some spec_l2Particle.A0
  | _ => none
theorem spec_l2Particle.run (k : Nat) (a0 : ByteArray) : runF envX (tabC (spec_l2Particle.C k)) (tabL 42 k spec_l2Particle.L) Tryz.f136 [.t .str a0] (viewR1 (.t .bool)) = spec_l2Particle.F k a0 := by kernel_rfl
theorem spec_l2Particle.step2 (k : Nat) (x3 : List ByteArray) (x4 : Int) (x5 : Int) : runC envX (tabC (spec_l2Particle.C k)) (tabL 42 k spec_l2Particle.L) 2 (loopAt Tryz.f136 2) (stOf 42 spec_l2Particle.sp2 (x3, x4, x5, ())) (spec_l2Particle.A2.cont 42 k) = spec_l2Particle.l2 (k + 1) x3 x4 x5 := by kernel_rfl
theorem spec_l2Particle.step0 (k : Nat) (x3 : List ByteArray) (x4 : Int) : runC envX (tabC (spec_l2Particle.C k)) (tabL 42 k spec_l2Particle.L) 0 (loopAt Tryz.f136 0) (stOf 42 spec_l2Particle.sp0 (x3, x4, ())) (spec_l2Particle.A0.cont 42 k) = spec_l2Particle.l0 (k + 1) x3 x4 := by kernel_rfl
theorem spec_l2Particle.G (hE : EnvOk Tryz.prog envX) (pv : Nat → Value) (k : Nat) : ∀ cal A, spec_l2Particle.C k cal = some A → ArmOk Tryz.prog envX pv cal A := by
  intro cal A h
  unfold spec_l2Particle.C at h
  split at h
  · cases h; exact fun x y hy => spec_l1Split.good hE pv k x.1 x.2.1 hy
  · cases h; exact fun x y hy => spec_l2Word.good hE pv k x.1 hy
  · cases h; exact fun x y hy => spec_l2Lower.good hE pv x.1 hy
  · cases h
theorem spec_l2Particle.good (hE : EnvOk Tryz.prog envX) (pv : Nat → Value) (k : Nat) (a0 : ByteArray) {y : _} (h : spec_l2Particle.F k a0 = some y) : Meets Tryz.prog envX pv (.f 136) (tvals [.str] (a0, ())) (.t .bool y) :=
  fun_loops hE (t := spec_l2Particle.C) k (fun k _ => spec_l2Particle.G hE pv k) (f := 136) (fn := Tryz.f136) (by kernel_rfl) rfl (by kernel_rfl) (by kernel_rfl) (lt := spec_l2Particle.L) (by kernel_rfl) (fun b A h => by
    unfold spec_l2Particle.L at h; split at h
    · cases h; exact ⟨by kernel_rfl, by kernel_rfl, by kernel_rfl, fun _ => rfl, fun _ => rfl, fun _ => rfl⟩
    · cases h; exact ⟨by kernel_rfl, by kernel_rfl, by kernel_rfl, fun _ => rfl, fun _ => rfl, fun _ => rfl⟩
    · cases h) (fun b A h => by
    unfold spec_l2Particle.L at h; split at h
    · cases h; exact fun k x => spec_l2Particle.step2 k x.1 x.2.1 x.2.2.1
    · cases h; exact fun k x => spec_l2Particle.step0 k x.1 x.2.1
    · cases h) ((spec_l2Particle.run k a0).trans h) fun r hr => wk_view1 hr
def spec_l2Good.l0 : Nat → Name → Int → Option (Sum Bool Name)
  | 0, _, _ => none
  | k + 1, x1, x3 => bif (decide (x3 < (x1.given.length : Int))) then (bif decide (0 ≤ x3) then (bif decide (x3 < (x1.given.length : Int)) then ((spec_l2Word.F k (x1.given.getD (x3 : Int).toNat (⟨#[]⟩ : ByteArray))).bind fun r1 => bif (!r1) then (some (.inl false)) else (bif decide (0 ≤ x3) then (bif decide (x3 < (x1.given.length : Int)) then (bif decide (0 ≤ 0) then (bif decide (0 < ((x1.given.getD (x3 : Int).toNat (⟨#[]⟩ : ByteArray)).size : Int)) then ((spec_l2Upper.F (bt (x1.given.getD (x3 : Int).toNat (⟨#[]⟩ : ByteArray)) (0 : Int).toNat)).bind fun r2 => bif (!r2) then (some (.inl false)) else (spec_l2Good.l0 k x1 (IntKind.wrap .i64 (x3 + 1)))) else none) else none) else none) else none)) else none) else none) else (some (.inr x1))
def spec_l2Good.F (k : Nat) (a0 : Name) : Option (Bool) := (spec_l2Good.l0 k a0 0).bind fun y3 => match y3 with | .inl z4 => some z4 | .inr z4 => bif (decide ((z4.given.length : Int) ≤ 3)) then ((spec_l2Particle.F k z4.particle).bind fun r5 => bif r5 then ((spec_l2Word.F k z4.family).bind fun r6 => bif r6 then (bif decide (0 ≤ 0) then (bif decide (0 < (z4.family.size : Int)) then ((spec_l2Upper.F (bt z4.family (0 : Int).toNat)).bind fun r7 => bif r7 then (bif (beqS z4.suffix (⟨#[]⟩ : ByteArray)) then (some true) else ((spec_l2Word.F k z4.suffix).bind fun r8 => some r8)) else (some false)) else none) else none) else (some false)) else (some false)) else (some false)
def spec_l2Good.C (k : Nat) : Cal → Option CArm := fun c => match c with
  | .f 135 => some (.p [.str] _ (fun x => spec_l2Word.F k x.1) (fun r => (.t .bool r)))
  | .f 116 => some (.p [(.int .u8)] _ (fun x => spec_l2Upper.F x.1) (fun r => (.t .bool r)))
  | .f 136 => some (.p [.str] _ (fun x => spec_l2Particle.F k x.1) (fun r => (.t .bool r)))
  | _ => none
def spec_l2Good.sp0 : List Sp := [.boxT 1 0 .name, .t 3 (.int .i64)]
def spec_l2Good.sp0_0 : List Sp := [.t 2 .bool]
def spec_l2Good.sp0_1 : List Sp := [.boxT 1 0 .name]
def spec_l2Good.A0 : LArm := .two spec_l2Good.sp0 spec_l2Good.sp0_0 spec_l2Good.sp0_1 (Bool) (Name) (fun k x => spec_l2Good.l0 k x.1 x.2.1) .ret (.exit 0) (fun y => (y, ())) (fun x => x.1) (fun y => (y, ())) (fun x => x.1)
def spec_l2Good.L : Nat → Option LArm := fun b => match b with
  | 0 => some spec_l2Good.A0
  | _ => none
theorem spec_l2Good.run (k : Nat) (a0 : Name) : runF envX (tabC (spec_l2Good.C k)) (tabL 58 k spec_l2Good.L) Tryz.f111 [.t .name a0] (viewR1 (.t .bool)) = spec_l2Good.F k a0 := by kernel_rfl
theorem spec_l2Good.step0 (k : Nat) (x1 : Name) (x3 : Int) : runC envX (tabC (spec_l2Good.C k)) (tabL 58 k spec_l2Good.L) 0 (loopAt Tryz.f111 0) (stOf 58 spec_l2Good.sp0 (x1, x3, ())) (spec_l2Good.A0.cont 58 k) = spec_l2Good.l0 (k + 1) x1 x3 := by kernel_rfl
theorem spec_l2Good.G (hE : EnvOk Tryz.prog envX) (pv : Nat → Value) (k : Nat) : ∀ cal A, spec_l2Good.C k cal = some A → ArmOk Tryz.prog envX pv cal A := by
  intro cal A h
  unfold spec_l2Good.C at h
  split at h
  · cases h; exact fun x y hy => spec_l2Word.good hE pv k x.1 hy
  · cases h; exact fun x y hy => spec_l2Upper.good hE pv x.1 hy
  · cases h; exact fun x y hy => spec_l2Particle.good hE pv k x.1 hy
  · cases h
theorem spec_l2Good.good (hE : EnvOk Tryz.prog envX) (pv : Nat → Value) (k : Nat) (a0 : Name) {y : _} (h : spec_l2Good.F k a0 = some y) : Meets Tryz.prog envX pv (.f 111) (tvals [.name] (a0, ())) (.t .bool y) :=
  fun_loops hE (t := spec_l2Good.C) k (fun k _ => spec_l2Good.G hE pv k) (f := 111) (fn := Tryz.f111) (by kernel_rfl) rfl (by kernel_rfl) (by kernel_rfl) (lt := spec_l2Good.L) (by kernel_rfl) (fun b A h => by
    unfold spec_l2Good.L at h; split at h
    · cases h; exact ⟨by kernel_rfl, by kernel_rfl, by kernel_rfl, fun _ => rfl, fun _ => rfl, fun _ => rfl⟩
    · cases h) (fun b A h => by
    unfold spec_l2Good.L at h; split at h
    · cases h; exact fun k x => spec_l2Good.step0 k x.1 x.2.1
    · cases h) ((spec_l2Good.run k a0).trans h) fun r hr => wk_view1 hr
def spec_l2List.l0 : Nat → (List Name) → Int → Option (Sum Bool (List Name))
  | 0, _, _ => none
  | k + 1, x0, x3 => bif (decide (x3 < (x0.length : Int))) then (bif (decide (x3 ≤ 4)) then (bif decide (0 ≤ x3) then (bif decide (x3 < (x0.length : Int)) then ((spec_l2Good.F k (x0.getD (x3 : Int).toNat (dflt .name))).bind fun r1 => bif (!r1) then (some (.inl false)) else (spec_l2List.l0 k x0 (IntKind.wrap .i64 (x3 + 1)))) else none) else none) else (some (.inr x0))) else (some (.inr x0))
def spec_l2List.F (k : Nat) (a0 : List Name) : Option (Bool) := (spec_l2List.l0 k a0 0).bind fun y2 => match y2 with | .inl z3 => some z3 | .inr z3 => some (decide ((z3.length : Int) ≤ 4))
def spec_l2List.C (k : Nat) : Cal → Option CArm := fun c => match c with
  | .f 111 => some (.p [.name] _ (fun x => spec_l2Good.F k x.1) (fun r => (.t .bool r)))
  | _ => none
def spec_l2List.sp0 : List Sp := [.t 0 (.sl .name), .t 3 (.int .i64)]
def spec_l2List.sp0_0 : List Sp := [.t 2 .bool]
def spec_l2List.sp0_1 : List Sp := [.t 0 (.sl .name)]
def spec_l2List.A0 : LArm := .two spec_l2List.sp0 spec_l2List.sp0_0 spec_l2List.sp0_1 (Bool) ((List Name)) (fun k x => spec_l2List.l0 k x.1 x.2.1) .ret (.exit 0) (fun y => (y, ())) (fun x => x.1) (fun y => (y, ())) (fun x => x.1)
def spec_l2List.L : Nat → Option LArm := fun b => match b with
  | 0 => some spec_l2List.A0
  | _ => none
theorem spec_l2List.run (k : Nat) (a0 : List Name) : runF envX (tabC (spec_l2List.C k)) (tabL 23 k spec_l2List.L) Tryz.f82 [.t (.sl .name) a0] (viewR1 (.t .bool)) = spec_l2List.F k a0 := by kernel_rfl
theorem spec_l2List.step0 (k : Nat) (x0 : List Name) (x3 : Int) : runC envX (tabC (spec_l2List.C k)) (tabL 23 k spec_l2List.L) 0 (loopAt Tryz.f82 0) (stOf 23 spec_l2List.sp0 (x0, x3, ())) (spec_l2List.A0.cont 23 k) = spec_l2List.l0 (k + 1) x0 x3 := by kernel_rfl
theorem spec_l2List.G (hE : EnvOk Tryz.prog envX) (pv : Nat → Value) (k : Nat) : ∀ cal A, spec_l2List.C k cal = some A → ArmOk Tryz.prog envX pv cal A := by
  intro cal A h
  unfold spec_l2List.C at h
  split at h
  · cases h; exact fun x y hy => spec_l2Good.good hE pv k x.1 hy
  · cases h
theorem spec_l2List.good (hE : EnvOk Tryz.prog envX) (pv : Nat → Value) (k : Nat) (a0 : List Name) {y : _} (h : spec_l2List.F k a0 = some y) : Meets Tryz.prog envX pv (.f 82) (tvals [(.sl .name)] (a0, ())) (.t .bool y) :=
  fun_loops hE (t := spec_l2List.C) k (fun k _ => spec_l2List.G hE pv k) (f := 82) (fn := Tryz.f82) (by kernel_rfl) rfl (by kernel_rfl) (by kernel_rfl) (lt := spec_l2List.L) (by kernel_rfl) (fun b A h => by
    unfold spec_l2List.L at h; split at h
    · cases h; exact ⟨by kernel_rfl, by kernel_rfl, by kernel_rfl, fun _ => rfl, fun _ => rfl, fun _ => rfl⟩
    · cases h) (fun b A h => by
    unfold spec_l2List.L at h; split at h
    · cases h; exact fun k x => spec_l2List.step0 k x.1 x.2.1
    · cases h) ((spec_l2List.run k a0).trans h) fun r hr => wk_view1 hr
def spec_l4Text.l0 : Nat → ByteArray → Int → Option (Sum Bool ByteArray)
  | 0, _, _ => none
  | k + 1, x0, x3 => bif (decide (x3 < (x0.size : Int))) then (bif decide (0 ≤ x3) then (bif decide (x3 < (x0.size : Int)) then (bif (decide ((bt x0 (x3 : Int).toNat) < 32)) then (some (.inl false)) else (bif decide (0 ≤ x3) then (bif decide (x3 < (x0.size : Int)) then (bif (decide ((bt x0 (x3 : Int).toNat) > 126)) then (some (.inl false)) else (spec_l4Text.l0 k x0 (IntKind.wrap .i64 (x3 + 1)))) else none) else none)) else none) else none) else (some (.inr x0))
def spec_l4Text.F (k : Nat) (a0 : ByteArray) : Option (Bool) := bif (decide ((a0.size : Int) > 40)) then (some false) else ((spec_l4Text.l0 k a0 0).bind fun y1 => match y1 with | .inl z2 => some z2 | .inr z2 => bif (beqS z2 (⟨#[]⟩ : ByteArray)) then (some true) else (bif decide (0 ≤ 0) then (bif decide (0 < (z2.size : Int)) then (bif ((bt z2 (0 : Int).toNat) != 32) then (bif decide (0 ≤ (IntKind.wrap .i64 ((z2.size : Int) - 1))) then (bif decide ((IntKind.wrap .i64 ((z2.size : Int) - 1)) < (z2.size : Int)) then (some ((bt z2 ((IntKind.wrap .i64 ((z2.size : Int) - 1)) : Int).toNat) != 32)) else none) else none) else (some false)) else none) else none))
def spec_l4Text.C (k : Nat) : Cal → Option CArm := fun c => match c with
  | _ => none
def spec_l4Text.sp0 : List Sp := [.t 0 .str, .t 3 (.int .i64)]
def spec_l4Text.sp0_0 : List Sp := [.t 2 .bool]
def spec_l4Text.sp0_1 : List Sp := [.t 0 .str]
def spec_l4Text.A0 : LArm := .two spec_l4Text.sp0 spec_l4Text.sp0_0 spec_l4Text.sp0_1 (Bool) (ByteArray) (fun k x => spec_l4Text.l0 k x.1 x.2.1) .ret (.exit 0) (fun y => (y, ())) (fun x => x.1) (fun y => (y, ())) (fun x => x.1)
def spec_l4Text.L : Nat → Option LArm := fun b => match b with
  | 0 => some spec_l4Text.A0
  | _ => none
theorem spec_l4Text.run (k : Nat) (a0 : ByteArray) : runF envX (tabC (spec_l4Text.C k)) (tabL 38 k spec_l4Text.L) Tryz.f83 [.t .str a0] (viewR1 (.t .bool)) = spec_l4Text.F k a0 := by kernel_rfl
theorem spec_l4Text.step0 (k : Nat) (x0 : ByteArray) (x3 : Int) : runC envX (tabC (spec_l4Text.C k)) (tabL 38 k spec_l4Text.L) 0 (loopAt Tryz.f83 0) (stOf 38 spec_l4Text.sp0 (x0, x3, ())) (spec_l4Text.A0.cont 38 k) = spec_l4Text.l0 (k + 1) x0 x3 := by kernel_rfl
theorem spec_l4Text.G (hE : EnvOk Tryz.prog envX) (pv : Nat → Value) (k : Nat) : ∀ cal A, spec_l4Text.C k cal = some A → ArmOk Tryz.prog envX pv cal A := by
  intro cal A h
  unfold spec_l4Text.C at h
  cases h
theorem spec_l4Text.good (hE : EnvOk Tryz.prog envX) (pv : Nat → Value) (k : Nat) (a0 : ByteArray) {y : _} (h : spec_l4Text.F k a0 = some y) : Meets Tryz.prog envX pv (.f 83) (tvals [.str] (a0, ())) (.t .bool y) :=
  fun_loops hE (t := spec_l4Text.C) k (fun k _ => spec_l4Text.G hE pv k) (f := 83) (fn := Tryz.f83) (by kernel_rfl) rfl (by kernel_rfl) (by kernel_rfl) (lt := spec_l4Text.L) (by kernel_rfl) (fun b A h => by
    unfold spec_l4Text.L at h; split at h
    · cases h; exact ⟨by kernel_rfl, by kernel_rfl, by kernel_rfl, fun _ => rfl, fun _ => rfl, fun _ => rfl⟩
    · cases h) (fun b A h => by
    unfold spec_l4Text.L at h; split at h
    · cases h; exact fun k x => spec_l4Text.step0 k x.1 x.2.1
    · cases h) ((spec_l4Text.run k a0).trans h) fun r hr => wk_view1 hr
def spec_l3Days.F (a0 : Int) (a1 : Int) : Option (Int) := bif (a1 == 2) then (bif (4 == 0) then (none) else (bif ((Int.tmod a0 4) == 0) then (bif (100 == 0) then (none) else (bif ((Int.tmod a0 100) != 0) then (some 29) else (bif (400 == 0) then (none) else (bif ((Int.tmod a0 400) == 0) then (some 29) else (some 28))))) else (bif (400 == 0) then (none) else (bif ((Int.tmod a0 400) == 0) then (some 29) else (some 28))))) else (bif (a1 == 4) then (some 30) else (bif (a1 == 6) then (some 30) else (bif (a1 == 9) then (some 30) else (bif (a1 == 11) then (some 30) else (some 31)))))
def spec_l3Days.C : Cal → Option CArm := fun c => match c with
  | _ => none
theorem spec_l3Days.run (a0 : Int) (a1 : Int) : runF envX (tabC spec_l3Days.C) (tabL 34 0 (fun _ => none)) Tryz.f112 [.t (.int .i64) a0, .t (.int .i64) a1] (viewR1 (.t (.int .i64))) = spec_l3Days.F a0 a1 := by kernel_rfl
theorem spec_l3Days.G (hE : EnvOk Tryz.prog envX) (pv : Nat → Value) : ∀ cal A, spec_l3Days.C cal = some A → ArmOk Tryz.prog envX pv cal A := by
  intro cal A h
  unfold spec_l3Days.C at h
  cases h
theorem spec_l3Days.good (hE : EnvOk Tryz.prog envX) (pv : Nat → Value) (a0 : Int) (a1 : Int) {y : _} (h : spec_l3Days.F a0 a1 = some y) : Meets Tryz.prog envX pv (.f 112) (tvals [(.int .i64), (.int .i64)] (a0, a1, ())) (.t (.int .i64) y) :=
  fun_plain hE (spec_l3Days.G hE pv) (f := 112) (fn := Tryz.f112) (by kernel_rfl) rfl (by kernel_rfl) (by kernel_rfl) ((spec_l3Days.run a0 a1).trans h) fun r hr => wk_view1 hr
def spec_l3Good.F (a0 : Date) : Option (Bool) := bif ((a0.y == 0 && (a0.m == 0 && (a0.d == 0 && a0.c == false)))) then (some true) else ((spec_l1In.F a0.y 1 2999).bind fun r1 => bif (!r1) then (some false) else ((spec_l1In.F a0.m 0 12).bind fun r2 => bif (!r2) then (some false) else (bif a0.c then (bif (a0.m == 0) then (some (a0.d == 0)) else (some false)) else (bif (a0.m == 0) then (some (a0.d == 0)) else ((spec_l3Days.F a0.y a0.m).bind fun r3 => (spec_l1In.F a0.d 0 r3).bind fun r4 => some r4)))))
def spec_l3Good.C : Cal → Option CArm := fun c => match c with
  | .f 26 => some (.p [(.int .i64), (.int .i64), (.int .i64)] _ (fun x => spec_l1In.F x.1 x.2.1 x.2.2.1) (fun r => (.t .bool r)))
  | .f 112 => some (.p [(.int .i64), (.int .i64)] _ (fun x => spec_l3Days.F x.1 x.2.1) (fun r => (.t (.int .i64) r)))
  | _ => none
theorem spec_l3Good.run (a0 : Date) : runF envX (tabC spec_l3Good.C) (tabL 44 0 (fun _ => none)) Tryz.f84 [.t .date a0] (viewR1 (.t .bool)) = spec_l3Good.F a0 := by kernel_rfl
theorem spec_l3Good.G (hE : EnvOk Tryz.prog envX) (pv : Nat → Value) : ∀ cal A, spec_l3Good.C cal = some A → ArmOk Tryz.prog envX pv cal A := by
  intro cal A h
  unfold spec_l3Good.C at h
  split at h
  · cases h; exact fun x y hy => spec_l1In.good hE pv x.1 x.2.1 x.2.2.1 hy
  · cases h; exact fun x y hy => spec_l3Days.good hE pv x.1 x.2.1 hy
  · cases h
theorem spec_l3Good.good (hE : EnvOk Tryz.prog envX) (pv : Nat → Value) (a0 : Date) {y : _} (h : spec_l3Good.F a0 = some y) : Meets Tryz.prog envX pv (.f 84) (tvals [.date] (a0, ())) (.t .bool y) :=
  fun_plain hE (spec_l3Good.G hE pv) (f := 84) (fn := Tryz.f84) (by kernel_rfl) rfl (by kernel_rfl) (by kernel_rfl) ((spec_l3Good.run a0).trans h) fun r hr => wk_view1 hr
def spec_l4Entry.F (k : Nat) (a0 : Entry) : Option (Bool) := (spec_l4Key.F k a0.key).bind fun r1 => bif (!r1) then (some false) else ((spec_l1In.F a0.kind 1 4).bind fun r2 => bif (!r2) then (some false) else ((spec_l2List.F k a0.authors).bind fun r3 => bif (!r3) then (some false) else ((spec_l2List.F k a0.editors).bind fun r4 => bif (!r4) then (some false) else ((spec_l4Text.F k a0.title).bind fun r5 => bif (!r5) then (some false) else ((spec_l4Text.F k a0.container).bind fun r6 => bif (!r6) then (some false) else ((spec_l4Text.F k a0.publisher).bind fun r7 => bif (!r7) then (some false) else ((spec_l4Text.F k a0.pages).bind fun r8 => bif (!r8) then (some false) else ((spec_l3Good.F a0.date).bind fun r9 => bif r9 then ((spec_l1In.F a0.volume 0 9999).bind fun r10 => bif r10 then (bif (beqS a0.cross (⟨#[]⟩ : ByteArray)) then (some true) else ((spec_l4Key.F k a0.cross).bind fun r11 => bif r11 then (some (!beqS a0.cross a0.key)) else (some false))) else (some false)) else (some false)))))))))
def spec_l4Entry.C (k : Nat) : Cal → Option CArm := fun c => match c with
  | .f 81 => some (.p [.str] _ (fun x => spec_l4Key.F k x.1) (fun r => (.t .bool r)))
  | .f 26 => some (.p [(.int .i64), (.int .i64), (.int .i64)] _ (fun x => spec_l1In.F x.1 x.2.1 x.2.2.1) (fun r => (.t .bool r)))
  | .f 82 => some (.p [(.sl .name)] _ (fun x => spec_l2List.F k x.1) (fun r => (.t .bool r)))
  | .f 83 => some (.p [.str] _ (fun x => spec_l4Text.F k x.1) (fun r => (.t .bool r)))
  | .f 84 => some (.p [.date] _ (fun x => spec_l3Good.F x.1) (fun r => (.t .bool r)))
  | _ => none
theorem spec_l4Entry.run (k : Nat) (a0 : Entry) : runF envX (tabC (spec_l4Entry.C k)) (tabL 72 0 (fun _ => none)) Tryz.f56 [.t .entry a0] (viewR1 (.t .bool)) = spec_l4Entry.F k a0 := by kernel_rfl
theorem spec_l4Entry.G (hE : EnvOk Tryz.prog envX) (pv : Nat → Value) (k : Nat) : ∀ cal A, spec_l4Entry.C k cal = some A → ArmOk Tryz.prog envX pv cal A := by
  intro cal A h
  unfold spec_l4Entry.C at h
  split at h
  · cases h; exact fun x y hy => spec_l4Key.good hE pv k x.1 hy
  · cases h; exact fun x y hy => spec_l1In.good hE pv x.1 x.2.1 x.2.2.1 hy
  · cases h; exact fun x y hy => spec_l2List.good hE pv k x.1 hy
  · cases h; exact fun x y hy => spec_l4Text.good hE pv k x.1 hy
  · cases h; exact fun x y hy => spec_l3Good.good hE pv x.1 hy
  · cases h
theorem spec_l4Entry.good (hE : EnvOk Tryz.prog envX) (pv : Nat → Value) (k : Nat) (a0 : Entry) {y : _} (h : spec_l4Entry.F k a0 = some y) : Meets Tryz.prog envX pv (.f 56) (tvals [.entry] (a0, ())) (.t .bool y) :=
  fun_plain hE (spec_l4Entry.G hE pv k) (f := 56) (fn := Tryz.f56) (by kernel_rfl) rfl (by kernel_rfl) (by kernel_rfl) ((spec_l4Entry.run k a0).trans h) fun r hr => wk_view1 hr
def spec_l4Good.l0 : Nat → Library → Int → Option (Sum Bool Unit)
  | 0, _, _ => none
  | k + 1, x1, x3 => bif (decide (x3 < (x1.entries.length : Int))) then (bif decide (0 ≤ x3) then (bif decide (x3 < (x1.entries.length : Int)) then ((spec_l4Entry.F k (x1.entries.getD (x3 : Int).toNat (dflt .entry))).bind fun r1 => bif (!r1) then (some (.inl false)) else (bif (decide (x3 > 0)) then (bif decide (0 ≤ (IntKind.wrap .i64 (x3 - 1))) then (bif decide ((IntKind.wrap .i64 (x3 - 1)) < (x1.entries.length : Int)) then (bif decide (0 ≤ x3) then (bif decide (x3 < (x1.entries.length : Int)) then (bif (!ltS ((x1.entries.getD ((IntKind.wrap .i64 (x3 - 1)) : Int).toNat (dflt .entry)).key) ((x1.entries.getD (x3 : Int).toNat (dflt .entry)).key)) then (some (.inl false)) else (spec_l4Good.l0 k x1 (IntKind.wrap .i64 (x3 + 1)))) else none) else none) else none) else none) else (spec_l4Good.l0 k x1 (IntKind.wrap .i64 (x3 + 1))))) else none) else none) else (some (.inr ()))
def spec_l4Good.F (k : Nat) (a0 : Library) : Option (Bool) := bif (decide ((a0.entries.length : Int) > 8)) then (some false) else ((spec_l4Good.l0 k a0 0).bind fun y2 => match y2 with | .inl z3 => some z3 | .inr z3 => some true)
def spec_l4Good.C (k : Nat) : Cal → Option CArm := fun c => match c with
  | .f 56 => some (.p [.entry] _ (fun x => spec_l4Entry.F k x.1) (fun r => (.t .bool r)))
  | _ => none
def spec_l4Good.sp0 : List Sp := [.boxT 1 0 .lib, .t 3 (.int .i64)]
def spec_l4Good.sp0_0 : List Sp := [.t 2 .bool]
def spec_l4Good.sp0_1 : List Sp := []
def spec_l4Good.A0 : LArm := .two spec_l4Good.sp0 spec_l4Good.sp0_0 spec_l4Good.sp0_1 (Bool) (Unit) (fun k x => spec_l4Good.l0 k x.1 x.2.1) .ret (.exit 0) (fun y => (y, ())) (fun x => x.1) (fun y => ()) (fun x => ())
def spec_l4Good.L : Nat → Option LArm := fun b => match b with
  | 0 => some spec_l4Good.A0
  | _ => none
theorem spec_l4Good.run (k : Nat) (a0 : Library) : runF envX (tabC (spec_l4Good.C k)) (tabL 42 k spec_l4Good.L) Tryz.f40 [.t .lib a0] (viewR1 (.t .bool)) = spec_l4Good.F k a0 := by kernel_rfl
theorem spec_l4Good.step0 (k : Nat) (x1 : Library) (x3 : Int) : runC envX (tabC (spec_l4Good.C k)) (tabL 42 k spec_l4Good.L) 0 (loopAt Tryz.f40 0) (stOf 42 spec_l4Good.sp0 (x1, x3, ())) (spec_l4Good.A0.cont 42 k) = spec_l4Good.l0 (k + 1) x1 x3 := by kernel_rfl
theorem spec_l4Good.G (hE : EnvOk Tryz.prog envX) (pv : Nat → Value) (k : Nat) : ∀ cal A, spec_l4Good.C k cal = some A → ArmOk Tryz.prog envX pv cal A := by
  intro cal A h
  unfold spec_l4Good.C at h
  split at h
  · cases h; exact fun x y hy => spec_l4Entry.good hE pv k x.1 hy
  · cases h
theorem spec_l4Good.good (hE : EnvOk Tryz.prog envX) (pv : Nat → Value) (k : Nat) (a0 : Library) {y : _} (h : spec_l4Good.F k a0 = some y) : Meets Tryz.prog envX pv (.f 40) (tvals [.lib] (a0, ())) (.t .bool y) :=
  fun_loops hE (t := spec_l4Good.C) k (fun k _ => spec_l4Good.G hE pv k) (f := 40) (fn := Tryz.f40) (by kernel_rfl) rfl (by kernel_rfl) (by kernel_rfl) (lt := spec_l4Good.L) (by kernel_rfl) (fun b A h => by
    unfold spec_l4Good.L at h; split at h
    · cases h; exact ⟨by kernel_rfl, by kernel_rfl, by kernel_rfl, fun _ => rfl, fun _ => rfl, fun _ => rfl⟩
    · cases h) (fun b A h => by
    unfold spec_l4Good.L at h; split at h
    · cases h; exact fun k x => spec_l4Good.step0 k x.1 x.2.1
    · cases h) ((spec_l4Good.run k a0).trans h) fun r hr => wk_view1 hr
def spec_l4Find.l0 : Nat → ByteArray → Library → Int → Option (Sum Int Unit)
  | 0, _, _, _ => none
  | k + 1, x1, x2, x5 => bif (decide (x5 < (x2.entries.length : Int))) then (bif decide (0 ≤ x5) then (bif decide (x5 < (x2.entries.length : Int)) then (bif (beqS ((x2.entries.getD (x5 : Int).toNat (dflt .entry)).key) x1) then (some (.inl x5)) else (spec_l4Find.l0 k x1 x2 (IntKind.wrap .i64 (x5 + 1)))) else none) else none) else (some (.inr ()))
def spec_l4Find.F (k : Nat) (a0 : Library) (a1 : ByteArray) : Option (Int) := (spec_l4Find.l0 k a1 a0 0).bind fun y1 => match y1 with | .inl z2 => some z2 | .inr z2 => some (-1)
def spec_l4Find.C (k : Nat) : Cal → Option CArm := fun c => match c with
  | _ => none
def spec_l4Find.sp0 : List Sp := [.t 1 .str, .boxT 2 0 .lib, .t 5 (.int .i64)]
def spec_l4Find.sp0_0 : List Sp := [.t 4 (.int .i64)]
def spec_l4Find.sp0_1 : List Sp := []
def spec_l4Find.A0 : LArm := .two spec_l4Find.sp0 spec_l4Find.sp0_0 spec_l4Find.sp0_1 (Int) (Unit) (fun k x => spec_l4Find.l0 k x.1 x.2.1 x.2.2.1) .ret (.exit 0) (fun y => (y, ())) (fun x => x.1) (fun y => ()) (fun x => ())
def spec_l4Find.L : Nat → Option LArm := fun b => match b with
  | 0 => some spec_l4Find.A0
  | _ => none
theorem spec_l4Find.run (k : Nat) (a0 : Library) (a1 : ByteArray) : runF envX (tabC (spec_l4Find.C k)) (tabL 22 k spec_l4Find.L) Tryz.f41 [.t .lib a0, .t .str a1] (viewR1 (.t (.int .i64))) = spec_l4Find.F k a0 a1 := by kernel_rfl
theorem spec_l4Find.step0 (k : Nat) (x1 : ByteArray) (x2 : Library) (x5 : Int) : runC envX (tabC (spec_l4Find.C k)) (tabL 22 k spec_l4Find.L) 0 (loopAt Tryz.f41 0) (stOf 22 spec_l4Find.sp0 (x1, x2, x5, ())) (spec_l4Find.A0.cont 22 k) = spec_l4Find.l0 (k + 1) x1 x2 x5 := by kernel_rfl
theorem spec_l4Find.G (hE : EnvOk Tryz.prog envX) (pv : Nat → Value) (k : Nat) : ∀ cal A, spec_l4Find.C k cal = some A → ArmOk Tryz.prog envX pv cal A := by
  intro cal A h
  unfold spec_l4Find.C at h
  cases h
theorem spec_l4Find.good (hE : EnvOk Tryz.prog envX) (pv : Nat → Value) (k : Nat) (a0 : Library) (a1 : ByteArray) {y : _} (h : spec_l4Find.F k a0 a1 = some y) : Meets Tryz.prog envX pv (.f 41) (tvals [.lib, .str] (a0, a1, ())) (.t (.int .i64) y) :=
  fun_loops hE (t := spec_l4Find.C) k (fun k _ => spec_l4Find.G hE pv k) (f := 41) (fn := Tryz.f41) (by kernel_rfl) rfl (by kernel_rfl) (by kernel_rfl) (lt := spec_l4Find.L) (by kernel_rfl) (fun b A h => by
    unfold spec_l4Find.L at h; split at h
    · cases h; exact ⟨by kernel_rfl, by kernel_rfl, by kernel_rfl, fun _ => rfl, fun _ => rfl, fun _ => rfl⟩
    · cases h) (fun b A h => by
    unfold spec_l4Find.L at h; split at h
    · cases h; exact fun k x => spec_l4Find.step0 k x.1 x.2.1 x.2.2.1
    · cases h) ((spec_l4Find.run k a0 a1).trans h) fun r hr => wk_view1 hr
def spec_l8Keys.l2 : Nat → (List ByteArray) → Library → Int → Int → Option (Sum Bool ((List ByteArray) × Library × Int))
  | 0, _, _, _, _ => none
  | k + 1, x1, x2, x5, x6 => bif (decide (x6 < x5)) then (bif decide (0 ≤ x6) then (bif decide (x6 < (x1.length : Int)) then (bif decide (0 ≤ x5) then (bif decide (x5 < (x1.length : Int)) then (bif (beqS (x1.getD (x6 : Int).toNat (⟨#[]⟩ : ByteArray)) (x1.getD (x5 : Int).toNat (⟨#[]⟩ : ByteArray))) then (some (.inl false)) else (spec_l8Keys.l2 k x1 x2 x5 (IntKind.wrap .i64 (x6 + 1)))) else none) else none) else none) else none) else (some (.inr (x1, x2, x5)))
def spec_l8Keys.l0 : Nat → (List ByteArray) → Library → Int → Option (Sum Bool Unit)
  | 0, _, _, _ => none
  | k + 1, x1, x2, x5 => bif (decide (x5 < (x1.length : Int))) then (bif decide (0 ≤ x5) then (bif decide (x5 < (x1.length : Int)) then ((spec_l4Find.F k x2 (x1.getD (x5 : Int).toNat (⟨#[]⟩ : ByteArray))).bind fun r2 => bif (decide (r2 < 0)) then (some (.inl false)) else ((spec_l8Keys.l2 k x1 x2 x5 0).bind fun y3 => match y3 with | .inl z4 => some (.inl z4) | .inr z4 => spec_l8Keys.l0 k z4.1 z4.2.1 (IntKind.wrap .i64 (z4.2.2 + 1)))) else none) else none) else (some (.inr ()))
def spec_l8Keys.F (k : Nat) (a0 : Library) (a1 : List ByteArray) : Option (Bool) := (spec_l4Good.F k a0).bind fun r1 => bif (!r1) then (some false) else ((spec_l8Keys.l0 k a1 a0 0).bind fun y5 => match y5 with | .inl z6 => some z6 | .inr z6 => some true)
def spec_l8Keys.C (k : Nat) : Cal → Option CArm := fun c => match c with
  | .f 40 => some (.p [.lib] _ (fun x => spec_l4Good.F k x.1) (fun r => (.t .bool r)))
  | .f 41 => some (.p [.lib, .str] _ (fun x => spec_l4Find.F k x.1 x.2.1) (fun r => (.t (.int .i64) r)))
  | _ => none
def spec_l8Keys.sp2 : List Sp := [.t 1 (.sl .str), .boxT 2 0 .lib, .t 5 (.int .i64), .t 6 (.int .i64)]
def spec_l8Keys.sp2_0 : List Sp := [.t 4 .bool]
def spec_l8Keys.sp2_1 : List Sp := [.t 1 (.sl .str), .boxT 2 0 .lib, .t 5 (.int .i64)]
def spec_l8Keys.A2 : LArm := .two spec_l8Keys.sp2 spec_l8Keys.sp2_0 spec_l8Keys.sp2_1 (Bool) ((List ByteArray) × Library × Int) (fun k x => spec_l8Keys.l2 k x.1 x.2.1 x.2.2.1 x.2.2.2.1) .ret (.exit 2) (fun y => (y, ())) (fun x => x.1) (fun y => (y.1, y.2.1, y.2.2, ())) (fun x => (x.1, x.2.1, x.2.2.1))
def spec_l8Keys.sp0 : List Sp := [.t 1 (.sl .str), .boxT 2 0 .lib, .t 5 (.int .i64)]
def spec_l8Keys.sp0_0 : List Sp := [.t 4 .bool]
def spec_l8Keys.sp0_1 : List Sp := []
def spec_l8Keys.A0 : LArm := .two spec_l8Keys.sp0 spec_l8Keys.sp0_0 spec_l8Keys.sp0_1 (Bool) (Unit) (fun k x => spec_l8Keys.l0 k x.1 x.2.1 x.2.2.1) .ret (.exit 0) (fun y => (y, ())) (fun x => x.1) (fun y => ()) (fun x => ())
def spec_l8Keys.L : Nat → Option LArm := fun b => match b with
  | 2 => some spec_l8Keys.A2
  | 0 => some spec_l8Keys.A0
  | _ => none
theorem spec_l8Keys.run (k : Nat) (a0 : Library) (a1 : List ByteArray) : runF envX (tabC (spec_l8Keys.C k)) (tabL 37 k spec_l8Keys.L) Tryz.f25 [.t .lib a0, .t (.sl .str) a1] (viewR1 (.t .bool)) = spec_l8Keys.F k a0 a1 := by kernel_rfl
theorem spec_l8Keys.step2 (k : Nat) (x1 : List ByteArray) (x2 : Library) (x5 : Int) (x6 : Int) : runC envX (tabC (spec_l8Keys.C k)) (tabL 37 k spec_l8Keys.L) 2 (loopAt Tryz.f25 2) (stOf 37 spec_l8Keys.sp2 (x1, x2, x5, x6, ())) (spec_l8Keys.A2.cont 37 k) = spec_l8Keys.l2 (k + 1) x1 x2 x5 x6 := by kernel_rfl
theorem spec_l8Keys.step0 (k : Nat) (x1 : List ByteArray) (x2 : Library) (x5 : Int) : runC envX (tabC (spec_l8Keys.C k)) (tabL 37 k spec_l8Keys.L) 0 (loopAt Tryz.f25 0) (stOf 37 spec_l8Keys.sp0 (x1, x2, x5, ())) (spec_l8Keys.A0.cont 37 k) = spec_l8Keys.l0 (k + 1) x1 x2 x5 := by kernel_rfl
theorem spec_l8Keys.G (hE : EnvOk Tryz.prog envX) (pv : Nat → Value) (k : Nat) : ∀ cal A, spec_l8Keys.C k cal = some A → ArmOk Tryz.prog envX pv cal A := by
  intro cal A h
  unfold spec_l8Keys.C at h
  split at h
  · cases h; exact fun x y hy => spec_l4Good.good hE pv k x.1 hy
  · cases h; exact fun x y hy => spec_l4Find.good hE pv k x.1 x.2.1 hy
  · cases h
theorem spec_l8Keys.good (hE : EnvOk Tryz.prog envX) (pv : Nat → Value) (k : Nat) (a0 : Library) (a1 : List ByteArray) {y : _} (h : spec_l8Keys.F k a0 a1 = some y) : Meets Tryz.prog envX pv (.f 25) (tvals [.lib, (.sl .str)] (a0, a1, ())) (.t .bool y) :=
  fun_loops hE (t := spec_l8Keys.C) k (fun k _ => spec_l8Keys.G hE pv k) (f := 25) (fn := Tryz.f25) (by kernel_rfl) rfl (by kernel_rfl) (by kernel_rfl) (lt := spec_l8Keys.L) (by kernel_rfl) (fun b A h => by
    unfold spec_l8Keys.L at h; split at h
    · cases h; exact ⟨by kernel_rfl, by kernel_rfl, by kernel_rfl, fun _ => rfl, fun _ => rfl, fun _ => rfl⟩
    · cases h; exact ⟨by kernel_rfl, by kernel_rfl, by kernel_rfl, fun _ => rfl, fun _ => rfl, fun _ => rfl⟩
    · cases h) (fun b A h => by
    unfold spec_l8Keys.L at h; split at h
    · cases h; exact fun k x => spec_l8Keys.step2 k x.1 x.2.1 x.2.2.1 x.2.2.2.1
    · cases h; exact fun k x => spec_l8Keys.step0 k x.1 x.2.1 x.2.2.1
    · cases h) ((spec_l8Keys.run k a0 a1).trans h) fun r hr => wk_view1 hr
def spec_l17Asked.F (k : Nat) (a0 : Library) (a1 : List ByteArray) (a2 : Int) : Option (Bool) := (spec_l8Keys.F k a0 a1).bind fun r1 => bif r1 then ((spec_l1In.F a2 1 3).bind fun r2 => some r2) else (some false)
def spec_l17Asked.C (k : Nat) : Cal → Option CArm := fun c => match c with
  | .f 25 => some (.p [.lib, (.sl .str)] _ (fun x => spec_l8Keys.F k x.1 x.2.1) (fun r => (.t .bool r)))
  | .f 26 => some (.p [(.int .i64), (.int .i64), (.int .i64)] _ (fun x => spec_l1In.F x.1 x.2.1 x.2.2.1) (fun r => (.t .bool r)))
  | _ => none
theorem spec_l17Asked.run (k : Nat) (a0 : Library) (a1 : List ByteArray) (a2 : Int) : runF envX (tabC (spec_l17Asked.C k)) (tabL 14 0 (fun _ => none)) Tryz.f16 [.t .lib a0, .t (.sl .str) a1, .t (.int .i64) a2] (viewR1 (.t .bool)) = spec_l17Asked.F k a0 a1 a2 := by kernel_rfl
theorem spec_l17Asked.G (hE : EnvOk Tryz.prog envX) (pv : Nat → Value) (k : Nat) : ∀ cal A, spec_l17Asked.C k cal = some A → ArmOk Tryz.prog envX pv cal A := by
  intro cal A h
  unfold spec_l17Asked.C at h
  split at h
  · cases h; exact fun x y hy => spec_l8Keys.good hE pv k x.1 x.2.1 hy
  · cases h; exact fun x y hy => spec_l1In.good hE pv x.1 x.2.1 x.2.2.1 hy
  · cases h
theorem spec_l17Asked.good (hE : EnvOk Tryz.prog envX) (pv : Nat → Value) (k : Nat) (a0 : Library) (a1 : List ByteArray) (a2 : Int) {y : _} (h : spec_l17Asked.F k a0 a1 a2 = some y) : Meets Tryz.prog envX pv (.f 16) (tvals [.lib, (.sl .str), (.int .i64)] (a0, a1, a2, ())) (.t .bool y) :=
  fun_plain hE (spec_l17Asked.G hE pv k) (f := 16) (fn := Tryz.f16) (by kernel_rfl) rfl (by kernel_rfl) (by kernel_rfl) ((spec_l17Asked.run k a0 a1 a2).trans h) fun r hr => wk_view1 hr
def spec_l2Text.F (a0 : ByteArray) (a1 : ByteArray) : Option (Int) := bif (ltS a0 a1) then (some (-1)) else (bif (!(ltS a0 a1 || beqS a0 a1)) then (some 1) else (some 0))
def spec_l2Text.C : Cal → Option CArm := fun c => match c with
  | _ => none
theorem spec_l2Text.run (a0 : ByteArray) (a1 : ByteArray) : runF envX (tabC spec_l2Text.C) (tabL 13 0 (fun _ => none)) Tryz.f62 [.t .str a0, .t .str a1] (viewR1 (.t (.int .i64))) = spec_l2Text.F a0 a1 := by kernel_rfl
theorem spec_l2Text.G (hE : EnvOk Tryz.prog envX) (pv : Nat → Value) : ∀ cal A, spec_l2Text.C cal = some A → ArmOk Tryz.prog envX pv cal A := by
  intro cal A h
  unfold spec_l2Text.C at h
  cases h
theorem spec_l2Text.good (hE : EnvOk Tryz.prog envX) (pv : Nat → Value) (a0 : ByteArray) (a1 : ByteArray) {y : _} (h : spec_l2Text.F a0 a1 = some y) : Meets Tryz.prog envX pv (.f 62) (tvals [.str, .str] (a0, a1, ())) (.t (.int .i64) y) :=
  fun_plain hE (spec_l2Text.G hE pv) (f := 62) (fn := Tryz.f62) (by kernel_rfl) rfl (by kernel_rfl) (by kernel_rfl) ((spec_l2Text.run a0 a1).trans h) fun r hr => wk_view1 hr
def spec_l2Low.l0 : Nat → (List Int) → Int → Option ((List Int))
  | 0, _, _ => none
  | k + 1, x3, x4 => bif (decide (x4 < (x3.length : Int))) then (bif decide (0 ≤ x4) then (bif decide (x4 < (x3.length : Int)) then ((spec_l2Upper.F (x3.getD ((x4 : Int).toNat) 0)).bind fun r1 => bif r1 then (bif decide (0 ≤ x4) then (bif decide (x4 < (x3.length : Int)) then (bif decide (0 ≤ x4) then (bif decide (x4 < (x3.length : Int)) then (spec_l2Low.l0 k (x3.set ((x4 : Int).toNat) (IntKind.wrap .u8 ((x3.getD ((x4 : Int).toNat) 0) + 32))) (IntKind.wrap .i64 (x4 + 1))) else none) else none) else none) else none) else (spec_l2Low.l0 k x3 (IntKind.wrap .i64 (x4 + 1)))) else none) else none) else (some x3)
def spec_l2Low.F (k : Nat) (a0 : ByteArray) : Option (ByteArray) := bif Nat.ble a0.size 9223372036854775807 then ((spec_l2Low.l0 k (bytesL a0) 0).bind fun y2 => some (strL y2)) else none
def spec_l2Low.C (k : Nat) : Cal → Option CArm := fun c => match c with
  | .f 116 => some (.p [(.int .u8)] _ (fun x => spec_l2Upper.F x.1) (fun r => (.t .bool r)))
  | _ => none
def spec_l2Low.sp0 : List Sp := [.own 3 1028 5 (.int .u8) false false, .t 4 (.int .i64)]
def spec_l2Low.sp0_0 : List Sp := [.own 3 1028 5 (.int .u8) false false]
def spec_l2Low.A0 : LArm := .one spec_l2Low.sp0 spec_l2Low.sp0_0 ((List Int)) (fun k x => spec_l2Low.l0 k x.1 x.2.1) (.exit 0) (fun y => (y, ())) (fun x => x.1)
def spec_l2Low.L : Nat → Option LArm := fun b => match b with
  | 0 => some spec_l2Low.A0
  | _ => none
theorem spec_l2Low.run (k : Nat) (a0 : ByteArray) : runF envX (tabC (spec_l2Low.C k)) (tabL 28 k spec_l2Low.L) Tryz.f87 [.t .str a0] (viewR1 (.t .str)) = spec_l2Low.F k a0 := by kernel_rfl
theorem spec_l2Low.step0 (k : Nat) (x3 : List Int) (x4 : Int) : runC envX (tabC (spec_l2Low.C k)) (tabL 28 k spec_l2Low.L) 0 (loopAt Tryz.f87 0) (stOf 28 spec_l2Low.sp0 (x3, x4, ())) (spec_l2Low.A0.cont 28 k) = spec_l2Low.l0 (k + 1) x3 x4 := by kernel_rfl
theorem spec_l2Low.G (hE : EnvOk Tryz.prog envX) (pv : Nat → Value) (k : Nat) : ∀ cal A, spec_l2Low.C k cal = some A → ArmOk Tryz.prog envX pv cal A := by
  intro cal A h
  unfold spec_l2Low.C at h
  split at h
  · cases h; exact fun x y hy => spec_l2Upper.good hE pv x.1 hy
  · cases h
theorem spec_l2Low.good (hE : EnvOk Tryz.prog envX) (pv : Nat → Value) (k : Nat) (a0 : ByteArray) {y : _} (h : spec_l2Low.F k a0 = some y) : Meets Tryz.prog envX pv (.f 87) (tvals [.str] (a0, ())) (.t .str y) :=
  fun_loops hE (t := spec_l2Low.C) k (fun k _ => spec_l2Low.G hE pv k) (f := 87) (fn := Tryz.f87) (by kernel_rfl) rfl (by kernel_rfl) (by kernel_rfl) (lt := spec_l2Low.L) (by kernel_rfl) (fun b A h => by
    unfold spec_l2Low.L at h; split at h
    · cases h; exact ⟨by kernel_rfl, by kernel_rfl, fun _ => rfl, fun _ => rfl⟩
    · cases h) (fun b A h => by
    unfold spec_l2Low.L at h; split at h
    · cases h; exact fun k x => spec_l2Low.step0 k x.1 x.2.1
    · cases h) ((spec_l2Low.run k a0).trans h) fun r hr => wk_view1 hr
def spec_l2Join.l0 : Nat → (List ByteArray) → ByteArray → Int → Option (ByteArray)
  | 0, _, _, _ => none
  | k + 1, x0, x3, x4 => bif (decide (x4 < (x0.length : Int))) then (bif (!beqS x3 (⟨#[]⟩ : ByteArray)) then (bif decide (0 ≤ x4) then (bif decide (x4 < (x0.length : Int)) then (bif (!beqS (x0.getD (x4 : Int).toNat (⟨#[]⟩ : ByteArray)) (⟨#[]⟩ : ByteArray)) then (bif Nat.ble (x3.size + (⟨#[32]⟩ : ByteArray).size) 9223372036854775807 then (bif decide (0 ≤ x4) then (bif decide (x4 < (x0.length : Int)) then (bif Nat.ble ((x3 ++ (⟨#[32]⟩ : ByteArray)).size + (x0.getD (x4 : Int).toNat (⟨#[]⟩ : ByteArray)).size) 9223372036854775807 then (spec_l2Join.l0 k x0 ((x3 ++ (⟨#[32]⟩ : ByteArray)) ++ (x0.getD (x4 : Int).toNat (⟨#[]⟩ : ByteArray))) (IntKind.wrap .i64 (x4 + 1))) else none) else none) else none) else none) else (bif decide (0 ≤ x4) then (bif decide (x4 < (x0.length : Int)) then (bif Nat.ble (x3.size + (x0.getD (x4 : Int).toNat (⟨#[]⟩ : ByteArray)).size) 9223372036854775807 then (spec_l2Join.l0 k x0 (x3 ++ (x0.getD (x4 : Int).toNat (⟨#[]⟩ : ByteArray))) (IntKind.wrap .i64 (x4 + 1))) else none) else none) else none)) else none) else none) else (bif decide (0 ≤ x4) then (bif decide (x4 < (x0.length : Int)) then (bif Nat.ble (x3.size + (x0.getD (x4 : Int).toNat (⟨#[]⟩ : ByteArray)).size) 9223372036854775807 then (spec_l2Join.l0 k x0 (x3 ++ (x0.getD (x4 : Int).toNat (⟨#[]⟩ : ByteArray))) (IntKind.wrap .i64 (x4 + 1))) else none) else none) else none)) else (some x3)
def spec_l2Join.F (k : Nat) (a0 : List ByteArray) : Option (ByteArray) := (spec_l2Join.l0 k a0 (⟨#[]⟩ : ByteArray) 0).bind fun y1 => some y1
def spec_l2Join.C (k : Nat) : Cal → Option CArm := fun c => match c with
  | _ => none
def spec_l2Join.sp0 : List Sp := [.t 0 (.sl .str), .t 3 .str, .t 4 (.int .i64)]
def spec_l2Join.sp0_0 : List Sp := [.t 3 .str]
def spec_l2Join.A0 : LArm := .one spec_l2Join.sp0 spec_l2Join.sp0_0 (ByteArray) (fun k x => spec_l2Join.l0 k x.1 x.2.1 x.2.2.1) (.exit 0) (fun y => (y, ())) (fun x => x.1)
def spec_l2Join.L : Nat → Option LArm := fun b => match b with
  | 0 => some spec_l2Join.A0
  | _ => none
theorem spec_l2Join.run (k : Nat) (a0 : List ByteArray) : runF envX (tabC (spec_l2Join.C k)) (tabL 29 k spec_l2Join.L) Tryz.f137 [.t (.sl .str) a0] (viewR1 (.t .str)) = spec_l2Join.F k a0 := by kernel_rfl
theorem spec_l2Join.step0 (k : Nat) (x0 : List ByteArray) (x3 : ByteArray) (x4 : Int) : runC envX (tabC (spec_l2Join.C k)) (tabL 29 k spec_l2Join.L) 0 (loopAt Tryz.f137 0) (stOf 29 spec_l2Join.sp0 (x0, x3, x4, ())) (spec_l2Join.A0.cont 29 k) = spec_l2Join.l0 (k + 1) x0 x3 x4 := by kernel_rfl
theorem spec_l2Join.G (hE : EnvOk Tryz.prog envX) (pv : Nat → Value) (k : Nat) : ∀ cal A, spec_l2Join.C k cal = some A → ArmOk Tryz.prog envX pv cal A := by
  intro cal A h
  unfold spec_l2Join.C at h
  cases h
theorem spec_l2Join.good (hE : EnvOk Tryz.prog envX) (pv : Nat → Value) (k : Nat) (a0 : List ByteArray) {y : _} (h : spec_l2Join.F k a0 = some y) : Meets Tryz.prog envX pv (.f 137) (tvals [(.sl .str)] (a0, ())) (.t .str y) :=
  fun_loops hE (t := spec_l2Join.C) k (fun k _ => spec_l2Join.G hE pv k) (f := 137) (fn := Tryz.f137) (by kernel_rfl) rfl (by kernel_rfl) (by kernel_rfl) (lt := spec_l2Join.L) (by kernel_rfl) (fun b A h => by
    unfold spec_l2Join.L at h; split at h
    · cases h; exact ⟨by kernel_rfl, by kernel_rfl, fun _ => rfl, fun _ => rfl⟩
    · cases h) (fun b A h => by
    unfold spec_l2Join.L at h; split at h
    · cases h; exact fun k x => spec_l2Join.step0 k x.1 x.2.1 x.2.2.1
    · cases h) ((spec_l2Join.run k a0).trans h) fun r hr => wk_view1 hr
def spec_l2Given.F (k : Nat) (a0 : Name) : Option (ByteArray) := (spec_l2Join.F k a0.given).bind fun r1 => some r1
def spec_l2Given.C (k : Nat) : Cal → Option CArm := fun c => match c with
  | .f 137 => some (.p [(.sl .str)] _ (fun x => spec_l2Join.F k x.1) (fun r => (.t .str r)))
  | _ => none
theorem spec_l2Given.run (k : Nat) (a0 : Name) : runF envX (tabC (spec_l2Given.C k)) (tabL 6 0 (fun _ => none)) Tryz.f138 [.t .name a0] (viewR1 (.t .str)) = spec_l2Given.F k a0 := by kernel_rfl
theorem spec_l2Given.G (hE : EnvOk Tryz.prog envX) (pv : Nat → Value) (k : Nat) : ∀ cal A, spec_l2Given.C k cal = some A → ArmOk Tryz.prog envX pv cal A := by
  intro cal A h
  unfold spec_l2Given.C at h
  split at h
  · cases h; exact fun x y hy => spec_l2Join.good hE pv k x.1 hy
  · cases h
theorem spec_l2Given.good (hE : EnvOk Tryz.prog envX) (pv : Nat → Value) (k : Nat) (a0 : Name) {y : _} (h : spec_l2Given.F k a0 = some y) : Meets Tryz.prog envX pv (.f 138) (tvals [.name] (a0, ())) (.t .str y) :=
  fun_plain hE (spec_l2Given.G hE pv k) (f := 138) (fn := Tryz.f138) (by kernel_rfl) rfl (by kernel_rfl) (by kernel_rfl) ((spec_l2Given.run k a0).trans h) fun r hr => wk_view1 hr
def spec_l2Full.F (k : Nat) (a0 : Name) : Option (ByteArray) := (spec_l2Given.F k a0).bind fun r1 => (spec_l2Join.F k ([r1, a0.particle, a0.family, a0.suffix] : List ByteArray)).bind fun r2 => some r2
def spec_l2Full.C (k : Nat) : Cal → Option CArm := fun c => match c with
  | .f 138 => some (.p [.name] _ (fun x => spec_l2Given.F k x.1) (fun r => (.t .str r)))
  | .f 137 => some (.p [(.sl .str)] _ (fun x => spec_l2Join.F k x.1) (fun r => (.t .str r)))
  | _ => none
theorem spec_l2Full.run (k : Nat) (a0 : Name) : runF envX (tabC (spec_l2Full.C k)) (tabL 13 0 (fun _ => none)) Tryz.f113 [.t .name a0] (viewR1 (.t .str)) = spec_l2Full.F k a0 := by kernel_rfl
theorem spec_l2Full.G (hE : EnvOk Tryz.prog envX) (pv : Nat → Value) (k : Nat) : ∀ cal A, spec_l2Full.C k cal = some A → ArmOk Tryz.prog envX pv cal A := by
  intro cal A h
  unfold spec_l2Full.C at h
  split at h
  · cases h; exact fun x y hy => spec_l2Given.good hE pv k x.1 hy
  · cases h; exact fun x y hy => spec_l2Join.good hE pv k x.1 hy
  · cases h
theorem spec_l2Full.good (hE : EnvOk Tryz.prog envX) (pv : Nat → Value) (k : Nat) (a0 : Name) {y : _} (h : spec_l2Full.F k a0 = some y) : Meets Tryz.prog envX pv (.f 113) (tvals [.name] (a0, ())) (.t .str y) :=
  fun_plain hE (spec_l2Full.G hE pv k) (f := 113) (fn := Tryz.f113) (by kernel_rfl) rfl (by kernel_rfl) (by kernel_rfl) ((spec_l2Full.run k a0).trans h) fun r hr => wk_view1 hr
def spec_l2Inverse.F (k : Nat) (a0 : Name) : Option (ByteArray) := (spec_l2Join.F k ([a0.particle, a0.family] : List ByteArray)).bind fun r1 => bif (decide ((a0.given.length : Int) > 0)) then (bif Nat.ble (r1.size + (⟨#[44, 32]⟩ : ByteArray).size) 9223372036854775807 then ((spec_l2Given.F k a0).bind fun r2 => bif Nat.ble ((r1 ++ (⟨#[44, 32]⟩ : ByteArray)).size + r2.size) 9223372036854775807 then (bif (!beqS a0.suffix (⟨#[]⟩ : ByteArray)) then (bif Nat.ble (((r1 ++ (⟨#[44, 32]⟩ : ByteArray)) ++ r2).size + (⟨#[44, 32]⟩ : ByteArray).size) 9223372036854775807 then (bif Nat.ble ((((r1 ++ (⟨#[44, 32]⟩ : ByteArray)) ++ r2) ++ (⟨#[44, 32]⟩ : ByteArray)).size + a0.suffix.size) 9223372036854775807 then (some ((((r1 ++ (⟨#[44, 32]⟩ : ByteArray)) ++ r2) ++ (⟨#[44, 32]⟩ : ByteArray)) ++ a0.suffix)) else none) else none) else (some ((r1 ++ (⟨#[44, 32]⟩ : ByteArray)) ++ r2))) else none) else none) else (bif (!beqS a0.suffix (⟨#[]⟩ : ByteArray)) then (bif Nat.ble (r1.size + (⟨#[44, 32]⟩ : ByteArray).size) 9223372036854775807 then ((spec_l2Given.F k a0).bind fun r3 => bif Nat.ble ((r1 ++ (⟨#[44, 32]⟩ : ByteArray)).size + r3.size) 9223372036854775807 then (bif (!beqS a0.suffix (⟨#[]⟩ : ByteArray)) then (bif Nat.ble (((r1 ++ (⟨#[44, 32]⟩ : ByteArray)) ++ r3).size + (⟨#[44, 32]⟩ : ByteArray).size) 9223372036854775807 then (bif Nat.ble ((((r1 ++ (⟨#[44, 32]⟩ : ByteArray)) ++ r3) ++ (⟨#[44, 32]⟩ : ByteArray)).size + a0.suffix.size) 9223372036854775807 then (some ((((r1 ++ (⟨#[44, 32]⟩ : ByteArray)) ++ r3) ++ (⟨#[44, 32]⟩ : ByteArray)) ++ a0.suffix)) else none) else none) else (some ((r1 ++ (⟨#[44, 32]⟩ : ByteArray)) ++ r3))) else none) else none) else (bif (!beqS a0.suffix (⟨#[]⟩ : ByteArray)) then (bif Nat.ble (r1.size + (⟨#[44, 32]⟩ : ByteArray).size) 9223372036854775807 then (bif Nat.ble ((r1 ++ (⟨#[44, 32]⟩ : ByteArray)).size + a0.suffix.size) 9223372036854775807 then (some ((r1 ++ (⟨#[44, 32]⟩ : ByteArray)) ++ a0.suffix)) else none) else none) else (some r1)))
def spec_l2Inverse.C (k : Nat) : Cal → Option CArm := fun c => match c with
  | .f 137 => some (.p [(.sl .str)] _ (fun x => spec_l2Join.F k x.1) (fun r => (.t .str r)))
  | .f 138 => some (.p [.name] _ (fun x => spec_l2Given.F k x.1) (fun r => (.t .str r)))
  | _ => none
theorem spec_l2Inverse.run (k : Nat) (a0 : Name) : runF envX (tabC (spec_l2Inverse.C k)) (tabL 33 0 (fun _ => none)) Tryz.f114 [.t .name a0] (viewR1 (.t .str)) = spec_l2Inverse.F k a0 := by kernel_rfl
theorem spec_l2Inverse.G (hE : EnvOk Tryz.prog envX) (pv : Nat → Value) (k : Nat) : ∀ cal A, spec_l2Inverse.C k cal = some A → ArmOk Tryz.prog envX pv cal A := by
  intro cal A h
  unfold spec_l2Inverse.C at h
  split at h
  · cases h; exact fun x y hy => spec_l2Join.good hE pv k x.1 hy
  · cases h; exact fun x y hy => spec_l2Given.good hE pv k x.1 hy
  · cases h
theorem spec_l2Inverse.good (hE : EnvOk Tryz.prog envX) (pv : Nat → Value) (k : Nat) (a0 : Name) {y : _} (h : spec_l2Inverse.F k a0 = some y) : Meets Tryz.prog envX pv (.f 114) (tvals [.name] (a0, ())) (.t .str y) :=
  fun_plain hE (spec_l2Inverse.G hE pv k) (f := 114) (fn := Tryz.f114) (by kernel_rfl) rfl (by kernel_rfl) (by kernel_rfl) ((spec_l2Inverse.run k a0).trans h) fun r hr => wk_view1 hr
def spec_l2Compare.F (k : Nat) (a0 : Name) (a1 : Name) : Option (Int) := (spec_l2Low.F k a0.family).bind fun r1 => (spec_l2Low.F k a1.family).bind fun r2 => (spec_l2Text.F r1 r2).bind fun r3 => bif (r3 != 0) then (some r3) else ((spec_l2Text.F a0.particle a1.particle).bind fun r4 => bif (r4 != 0) then (some r4) else ((spec_l2Full.F k a0).bind fun r5 => (spec_l2Low.F k r5).bind fun r6 => (spec_l2Full.F k a1).bind fun r7 => (spec_l2Low.F k r7).bind fun r8 => (spec_l2Text.F r6 r8).bind fun r9 => bif (r9 != 0) then (some r9) else ((spec_l2Inverse.F k a0).bind fun r10 => (spec_l2Inverse.F k a1).bind fun r11 => (spec_l2Text.F r10 r11).bind fun r12 => some r12)))
def spec_l2Compare.C (k : Nat) : Cal → Option CArm := fun c => match c with
  | .f 87 => some (.p [.str] _ (fun x => spec_l2Low.F k x.1) (fun r => (.t .str r)))
  | .f 62 => some (.p [.str, .str] _ (fun x => spec_l2Text.F x.1 x.2.1) (fun r => (.t (.int .i64) r)))
  | .f 113 => some (.p [.name] _ (fun x => spec_l2Full.F k x.1) (fun r => (.t .str r)))
  | .f 114 => some (.p [.name] _ (fun x => spec_l2Inverse.F k x.1) (fun r => (.t .str r)))
  | _ => none
theorem spec_l2Compare.run (k : Nat) (a0 : Name) (a1 : Name) : runF envX (tabC (spec_l2Compare.C k)) (tabL 41 0 (fun _ => none)) Tryz.f85 [.t .name a0, .t .name a1] (viewR1 (.t (.int .i64))) = spec_l2Compare.F k a0 a1 := by kernel_rfl
theorem spec_l2Compare.G (hE : EnvOk Tryz.prog envX) (pv : Nat → Value) (k : Nat) : ∀ cal A, spec_l2Compare.C k cal = some A → ArmOk Tryz.prog envX pv cal A := by
  intro cal A h
  unfold spec_l2Compare.C at h
  split at h
  · cases h; exact fun x y hy => spec_l2Low.good hE pv k x.1 hy
  · cases h; exact fun x y hy => spec_l2Text.good hE pv x.1 x.2.1 hy
  · cases h; exact fun x y hy => spec_l2Full.good hE pv k x.1 hy
  · cases h; exact fun x y hy => spec_l2Inverse.good hE pv k x.1 hy
  · cases h
theorem spec_l2Compare.good (hE : EnvOk Tryz.prog envX) (pv : Nat → Value) (k : Nat) (a0 : Name) (a1 : Name) {y : _} (h : spec_l2Compare.F k a0 a1 = some y) : Meets Tryz.prog envX pv (.f 85) (tvals [.name, .name] (a0, a1, ())) (.t (.int .i64) y) :=
  fun_plain hE (spec_l2Compare.G hE pv k) (f := 85) (fn := Tryz.f85) (by kernel_rfl) rfl (by kernel_rfl) (by kernel_rfl) ((spec_l2Compare.run k a0 a1).trans h) fun r hr => wk_view1 hr
def spec_l8Names.l0 : Nat → (List Name) → (List Name) → Int → Option (Sum Int ((List Name) × (List Name)))
  | 0, _, _, _ => none
  | k + 1, x0, x1, x5 => bif (decide (x5 < (x0.length : Int))) then (bif (decide (x5 < (x1.length : Int))) then (bif decide (0 ≤ x5) then (bif decide (x5 < (x0.length : Int)) then (bif decide (0 ≤ x5) then (bif decide (x5 < (x1.length : Int)) then ((spec_l2Compare.F k (x0.getD (x5 : Int).toNat (dflt .name)) (x1.getD (x5 : Int).toNat (dflt .name))).bind fun r1 => bif (r1 != 0) then (some (.inl r1)) else (spec_l8Names.l0 k x0 x1 (IntKind.wrap .i64 (x5 + 1)))) else none) else none) else none) else none) else (some (.inr (x0, x1)))) else (some (.inr (x0, x1)))
def spec_l8Names.F (k : Nat) (a0 : List Name) (a1 : List Name) : Option (Int) := (spec_l8Names.l0 k a0 a1 0).bind fun y2 => match y2 with | .inl z3 => some z3 | .inr z3 => bif (decide ((z3.1.length : Int) < (z3.2.length : Int))) then (some (-1)) else (bif (decide ((z3.1.length : Int) > (z3.2.length : Int))) then (some 1) else (some 0))
def spec_l8Names.C (k : Nat) : Cal → Option CArm := fun c => match c with
  | .f 85 => some (.p [.name, .name] _ (fun x => spec_l2Compare.F k x.1 x.2.1) (fun r => (.t (.int .i64) r)))
  | _ => none
def spec_l8Names.sp0 : List Sp := [.t 0 (.sl .name), .t 1 (.sl .name), .t 5 (.int .i64)]
def spec_l8Names.sp0_0 : List Sp := [.t 4 (.int .i64)]
def spec_l8Names.sp0_1 : List Sp := [.t 0 (.sl .name), .t 1 (.sl .name)]
def spec_l8Names.A0 : LArm := .two spec_l8Names.sp0 spec_l8Names.sp0_0 spec_l8Names.sp0_1 (Int) ((List Name) × (List Name)) (fun k x => spec_l8Names.l0 k x.1 x.2.1 x.2.2.1) .ret (.exit 0) (fun y => (y, ())) (fun x => x.1) (fun y => (y.1, y.2, ())) (fun x => (x.1, x.2.1))
def spec_l8Names.L : Nat → Option LArm := fun b => match b with
  | 0 => some spec_l8Names.A0
  | _ => none
theorem spec_l8Names.run (k : Nat) (a0 : List Name) (a1 : List Name) : runF envX (tabC (spec_l8Names.C k)) (tabL 43 k spec_l8Names.L) Tryz.f57 [.t (.sl .name) a0, .t (.sl .name) a1] (viewR1 (.t (.int .i64))) = spec_l8Names.F k a0 a1 := by kernel_rfl
theorem spec_l8Names.step0 (k : Nat) (x0 : List Name) (x1 : List Name) (x5 : Int) : runC envX (tabC (spec_l8Names.C k)) (tabL 43 k spec_l8Names.L) 0 (loopAt Tryz.f57 0) (stOf 43 spec_l8Names.sp0 (x0, x1, x5, ())) (spec_l8Names.A0.cont 43 k) = spec_l8Names.l0 (k + 1) x0 x1 x5 := by kernel_rfl
theorem spec_l8Names.G (hE : EnvOk Tryz.prog envX) (pv : Nat → Value) (k : Nat) : ∀ cal A, spec_l8Names.C k cal = some A → ArmOk Tryz.prog envX pv cal A := by
  intro cal A h
  unfold spec_l8Names.C at h
  split at h
  · cases h; exact fun x y hy => spec_l2Compare.good hE pv k x.1 x.2.1 hy
  · cases h
theorem spec_l8Names.good (hE : EnvOk Tryz.prog envX) (pv : Nat → Value) (k : Nat) (a0 : List Name) (a1 : List Name) {y : _} (h : spec_l8Names.F k a0 a1 = some y) : Meets Tryz.prog envX pv (.f 57) (tvals [(.sl .name), (.sl .name)] (a0, a1, ())) (.t (.int .i64) y) :=
  fun_loops hE (t := spec_l8Names.C) k (fun k _ => spec_l8Names.G hE pv k) (f := 57) (fn := Tryz.f57) (by kernel_rfl) rfl (by kernel_rfl) (by kernel_rfl) (lt := spec_l8Names.L) (by kernel_rfl) (fun b A h => by
    unfold spec_l8Names.L at h; split at h
    · cases h; exact ⟨by kernel_rfl, by kernel_rfl, by kernel_rfl, fun _ => rfl, fun _ => rfl, fun _ => rfl⟩
    · cases h) (fun b A h => by
    unfold spec_l8Names.L at h; split at h
    · cases h; exact fun k x => spec_l8Names.step0 k x.1 x.2.1 x.2.2.1
    · cases h) ((spec_l8Names.run k a0 a1).trans h) fun r hr => wk_view1 hr
def spec_l8Main.F (a0 : Entry) : Option (List Name) := bif (decide ((a0.authors.length : Int) > 0)) then (some a0.authors) else (some a0.editors)
def spec_l8Main.C : Cal → Option CArm := fun c => match c with
  | _ => none
theorem spec_l8Main.run (a0 : Entry) : runF envX (tabC spec_l8Main.C) (tabL 11 0 (fun _ => none)) Tryz.f58 [.t .entry a0] (viewR1 (.t (.sl .name))) = spec_l8Main.F a0 := by kernel_rfl
theorem spec_l8Main.G (hE : EnvOk Tryz.prog envX) (pv : Nat → Value) : ∀ cal A, spec_l8Main.C cal = some A → ArmOk Tryz.prog envX pv cal A := by
  intro cal A h
  unfold spec_l8Main.C at h
  cases h
theorem spec_l8Main.good (hE : EnvOk Tryz.prog envX) (pv : Nat → Value) (a0 : Entry) {y : _} (h : spec_l8Main.F a0 = some y) : Meets Tryz.prog envX pv (.f 58) (tvals [.entry] (a0, ())) (.t (.sl .name) y) :=
  fun_plain hE (spec_l8Main.G hE pv) (f := 58) (fn := Tryz.f58) (by kernel_rfl) rfl (by kernel_rfl) (by kernel_rfl) ((spec_l8Main.run a0).trans h) fun r hr => wk_view1 hr
def spec_l3Compare.F (a0 : Date) (a1 : Date) : Option (Int) := bif (decide ((IntKind.wrap .i64 ((IntKind.wrap .i64 ((IntKind.wrap .i64 ((IntKind.wrap .i64 ((IntKind.wrap .i64 ((IntKind.wrap .i64 (a0.y * 13)) + a0.m)) * 32)) + a0.d)) - (IntKind.wrap .i64 ((IntKind.wrap .i64 ((IntKind.wrap .i64 (a1.y * 13)) + a1.m)) * 32)))) - a1.d)) < 0)) then (some (-1)) else (bif ((IntKind.wrap .i64 ((IntKind.wrap .i64 ((IntKind.wrap .i64 ((IntKind.wrap .i64 ((IntKind.wrap .i64 ((IntKind.wrap .i64 (a0.y * 13)) + a0.m)) * 32)) + a0.d)) - (IntKind.wrap .i64 ((IntKind.wrap .i64 ((IntKind.wrap .i64 (a1.y * 13)) + a1.m)) * 32)))) - a1.d)) == 0) then (bif (!a0.c) then (bif a1.c then (some (-1)) else (bif (decide ((IntKind.wrap .i64 ((IntKind.wrap .i64 ((IntKind.wrap .i64 ((IntKind.wrap .i64 ((IntKind.wrap .i64 ((IntKind.wrap .i64 (a0.y * 13)) + a0.m)) * 32)) + a0.d)) - (IntKind.wrap .i64 ((IntKind.wrap .i64 ((IntKind.wrap .i64 (a1.y * 13)) + a1.m)) * 32)))) - a1.d)) > 0)) then (some 1) else (bif a0.c then (bif (!a1.c) then (some 1) else (some 0)) else (some 0)))) else (bif (decide ((IntKind.wrap .i64 ((IntKind.wrap .i64 ((IntKind.wrap .i64 ((IntKind.wrap .i64 ((IntKind.wrap .i64 ((IntKind.wrap .i64 (a0.y * 13)) + a0.m)) * 32)) + a0.d)) - (IntKind.wrap .i64 ((IntKind.wrap .i64 ((IntKind.wrap .i64 (a1.y * 13)) + a1.m)) * 32)))) - a1.d)) > 0)) then (some 1) else (bif a0.c then (bif (!a1.c) then (some 1) else (some 0)) else (some 0)))) else (bif (decide ((IntKind.wrap .i64 ((IntKind.wrap .i64 ((IntKind.wrap .i64 ((IntKind.wrap .i64 ((IntKind.wrap .i64 ((IntKind.wrap .i64 (a0.y * 13)) + a0.m)) * 32)) + a0.d)) - (IntKind.wrap .i64 ((IntKind.wrap .i64 ((IntKind.wrap .i64 (a1.y * 13)) + a1.m)) * 32)))) - a1.d)) > 0)) then (some 1) else (bif a0.c then (bif (!a1.c) then (some 1) else (some 0)) else (some 0))))
def spec_l3Compare.C : Cal → Option CArm := fun c => match c with
  | _ => none
theorem spec_l3Compare.run (a0 : Date) (a1 : Date) : runF envX (tabC spec_l3Compare.C) (tabL 55 0 (fun _ => none)) Tryz.f59 [.t .date a0, .t .date a1] (viewR1 (.t (.int .i64))) = spec_l3Compare.F a0 a1 := by kernel_rfl
theorem spec_l3Compare.G (hE : EnvOk Tryz.prog envX) (pv : Nat → Value) : ∀ cal A, spec_l3Compare.C cal = some A → ArmOk Tryz.prog envX pv cal A := by
  intro cal A h
  unfold spec_l3Compare.C at h
  cases h
theorem spec_l3Compare.good (hE : EnvOk Tryz.prog envX) (pv : Nat → Value) (a0 : Date) (a1 : Date) {y : _} (h : spec_l3Compare.F a0 a1 = some y) : Meets Tryz.prog envX pv (.f 59) (tvals [.date, .date] (a0, a1, ())) (.t (.int .i64) y) :=
  fun_plain hE (spec_l3Compare.G hE pv) (f := 59) (fn := Tryz.f59) (by kernel_rfl) rfl (by kernel_rfl) (by kernel_rfl) ((spec_l3Compare.run a0 a1).trans h) fun r hr => wk_view1 hr
def spec_l8Digit.F (a0 : Int) : Option (Bool) := bif (decide (a0 ≥ 48)) then (some (decide (a0 ≤ 57))) else (some false)
def spec_l8Digit.C : Cal → Option CArm := fun c => match c with
  | _ => none
theorem spec_l8Digit.run (a0 : Int) : runF envX (tabC spec_l8Digit.C) (tabL 9 0 (fun _ => none)) Tryz.f115 [.t (.int .u8) a0] (viewR1 (.t .bool)) = spec_l8Digit.F a0 := by kernel_rfl
theorem spec_l8Digit.G (hE : EnvOk Tryz.prog envX) (pv : Nat → Value) : ∀ cal A, spec_l8Digit.C cal = some A → ArmOk Tryz.prog envX pv cal A := by
  intro cal A h
  unfold spec_l8Digit.C at h
  cases h
theorem spec_l8Digit.good (hE : EnvOk Tryz.prog envX) (pv : Nat → Value) (a0 : Int) {y : _} (h : spec_l8Digit.F a0 = some y) : Meets Tryz.prog envX pv (.f 115) (tvals [(.int .u8)] (a0, ())) (.t .bool y) :=
  fun_plain hE (spec_l8Digit.G hE pv) (f := 115) (fn := Tryz.f115) (by kernel_rfl) rfl (by kernel_rfl) (by kernel_rfl) ((spec_l8Digit.run a0).trans h) fun r hr => wk_view1 hr
def spec_l8Fold.l0 : Nat → (List Int) → Bool → ByteArray → Int → Option ((List Int))
  | 0, _, _, _, _ => none
  | k + 1, x3, x4, x5, x6 => bif (decide (x6 < (x5.size : Int))) then (bif decide (0 ≤ x6) then (bif decide (x6 < (x5.size : Int)) then ((spec_l2Lower.F (bt x5 (x6 : Int).toNat)).bind fun r2 => bif (!r2) then ((spec_l8Digit.F (bt x5 (x6 : Int).toNat)).bind fun r3 => bif (!r3) then (bif x4 then (spec_l8Fold.l0 k x3 true x5 (IntKind.wrap .i64 (x6 + 1))) else (spec_l8Fold.l0 k x3 ((bt x5 (x6 : Int).toNat) == 32) x5 (IntKind.wrap .i64 (x6 + 1)))) else (bif x4 then (bif (decide ((x3.length : Int) > 0)) then (bif room (x3.length + ([32] : List Int).length) (.int .u8) then (bif room ((x3 ++ ([32] : List Int)).length + ([(bt x5 (x6 : Int).toNat)] : List Int).length) (.int .u8) then (spec_l8Fold.l0 k ((x3 ++ ([32] : List Int)) ++ ([(bt x5 (x6 : Int).toNat)] : List Int)) false x5 (IntKind.wrap .i64 (x6 + 1))) else none) else none) else (bif room (x3.length + ([(bt x5 (x6 : Int).toNat)] : List Int).length) (.int .u8) then (spec_l8Fold.l0 k (x3 ++ ([(bt x5 (x6 : Int).toNat)] : List Int)) false x5 (IntKind.wrap .i64 (x6 + 1))) else none)) else (bif room (x3.length + ([(bt x5 (x6 : Int).toNat)] : List Int).length) (.int .u8) then (spec_l8Fold.l0 k (x3 ++ ([(bt x5 (x6 : Int).toNat)] : List Int)) false x5 (IntKind.wrap .i64 (x6 + 1))) else none))) else (bif x4 then (bif (decide ((x3.length : Int) > 0)) then (bif room (x3.length + ([32] : List Int).length) (.int .u8) then (bif room ((x3 ++ ([32] : List Int)).length + ([(bt x5 (x6 : Int).toNat)] : List Int).length) (.int .u8) then (spec_l8Fold.l0 k ((x3 ++ ([32] : List Int)) ++ ([(bt x5 (x6 : Int).toNat)] : List Int)) false x5 (IntKind.wrap .i64 (x6 + 1))) else none) else none) else (bif room (x3.length + ([(bt x5 (x6 : Int).toNat)] : List Int).length) (.int .u8) then (spec_l8Fold.l0 k (x3 ++ ([(bt x5 (x6 : Int).toNat)] : List Int)) false x5 (IntKind.wrap .i64 (x6 + 1))) else none)) else (bif room (x3.length + ([(bt x5 (x6 : Int).toNat)] : List Int).length) (.int .u8) then (spec_l8Fold.l0 k (x3 ++ ([(bt x5 (x6 : Int).toNat)] : List Int)) false x5 (IntKind.wrap .i64 (x6 + 1))) else none))) else none) else none) else (some x3)
def spec_l8Fold.F (k : Nat) (a0 : ByteArray) : Option (ByteArray) := (spec_l2Low.F k a0).bind fun r1 => (spec_l8Fold.l0 k ([] : List Int) false r1 0).bind fun y4 => some (strL y4)
def spec_l8Fold.C (k : Nat) : Cal → Option CArm := fun c => match c with
  | .f 87 => some (.p [.str] _ (fun x => spec_l2Low.F k x.1) (fun r => (.t .str r)))
  | .f 110 => some (.p [(.int .u8)] _ (fun x => spec_l2Lower.F x.1) (fun r => (.t .bool r)))
  | .f 115 => some (.p [(.int .u8)] _ (fun x => spec_l8Digit.F x.1) (fun r => (.t .bool r)))
  | _ => none
def spec_l8Fold.sp0 : List Sp := [.own 3 1024 5 (.int .u8) false true, .t 4 .bool, .t 5 .str, .t 6 (.int .i64)]
def spec_l8Fold.sp0_0 : List Sp := [.own 3 1024 5 (.int .u8) false true]
def spec_l8Fold.A0 : LArm := .one spec_l8Fold.sp0 spec_l8Fold.sp0_0 ((List Int)) (fun k x => spec_l8Fold.l0 k x.1 x.2.1 x.2.2.1 x.2.2.2.1) (.exit 0) (fun y => (y, ())) (fun x => x.1)
def spec_l8Fold.L : Nat → Option LArm := fun b => match b with
  | 0 => some spec_l8Fold.A0
  | _ => none
theorem spec_l8Fold.run (k : Nat) (a0 : ByteArray) : runF envX (tabC (spec_l8Fold.C k)) (tabL 48 k spec_l8Fold.L) Tryz.f86 [.t .str a0] (viewR1 (.t .str)) = spec_l8Fold.F k a0 := by kernel_rfl
theorem spec_l8Fold.step0 (k : Nat) (x3 : List Int) (x4 : Bool) (x5 : ByteArray) (x6 : Int) : runC envX (tabC (spec_l8Fold.C k)) (tabL 48 k spec_l8Fold.L) 0 (loopAt Tryz.f86 0) (stOf 48 spec_l8Fold.sp0 (x3, x4, x5, x6, ())) (spec_l8Fold.A0.cont 48 k) = spec_l8Fold.l0 (k + 1) x3 x4 x5 x6 := by kernel_rfl
theorem spec_l8Fold.G (hE : EnvOk Tryz.prog envX) (pv : Nat → Value) (k : Nat) : ∀ cal A, spec_l8Fold.C k cal = some A → ArmOk Tryz.prog envX pv cal A := by
  intro cal A h
  unfold spec_l8Fold.C at h
  split at h
  · cases h; exact fun x y hy => spec_l2Low.good hE pv k x.1 hy
  · cases h; exact fun x y hy => spec_l2Lower.good hE pv x.1 hy
  · cases h; exact fun x y hy => spec_l8Digit.good hE pv x.1 hy
  · cases h
theorem spec_l8Fold.good (hE : EnvOk Tryz.prog envX) (pv : Nat → Value) (k : Nat) (a0 : ByteArray) {y : _} (h : spec_l8Fold.F k a0 = some y) : Meets Tryz.prog envX pv (.f 86) (tvals [.str] (a0, ())) (.t .str y) :=
  fun_loops hE (t := spec_l8Fold.C) k (fun k _ => spec_l8Fold.G hE pv k) (f := 86) (fn := Tryz.f86) (by kernel_rfl) rfl (by kernel_rfl) (by kernel_rfl) (lt := spec_l8Fold.L) (by kernel_rfl) (fun b A h => by
    unfold spec_l8Fold.L at h; split at h
    · cases h; exact ⟨by kernel_rfl, by kernel_rfl, fun _ => rfl, fun _ => rfl⟩
    · cases h) (fun b A h => by
    unfold spec_l8Fold.L at h; split at h
    · cases h; exact fun k x => spec_l8Fold.step0 k x.1 x.2.1 x.2.2.1 x.2.2.2.1
    · cases h) ((spec_l8Fold.run k a0).trans h) fun r hr => wk_view1 hr
def spec_l8Collate.F (k : Nat) (a0 : ByteArray) (a1 : ByteArray) : Option (Int) := (spec_l8Fold.F k a0).bind fun r1 => (spec_l8Fold.F k a1).bind fun r2 => (spec_l2Text.F r1 r2).bind fun r3 => bif (r3 != 0) then (some r3) else ((spec_l2Text.F a0 a1).bind fun r4 => some r4)
def spec_l8Collate.C (k : Nat) : Cal → Option CArm := fun c => match c with
  | .f 86 => some (.p [.str] _ (fun x => spec_l8Fold.F k x.1) (fun r => (.t .str r)))
  | .f 62 => some (.p [.str, .str] _ (fun x => spec_l2Text.F x.1 x.2.1) (fun r => (.t (.int .i64) r)))
  | _ => none
theorem spec_l8Collate.run (k : Nat) (a0 : ByteArray) (a1 : ByteArray) : runF envX (tabC (spec_l8Collate.C k)) (tabL 17 0 (fun _ => none)) Tryz.f60 [.t .str a0, .t .str a1] (viewR1 (.t (.int .i64))) = spec_l8Collate.F k a0 a1 := by kernel_rfl
theorem spec_l8Collate.G (hE : EnvOk Tryz.prog envX) (pv : Nat → Value) (k : Nat) : ∀ cal A, spec_l8Collate.C k cal = some A → ArmOk Tryz.prog envX pv cal A := by
  intro cal A h
  unfold spec_l8Collate.C at h
  split at h
  · cases h; exact fun x y hy => spec_l8Fold.good hE pv k x.1 hy
  · cases h; exact fun x y hy => spec_l2Text.good hE pv x.1 x.2.1 hy
  · cases h
theorem spec_l8Collate.good (hE : EnvOk Tryz.prog envX) (pv : Nat → Value) (k : Nat) (a0 : ByteArray) (a1 : ByteArray) {y : _} (h : spec_l8Collate.F k a0 a1 = some y) : Meets Tryz.prog envX pv (.f 60) (tvals [.str, .str] (a0, a1, ())) (.t (.int .i64) y) :=
  fun_plain hE (spec_l8Collate.G hE pv k) (f := 60) (fn := Tryz.f60) (by kernel_rfl) rfl (by kernel_rfl) (by kernel_rfl) ((spec_l8Collate.run k a0 a1).trans h) fun r hr => wk_view1 hr
def spec_l8Drop.l0 : Nat → ByteArray → (List ByteArray) → Int → Option (Sum ByteArray ByteArray)
  | 0, _, _, _ => none
  | k + 1, x0, x3, x4 => bif (decide (x4 < (x3.length : Int))) then (bif decide (0 ≤ x4) then (bif decide (x4 < (x3.length : Int)) then (bif (decide ((x0.size : Int) ≥ ((x3.getD ((x4 : Int).toNat) (⟨#[]⟩ : ByteArray)).size : Int))) then (bif decide (0 ≤ ((x3.getD ((x4 : Int).toNat) (⟨#[]⟩ : ByteArray)).size : Int)) then (bif decide (((x3.getD ((x4 : Int).toNat) (⟨#[]⟩ : ByteArray)).size : Int) ≤ (x0.size : Int)) then ((spec_l2Low.F k (x0.extract 0 (((x3.getD ((x4 : Int).toNat) (⟨#[]⟩ : ByteArray)).size : Int) : Int).toNat)).bind fun r1 => bif decide (0 ≤ x4) then (bif decide (x4 < (x3.length : Int)) then (bif (beqS r1 (x3.getD ((x4 : Int).toNat) (⟨#[]⟩ : ByteArray))) then (bif decide (0 ≤ ((x3.getD ((x4 : Int).toNat) (⟨#[]⟩ : ByteArray)).size : Int)) then (bif decide (((x3.getD ((x4 : Int).toNat) (⟨#[]⟩ : ByteArray)).size : Int) ≤ (x0.size : Int)) then (some (.inl (x0.extract (((x3.getD ((x4 : Int).toNat) (⟨#[]⟩ : ByteArray)).size : Int) : Int).toNat x0.size))) else none) else none) else (spec_l8Drop.l0 k x0 x3 (IntKind.wrap .i64 (x4 + 1)))) else none) else none) else none) else none) else (spec_l8Drop.l0 k x0 x3 (IntKind.wrap .i64 (x4 + 1)))) else none) else none) else (some (.inr x0))
def spec_l8Drop.F (k : Nat) (a0 : ByteArray) : Option (ByteArray) := (spec_l8Drop.l0 k a0 ([(⟨#[97, 32]⟩ : ByteArray), (⟨#[97, 110, 32]⟩ : ByteArray), (⟨#[116, 104, 101, 32]⟩ : ByteArray)] : List ByteArray) 0).bind fun y2 => match y2 with | .inl z3 => some z3 | .inr z3 => some z3
def spec_l8Drop.C (k : Nat) : Cal → Option CArm := fun c => match c with
  | .f 87 => some (.p [.str] _ (fun x => spec_l2Low.F k x.1) (fun r => (.t .str r)))
  | _ => none
def spec_l8Drop.sp0 : List Sp := [.t 0 .str, .own 3 1024 9 .str false true, .t 4 (.int .i64)]
def spec_l8Drop.sp0_0 : List Sp := [.t 2 .str]
def spec_l8Drop.sp0_1 : List Sp := [.t 0 .str]
def spec_l8Drop.A0 : LArm := .two spec_l8Drop.sp0 spec_l8Drop.sp0_0 spec_l8Drop.sp0_1 (ByteArray) (ByteArray) (fun k x => spec_l8Drop.l0 k x.1 x.2.1 x.2.2.1) .ret (.exit 0) (fun y => (y, ())) (fun x => x.1) (fun y => (y, ())) (fun x => x.1)
def spec_l8Drop.L : Nat → Option LArm := fun b => match b with
  | 0 => some spec_l8Drop.A0
  | _ => none
theorem spec_l8Drop.run (k : Nat) (a0 : ByteArray) : runF envX (tabC (spec_l8Drop.C k)) (tabL 37 k spec_l8Drop.L) Tryz.f61 [.t .str a0] (viewR1 (.t .str)) = spec_l8Drop.F k a0 := by kernel_rfl
theorem spec_l8Drop.step0 (k : Nat) (x0 : ByteArray) (x3 : List ByteArray) (x4 : Int) : runC envX (tabC (spec_l8Drop.C k)) (tabL 37 k spec_l8Drop.L) 0 (loopAt Tryz.f61 0) (stOf 37 spec_l8Drop.sp0 (x0, x3, x4, ())) (spec_l8Drop.A0.cont 37 k) = spec_l8Drop.l0 (k + 1) x0 x3 x4 := by kernel_rfl
theorem spec_l8Drop.G (hE : EnvOk Tryz.prog envX) (pv : Nat → Value) (k : Nat) : ∀ cal A, spec_l8Drop.C k cal = some A → ArmOk Tryz.prog envX pv cal A := by
  intro cal A h
  unfold spec_l8Drop.C at h
  split at h
  · cases h; exact fun x y hy => spec_l2Low.good hE pv k x.1 hy
  · cases h
theorem spec_l8Drop.good (hE : EnvOk Tryz.prog envX) (pv : Nat → Value) (k : Nat) (a0 : ByteArray) {y : _} (h : spec_l8Drop.F k a0 = some y) : Meets Tryz.prog envX pv (.f 61) (tvals [.str] (a0, ())) (.t .str y) :=
  fun_loops hE (t := spec_l8Drop.C) k (fun k _ => spec_l8Drop.G hE pv k) (f := 61) (fn := Tryz.f61) (by kernel_rfl) rfl (by kernel_rfl) (by kernel_rfl) (lt := spec_l8Drop.L) (by kernel_rfl) (fun b A h => by
    unfold spec_l8Drop.L at h; split at h
    · cases h; exact ⟨by kernel_rfl, by kernel_rfl, by kernel_rfl, fun _ => rfl, fun _ => rfl, fun _ => rfl⟩
    · cases h) (fun b A h => by
    unfold spec_l8Drop.L at h; split at h
    · cases h; exact fun k x => spec_l8Drop.step0 k x.1 x.2.1 x.2.2.1
    · cases h) ((spec_l8Drop.run k a0).trans h) fun r hr => wk_view1 hr
def spec_l8Compare.F (k : Nat) (a0 : Entry) (a1 : Entry) : Option (Int) := (spec_l8Main.F a0).bind fun r1 => (spec_l8Main.F a1).bind fun r2 => (spec_l8Names.F k r1 r2).bind fun r3 => bif (r3 != 0) then (some r3) else ((spec_l3Compare.F a0.date a1.date).bind fun r4 => bif (r4 != 0) then (some r4) else ((spec_l8Drop.F k a0.title).bind fun r5 => (spec_l8Drop.F k a1.title).bind fun r6 => (spec_l8Collate.F k r5 r6).bind fun r7 => bif (r7 != 0) then (some r7) else (bif (decide (a0.volume < a1.volume)) then (some (-1)) else (bif (decide (a0.volume > a1.volume)) then (some 1) else ((spec_l2Text.F a0.key a1.key).bind fun r8 => some r8)))))
def spec_l8Compare.C (k : Nat) : Cal → Option CArm := fun c => match c with
  | .f 58 => some (.p [.entry] _ (fun x => spec_l8Main.F x.1) (fun r => (.t (.sl .name) r)))
  | .f 57 => some (.p [(.sl .name), (.sl .name)] _ (fun x => spec_l8Names.F k x.1 x.2.1) (fun r => (.t (.int .i64) r)))
  | .f 59 => some (.p [.date, .date] _ (fun x => spec_l3Compare.F x.1 x.2.1) (fun r => (.t (.int .i64) r)))
  | .f 61 => some (.p [.str] _ (fun x => spec_l8Drop.F k x.1) (fun r => (.t .str r)))
  | .f 60 => some (.p [.str, .str] _ (fun x => spec_l8Collate.F k x.1 x.2.1) (fun r => (.t (.int .i64) r)))
  | .f 62 => some (.p [.str, .str] _ (fun x => spec_l2Text.F x.1 x.2.1) (fun r => (.t (.int .i64) r)))
  | _ => none
theorem spec_l8Compare.run (k : Nat) (a0 : Entry) (a1 : Entry) : runF envX (tabC (spec_l8Compare.C k)) (tabL 51 0 (fun _ => none)) Tryz.f42 [.t .entry a0, .t .entry a1] (viewR1 (.t (.int .i64))) = spec_l8Compare.F k a0 a1 := by kernel_rfl
theorem spec_l8Compare.G (hE : EnvOk Tryz.prog envX) (pv : Nat → Value) (k : Nat) : ∀ cal A, spec_l8Compare.C k cal = some A → ArmOk Tryz.prog envX pv cal A := by
  intro cal A h
  unfold spec_l8Compare.C at h
  split at h
  · cases h; exact fun x y hy => spec_l8Main.good hE pv x.1 hy
  · cases h; exact fun x y hy => spec_l8Names.good hE pv k x.1 x.2.1 hy
  · cases h; exact fun x y hy => spec_l3Compare.good hE pv x.1 x.2.1 hy
  · cases h; exact fun x y hy => spec_l8Drop.good hE pv k x.1 hy
  · cases h; exact fun x y hy => spec_l8Collate.good hE pv k x.1 x.2.1 hy
  · cases h; exact fun x y hy => spec_l2Text.good hE pv x.1 x.2.1 hy
  · cases h
theorem spec_l8Compare.good (hE : EnvOk Tryz.prog envX) (pv : Nat → Value) (k : Nat) (a0 : Entry) (a1 : Entry) {y : _} (h : spec_l8Compare.F k a0 a1 = some y) : Meets Tryz.prog envX pv (.f 42) (tvals [.entry, .entry] (a0, a1, ())) (.t (.int .i64) y) :=
  fun_plain hE (spec_l8Compare.G hE pv k) (f := 42) (fn := Tryz.f42) (by kernel_rfl) rfl (by kernel_rfl) (by kernel_rfl) ((spec_l8Compare.run k a0 a1).trans h) fun r hr => wk_view1 hr
def spec_l8Sort.l2 : Nat → (List ByteArray) → Library → (List ByteArray) → Int → Int → Option ((List ByteArray) × Library × (List ByteArray) × Int × Int)
  | 0, _, _, _, _, _ => none
  | k + 1, x1, x2, x5, x6, x7 => bif (decide (x7 > 0)) then (bif decide (0 ≤ x6) then (bif decide (x6 < (x1.length : Int)) then ((spec_l4Find.F k x2 (x1.getD (x6 : Int).toNat (⟨#[]⟩ : ByteArray))).bind fun r1 => bif decide (0 ≤ r1) then (bif decide (r1 < (x2.entries.length : Int)) then (bif decide (0 ≤ (IntKind.wrap .i64 (x7 - 1))) then (bif decide ((IntKind.wrap .i64 (x7 - 1)) < (x5.length : Int)) then ((spec_l4Find.F k x2 (x5.getD (((IntKind.wrap .i64 (x7 - 1)) : Int).toNat) (⟨#[]⟩ : ByteArray))).bind fun r2 => bif decide (0 ≤ r2) then (bif decide (r2 < (x2.entries.length : Int)) then ((spec_l8Compare.F k (x2.entries.getD (r1 : Int).toNat (dflt .entry)) (x2.entries.getD (r2 : Int).toNat (dflt .entry))).bind fun r3 => bif (decide (r3 < 0)) then (spec_l8Sort.l2 k x1 x2 x5 x6 (IntKind.wrap .i64 (x7 - 1))) else (some (x1, x2, x5, x6, x7))) else none) else none) else none) else none) else none) else none) else none) else none) else (some (x1, x2, x5, x6, x7))
def spec_l8Sort.l0 : Nat → (List ByteArray) → Library → (List ByteArray) → Int → Option ((List ByteArray))
  | 0, _, _, _, _ => none
  | k + 1, x1, x2, x5, x6 => bif (decide (x6 < (x1.length : Int))) then ((spec_l8Sort.l2 k x1 x2 x5 x6 (x5.length : Int)).bind fun y4 => bif decide (0 ≤ y4.2.2.2.2) then (bif decide (y4.2.2.2.2 ≤ (y4.2.2.1.length : Int)) then (bif room (([] : List ByteArray).length + (y4.2.2.1.take (y4.2.2.2.2 : Int).toNat).length) .str then (bif decide (0 ≤ y4.2.2.2.1) then (bif decide (y4.2.2.2.1 < (y4.1.length : Int)) then (bif room ((([] : List ByteArray) ++ (y4.2.2.1.take (y4.2.2.2.2 : Int).toNat)).length + ([(y4.1.getD (y4.2.2.2.1 : Int).toNat (⟨#[]⟩ : ByteArray))] : List ByteArray).length) .str then (bif decide (0 ≤ y4.2.2.2.2) then (bif decide (y4.2.2.2.2 ≤ (y4.2.2.1.length : Int)) then (bif room (((([] : List ByteArray) ++ (y4.2.2.1.take (y4.2.2.2.2 : Int).toNat)) ++ ([(y4.1.getD (y4.2.2.2.1 : Int).toNat (⟨#[]⟩ : ByteArray))] : List ByteArray)).length + (y4.2.2.1.drop (y4.2.2.2.2 : Int).toNat).length) .str then (spec_l8Sort.l0 k y4.1 y4.2.1 (((([] : List ByteArray) ++ (y4.2.2.1.take (y4.2.2.2.2 : Int).toNat)) ++ ([(y4.1.getD (y4.2.2.2.1 : Int).toNat (⟨#[]⟩ : ByteArray))] : List ByteArray)) ++ (y4.2.2.1.drop (y4.2.2.2.2 : Int).toNat)) (IntKind.wrap .i64 (y4.2.2.2.1 + 1))) else none) else none) else none) else none) else none) else none) else none) else none) else none) else (some x5)
def spec_l8Sort.F (k : Nat) (a0 : Library) (a1 : List ByteArray) : Option (List ByteArray) := (spec_l8Sort.l0 k a1 a0 ([] : List ByteArray) 0).bind fun y5 => some y5
def spec_l8Sort.C (k : Nat) : Cal → Option CArm := fun c => match c with
  | .f 41 => some (.p [.lib, .str] _ (fun x => spec_l4Find.F k x.1 x.2.1) (fun r => (.t (.int .i64) r)))
  | .f 42 => some (.p [.entry, .entry] _ (fun x => spec_l8Compare.F k x.1 x.2.1) (fun r => (.t (.int .i64) r)))
  | _ => none
def spec_l8Sort.sp2 : List Sp := [.t 1 (.sl .str), .boxT 2 0 .lib, .own 5 1024 9 .str false true, .t 6 (.int .i64), .t 7 (.int .i64)]
def spec_l8Sort.sp2_0 : List Sp := [.t 1 (.sl .str), .boxT 2 0 .lib, .own 5 1024 9 .str false true, .t 6 (.int .i64), .t 7 (.int .i64)]
def spec_l8Sort.A2 : LArm := .one spec_l8Sort.sp2 spec_l8Sort.sp2_0 ((List ByteArray) × Library × (List ByteArray) × Int × Int) (fun k x => spec_l8Sort.l2 k x.1 x.2.1 x.2.2.1 x.2.2.2.1 x.2.2.2.2.1) (.exit 2) (fun y => (y.1, y.2.1, y.2.2.1, y.2.2.2.1, y.2.2.2.2, ())) (fun x => (x.1, x.2.1, x.2.2.1, x.2.2.2.1, x.2.2.2.2.1))
def spec_l8Sort.sp0 : List Sp := [.t 1 (.sl .str), .boxT 2 0 .lib, .own 5 1024 9 .str false true, .t 6 (.int .i64)]
def spec_l8Sort.sp0_0 : List Sp := [.own 5 1024 9 .str false true]
def spec_l8Sort.A0 : LArm := .one spec_l8Sort.sp0 spec_l8Sort.sp0_0 ((List ByteArray)) (fun k x => spec_l8Sort.l0 k x.1 x.2.1 x.2.2.1 x.2.2.2.1) (.exit 0) (fun y => (y, ())) (fun x => x.1)
def spec_l8Sort.L : Nat → Option LArm := fun b => match b with
  | 2 => some spec_l8Sort.A2
  | 0 => some spec_l8Sort.A0
  | _ => none
theorem spec_l8Sort.run (k : Nat) (a0 : Library) (a1 : List ByteArray) : runF envX (tabC (spec_l8Sort.C k)) (tabL 62 k spec_l8Sort.L) Tryz.f27 [.t .lib a0, .t (.sl .str) a1] (viewR1 (.fr 9 .str)) = spec_l8Sort.F k a0 a1 := by kernel_rfl
theorem spec_l8Sort.step2 (k : Nat) (x1 : List ByteArray) (x2 : Library) (x5 : List ByteArray) (x6 : Int) (x7 : Int) : runC envX (tabC (spec_l8Sort.C k)) (tabL 62 k spec_l8Sort.L) 2 (loopAt Tryz.f27 2) (stOf 62 spec_l8Sort.sp2 (x1, x2, x5, x6, x7, ())) (spec_l8Sort.A2.cont 62 k) = spec_l8Sort.l2 (k + 1) x1 x2 x5 x6 x7 := by kernel_rfl
theorem spec_l8Sort.step0 (k : Nat) (x1 : List ByteArray) (x2 : Library) (x5 : List ByteArray) (x6 : Int) : runC envX (tabC (spec_l8Sort.C k)) (tabL 62 k spec_l8Sort.L) 0 (loopAt Tryz.f27 0) (stOf 62 spec_l8Sort.sp0 (x1, x2, x5, x6, ())) (spec_l8Sort.A0.cont 62 k) = spec_l8Sort.l0 (k + 1) x1 x2 x5 x6 := by kernel_rfl
theorem spec_l8Sort.G (hE : EnvOk Tryz.prog envX) (pv : Nat → Value) (k : Nat) : ∀ cal A, spec_l8Sort.C k cal = some A → ArmOk Tryz.prog envX pv cal A := by
  intro cal A h
  unfold spec_l8Sort.C at h
  split at h
  · cases h; exact fun x y hy => spec_l4Find.good hE pv k x.1 x.2.1 hy
  · cases h; exact fun x y hy => spec_l8Compare.good hE pv k x.1 x.2.1 hy
  · cases h
theorem spec_l8Sort.good (hE : EnvOk Tryz.prog envX) (pv : Nat → Value) (k : Nat) (a0 : Library) (a1 : List ByteArray) {y : _} (h : spec_l8Sort.F k a0 a1 = some y) : Meets Tryz.prog envX pv (.f 27) (tvals [.lib, (.sl .str)] (a0, a1, ())) (.fr 9 .str y) :=
  fun_loops hE (t := spec_l8Sort.C) k (fun k _ => spec_l8Sort.G hE pv k) (f := 27) (fn := Tryz.f27) (by kernel_rfl) rfl (by kernel_rfl) (by kernel_rfl) (lt := spec_l8Sort.L) (by kernel_rfl) (fun b A h => by
    unfold spec_l8Sort.L at h; split at h
    · cases h; exact ⟨by kernel_rfl, by kernel_rfl, fun _ => rfl, fun _ => rfl⟩
    · cases h; exact ⟨by kernel_rfl, by kernel_rfl, fun _ => rfl, fun _ => rfl⟩
    · cases h) (fun b A h => by
    unfold spec_l8Sort.L at h; split at h
    · cases h; exact fun k x => spec_l8Sort.step2 k x.1 x.2.1 x.2.2.1 x.2.2.2.1 x.2.2.2.2.1
    · cases h; exact fun k x => spec_l8Sort.step0 k x.1 x.2.1 x.2.2.1 x.2.2.2.1
    · cases h) ((spec_l8Sort.run k a0 a1).trans h) fun r hr => wk_view1 hr
def spec_l17Year.F (k : Nat) (a0 : Library) (a1 : ByteArray) : Option (Int) := (spec_l4Find.F k a0 a1).bind fun r1 => bif decide (0 ≤ r1) then (bif decide (r1 < (a0.entries.length : Int)) then (some (((a0.entries.getD (r1 : Int).toNat (dflt .entry)).date).y)) else none) else none
def spec_l17Year.C (k : Nat) : Cal → Option CArm := fun c => match c with
  | .f 41 => some (.p [.lib, .str] _ (fun x => spec_l4Find.F k x.1 x.2.1) (fun r => (.t (.int .i64) r)))
  | _ => none
theorem spec_l17Year.run (k : Nat) (a0 : Library) (a1 : ByteArray) : runF envX (tabC (spec_l17Year.C k)) (tabL 14 0 (fun _ => none)) Tryz.f28 [.t .lib a0, .t .str a1] (viewR1 (.t (.int .i64))) = spec_l17Year.F k a0 a1 := by kernel_rfl
theorem spec_l17Year.G (hE : EnvOk Tryz.prog envX) (pv : Nat → Value) (k : Nat) : ∀ cal A, spec_l17Year.C k cal = some A → ArmOk Tryz.prog envX pv cal A := by
  intro cal A h
  unfold spec_l17Year.C at h
  split at h
  · cases h; exact fun x y hy => spec_l4Find.good hE pv k x.1 x.2.1 hy
  · cases h
theorem spec_l17Year.good (hE : EnvOk Tryz.prog envX) (pv : Nat → Value) (k : Nat) (a0 : Library) (a1 : ByteArray) {y : _} (h : spec_l17Year.F k a0 a1 = some y) : Meets Tryz.prog envX pv (.f 28) (tvals [.lib, .str] (a0, a1, ())) (.t (.int .i64) y) :=
  fun_plain hE (spec_l17Year.G hE pv k) (f := 28) (fn := Tryz.f28) (by kernel_rfl) rfl (by kernel_rfl) (by kernel_rfl) ((spec_l17Year.run k a0 a1).trans h) fun r hr => wk_view1 hr
def spec_l17Keys.l2 : Nat → Library → (List ByteArray) → (List ByteArray) → Int → Int → Option (Library × (List ByteArray) × (List ByteArray) × Int × Int)
  | 0, _, _, _, _, _ => none
  | k + 1, x3, x7, x8, x9, x10 => bif (decide (x10 > 0)) then (bif decide (0 ≤ (IntKind.wrap .i64 (x10 - 1))) then (bif decide ((IntKind.wrap .i64 (x10 - 1)) < (x8.length : Int)) then ((spec_l17Year.F k x3 (x8.getD (((IntKind.wrap .i64 (x10 - 1)) : Int).toNat) (⟨#[]⟩ : ByteArray))).bind fun r2 => bif decide (0 ≤ x9) then (bif decide (x9 < (x7.length : Int)) then ((spec_l17Year.F k x3 (x7.getD (x9 : Int).toNat (⟨#[]⟩ : ByteArray))).bind fun r3 => bif (decide (r2 < r3)) then (spec_l17Keys.l2 k x3 x7 x8 x9 (IntKind.wrap .i64 (x10 - 1))) else (some (x3, x7, x8, x9, x10))) else none) else none) else none) else none) else (some (x3, x7, x8, x9, x10))
def spec_l17Keys.l0 : Nat → Library → (List ByteArray) → (List ByteArray) → Int → Option ((List ByteArray))
  | 0, _, _, _, _ => none
  | k + 1, x3, x7, x8, x9 => bif (decide (x9 < (x7.length : Int))) then ((spec_l17Keys.l2 k x3 x7 x8 x9 (x8.length : Int)).bind fun y4 => bif decide (0 ≤ y4.2.2.2.2) then (bif decide (y4.2.2.2.2 ≤ (y4.2.2.1.length : Int)) then (bif room (([] : List ByteArray).length + (y4.2.2.1.take (y4.2.2.2.2 : Int).toNat).length) .str then (bif decide (0 ≤ y4.2.2.2.1) then (bif decide (y4.2.2.2.1 < (y4.2.1.length : Int)) then (bif room ((([] : List ByteArray) ++ (y4.2.2.1.take (y4.2.2.2.2 : Int).toNat)).length + ([(y4.2.1.getD (y4.2.2.2.1 : Int).toNat (⟨#[]⟩ : ByteArray))] : List ByteArray).length) .str then (bif decide (0 ≤ y4.2.2.2.2) then (bif decide (y4.2.2.2.2 ≤ (y4.2.2.1.length : Int)) then (bif room (((([] : List ByteArray) ++ (y4.2.2.1.take (y4.2.2.2.2 : Int).toNat)) ++ ([(y4.2.1.getD (y4.2.2.2.1 : Int).toNat (⟨#[]⟩ : ByteArray))] : List ByteArray)).length + (y4.2.2.1.drop (y4.2.2.2.2 : Int).toNat).length) .str then (spec_l17Keys.l0 k y4.1 y4.2.1 (((([] : List ByteArray) ++ (y4.2.2.1.take (y4.2.2.2.2 : Int).toNat)) ++ ([(y4.2.1.getD (y4.2.2.2.1 : Int).toNat (⟨#[]⟩ : ByteArray))] : List ByteArray)) ++ (y4.2.2.1.drop (y4.2.2.2.2 : Int).toNat)) (IntKind.wrap .i64 (y4.2.2.2.1 + 1))) else none) else none) else none) else none) else none) else none) else none) else none) else none) else (some x8)
def spec_l17Keys.F (k : Nat) (a0 : Library) (a1 : List ByteArray) (a2 : Int) : Option (List ByteArray) := bif (a2 == 2) then (bif room (([] : List ByteArray).length + a1.length) .str then (some (([] : List ByteArray) ++ a1)) else none) else ((spec_l8Sort.F k a0 a1).bind fun r1 => bif (a2 == 1) then (some r1) else ((spec_l17Keys.l0 k a0 r1 ([] : List ByteArray) 0).bind fun y5 => some y5))
def spec_l17Keys.C (k : Nat) : Cal → Option CArm := fun c => match c with
  | .f 27 => some (.p [.lib, (.sl .str)] _ (fun x => spec_l8Sort.F k x.1 x.2.1) (fun r => (.fr 9 .str r)))
  | .f 28 => some (.p [.lib, .str] _ (fun x => spec_l17Year.F k x.1 x.2.1) (fun r => (.t (.int .i64) r)))
  | _ => none
def spec_l17Keys.sp2 : List Sp := [.boxT 3 0 .lib, .t 7 (.sl .str), .own 8 6144 9 .str false true, .t 9 (.int .i64), .t 10 (.int .i64)]
def spec_l17Keys.sp2_0 : List Sp := [.boxT 3 0 .lib, .t 7 (.sl .str), .own 8 6144 9 .str false true, .t 9 (.int .i64), .t 10 (.int .i64)]
def spec_l17Keys.A2 : LArm := .one spec_l17Keys.sp2 spec_l17Keys.sp2_0 (Library × (List ByteArray) × (List ByteArray) × Int × Int) (fun k x => spec_l17Keys.l2 k x.1 x.2.1 x.2.2.1 x.2.2.2.1 x.2.2.2.2.1) (.exit 2) (fun y => (y.1, y.2.1, y.2.2.1, y.2.2.2.1, y.2.2.2.2, ())) (fun x => (x.1, x.2.1, x.2.2.1, x.2.2.2.1, x.2.2.2.2.1))
def spec_l17Keys.sp0 : List Sp := [.boxT 3 0 .lib, .rd 7 .str, .own 8 6144 9 .str false true, .t 9 (.int .i64)]
def spec_l17Keys.sp0_0 : List Sp := [.own 8 6144 9 .str false true]
def spec_l17Keys.A0 : LArm := .one spec_l17Keys.sp0 spec_l17Keys.sp0_0 ((List ByteArray)) (fun k x => spec_l17Keys.l0 k x.1 x.2.1 x.2.2.1 x.2.2.2.1) (.exit 0) (fun y => (y, ())) (fun x => x.1)
def spec_l17Keys.L : Nat → Option LArm := fun b => match b with
  | 2 => some spec_l17Keys.A2
  | 0 => some spec_l17Keys.A0
  | _ => none
theorem spec_l17Keys.run (k : Nat) (a0 : Library) (a1 : List ByteArray) (a2 : Int) : runF envX (tabC (spec_l17Keys.C k)) (tabL 67 k spec_l17Keys.L) Tryz.f17 [.t .lib a0, .t (.sl .str) a1, .t (.int .i64) a2] (viewR1 (.fr 9 .str)) = spec_l17Keys.F k a0 a1 a2 := by kernel_rfl
theorem spec_l17Keys.step2 (k : Nat) (x3 : Library) (x7 : List ByteArray) (x8 : List ByteArray) (x9 : Int) (x10 : Int) : runC envX (tabC (spec_l17Keys.C k)) (tabL 67 k spec_l17Keys.L) 2 (loopAt Tryz.f17 2) (stOf 67 spec_l17Keys.sp2 (x3, x7, x8, x9, x10, ())) (spec_l17Keys.A2.cont 67 k) = spec_l17Keys.l2 (k + 1) x3 x7 x8 x9 x10 := by kernel_rfl
theorem spec_l17Keys.step0 (k : Nat) (x3 : Library) (x7 : List ByteArray) (x8 : List ByteArray) (x9 : Int) : runC envX (tabC (spec_l17Keys.C k)) (tabL 67 k spec_l17Keys.L) 0 (loopAt Tryz.f17 0) (stOf 67 spec_l17Keys.sp0 (x3, x7, x8, x9, ())) (spec_l17Keys.A0.cont 67 k) = spec_l17Keys.l0 (k + 1) x3 x7 x8 x9 := by kernel_rfl
theorem spec_l17Keys.G (hE : EnvOk Tryz.prog envX) (pv : Nat → Value) (k : Nat) : ∀ cal A, spec_l17Keys.C k cal = some A → ArmOk Tryz.prog envX pv cal A := by
  intro cal A h
  unfold spec_l17Keys.C at h
  split at h
  · cases h; exact fun x y hy => spec_l8Sort.good hE pv k x.1 x.2.1 hy
  · cases h; exact fun x y hy => spec_l17Year.good hE pv k x.1 x.2.1 hy
  · cases h
theorem spec_l17Keys.good (hE : EnvOk Tryz.prog envX) (pv : Nat → Value) (k : Nat) (a0 : Library) (a1 : List ByteArray) (a2 : Int) {y : _} (h : spec_l17Keys.F k a0 a1 a2 = some y) : Meets Tryz.prog envX pv (.f 17) (tvals [.lib, (.sl .str), (.int .i64)] (a0, a1, a2, ())) (.fr 9 .str y) :=
  fun_loops hE (t := spec_l17Keys.C) k (fun k _ => spec_l17Keys.G hE pv k) (f := 17) (fn := Tryz.f17) (by kernel_rfl) rfl (by kernel_rfl) (by kernel_rfl) (lt := spec_l17Keys.L) (by kernel_rfl) (fun b A h => by
    unfold spec_l17Keys.L at h; split at h
    · cases h; exact ⟨by kernel_rfl, by kernel_rfl, fun _ => rfl, fun _ => rfl⟩
    · cases h; exact ⟨by kernel_rfl, by kernel_rfl, fun _ => rfl, fun _ => rfl⟩
    · cases h) (fun b A h => by
    unfold spec_l17Keys.L at h; split at h
    · cases h; exact fun k x => spec_l17Keys.step2 k x.1 x.2.1 x.2.2.1 x.2.2.2.1 x.2.2.2.2.1
    · cases h; exact fun k x => spec_l17Keys.step0 k x.1 x.2.1 x.2.2.1 x.2.2.2.1
    · cases h) ((spec_l17Keys.run k a0 a1 a2).trans h) fun r hr => wk_view1 hr
def spec_BibliographyKeys.F (k : Nat) (a0 : Library) (a1 : List ByteArray) (a2 : Int) : Option ((List ByteArray) × Bool) := (spec_l17Asked.F k a0 a1 a2).bind fun r1 => bif (!r1) then (some (([] : List ByteArray), false)) else ((spec_l17Keys.F k a0 a1 a2).bind fun r2 => some (r2, true))
def spec_BibliographyKeys.C (k : Nat) : Cal → Option CArm := fun c => match c with
  | .f 16 => some (.p [.lib, (.sl .str), (.int .i64)] _ (fun x => spec_l17Asked.F k x.1 x.2.1 x.2.2.1) (fun r => (.t .bool r)))
  | .f 17 => some (.p [.lib, (.sl .str), (.int .i64)] _ (fun x => spec_l17Keys.F k x.1 x.2.1 x.2.2.1) (fun r => (.fr 9 .str r)))
  | _ => none
theorem spec_BibliographyKeys.run (k : Nat) (a0 : Library) (a1 : List ByteArray) (a2 : Int) : runF envX (tabC (spec_BibliographyKeys.C k)) (tabL 18 0 (fun _ => none)) Tryz.f6 [.t .lib a0, .t (.sl .str) a1, .t (.int .i64) a2] (viewR2 (.fr 9 .str) (.t .bool)) = spec_BibliographyKeys.F k a0 a1 a2 := by kernel_rfl
theorem spec_BibliographyKeys.G (hE : EnvOk Tryz.prog envX) (pv : Nat → Value) (k : Nat) : ∀ cal A, spec_BibliographyKeys.C k cal = some A → ArmOk Tryz.prog envX pv cal A := by
  intro cal A h
  unfold spec_BibliographyKeys.C at h
  split at h
  · cases h; exact fun x y hy => spec_l17Asked.good hE pv k x.1 x.2.1 x.2.2.1 hy
  · cases h; exact fun x y hy => spec_l17Keys.good hE pv k x.1 x.2.1 x.2.2.1 hy
  · cases h
theorem spec_BibliographyKeys.good (hE : EnvOk Tryz.prog envX) (pv : Nat → Value) (k : Nat) (a0 : Library) (a1 : List ByteArray) (a2 : Int) {y : _} (h : spec_BibliographyKeys.F k a0 a1 a2 = some y) : Meets Tryz.prog envX pv (.f 6) (tvals [.lib, (.sl .str), (.int .i64)] (a0, a1, a2, ())) (.tup [.fr 9 .str y.1, .t .bool y.2]) :=
  fun_plain hE (spec_BibliographyKeys.G hE pv k) (f := 6) (fn := Tryz.f6) (by kernel_rfl) rfl (by kernel_rfl) (by kernel_rfl) ((spec_BibliographyKeys.run k a0 a1 a2).trans h) fun r hr => wk_view2 hr
def laws_toStringS.l0 : Nat → (List ByteArray) → (List ByteArray) → Int → Option ((List ByteArray))
  | 0, _, _, _ => none
  | k + 1, x0, x3, x4 => bif (decide (x4 < (x0.length : Int))) then (bif decide (0 ≤ x4) then (bif decide (x4 < (x0.length : Int)) then (bif decide (0 ≤ x4) then (bif decide (x4 < (x3.length : Int)) then (laws_toStringS.l0 k x0 (x3.set ((x4 : Int).toNat) (x0.getD (x4 : Int).toNat (⟨#[]⟩ : ByteArray))) (IntKind.wrap .i64 (x4 + 1))) else none) else none) else none) else none) else (some x3)
def laws_toStringS.F (k : Nat) (a0 : List ByteArray) : Option (List ByteArray) := bif ((a0.length : Int) == (a0.length : Int)) then (bif decide (0 ≤ (a0.length : Int)) then (bif Nat.ble (((a0.length : Int) : Int).toNat * nb .str) 140737488355328 then ((laws_toStringS.l0 k a0 (List.replicate ((a0.length : Int) : Int).toNat (⟨#[]⟩ : ByteArray)) 0).bind fun y1 => some y1) else none) else none) else none
def laws_toStringS.C (k : Nat) : Cal → Option CArm := fun c => match c with
  | _ => none
def laws_toStringS.sp0 : List Sp := [.t 0 (.sl .str), .own 3 1032 9 .str false true, .t 4 (.int .i64)]
def laws_toStringS.sp0_0 : List Sp := [.own 3 1032 9 .str false true]
def laws_toStringS.A0 : LArm := .one laws_toStringS.sp0 laws_toStringS.sp0_0 ((List ByteArray)) (fun k x => laws_toStringS.l0 k x.1 x.2.1 x.2.2.1) (.exit 0) (fun y => (y, ())) (fun x => x.1)
def laws_toStringS.L : Nat → Option LArm := fun b => match b with
  | 0 => some laws_toStringS.A0
  | _ => none
theorem laws_toStringS.run (k : Nat) (a0 : List ByteArray) : runF envX (tabC (laws_toStringS.C k)) (tabL 22 k laws_toStringS.L) Tryz.f8 [.t (.sl .str) a0] (viewR1 (.fr 9 .str)) = laws_toStringS.F k a0 := by kernel_rfl
theorem laws_toStringS.step0 (k : Nat) (x0 : List ByteArray) (x3 : List ByteArray) (x4 : Int) : runC envX (tabC (laws_toStringS.C k)) (tabL 22 k laws_toStringS.L) 0 (loopAt Tryz.f8 0) (stOf 22 laws_toStringS.sp0 (x0, x3, x4, ())) (laws_toStringS.A0.cont 22 k) = laws_toStringS.l0 (k + 1) x0 x3 x4 := by kernel_rfl
theorem laws_toStringS.G (hE : EnvOk Tryz.prog envX) (pv : Nat → Value) (k : Nat) : ∀ cal A, laws_toStringS.C k cal = some A → ArmOk Tryz.prog envX pv cal A := by
  intro cal A h
  unfold laws_toStringS.C at h
  cases h
theorem laws_toStringS.good (hE : EnvOk Tryz.prog envX) (pv : Nat → Value) (k : Nat) (a0 : List ByteArray) {y : _} (h : laws_toStringS.F k a0 = some y) : Meets Tryz.prog envX pv (.f 8) (tvals [(.sl .str)] (a0, ())) (.fr 9 .str y) :=
  fun_loops hE (t := laws_toStringS.C) k (fun k _ => laws_toStringS.G hE pv k) (f := 8) (fn := Tryz.f8) (by kernel_rfl) rfl (by kernel_rfl) (by kernel_rfl) (lt := laws_toStringS.L) (by kernel_rfl) (fun b A h => by
    unfold laws_toStringS.L at h; split at h
    · cases h; exact ⟨by kernel_rfl, by kernel_rfl, fun _ => rfl, fun _ => rfl⟩
    · cases h) (fun b A h => by
    unfold laws_toStringS.L at h; split at h
    · cases h; exact fun k x => laws_toStringS.step0 k x.1 x.2.1 x.2.2.1
    · cases h) ((laws_toStringS.run k a0).trans h) fun r hr => wk_view1 hr
def laws_toStringS_p.l0 : Nat → (List ByteArray) → (List ByteArray) → Int → Option ((List ByteArray))
  | 0, _, _, _ => none
  | k + 1, x0, x3, x4 => bif (decide (x4 < (x0.length : Int))) then (bif decide (0 ≤ x4) then (bif decide (x4 < (x0.length : Int)) then (bif decide (0 ≤ x4) then (bif decide (x4 < (x3.length : Int)) then (laws_toStringS_p.l0 k x0 (x3.set ((x4 : Int).toNat) (x0.getD (x4 : Int).toNat (⟨#[]⟩ : ByteArray))) (IntKind.wrap .i64 (x4 + 1))) else none) else none) else none) else none) else (some x3)
def laws_toStringS_p.F (k : Nat) (a0 : List ByteArray) : Option (List ByteArray) := bif ((a0.length : Int) == (a0.length : Int)) then (bif decide (0 ≤ (a0.length : Int)) then (bif Nat.ble (((a0.length : Int) : Int).toNat * nb .str) 140737488355328 then ((laws_toStringS_p.l0 k a0 (List.replicate ((a0.length : Int) : Int).toNat (⟨#[]⟩ : ByteArray)) 0).bind fun y1 => some y1) else none) else none) else none
def laws_toStringS_p.C (k : Nat) : Cal → Option CArm := fun c => match c with
  | _ => none
def laws_toStringS_p.sp0 : List Sp := [.t 0 (.sl .str), .own 3 1032 9 .str false true, .t 4 (.int .i64)]
def laws_toStringS_p.sp0_0 : List Sp := [.own 3 1032 9 .str false true]
def laws_toStringS_p.A0 : LArm := .one laws_toStringS_p.sp0 laws_toStringS_p.sp0_0 ((List ByteArray)) (fun k x => laws_toStringS_p.l0 k x.1 x.2.1 x.2.2.1) (.exit 0) (fun y => (y, ())) (fun x => x.1)
def laws_toStringS_p.L : Nat → Option LArm := fun b => match b with
  | 0 => some laws_toStringS_p.A0
  | _ => none
theorem laws_toStringS_p.run (k : Nat) (a0 : List ByteArray) : runF envP (tabC (laws_toStringS_p.C k)) (tabL 22 k laws_toStringS_p.L) Tryz.f8 [.t (.sl .str) a0] (viewR1 (.fr 9 .str)) = laws_toStringS_p.F k a0 := by kernel_rfl
theorem laws_toStringS_p.step0 (k : Nat) (x0 : List ByteArray) (x3 : List ByteArray) (x4 : Int) : runC envP (tabC (laws_toStringS_p.C k)) (tabL 22 k laws_toStringS_p.L) 0 (loopAt Tryz.f8 0) (stOf 22 laws_toStringS_p.sp0 (x0, x3, x4, ())) (laws_toStringS_p.A0.cont 22 k) = laws_toStringS_p.l0 (k + 1) x0 x3 x4 := by kernel_rfl
theorem laws_toStringS_p.G (hE : EnvOk Tryz.prog envP) (pv : Nat → Value) (n : Nat) (k : Nat) : ∀ cal A, laws_toStringS_p.C k cal = some A → ArmOk Tryz.prog envP (mpv pv n) cal A := by
  intro cal A h
  unfold laws_toStringS_p.C at h
  cases h
theorem laws_toStringS_p.good (hE : EnvOk Tryz.prog envP) (pv : Nat → Value) (n : Nat) (k : Nat) (a0 : List ByteArray) {y : _} (h : laws_toStringS_p.F k a0 = some y) : Meets Tryz.prog envP (mpv pv n) (.f 8) (tvals [(.sl .str)] (a0, ())) (.fr 9 .str y) :=
  fun_loops hE (t := laws_toStringS_p.C) k (fun k _ => laws_toStringS_p.G hE pv n k) (f := 8) (fn := Tryz.f8) (by kernel_rfl) rfl (by kernel_rfl) (by kernel_rfl) (lt := laws_toStringS_p.L) (by kernel_rfl) (fun b A h => by
    unfold laws_toStringS_p.L at h; split at h
    · cases h; exact ⟨by kernel_rfl, by kernel_rfl, fun _ => rfl, fun _ => rfl⟩
    · cases h) (fun b A h => by
    unfold laws_toStringS_p.L at h; split at h
    · cases h; exact fun k x => laws_toStringS_p.step0 k x.1 x.2.1 x.2.2.1
    · cases h) ((laws_toStringS_p.run k a0).trans h) fun r hr => wk_view1 hr
def laws_toName_p.F (k : Nat) (a0 : Name) : Option (Name) := (laws_toStringS_p.F k a0.given).bind fun r1 => some (⟨r1, a0.particle, a0.family, a0.suffix⟩ : Name)
def laws_toName_p.C (k : Nat) : Cal → Option CArm := fun c => match c with
  | .f 8 => some (.p [(.sl .str)] _ (fun x => laws_toStringS_p.F k x.1) (fun r => (.fr 9 .str r)))
  | _ => none
theorem laws_toName_p.run (k : Nat) (a0 : Name) : runPc envP (tabC (laws_toName_p.C k)) (tabL 18 0 (fun _ => none)) Tryz.f63 [.t .name a0] (viewR1 (.pc .name)) = laws_toName_p.F k a0 := by kernel_rfl
theorem laws_toName_p.G (hE : EnvOk Tryz.prog envP) (pv : Nat → Value) (n : Nat) (k : Nat) : ∀ cal A, laws_toName_p.C k cal = some A → ArmOk Tryz.prog envP (mpv pv n) cal A := by
  intro cal A h
  unfold laws_toName_p.C at h
  split at h
  · cases h; exact fun x y hy => laws_toStringS_p.good hE pv n k x.1 hy
  · cases h
theorem laws_toName_p.good (hE : EnvOk Tryz.prog envP) (pv : Nat → Value) (n : Nat) (k : Nat) (a0 : Name) {y : _} (h : laws_toName_p.F k a0 = some y) : Meets Tryz.prog envP (mpv pv n) (.f 63) (tvals [.name] (a0, ())) (.pc true .name y) :=
  funPc_plain hE (mpv_O pv n) (mpv_Q pv n) (laws_toName_p.G hE pv n k) (f := 63) (fn := Tryz.f63) (by kernel_rfl) rfl (by kernel_rfl) (by kernel_rfl) ((laws_toName_p.run k a0).trans h) fun r hr => wk_view1 hr
-- NO 43 loop.example/g00896/laws.toNameS: store of ds
def laws_toNameS_p.l0 : Nat → (List Name) → (List Name) → Int → Option ((List Name))
  | 0, _, _, _ => none
  | k + 1, x0, x3, x4 => bif (decide (x4 < (x0.length : Int))) then (bif decide (0 ≤ x4) then (bif decide (x4 < (x0.length : Int)) then ((laws_toName_p.F k (x0.getD (x4 : Int).toNat (dflt .name))).bind fun r1 => bif decide (0 ≤ x4) then (bif decide (x4 < (x3.length : Int)) then (laws_toNameS_p.l0 k x0 (x3.set ((x4 : Int).toNat) r1) (IntKind.wrap .i64 (x4 + 1))) else none) else none) else none) else none) else (some x3)
def laws_toNameS_p.F (k : Nat) (a0 : List Name) : Option (List Name) := bif ((a0.length : Int) == (a0.length : Int)) then (bif decide (0 ≤ (a0.length : Int)) then (bif Nat.ble (((a0.length : Int) : Int).toNat * nb .name) 140737488355328 then ((laws_toNameS_p.l0 k a0 (List.replicate ((a0.length : Int) : Int).toNat (dflt .name)) 0).bind fun y2 => some y2) else none) else none) else none
def laws_toNameS_p.C (k : Nat) : Cal → Option CArm := fun c => match c with
  | .f 63 => some (.p [.name] _ (fun x => laws_toName_p.F k x.1) (fun r => (.pc true .name r)))
  | _ => none
def laws_toNameS_p.sp0 : List Sp := [.t 0 (.sl .name), .own 3 1032 79 .name false true, .t 4 (.int .i64)]
def laws_toNameS_p.sp0_0 : List Sp := [.own 3 1032 79 .name false true]
def laws_toNameS_p.A0 : LArm := .one laws_toNameS_p.sp0 laws_toNameS_p.sp0_0 ((List Name)) (fun k x => laws_toNameS_p.l0 k x.1 x.2.1 x.2.2.1) (.exit 0) (fun y => (y, ())) (fun x => x.1)
def laws_toNameS_p.L : Nat → Option LArm := fun b => match b with
  | 0 => some laws_toNameS_p.A0
  | _ => none
theorem laws_toNameS_p.run (k : Nat) (a0 : List Name) : runF envP (tabC (laws_toNameS_p.C k)) (tabL 23 k laws_toNameS_p.L) Tryz.f43 [.t (.sl .name) a0] (viewR1 (.fr 79 .name)) = laws_toNameS_p.F k a0 := by kernel_rfl
theorem laws_toNameS_p.step0 (k : Nat) (x0 : List Name) (x3 : List Name) (x4 : Int) : runC envP (tabC (laws_toNameS_p.C k)) (tabL 23 k laws_toNameS_p.L) 0 (loopAt Tryz.f43 0) (stOf 23 laws_toNameS_p.sp0 (x0, x3, x4, ())) (laws_toNameS_p.A0.cont 23 k) = laws_toNameS_p.l0 (k + 1) x0 x3 x4 := by kernel_rfl
theorem laws_toNameS_p.G (hE : EnvOk Tryz.prog envP) (pv : Nat → Value) (n : Nat) (k : Nat) : ∀ cal A, laws_toNameS_p.C k cal = some A → ArmOk Tryz.prog envP (mpv pv n) cal A := by
  intro cal A h
  unfold laws_toNameS_p.C at h
  split at h
  · cases h; exact fun x y hy => laws_toName_p.good hE pv n k x.1 hy
  · cases h
theorem laws_toNameS_p.good (hE : EnvOk Tryz.prog envP) (pv : Nat → Value) (n : Nat) (k : Nat) (a0 : List Name) {y : _} (h : laws_toNameS_p.F k a0 = some y) : Meets Tryz.prog envP (mpv pv n) (.f 43) (tvals [(.sl .name)] (a0, ())) (.fr 79 .name y) :=
  fun_loops hE (t := laws_toNameS_p.C) k (fun k _ => laws_toNameS_p.G hE pv n k) (f := 43) (fn := Tryz.f43) (by kernel_rfl) rfl (by kernel_rfl) (by kernel_rfl) (lt := laws_toNameS_p.L) (by kernel_rfl) (fun b A h => by
    unfold laws_toNameS_p.L at h; split at h
    · cases h; exact ⟨by kernel_rfl, by kernel_rfl, fun _ => rfl, fun _ => rfl⟩
    · cases h) (fun b A h => by
    unfold laws_toNameS_p.L at h; split at h
    · cases h; exact fun k x => laws_toNameS_p.step0 k x.1 x.2.1 x.2.2.1
    · cases h) ((laws_toNameS_p.run k a0).trans h) fun r hr => wk_view1 hr
def laws_toDate_p.F (a0 : Date) : Option (Date) := some (⟨a0.y, a0.m, a0.d, a0.c⟩ : Date)
def laws_toDate_p.C : Cal → Option CArm := fun c => match c with
  | _ => none
theorem laws_toDate_p.run (a0 : Date) : runF envP (tabC laws_toDate_p.C) (tabL 17 0 (fun _ => none)) Tryz.f44 [.t .date a0] (viewR1 (.t .date)) = laws_toDate_p.F a0 := by kernel_rfl
theorem laws_toDate_p.G (hE : EnvOk Tryz.prog envP) (pv : Nat → Value) (n : Nat) : ∀ cal A, laws_toDate_p.C cal = some A → ArmOk Tryz.prog envP (mpv pv n) cal A := by
  intro cal A h
  unfold laws_toDate_p.C at h
  cases h
theorem laws_toDate_p.good (hE : EnvOk Tryz.prog envP) (pv : Nat → Value) (n : Nat) (a0 : Date) {y : _} (h : laws_toDate_p.F a0 = some y) : Meets Tryz.prog envP (mpv pv n) (.f 44) (tvals [.date] (a0, ())) (.t .date y) :=
  fun_plain hE (laws_toDate_p.G hE pv n) (f := 44) (fn := Tryz.f44) (by kernel_rfl) rfl (by kernel_rfl) (by kernel_rfl) ((laws_toDate_p.run a0).trans h) fun r hr => wk_view1 hr
def laws_toEntry_p.F (k : Nat) (a0 : Entry) : Option (Entry) := (laws_toNameS_p.F k a0.authors).bind fun r1 => (laws_toNameS_p.F k a0.editors).bind fun r2 => (laws_toDate_p.F a0.date).bind fun r3 => some (⟨a0.key, a0.kind, r1, r2, a0.title, a0.container, a0.publisher, r3, a0.volume, a0.pages, a0.cross⟩ : Entry)
def laws_toEntry_p.C (k : Nat) : Cal → Option CArm := fun c => match c with
  | .f 43 => some (.p [(.sl .name)] _ (fun x => laws_toNameS_p.F k x.1) (fun r => (.fr 79 .name r)))
  | .f 44 => some (.p [.date] _ (fun x => laws_toDate_p.F x.1) (fun r => (.t .date r)))
  | _ => none
theorem laws_toEntry_p.run (k : Nat) (a0 : Entry) : runPc envP (tabC (laws_toEntry_p.C k)) (tabL 41 0 (fun _ => none)) Tryz.f29 [.t .entry a0] (viewR1 (.pc .entry)) = laws_toEntry_p.F k a0 := by kernel_rfl
theorem laws_toEntry_p.G (hE : EnvOk Tryz.prog envP) (pv : Nat → Value) (n : Nat) (k : Nat) : ∀ cal A, laws_toEntry_p.C k cal = some A → ArmOk Tryz.prog envP (mpv pv n) cal A := by
  intro cal A h
  unfold laws_toEntry_p.C at h
  split at h
  · cases h; exact fun x y hy => laws_toNameS_p.good hE pv n k x.1 hy
  · cases h; exact fun x y hy => laws_toDate_p.good hE pv n x.1 hy
  · cases h
theorem laws_toEntry_p.good (hE : EnvOk Tryz.prog envP) (pv : Nat → Value) (n : Nat) (k : Nat) (a0 : Entry) {y : _} (h : laws_toEntry_p.F k a0 = some y) : Meets Tryz.prog envP (mpv pv n) (.f 29) (tvals [.entry] (a0, ())) (.pc true .entry y) :=
  funPc_plain hE (mpv_O pv n) (mpv_Q pv n) (laws_toEntry_p.G hE pv n k) (f := 29) (fn := Tryz.f29) (by kernel_rfl) rfl (by kernel_rfl) (by kernel_rfl) ((laws_toEntry_p.run k a0).trans h) fun r hr => wk_view1 hr
-- NO 18 loop.example/g00896/laws.toEntryS: store of ds
-- NO 7 loop.example/g00896/laws.toLibrary: a call of loop.example/g00896/laws.toEntryS
-- NO 64 slices.IndexFunc[[]loop.example/g00896/impl.Entry,loop.example/g00896/impl.Entry]: a parameter's type
-- NO 65 loop.example/g00896/impl.entryIndex$1: load from tup
def impl_entryIndex_1.F (a0 : Entry) (a1 : ByteArray) : Option (Bool) := some (beqS a0.key a1)
def impl_entryIndex_1.C : Cal → Option CArm := fun c => match c with
  | _ => none
theorem impl_entryIndex_1.run (a0 : Entry) (a1 : ByteArray) : runF envX (tabC impl_entryIndex_1.C) (tabL 8 0 (fun _ => none)) Tryz.f65 [.t .entry a0, .tp (.t .str a1)] (viewR1 (.t .bool)) = impl_entryIndex_1.F a0 a1 := by kernel_rfl
theorem impl_entryIndex_1.G (hE : EnvOk Tryz.prog envX) (pv : Nat → Value) : ∀ cal A, impl_entryIndex_1.C cal = some A → ArmOk Tryz.prog envX pv cal A := by
  intro cal A h
  unfold impl_entryIndex_1.C at h
  cases h
theorem impl_entryIndex_1.good (hE : EnvOk Tryz.prog envX) (pv : Nat → Value) (a0 : Entry) (a1 : ByteArray) {y : _} (h : impl_entryIndex_1.F a0 a1 = some y) : Meets Tryz.prog envX pv (.f 65) (pvals [.t .entry, .tp .str] (a0, a1, ())) (.t .bool y) :=
  fun_plain hE (impl_entryIndex_1.G hE pv) (f := 65) (fn := Tryz.f65) (by kernel_rfl) rfl (by kernel_rfl) (by kernel_rfl) ((impl_entryIndex_1.run a0 a1).trans h) fun r hr => wk_view1 hr
def slices_IndexFunc_Entry_f65.l0 : Nat → (List Entry) → ByteArray → Int → Int → Option (Sum Int Unit)
  | 0, _, _, _, _ => none
  | k + 1, x0, x1, x7, x8 => bif (decide (x8 < x7)) then (bif decide (0 ≤ x8) then (bif decide (x8 < (x0.length : Int)) then ((impl_entryIndex_1.F (x0.getD (x8 : Int).toNat (dflt .entry)) x1).bind fun r1 => bif r1 then (some (.inl x8)) else (slices_IndexFunc_Entry_f65.l0 k x0 x1 x7 (IntKind.wrap .i64 (x8 + 1)))) else none) else none) else (some (.inr ()))
def slices_IndexFunc_Entry_f65.F (k : Nat) (a0 : List Entry) (a1c0 : ByteArray) : Option (Int) := (slices_IndexFunc_Entry_f65.l0 k a0 a1c0 (a0.length : Int) 0).bind fun y2 => match y2 with | .inl z3 => some z3 | .inr z3 => some (-1)
def slices_IndexFunc_Entry_f65.C (k : Nat) : Cal → Option CArm := fun c => match c with
  | .f 65 => some (.q [.t .entry, .tp .str] _ (fun x => impl_entryIndex_1.F x.1 x.2.1) (fun r => (.t .bool r)))
  | _ => none
def slices_IndexFunc_Entry_f65.sp0 : List Sp := [.t 0 (.sl .entry), .cl 1 65 [.tp .str], .t 7 (.int .i64), .t 8 (.int .i64)]
def slices_IndexFunc_Entry_f65.sp0_0 : List Sp := [.t 4 (.int .i64)]
def slices_IndexFunc_Entry_f65.sp0_1 : List Sp := []
def slices_IndexFunc_Entry_f65.A0 : LArm := .two slices_IndexFunc_Entry_f65.sp0 slices_IndexFunc_Entry_f65.sp0_0 slices_IndexFunc_Entry_f65.sp0_1 (Int) (Unit) (fun k x => slices_IndexFunc_Entry_f65.l0 k x.1 x.2.1.1 x.2.2.1 x.2.2.2.1) .ret (.exit 0) (fun y => (y, ())) (fun x => x.1) (fun y => ()) (fun x => ())
def slices_IndexFunc_Entry_f65.L : Nat → Option LArm := fun b => match b with
  | 0 => some slices_IndexFunc_Entry_f65.A0
  | _ => none
theorem slices_IndexFunc_Entry_f65.run (k : Nat) (a0 : List Entry) (a1c0 : ByteArray) : runF envX (tabC (slices_IndexFunc_Entry_f65.C k)) (tabL 19 k slices_IndexFunc_Entry_f65.L) Tryz.f64 [.t (.sl .entry) a0, .clo 65 [.tp (.t .str a1c0)]] (viewR1 (.t (.int .i64))) = slices_IndexFunc_Entry_f65.F k a0 a1c0 := by kernel_rfl
theorem slices_IndexFunc_Entry_f65.step0 (k : Nat) (x0 : List Entry) (x1 : ByteArray) (x7 : Int) (x8 : Int) : runC envX (tabC (slices_IndexFunc_Entry_f65.C k)) (tabL 19 k slices_IndexFunc_Entry_f65.L) 0 (loopAt Tryz.f64 0) (stOf 19 slices_IndexFunc_Entry_f65.sp0 (x0, (x1, ()), x7, x8, ())) (slices_IndexFunc_Entry_f65.A0.cont 19 k) = slices_IndexFunc_Entry_f65.l0 (k + 1) x0 x1 x7 x8 := by kernel_rfl
theorem slices_IndexFunc_Entry_f65.G (hE : EnvOk Tryz.prog envX) (pv : Nat → Value) (k : Nat) : ∀ cal A, slices_IndexFunc_Entry_f65.C k cal = some A → ArmOk Tryz.prog envX pv cal A := by
  intro cal A h
  unfold slices_IndexFunc_Entry_f65.C at h
  split at h
  · cases h; exact fun x y hy => impl_entryIndex_1.good hE pv x.1 x.2.1 hy
  · cases h
theorem slices_IndexFunc_Entry_f65.good (hE : EnvOk Tryz.prog envX) (pv : Nat → Value) (k : Nat) (a0 : List Entry) (a1c0 : ByteArray) {y : _} (h : slices_IndexFunc_Entry_f65.F k a0 a1c0 = some y) : Meets Tryz.prog envX pv (.f 64) (pvals [.t (.sl .entry), .clo 65 [.tp .str]] (a0, (a1c0, ()), ())) (.t (.int .i64) y) :=
  fun_loops hE (t := slices_IndexFunc_Entry_f65.C) k (fun k _ => slices_IndexFunc_Entry_f65.G hE pv k) (f := 64) (fn := Tryz.f64) (by kernel_rfl) rfl (by kernel_rfl) (by kernel_rfl) (lt := slices_IndexFunc_Entry_f65.L) (by kernel_rfl) (fun b A h => by
    unfold slices_IndexFunc_Entry_f65.L at h; split at h
    · cases h; exact ⟨by kernel_rfl, by kernel_rfl, by kernel_rfl, fun _ => rfl, fun _ => rfl, fun _ => rfl⟩
    · cases h) (fun b A h => by
    unfold slices_IndexFunc_Entry_f65.L at h; split at h
    · cases h; exact fun k x => slices_IndexFunc_Entry_f65.step0 k x.1 x.2.1.1 x.2.2.1 x.2.2.2.1
    · cases h) ((slices_IndexFunc_Entry_f65.run k a0 a1c0).trans h) fun r hr => wk_view1 hr
def impl_entryIndex.F (k : Nat) (a0 : Library) (a1 : ByteArray) : Option (Int) := (slices_IndexFunc_Entry_f65.F k a0.entries a1).bind fun r1 => some r1
def impl_entryIndex.C (k : Nat) : Cal → Option CArm := fun c => match c with
  | .f 64 => some (.q [.t (.sl .entry), .clo 65 [.tp .str]] _ (fun x => slices_IndexFunc_Entry_f65.F k x.1 x.2.1.1) (fun r => (.t (.int .i64) r)))
  | _ => none
theorem impl_entryIndex.run (k : Nat) (a0 : Library) (a1 : ByteArray) : runF envX (tabC (impl_entryIndex.C k)) (tabL 9 0 (fun _ => none)) Tryz.f45 [.t .lib a0, .t .str a1] (viewR1 (.t (.int .i64))) = impl_entryIndex.F k a0 a1 := by kernel_rfl
theorem impl_entryIndex.G (hE : EnvOk Tryz.prog envX) (pv : Nat → Value) (k : Nat) : ∀ cal A, impl_entryIndex.C k cal = some A → ArmOk Tryz.prog envX pv cal A := by
  intro cal A h
  unfold impl_entryIndex.C at h
  split at h
  · cases h; exact fun x y hy => slices_IndexFunc_Entry_f65.good hE pv k x.1 x.2.1.1 hy
  · cases h
theorem impl_entryIndex.good (hE : EnvOk Tryz.prog envX) (pv : Nat → Value) (k : Nat) (a0 : Library) (a1 : ByteArray) {y : _} (h : impl_entryIndex.F k a0 a1 = some y) : Meets Tryz.prog envX pv (.f 45) (tvals [.lib, .str] (a0, a1, ())) (.t (.int .i64) y) :=
  fun_plain hE (impl_entryIndex.G hE pv k) (f := 45) (fn := Tryz.f45) (by kernel_rfl) rfl (by kernel_rfl) (by kernel_rfl) ((impl_entryIndex.run k a0 a1).trans h) fun r hr => wk_view1 hr
def slices_Index_string.l0 : Nat → (List ByteArray) → ByteArray → Int → Int → Option (Sum Int Unit)
  | 0, _, _, _, _ => none
  | k + 1, x0, x1, x7, x8 => bif (decide (x8 < x7)) then (bif decide (0 ≤ x8) then (bif decide (x8 < (x0.length : Int)) then (bif (beqS x1 (x0.getD (x8 : Int).toNat (⟨#[]⟩ : ByteArray))) then (some (.inl x8)) else (slices_Index_string.l0 k x0 x1 x7 (IntKind.wrap .i64 (x8 + 1)))) else none) else none) else (some (.inr ()))
def slices_Index_string.F (k : Nat) (a0 : List ByteArray) (a1 : ByteArray) : Option (Int) := (slices_Index_string.l0 k a0 a1 (a0.length : Int) 0).bind fun y1 => match y1 with | .inl z2 => some z2 | .inr z2 => some (-1)
def slices_Index_string.C (k : Nat) : Cal → Option CArm := fun c => match c with
  | _ => none
def slices_Index_string.sp0 : List Sp := [.t 0 (.sl .str), .t 1 .str, .t 7 (.int .i64), .t 8 (.int .i64)]
def slices_Index_string.sp0_0 : List Sp := [.t 4 (.int .i64)]
def slices_Index_string.sp0_1 : List Sp := []
def slices_Index_string.A0 : LArm := .two slices_Index_string.sp0 slices_Index_string.sp0_0 slices_Index_string.sp0_1 (Int) (Unit) (fun k x => slices_Index_string.l0 k x.1 x.2.1 x.2.2.1 x.2.2.2.1) .ret (.exit 0) (fun y => (y, ())) (fun x => x.1) (fun y => ()) (fun x => ())
def slices_Index_string.L : Nat → Option LArm := fun b => match b with
  | 0 => some slices_Index_string.A0
  | _ => none
theorem slices_Index_string.run (k : Nat) (a0 : List ByteArray) (a1 : ByteArray) : runF envX (tabC (slices_Index_string.C k)) (tabL 19 k slices_Index_string.L) Tryz.f66 [.t (.sl .str) a0, .t .str a1] (viewR1 (.t (.int .i64))) = slices_Index_string.F k a0 a1 := by kernel_rfl
theorem slices_Index_string.step0 (k : Nat) (x0 : List ByteArray) (x1 : ByteArray) (x7 : Int) (x8 : Int) : runC envX (tabC (slices_Index_string.C k)) (tabL 19 k slices_Index_string.L) 0 (loopAt Tryz.f66 0) (stOf 19 slices_Index_string.sp0 (x0, x1, x7, x8, ())) (slices_Index_string.A0.cont 19 k) = slices_Index_string.l0 (k + 1) x0 x1 x7 x8 := by kernel_rfl
theorem slices_Index_string.G (hE : EnvOk Tryz.prog envX) (pv : Nat → Value) (k : Nat) : ∀ cal A, slices_Index_string.C k cal = some A → ArmOk Tryz.prog envX pv cal A := by
  intro cal A h
  unfold slices_Index_string.C at h
  cases h
theorem slices_Index_string.good (hE : EnvOk Tryz.prog envX) (pv : Nat → Value) (k : Nat) (a0 : List ByteArray) (a1 : ByteArray) {y : _} (h : slices_Index_string.F k a0 a1 = some y) : Meets Tryz.prog envX pv (.f 66) (tvals [(.sl .str), .str] (a0, a1, ())) (.t (.int .i64) y) :=
  fun_loops hE (t := slices_Index_string.C) k (fun k _ => slices_Index_string.G hE pv k) (f := 66) (fn := Tryz.f66) (by kernel_rfl) rfl (by kernel_rfl) (by kernel_rfl) (lt := slices_Index_string.L) (by kernel_rfl) (fun b A h => by
    unfold slices_Index_string.L at h; split at h
    · cases h; exact ⟨by kernel_rfl, by kernel_rfl, by kernel_rfl, fun _ => rfl, fun _ => rfl, fun _ => rfl⟩
    · cases h) (fun b A h => by
    unfold slices_Index_string.L at h; split at h
    · cases h; exact fun k x => slices_Index_string.step0 k x.1 x.2.1 x.2.2.1 x.2.2.2.1
    · cases h) ((slices_Index_string.run k a0 a1).trans h) fun r hr => wk_view1 hr
def slices_Contains_string.F (k : Nat) (a0 : List ByteArray) (a1 : ByteArray) : Option (Bool) := (slices_Index_string.F k a0 a1).bind fun r1 => some (decide (r1 ≥ 0))
def slices_Contains_string.C (k : Nat) : Cal → Option CArm := fun c => match c with
  | .f 66 => some (.p [(.sl .str), .str] _ (fun x => slices_Index_string.F k x.1 x.2.1) (fun r => (.t (.int .i64) r)))
  | _ => none
theorem slices_Contains_string.run (k : Nat) (a0 : List ByteArray) (a1 : ByteArray) : runF envX (tabC (slices_Contains_string.C k)) (tabL 9 0 (fun _ => none)) Tryz.f46 [.t (.sl .str) a0, .t .str a1] (viewR1 (.t .bool)) = slices_Contains_string.F k a0 a1 := by kernel_rfl
theorem slices_Contains_string.G (hE : EnvOk Tryz.prog envX) (pv : Nat → Value) (k : Nat) : ∀ cal A, slices_Contains_string.C k cal = some A → ArmOk Tryz.prog envX pv cal A := by
  intro cal A h
  unfold slices_Contains_string.C at h
  split at h
  · cases h; exact fun x y hy => slices_Index_string.good hE pv k x.1 x.2.1 hy
  · cases h
theorem slices_Contains_string.good (hE : EnvOk Tryz.prog envX) (pv : Nat → Value) (k : Nat) (a0 : List ByteArray) (a1 : ByteArray) {y : _} (h : slices_Contains_string.F k a0 a1 = some y) : Meets Tryz.prog envX pv (.f 46) (tvals [(.sl .str), .str] (a0, a1, ())) (.t .bool y) :=
  fun_plain hE (slices_Contains_string.G hE pv k) (f := 46) (fn := Tryz.f46) (by kernel_rfl) rfl (by kernel_rfl) (by kernel_rfl) ((slices_Contains_string.run k a0 a1).trans h) fun r hr => wk_view1 hr
def impl_inside.F (a0 : Int) (a1 : Int) (a2 : Int) : Option (Bool) := bif (decide (a0 ≥ a1)) then (some (decide (a0 ≤ a2))) else (some false)
def impl_inside.C : Cal → Option CArm := fun c => match c with
  | _ => none
theorem impl_inside.run (a0 : Int) (a1 : Int) (a2 : Int) : runF envX (tabC impl_inside.C) (tabL 15 0 (fun _ => none)) Tryz.f31 [.t (.int .i64) a0, .t (.int .i64) a1, .t (.int .i64) a2] (viewR1 (.t .bool)) = impl_inside.F a0 a1 a2 := by kernel_rfl
theorem impl_inside.G (hE : EnvOk Tryz.prog envX) (pv : Nat → Value) : ∀ cal A, impl_inside.C cal = some A → ArmOk Tryz.prog envX pv cal A := by
  intro cal A h
  unfold impl_inside.C at h
  cases h
theorem impl_inside.good (hE : EnvOk Tryz.prog envX) (pv : Nat → Value) (a0 : Int) (a1 : Int) (a2 : Int) {y : _} (h : impl_inside.F a0 a1 a2 = some y) : Meets Tryz.prog envX pv (.f 31) (tvals [(.int .i64), (.int .i64), (.int .i64)] (a0, a1, a2, ())) (.t .bool y) :=
  fun_plain hE (impl_inside.G hE pv) (f := 31) (fn := Tryz.f31) (by kernel_rfl) rfl (by kernel_rfl) (by kernel_rfl) ((impl_inside.run a0 a1 a2).trans h) fun r hr => wk_view1 hr
def impl_isLower.F (a0 : Int) : Option (Bool) := bif (decide (a0 ≥ 97)) then (some (decide (a0 ≤ 122))) else (some false)
def impl_isLower.C : Cal → Option CArm := fun c => match c with
  | _ => none
theorem impl_isLower.run (a0 : Int) : runF envX (tabC impl_isLower.C) (tabL 9 0 (fun _ => none)) Tryz.f117 [.t (.int .u8) a0] (viewR1 (.t .bool)) = impl_isLower.F a0 := by kernel_rfl
theorem impl_isLower.G (hE : EnvOk Tryz.prog envX) (pv : Nat → Value) : ∀ cal A, impl_isLower.C cal = some A → ArmOk Tryz.prog envX pv cal A := by
  intro cal A h
  unfold impl_isLower.C at h
  cases h
theorem impl_isLower.good (hE : EnvOk Tryz.prog envX) (pv : Nat → Value) (a0 : Int) {y : _} (h : impl_isLower.F a0 = some y) : Meets Tryz.prog envX pv (.f 117) (tvals [(.int .u8)] (a0, ())) (.t .bool y) :=
  fun_plain hE (impl_isLower.G hE pv) (f := 117) (fn := Tryz.f117) (by kernel_rfl) rfl (by kernel_rfl) (by kernel_rfl) ((impl_isLower.run a0).trans h) fun r hr => wk_view1 hr
def impl_isDigit.F (a0 : Int) : Option (Bool) := bif (decide (a0 ≥ 48)) then (some (decide (a0 ≤ 57))) else (some false)
def impl_isDigit.C : Cal → Option CArm := fun c => match c with
  | _ => none
theorem impl_isDigit.run (a0 : Int) : runF envX (tabC impl_isDigit.C) (tabL 9 0 (fun _ => none)) Tryz.f118 [.t (.int .u8) a0] (viewR1 (.t .bool)) = impl_isDigit.F a0 := by kernel_rfl
theorem impl_isDigit.G (hE : EnvOk Tryz.prog envX) (pv : Nat → Value) : ∀ cal A, impl_isDigit.C cal = some A → ArmOk Tryz.prog envX pv cal A := by
  intro cal A h
  unfold impl_isDigit.C at h
  cases h
theorem impl_isDigit.good (hE : EnvOk Tryz.prog envX) (pv : Nat → Value) (a0 : Int) {y : _} (h : impl_isDigit.F a0 = some y) : Meets Tryz.prog envX pv (.f 118) (tvals [(.int .u8)] (a0, ())) (.t .bool y) :=
  fun_plain hE (impl_isDigit.G hE pv) (f := 118) (fn := Tryz.f118) (by kernel_rfl) rfl (by kernel_rfl) (by kernel_rfl) ((impl_isDigit.run a0).trans h) fun r hr => wk_view1 hr
def impl_isKey.l0 : Nat → ByteArray → Int → Option (Sum Bool Unit)
  | 0, _, _ => none
  | k + 1, x0, x3 => bif (decide (x3 < (x0.size : Int))) then (bif decide (0 ≤ x3) then (bif decide (x3 < (x0.size : Int)) then ((impl_isLower.F (bt x0 (x3 : Int).toNat)).bind fun r3 => bif (!r3) then (bif decide (0 ≤ x3) then (bif decide (x3 < (x0.size : Int)) then ((impl_isDigit.F (bt x0 (x3 : Int).toNat)).bind fun r4 => bif (!r4) then (some (.inl false)) else (impl_isKey.l0 k x0 (IntKind.wrap .i64 (x3 + 1)))) else none) else none) else (impl_isKey.l0 k x0 (IntKind.wrap .i64 (x3 + 1)))) else none) else none) else (some (.inr ()))
def impl_isKey.F (k : Nat) (a0 : ByteArray) : Option (Bool) := (impl_inside.F (a0.size : Int) 1 10).bind fun r1 => bif (!r1) then (some false) else (bif decide (0 ≤ 0) then (bif decide (0 < (a0.size : Int)) then ((impl_isLower.F (bt a0 (0 : Int).toNat)).bind fun r2 => bif (!r2) then (some false) else ((impl_isKey.l0 k a0 0).bind fun y5 => match y5 with | .inl z6 => some z6 | .inr z6 => some true)) else none) else none)
def impl_isKey.C (k : Nat) : Cal → Option CArm := fun c => match c with
  | .f 31 => some (.p [(.int .i64), (.int .i64), (.int .i64)] _ (fun x => impl_inside.F x.1 x.2.1 x.2.2.1) (fun r => (.t .bool r)))
  | .f 117 => some (.p [(.int .u8)] _ (fun x => impl_isLower.F x.1) (fun r => (.t .bool r)))
  | .f 118 => some (.p [(.int .u8)] _ (fun x => impl_isDigit.F x.1) (fun r => (.t .bool r)))
  | _ => none
def impl_isKey.sp0 : List Sp := [.t 0 .str, .t 3 (.int .i64)]
def impl_isKey.sp0_0 : List Sp := [.t 2 .bool]
def impl_isKey.sp0_1 : List Sp := []
def impl_isKey.A0 : LArm := .two impl_isKey.sp0 impl_isKey.sp0_0 impl_isKey.sp0_1 (Bool) (Unit) (fun k x => impl_isKey.l0 k x.1 x.2.1) .ret (.exit 0) (fun y => (y, ())) (fun x => x.1) (fun y => ()) (fun x => ())
def impl_isKey.L : Nat → Option LArm := fun b => match b with
  | 0 => some impl_isKey.A0
  | _ => none
theorem impl_isKey.run (k : Nat) (a0 : ByteArray) : runF envX (tabC (impl_isKey.C k)) (tabL 32 k impl_isKey.L) Tryz.f88 [.t .str a0] (viewR1 (.t .bool)) = impl_isKey.F k a0 := by kernel_rfl
theorem impl_isKey.step0 (k : Nat) (x0 : ByteArray) (x3 : Int) : runC envX (tabC (impl_isKey.C k)) (tabL 32 k impl_isKey.L) 0 (loopAt Tryz.f88 0) (stOf 32 impl_isKey.sp0 (x0, x3, ())) (impl_isKey.A0.cont 32 k) = impl_isKey.l0 (k + 1) x0 x3 := by kernel_rfl
theorem impl_isKey.G (hE : EnvOk Tryz.prog envX) (pv : Nat → Value) (k : Nat) : ∀ cal A, impl_isKey.C k cal = some A → ArmOk Tryz.prog envX pv cal A := by
  intro cal A h
  unfold impl_isKey.C at h
  split at h
  · cases h; exact fun x y hy => impl_inside.good hE pv x.1 x.2.1 x.2.2.1 hy
  · cases h; exact fun x y hy => impl_isLower.good hE pv x.1 hy
  · cases h; exact fun x y hy => impl_isDigit.good hE pv x.1 hy
  · cases h
theorem impl_isKey.good (hE : EnvOk Tryz.prog envX) (pv : Nat → Value) (k : Nat) (a0 : ByteArray) {y : _} (h : impl_isKey.F k a0 = some y) : Meets Tryz.prog envX pv (.f 88) (tvals [.str] (a0, ())) (.t .bool y) :=
  fun_loops hE (t := impl_isKey.C) k (fun k _ => impl_isKey.G hE pv k) (f := 88) (fn := Tryz.f88) (by kernel_rfl) rfl (by kernel_rfl) (by kernel_rfl) (lt := impl_isKey.L) (by kernel_rfl) (fun b A h => by
    unfold impl_isKey.L at h; split at h
    · cases h; exact ⟨by kernel_rfl, by kernel_rfl, by kernel_rfl, fun _ => rfl, fun _ => rfl, fun _ => rfl⟩
    · cases h) (fun b A h => by
    unfold impl_isKey.L at h; split at h
    · cases h; exact fun k x => impl_isKey.step0 k x.1 x.2.1
    · cases h) ((impl_isKey.run k a0).trans h) fun r hr => wk_view1 hr
def impl_isKind.F (a0 : Int) : Option (Bool) := (impl_inside.F a0 1 4).bind fun r1 => some r1
def impl_isKind.C : Cal → Option CArm := fun c => match c with
  | .f 31 => some (.p [(.int .i64), (.int .i64), (.int .i64)] _ (fun x => impl_inside.F x.1 x.2.1 x.2.2.1) (fun r => (.t .bool r)))
  | _ => none
theorem impl_isKind.run (a0 : Int) : runF envX (tabC impl_isKind.C) (tabL 5 0 (fun _ => none)) Tryz.f89 [.t (.int .i64) a0] (viewR1 (.t .bool)) = impl_isKind.F a0 := by kernel_rfl
theorem impl_isKind.G (hE : EnvOk Tryz.prog envX) (pv : Nat → Value) : ∀ cal A, impl_isKind.C cal = some A → ArmOk Tryz.prog envX pv cal A := by
  intro cal A h
  unfold impl_isKind.C at h
  split at h
  · cases h; exact fun x y hy => impl_inside.good hE pv x.1 x.2.1 x.2.2.1 hy
  · cases h
theorem impl_isKind.good (hE : EnvOk Tryz.prog envX) (pv : Nat → Value) (a0 : Int) {y : _} (h : impl_isKind.F a0 = some y) : Meets Tryz.prog envX pv (.f 89) (tvals [(.int .i64)] (a0, ())) (.t .bool y) :=
  fun_plain hE (impl_isKind.G hE pv) (f := 89) (fn := Tryz.f89) (by kernel_rfl) rfl (by kernel_rfl) (by kernel_rfl) ((impl_isKind.run a0).trans h) fun r hr => wk_view1 hr
-- NO 139 slices.IndexFunc[[]loop.example/g00896/impl.Name,loop.example/g00896/impl.Name]: a parameter's type
-- NO 119 slices.ContainsFunc[[]loop.example/g00896/impl.Name,loop.example/g00896/impl.Name]: a parameter's type
-- NO 154 slices.IndexFunc[[]string,string]: a parameter's type
-- NO 140 slices.ContainsFunc[[]string,string]: a parameter's type
def impl_isUpper.F (a0 : Int) : Option (Bool) := bif (decide (a0 ≥ 65)) then (some (decide (a0 ≤ 90))) else (some false)
def impl_isUpper.C : Cal → Option CArm := fun c => match c with
  | _ => none
theorem impl_isUpper.run (a0 : Int) : runF envX (tabC impl_isUpper.C) (tabL 9 0 (fun _ => none)) Tryz.f129 [.t (.int .u8) a0] (viewR1 (.t .bool)) = impl_isUpper.F a0 := by kernel_rfl
theorem impl_isUpper.G (hE : EnvOk Tryz.prog envX) (pv : Nat → Value) : ∀ cal A, impl_isUpper.C cal = some A → ArmOk Tryz.prog envX pv cal A := by
  intro cal A h
  unfold impl_isUpper.C at h
  cases h
theorem impl_isUpper.good (hE : EnvOk Tryz.prog envX) (pv : Nat → Value) (a0 : Int) {y : _} (h : impl_isUpper.F a0 = some y) : Meets Tryz.prog envX pv (.f 129) (tvals [(.int .u8)] (a0, ())) (.t .bool y) :=
  fun_plain hE (impl_isUpper.G hE pv) (f := 129) (fn := Tryz.f129) (by kernel_rfl) rfl (by kernel_rfl) (by kernel_rfl) ((impl_isUpper.run a0).trans h) fun r hr => wk_view1 hr
def impl_isLetter.F (a0 : Int) : Option (Bool) := (impl_isUpper.F a0).bind fun r1 => bif r1 then (some true) else ((impl_isLower.F a0).bind fun r2 => some r2)
def impl_isLetter.C : Cal → Option CArm := fun c => match c with
  | .f 129 => some (.p [(.int .u8)] _ (fun x => impl_isUpper.F x.1) (fun r => (.t .bool r)))
  | .f 117 => some (.p [(.int .u8)] _ (fun x => impl_isLower.F x.1) (fun r => (.t .bool r)))
  | _ => none
theorem impl_isLetter.run (a0 : Int) : runF envX (tabC impl_isLetter.C) (tabL 9 0 (fun _ => none)) Tryz.f156 [.t (.int .u8) a0] (viewR1 (.t .bool)) = impl_isLetter.F a0 := by kernel_rfl
theorem impl_isLetter.G (hE : EnvOk Tryz.prog envX) (pv : Nat → Value) : ∀ cal A, impl_isLetter.C cal = some A → ArmOk Tryz.prog envX pv cal A := by
  intro cal A h
  unfold impl_isLetter.C at h
  split at h
  · cases h; exact fun x y hy => impl_isUpper.good hE pv x.1 hy
  · cases h; exact fun x y hy => impl_isLower.good hE pv x.1 hy
  · cases h
theorem impl_isLetter.good (hE : EnvOk Tryz.prog envX) (pv : Nat → Value) (a0 : Int) {y : _} (h : impl_isLetter.F a0 = some y) : Meets Tryz.prog envX pv (.f 156) (tvals [(.int .u8)] (a0, ())) (.t .bool y) :=
  fun_plain hE (impl_isLetter.G hE pv) (f := 156) (fn := Tryz.f156) (by kernel_rfl) rfl (by kernel_rfl) (by kernel_rfl) ((impl_isLetter.run a0).trans h) fun r hr => wk_view1 hr
def impl_isNameWord.l0 : Nat → ByteArray → Int → Option (Sum Bool Unit)
  | 0, _, _ => none
  | k + 1, x0, x3 => bif (decide (x3 < (x0.size : Int))) then (bif decide (0 ≤ x3) then (bif decide (x3 < (x0.size : Int)) then ((impl_isLetter.F (bt x0 (x3 : Int).toNat)).bind fun r4 => bif (!r4) then (bif decide (0 ≤ x3) then (bif decide (x3 < (x0.size : Int)) then (bif ((bt x0 (x3 : Int).toNat) != 45) then (bif decide (0 ≤ x3) then (bif decide (x3 < (x0.size : Int)) then (bif ((bt x0 (x3 : Int).toNat) != 39) then (some (.inl false)) else (bif decide (0 ≤ (IntKind.wrap .i64 (x3 - 1))) then (bif decide ((IntKind.wrap .i64 (x3 - 1)) < (x0.size : Int)) then ((impl_isLetter.F (bt x0 ((IntKind.wrap .i64 (x3 - 1)) : Int).toNat)).bind fun r5 => bif (!r5) then (some (.inl false)) else (impl_isNameWord.l0 k x0 (IntKind.wrap .i64 (x3 + 1)))) else none) else none)) else none) else none) else (bif decide (0 ≤ (IntKind.wrap .i64 (x3 - 1))) then (bif decide ((IntKind.wrap .i64 (x3 - 1)) < (x0.size : Int)) then ((impl_isLetter.F (bt x0 ((IntKind.wrap .i64 (x3 - 1)) : Int).toNat)).bind fun r6 => bif (!r6) then (some (.inl false)) else (impl_isNameWord.l0 k x0 (IntKind.wrap .i64 (x3 + 1)))) else none) else none)) else none) else none) else (impl_isNameWord.l0 k x0 (IntKind.wrap .i64 (x3 + 1)))) else none) else none) else (some (.inr ()))
def impl_isNameWord.F (k : Nat) (a0 : ByteArray) : Option (Bool) := (impl_inside.F (a0.size : Int) 1 12).bind fun r1 => bif (!r1) then (some false) else (bif decide (0 ≤ (IntKind.wrap .i64 ((a0.size : Int) - 1))) then (bif decide ((IntKind.wrap .i64 ((a0.size : Int) - 1)) < (a0.size : Int)) then ((impl_isLetter.F (bt a0 ((IntKind.wrap .i64 ((a0.size : Int) - 1)) : Int).toNat)).bind fun r2 => bif (!r2) then (some false) else (bif decide (0 ≤ 0) then (bif decide (0 < (a0.size : Int)) then ((impl_isLetter.F (bt a0 (0 : Int).toNat)).bind fun r3 => bif (!r3) then (some false) else ((impl_isNameWord.l0 k a0 0).bind fun y7 => match y7 with | .inl z8 => some z8 | .inr z8 => some true)) else none) else none)) else none) else none)
def impl_isNameWord.C (k : Nat) : Cal → Option CArm := fun c => match c with
  | .f 31 => some (.p [(.int .i64), (.int .i64), (.int .i64)] _ (fun x => impl_inside.F x.1 x.2.1 x.2.2.1) (fun r => (.t .bool r)))
  | .f 156 => some (.p [(.int .u8)] _ (fun x => impl_isLetter.F x.1) (fun r => (.t .bool r)))
  | _ => none
def impl_isNameWord.sp0 : List Sp := [.t 0 .str, .t 3 (.int .i64)]
def impl_isNameWord.sp0_0 : List Sp := [.t 2 .bool]
def impl_isNameWord.sp0_1 : List Sp := []
def impl_isNameWord.A0 : LArm := .two impl_isNameWord.sp0 impl_isNameWord.sp0_0 impl_isNameWord.sp0_1 (Bool) (Unit) (fun k x => impl_isNameWord.l0 k x.1 x.2.1) .ret (.exit 0) (fun y => (y, ())) (fun x => x.1) (fun y => ()) (fun x => ())
def impl_isNameWord.L : Nat → Option LArm := fun b => match b with
  | 0 => some impl_isNameWord.A0
  | _ => none
theorem impl_isNameWord.run (k : Nat) (a0 : ByteArray) : runF envX (tabC (impl_isNameWord.C k)) (tabL 54 k impl_isNameWord.L) Tryz.f144 [.t .str a0] (viewR1 (.t .bool)) = impl_isNameWord.F k a0 := by kernel_rfl
theorem impl_isNameWord.step0 (k : Nat) (x0 : ByteArray) (x3 : Int) : runC envX (tabC (impl_isNameWord.C k)) (tabL 54 k impl_isNameWord.L) 0 (loopAt Tryz.f144 0) (stOf 54 impl_isNameWord.sp0 (x0, x3, ())) (impl_isNameWord.A0.cont 54 k) = impl_isNameWord.l0 (k + 1) x0 x3 := by kernel_rfl
theorem impl_isNameWord.G (hE : EnvOk Tryz.prog envX) (pv : Nat → Value) (k : Nat) : ∀ cal A, impl_isNameWord.C k cal = some A → ArmOk Tryz.prog envX pv cal A := by
  intro cal A h
  unfold impl_isNameWord.C at h
  split at h
  · cases h; exact fun x y hy => impl_inside.good hE pv x.1 x.2.1 x.2.2.1 hy
  · cases h; exact fun x y hy => impl_isLetter.good hE pv x.1 hy
  · cases h
theorem impl_isNameWord.good (hE : EnvOk Tryz.prog envX) (pv : Nat → Value) (k : Nat) (a0 : ByteArray) {y : _} (h : impl_isNameWord.F k a0 = some y) : Meets Tryz.prog envX pv (.f 144) (tvals [.str] (a0, ())) (.t .bool y) :=
  fun_loops hE (t := impl_isNameWord.C) k (fun k _ => impl_isNameWord.G hE pv k) (f := 144) (fn := Tryz.f144) (by kernel_rfl) rfl (by kernel_rfl) (by kernel_rfl) (lt := impl_isNameWord.L) (by kernel_rfl) (fun b A h => by
    unfold impl_isNameWord.L at h; split at h
    · cases h; exact ⟨by kernel_rfl, by kernel_rfl, by kernel_rfl, fun _ => rfl, fun _ => rfl, fun _ => rfl⟩
    · cases h) (fun b A h => by
    unfold impl_isNameWord.L at h; split at h
    · cases h; exact fun k x => impl_isNameWord.step0 k x.1 x.2.1
    · cases h) ((impl_isNameWord.run k a0).trans h) fun r hr => wk_view1 hr
def impl_isGreatWord.F (k : Nat) (a0 : ByteArray) : Option (Bool) := (impl_isNameWord.F k a0).bind fun r1 => bif r1 then (bif decide (0 ≤ 0) then (bif decide (0 < (a0.size : Int)) then ((impl_isUpper.F (bt a0 (0 : Int).toNat)).bind fun r2 => some r2) else none) else none) else (some false)
def impl_isGreatWord.C (k : Nat) : Cal → Option CArm := fun c => match c with
  | .f 144 => some (.p [.str] _ (fun x => impl_isNameWord.F k x.1) (fun r => (.t .bool r)))
  | .f 129 => some (.p [(.int .u8)] _ (fun x => impl_isUpper.F x.1) (fun r => (.t .bool r)))
  | _ => none
theorem impl_isGreatWord.run (k : Nat) (a0 : ByteArray) : runF envX (tabC (impl_isGreatWord.C k)) (tabL 10 0 (fun _ => none)) Tryz.f142 [.t .str a0] (viewR1 (.t .bool)) = impl_isGreatWord.F k a0 := by kernel_rfl
theorem impl_isGreatWord.G (hE : EnvOk Tryz.prog envX) (pv : Nat → Value) (k : Nat) : ∀ cal A, impl_isGreatWord.C k cal = some A → ArmOk Tryz.prog envX pv cal A := by
  intro cal A h
  unfold impl_isGreatWord.C at h
  split at h
  · cases h; exact fun x y hy => impl_isNameWord.good hE pv k x.1 hy
  · cases h; exact fun x y hy => impl_isUpper.good hE pv x.1 hy
  · cases h
theorem impl_isGreatWord.good (hE : EnvOk Tryz.prog envX) (pv : Nat → Value) (k : Nat) (a0 : ByteArray) {y : _} (h : impl_isGreatWord.F k a0 = some y) : Meets Tryz.prog envX pv (.f 142) (tvals [.str] (a0, ())) (.t .bool y) :=
  fun_plain hE (impl_isGreatWord.G hE pv k) (f := 142) (fn := Tryz.f142) (by kernel_rfl) rfl (by kernel_rfl) (by kernel_rfl) ((impl_isGreatWord.run k a0).trans h) fun r hr => wk_view1 hr
def impl_IsValidName_1.F (k : Nat) (a0 : ByteArray) : Option (Bool) := (impl_isGreatWord.F k a0).bind fun r1 => some (!r1)
def impl_IsValidName_1.C (k : Nat) : Cal → Option CArm := fun c => match c with
  | .f 142 => some (.p [.str] _ (fun x => impl_isGreatWord.F k x.1) (fun r => (.t .bool r)))
  | _ => none
theorem impl_IsValidName_1.run (k : Nat) (a0 : ByteArray) : runF envX (tabC (impl_IsValidName_1.C k)) (tabL 6 0 (fun _ => none)) Tryz.f141 [.t .str a0] (viewR1 (.t .bool)) = impl_IsValidName_1.F k a0 := by kernel_rfl
theorem impl_IsValidName_1.G (hE : EnvOk Tryz.prog envX) (pv : Nat → Value) (k : Nat) : ∀ cal A, impl_IsValidName_1.C k cal = some A → ArmOk Tryz.prog envX pv cal A := by
  intro cal A h
  unfold impl_IsValidName_1.C at h
  split at h
  · cases h; exact fun x y hy => impl_isGreatWord.good hE pv k x.1 hy
  · cases h
theorem impl_IsValidName_1.good (hE : EnvOk Tryz.prog envX) (pv : Nat → Value) (k : Nat) (a0 : ByteArray) {y : _} (h : impl_IsValidName_1.F k a0 = some y) : Meets Tryz.prog envX pv (.f 141) (tvals [.str] (a0, ())) (.t .bool y) :=
  fun_plain hE (impl_IsValidName_1.G hE pv k) (f := 141) (fn := Tryz.f141) (by kernel_rfl) rfl (by kernel_rfl) (by kernel_rfl) ((impl_IsValidName_1.run k a0).trans h) fun r hr => wk_view1 hr
def strings_Split.F (a0 : ByteArray) (a1 : ByteArray) : Option (List ByteArray) := xSplit a0 a1
theorem strings_Split.good (hE : EnvOk Tryz.prog envX) (pv : Nat → Value) (a0 : ByteArray) (a1 : ByteArray) {y : _} (h : strings_Split.F a0 a1 = some y) : Meets Tryz.prog envX pv (.f 155) (tvals [.str, .str] (a0, a1, ())) (.fr 9 .str y) :=
  ext_split (fn := Tryz.f155) (by kernel_rfl) rfl (by kernel_rfl) (mx := 0) (by kernel_rfl) Tryz.strings_Split h
def impl_isParticle.l2 : Nat → (List ByteArray) → ByteArray → Int → Int → Int → Option (Sum Bool ((List ByteArray) × Int × Int))
  | 0, _, _, _, _, _ => none
  | k + 1, x3, x5, x6, x12, x13 => bif (decide (x6 < (x5.size : Int))) then (bif decide (0 ≤ x6) then (bif decide (x6 < (x5.size : Int)) then ((impl_isLower.F (bt x5 (x6 : Int).toNat)).bind fun r3 => bif (!r3) then (some (.inl false)) else (impl_isParticle.l2 k x3 x5 (IntKind.wrap .i64 (x6 + 1)) x12 x13)) else none) else none) else (some (.inr (x3, x12, x13)))
def impl_isParticle.l0 : Nat → (List ByteArray) → Int → Int → Option (Sum Bool (List ByteArray))
  | 0, _, _, _ => none
  | k + 1, x3, x12, x13 => bif (decide (x13 < x12)) then (bif decide (0 ≤ x13) then (bif decide (x13 < (x3.length : Int)) then ((impl_inside.F ((x3.getD ((x13 : Int).toNat) (⟨#[]⟩ : ByteArray)).size : Int) 1 12).bind fun r2 => bif (!r2) then (some (.inl false)) else ((impl_isParticle.l2 k x3 (x3.getD ((x13 : Int).toNat) (⟨#[]⟩ : ByteArray)) 0 x12 x13).bind fun y4 => match y4 with | .inl z5 => some (.inl z5) | .inr z5 => impl_isParticle.l0 k z5.1 z5.2.1 (IntKind.wrap .i64 (z5.2.2 + 1)))) else none) else none) else (some (.inr x3))
def impl_isParticle.F (k : Nat) (a0 : ByteArray) : Option (Bool) := bif (beqS a0 (⟨#[]⟩ : ByteArray)) then (some true) else ((strings_Split.F a0 (⟨#[32]⟩ : ByteArray)).bind fun r1 => (impl_isParticle.l0 k r1 (r1.length : Int) 0).bind fun y6 => match y6 with | .inl z7 => some z7 | .inr z7 => some (decide ((z7.length : Int) ≤ 2)))
def impl_isParticle.C (k : Nat) : Cal → Option CArm := fun c => match c with
  | .f 155 => some (.p [.str, .str] _ (fun x => strings_Split.F x.1 x.2.1) (fun r => (.fr 9 .str r)))
  | .f 31 => some (.p [(.int .i64), (.int .i64), (.int .i64)] _ (fun x => impl_inside.F x.1 x.2.1 x.2.2.1) (fun r => (.t .bool r)))
  | .f 117 => some (.p [(.int .u8)] _ (fun x => impl_isLower.F x.1) (fun r => (.t .bool r)))
  | _ => none
def impl_isParticle.sp2 : List Sp := [.own 3 3076 9 .str false true, .t 5 .str, .t 6 (.int .i64), .con 11 (.own 3076), .t 12 (.int .i64), .t 13 (.int .i64)]
def impl_isParticle.sp2_0 : List Sp := [.t 2 .bool]
def impl_isParticle.sp2_1 : List Sp := [.own 3 3076 9 .str false true, .con 11 (.own 3076), .t 12 (.int .i64), .t 13 (.int .i64)]
def impl_isParticle.A2 : LArm := .two impl_isParticle.sp2 impl_isParticle.sp2_0 impl_isParticle.sp2_1 (Bool) ((List ByteArray) × Int × Int) (fun k x => impl_isParticle.l2 k x.1 x.2.1 x.2.2.1 x.2.2.2.2.1 x.2.2.2.2.2.1) .ret (.exit 2) (fun y => (y, ())) (fun x => x.1) (fun y => (y.1, (), y.2.1, y.2.2, ())) (fun x => (x.1, x.2.2.1, x.2.2.2.1))
def impl_isParticle.sp0 : List Sp := [.own 3 3076 9 .str false true, .con 11 (.own 3076), .t 12 (.int .i64), .t 13 (.int .i64)]
def impl_isParticle.sp0_0 : List Sp := [.t 2 .bool]
def impl_isParticle.sp0_1 : List Sp := [.own 3 3076 9 .str false true]
def impl_isParticle.A0 : LArm := .two impl_isParticle.sp0 impl_isParticle.sp0_0 impl_isParticle.sp0_1 (Bool) ((List ByteArray)) (fun k x => impl_isParticle.l0 k x.1 x.2.2.1 x.2.2.2.1) .ret (.exit 0) (fun y => (y, ())) (fun x => x.1) (fun y => (y, ())) (fun x => x.1)
def impl_isParticle.L : Nat → Option LArm := fun b => match b with
  | 2 => some impl_isParticle.A2
  | 0 => some impl_isParticle.A0
  | _ => none
theorem impl_isParticle.run (k : Nat) (a0 : ByteArray) : runF envX (tabC (impl_isParticle.C k)) (tabL 36 k impl_isParticle.L) Tryz.f143 [.t .str a0] (viewR1 (.t .bool)) = impl_isParticle.F k a0 := by kernel_rfl
theorem impl_isParticle.step2 (k : Nat) (x3 : List ByteArray) (x5 : ByteArray) (x6 : Int) (x12 : Int) (x13 : Int) : runC envX (tabC (impl_isParticle.C k)) (tabL 36 k impl_isParticle.L) 2 (loopAt Tryz.f143 2) (stOf 36 impl_isParticle.sp2 (x3, x5, x6, (), x12, x13, ())) (impl_isParticle.A2.cont 36 k) = impl_isParticle.l2 (k + 1) x3 x5 x6 x12 x13 := by kernel_rfl
theorem impl_isParticle.step0 (k : Nat) (x3 : List ByteArray) (x12 : Int) (x13 : Int) : runC envX (tabC (impl_isParticle.C k)) (tabL 36 k impl_isParticle.L) 0 (loopAt Tryz.f143 0) (stOf 36 impl_isParticle.sp0 (x3, (), x12, x13, ())) (impl_isParticle.A0.cont 36 k) = impl_isParticle.l0 (k + 1) x3 x12 x13 := by kernel_rfl
theorem impl_isParticle.G (hE : EnvOk Tryz.prog envX) (pv : Nat → Value) (k : Nat) : ∀ cal A, impl_isParticle.C k cal = some A → ArmOk Tryz.prog envX pv cal A := by
  intro cal A h
  unfold impl_isParticle.C at h
  split at h
  · cases h; exact fun x y hy => strings_Split.good hE pv x.1 x.2.1 hy
  · cases h; exact fun x y hy => impl_inside.good hE pv x.1 x.2.1 x.2.2.1 hy
  · cases h; exact fun x y hy => impl_isLower.good hE pv x.1 hy
  · cases h
theorem impl_isParticle.good (hE : EnvOk Tryz.prog envX) (pv : Nat → Value) (k : Nat) (a0 : ByteArray) {y : _} (h : impl_isParticle.F k a0 = some y) : Meets Tryz.prog envX pv (.f 143) (tvals [.str] (a0, ())) (.t .bool y) :=
  fun_loops hE (t := impl_isParticle.C) k (fun k _ => impl_isParticle.G hE pv k) (f := 143) (fn := Tryz.f143) (by kernel_rfl) rfl (by kernel_rfl) (by kernel_rfl) (lt := impl_isParticle.L) (by kernel_rfl) (fun b A h => by
    unfold impl_isParticle.L at h; split at h
    · cases h; exact ⟨by kernel_rfl, by kernel_rfl, by kernel_rfl, fun _ => rfl, fun _ => rfl, fun _ => rfl⟩
    · cases h; exact ⟨by kernel_rfl, by kernel_rfl, by kernel_rfl, fun _ => rfl, fun _ => rfl, fun _ => rfl⟩
    · cases h) (fun b A h => by
    unfold impl_isParticle.L at h; split at h
    · cases h; exact fun k x => impl_isParticle.step2 k x.1 x.2.1 x.2.2.1 x.2.2.2.2.1 x.2.2.2.2.2.1
    · cases h; exact fun k x => impl_isParticle.step0 k x.1 x.2.2.1 x.2.2.2.1
    · cases h) ((impl_isParticle.run k a0).trans h) fun r hr => wk_view1 hr
def slices_IndexFunc_string_f141.l0 : Nat → (List ByteArray) → Int → Int → Option (Sum Int Unit)
  | 0, _, _, _ => none
  | k + 1, x0, x7, x8 => bif (decide (x8 < x7)) then (bif decide (0 ≤ x8) then (bif decide (x8 < (x0.length : Int)) then ((impl_IsValidName_1.F k (x0.getD (x8 : Int).toNat (⟨#[]⟩ : ByteArray))).bind fun r1 => bif r1 then (some (.inl x8)) else (slices_IndexFunc_string_f141.l0 k x0 x7 (IntKind.wrap .i64 (x8 + 1)))) else none) else none) else (some (.inr ()))
def slices_IndexFunc_string_f141.F (k : Nat) (a0 : List ByteArray) : Option (Int) := (slices_IndexFunc_string_f141.l0 k a0 (a0.length : Int) 0).bind fun y2 => match y2 with | .inl z3 => some z3 | .inr z3 => some (-1)
def slices_IndexFunc_string_f141.C (k : Nat) : Cal → Option CArm := fun c => match c with
  | .f 141 => some (.p [.str] _ (fun x => impl_IsValidName_1.F k x.1) (fun r => (.t .bool r)))
  | _ => none
def slices_IndexFunc_string_f141.sp0 : List Sp := [.t 0 (.sl .str), .con 1 (.clo 141), .t 7 (.int .i64), .t 8 (.int .i64)]
def slices_IndexFunc_string_f141.sp0_0 : List Sp := [.t 4 (.int .i64)]
def slices_IndexFunc_string_f141.sp0_1 : List Sp := []
def slices_IndexFunc_string_f141.A0 : LArm := .two slices_IndexFunc_string_f141.sp0 slices_IndexFunc_string_f141.sp0_0 slices_IndexFunc_string_f141.sp0_1 (Int) (Unit) (fun k x => slices_IndexFunc_string_f141.l0 k x.1 x.2.2.1 x.2.2.2.1) .ret (.exit 0) (fun y => (y, ())) (fun x => x.1) (fun y => ()) (fun x => ())
def slices_IndexFunc_string_f141.L : Nat → Option LArm := fun b => match b with
  | 0 => some slices_IndexFunc_string_f141.A0
  | _ => none
theorem slices_IndexFunc_string_f141.run (k : Nat) (a0 : List ByteArray) : runF envX (tabC (slices_IndexFunc_string_f141.C k)) (tabL 19 k slices_IndexFunc_string_f141.L) Tryz.f154 [.t (.sl .str) a0, .clo 141 []] (viewR1 (.t (.int .i64))) = slices_IndexFunc_string_f141.F k a0 := by kernel_rfl
theorem slices_IndexFunc_string_f141.step0 (k : Nat) (x0 : List ByteArray) (x7 : Int) (x8 : Int) : runC envX (tabC (slices_IndexFunc_string_f141.C k)) (tabL 19 k slices_IndexFunc_string_f141.L) 0 (loopAt Tryz.f154 0) (stOf 19 slices_IndexFunc_string_f141.sp0 (x0, (), x7, x8, ())) (slices_IndexFunc_string_f141.A0.cont 19 k) = slices_IndexFunc_string_f141.l0 (k + 1) x0 x7 x8 := by kernel_rfl
theorem slices_IndexFunc_string_f141.G (hE : EnvOk Tryz.prog envX) (pv : Nat → Value) (k : Nat) : ∀ cal A, slices_IndexFunc_string_f141.C k cal = some A → ArmOk Tryz.prog envX pv cal A := by
  intro cal A h
  unfold slices_IndexFunc_string_f141.C at h
  split at h
  · cases h; exact fun x y hy => impl_IsValidName_1.good hE pv k x.1 hy
  · cases h
theorem slices_IndexFunc_string_f141.good (hE : EnvOk Tryz.prog envX) (pv : Nat → Value) (k : Nat) (a0 : List ByteArray) {y : _} (h : slices_IndexFunc_string_f141.F k a0 = some y) : Meets Tryz.prog envX pv (.f 154) (pvals [.t (.sl .str), .clo 141 []] (a0, (()), ())) (.t (.int .i64) y) :=
  fun_loops hE (t := slices_IndexFunc_string_f141.C) k (fun k _ => slices_IndexFunc_string_f141.G hE pv k) (f := 154) (fn := Tryz.f154) (by kernel_rfl) rfl (by kernel_rfl) (by kernel_rfl) (lt := slices_IndexFunc_string_f141.L) (by kernel_rfl) (fun b A h => by
    unfold slices_IndexFunc_string_f141.L at h; split at h
    · cases h; exact ⟨by kernel_rfl, by kernel_rfl, by kernel_rfl, fun _ => rfl, fun _ => rfl, fun _ => rfl⟩
    · cases h) (fun b A h => by
    unfold slices_IndexFunc_string_f141.L at h; split at h
    · cases h; exact fun k x => slices_IndexFunc_string_f141.step0 k x.1 x.2.2.1 x.2.2.2.1
    · cases h) ((slices_IndexFunc_string_f141.run k a0).trans h) fun r hr => wk_view1 hr
def slices_ContainsFunc_string_f141.F (k : Nat) (a0 : List ByteArray) : Option (Bool) := (slices_IndexFunc_string_f141.F k a0).bind fun r1 => some (decide (r1 ≥ 0))
def slices_ContainsFunc_string_f141.C (k : Nat) : Cal → Option CArm := fun c => match c with
  | .f 154 => some (.q [.t (.sl .str), .clo 141 []] _ (fun x => slices_IndexFunc_string_f141.F k x.1) (fun r => (.t (.int .i64) r)))
  | _ => none
theorem slices_ContainsFunc_string_f141.run (k : Nat) (a0 : List ByteArray) : runF envX (tabC (slices_ContainsFunc_string_f141.C k)) (tabL 9 0 (fun _ => none)) Tryz.f140 [.t (.sl .str) a0, .clo 141 []] (viewR1 (.t .bool)) = slices_ContainsFunc_string_f141.F k a0 := by kernel_rfl
theorem slices_ContainsFunc_string_f141.G (hE : EnvOk Tryz.prog envX) (pv : Nat → Value) (k : Nat) : ∀ cal A, slices_ContainsFunc_string_f141.C k cal = some A → ArmOk Tryz.prog envX pv cal A := by
  intro cal A h
  unfold slices_ContainsFunc_string_f141.C at h
  split at h
  · cases h; exact fun x y hy => slices_IndexFunc_string_f141.good hE pv k x.1 hy
  · cases h
theorem slices_ContainsFunc_string_f141.good (hE : EnvOk Tryz.prog envX) (pv : Nat → Value) (k : Nat) (a0 : List ByteArray) {y : _} (h : slices_ContainsFunc_string_f141.F k a0 = some y) : Meets Tryz.prog envX pv (.f 140) (pvals [.t (.sl .str), .clo 141 []] (a0, (()), ())) (.t .bool y) :=
  fun_plain hE (slices_ContainsFunc_string_f141.G hE pv k) (f := 140) (fn := Tryz.f140) (by kernel_rfl) rfl (by kernel_rfl) (by kernel_rfl) ((slices_ContainsFunc_string_f141.run k a0).trans h) fun r hr => wk_view1 hr
def impl_IsValidName.F (k : Nat) (a0 : Name) : Option (Bool) := bif (decide ((a0.given.length : Int) > 3)) then (some false) else ((slices_ContainsFunc_string_f141.F k a0.given).bind fun r1 => bif r1 then (some false) else ((impl_isParticle.F k a0.particle).bind fun r2 => bif r2 then ((impl_isGreatWord.F k a0.family).bind fun r3 => bif r3 then (bif (beqS a0.suffix (⟨#[]⟩ : ByteArray)) then (some true) else ((impl_isNameWord.F k a0.suffix).bind fun r4 => some r4)) else (some false)) else (some false)))
def impl_IsValidName.C (k : Nat) : Cal → Option CArm := fun c => match c with
  | .f 140 => some (.q [.t (.sl .str), .clo 141 []] _ (fun x => slices_ContainsFunc_string_f141.F k x.1) (fun r => (.t .bool r)))
  | .f 143 => some (.p [.str] _ (fun x => impl_isParticle.F k x.1) (fun r => (.t .bool r)))
  | .f 142 => some (.p [.str] _ (fun x => impl_isGreatWord.F k x.1) (fun r => (.t .bool r)))
  | .f 144 => some (.p [.str] _ (fun x => impl_isNameWord.F k x.1) (fun r => (.t .bool r)))
  | _ => none
theorem impl_IsValidName.run (k : Nat) (a0 : Name) : runF envX (tabC (impl_IsValidName.C k)) (tabL 30 0 (fun _ => none)) Tryz.f121 [.t .name a0] (viewR1 (.t .bool)) = impl_IsValidName.F k a0 := by kernel_rfl
theorem impl_IsValidName.G (hE : EnvOk Tryz.prog envX) (pv : Nat → Value) (k : Nat) : ∀ cal A, impl_IsValidName.C k cal = some A → ArmOk Tryz.prog envX pv cal A := by
  intro cal A h
  unfold impl_IsValidName.C at h
  split at h
  · cases h; exact fun x y hy => slices_ContainsFunc_string_f141.good hE pv k x.1 hy
  · cases h; exact fun x y hy => impl_isParticle.good hE pv k x.1 hy
  · cases h; exact fun x y hy => impl_isGreatWord.good hE pv k x.1 hy
  · cases h; exact fun x y hy => impl_isNameWord.good hE pv k x.1 hy
  · cases h
theorem impl_IsValidName.good (hE : EnvOk Tryz.prog envX) (pv : Nat → Value) (k : Nat) (a0 : Name) {y : _} (h : impl_IsValidName.F k a0 = some y) : Meets Tryz.prog envX pv (.f 121) (tvals [.name] (a0, ())) (.t .bool y) :=
  fun_plain hE (impl_IsValidName.G hE pv k) (f := 121) (fn := Tryz.f121) (by kernel_rfl) rfl (by kernel_rfl) (by kernel_rfl) ((impl_IsValidName.run k a0).trans h) fun r hr => wk_view1 hr
def impl_areNames_1.F (k : Nat) (a0 : Name) : Option (Bool) := (impl_IsValidName.F k a0).bind fun r1 => some (!r1)
def impl_areNames_1.C (k : Nat) : Cal → Option CArm := fun c => match c with
  | .f 121 => some (.p [.name] _ (fun x => impl_IsValidName.F k x.1) (fun r => (.t .bool r)))
  | _ => none
theorem impl_areNames_1.run (k : Nat) (a0 : Name) : runF envX (tabC (impl_areNames_1.C k)) (tabL 6 0 (fun _ => none)) Tryz.f120 [.t .name a0] (viewR1 (.t .bool)) = impl_areNames_1.F k a0 := by kernel_rfl
theorem impl_areNames_1.G (hE : EnvOk Tryz.prog envX) (pv : Nat → Value) (k : Nat) : ∀ cal A, impl_areNames_1.C k cal = some A → ArmOk Tryz.prog envX pv cal A := by
  intro cal A h
  unfold impl_areNames_1.C at h
  split at h
  · cases h; exact fun x y hy => impl_IsValidName.good hE pv k x.1 hy
  · cases h
theorem impl_areNames_1.good (hE : EnvOk Tryz.prog envX) (pv : Nat → Value) (k : Nat) (a0 : Name) {y : _} (h : impl_areNames_1.F k a0 = some y) : Meets Tryz.prog envX pv (.f 120) (tvals [.name] (a0, ())) (.t .bool y) :=
  fun_plain hE (impl_areNames_1.G hE pv k) (f := 120) (fn := Tryz.f120) (by kernel_rfl) rfl (by kernel_rfl) (by kernel_rfl) ((impl_areNames_1.run k a0).trans h) fun r hr => wk_view1 hr
def slices_IndexFunc_Name_f120.l0 : Nat → (List Name) → Int → Int → Option (Sum Int Unit)
  | 0, _, _, _ => none
  | k + 1, x0, x7, x8 => bif (decide (x8 < x7)) then (bif decide (0 ≤ x8) then (bif decide (x8 < (x0.length : Int)) then ((impl_areNames_1.F k (x0.getD (x8 : Int).toNat (dflt .name))).bind fun r1 => bif r1 then (some (.inl x8)) else (slices_IndexFunc_Name_f120.l0 k x0 x7 (IntKind.wrap .i64 (x8 + 1)))) else none) else none) else (some (.inr ()))
def slices_IndexFunc_Name_f120.F (k : Nat) (a0 : List Name) : Option (Int) := (slices_IndexFunc_Name_f120.l0 k a0 (a0.length : Int) 0).bind fun y2 => match y2 with | .inl z3 => some z3 | .inr z3 => some (-1)
def slices_IndexFunc_Name_f120.C (k : Nat) : Cal → Option CArm := fun c => match c with
  | .f 120 => some (.p [.name] _ (fun x => impl_areNames_1.F k x.1) (fun r => (.t .bool r)))
  | _ => none
def slices_IndexFunc_Name_f120.sp0 : List Sp := [.t 0 (.sl .name), .con 1 (.clo 120), .t 7 (.int .i64), .t 8 (.int .i64)]
def slices_IndexFunc_Name_f120.sp0_0 : List Sp := [.t 4 (.int .i64)]
def slices_IndexFunc_Name_f120.sp0_1 : List Sp := []
def slices_IndexFunc_Name_f120.A0 : LArm := .two slices_IndexFunc_Name_f120.sp0 slices_IndexFunc_Name_f120.sp0_0 slices_IndexFunc_Name_f120.sp0_1 (Int) (Unit) (fun k x => slices_IndexFunc_Name_f120.l0 k x.1 x.2.2.1 x.2.2.2.1) .ret (.exit 0) (fun y => (y, ())) (fun x => x.1) (fun y => ()) (fun x => ())
def slices_IndexFunc_Name_f120.L : Nat → Option LArm := fun b => match b with
  | 0 => some slices_IndexFunc_Name_f120.A0
  | _ => none
theorem slices_IndexFunc_Name_f120.run (k : Nat) (a0 : List Name) : runF envX (tabC (slices_IndexFunc_Name_f120.C k)) (tabL 19 k slices_IndexFunc_Name_f120.L) Tryz.f139 [.t (.sl .name) a0, .clo 120 []] (viewR1 (.t (.int .i64))) = slices_IndexFunc_Name_f120.F k a0 := by kernel_rfl
theorem slices_IndexFunc_Name_f120.step0 (k : Nat) (x0 : List Name) (x7 : Int) (x8 : Int) : runC envX (tabC (slices_IndexFunc_Name_f120.C k)) (tabL 19 k slices_IndexFunc_Name_f120.L) 0 (loopAt Tryz.f139 0) (stOf 19 slices_IndexFunc_Name_f120.sp0 (x0, (), x7, x8, ())) (slices_IndexFunc_Name_f120.A0.cont 19 k) = slices_IndexFunc_Name_f120.l0 (k + 1) x0 x7 x8 := by kernel_rfl
theorem slices_IndexFunc_Name_f120.G (hE : EnvOk Tryz.prog envX) (pv : Nat → Value) (k : Nat) : ∀ cal A, slices_IndexFunc_Name_f120.C k cal = some A → ArmOk Tryz.prog envX pv cal A := by
  intro cal A h
  unfold slices_IndexFunc_Name_f120.C at h
  split at h
  · cases h; exact fun x y hy => impl_areNames_1.good hE pv k x.1 hy
  · cases h
theorem slices_IndexFunc_Name_f120.good (hE : EnvOk Tryz.prog envX) (pv : Nat → Value) (k : Nat) (a0 : List Name) {y : _} (h : slices_IndexFunc_Name_f120.F k a0 = some y) : Meets Tryz.prog envX pv (.f 139) (pvals [.t (.sl .name), .clo 120 []] (a0, (()), ())) (.t (.int .i64) y) :=
  fun_loops hE (t := slices_IndexFunc_Name_f120.C) k (fun k _ => slices_IndexFunc_Name_f120.G hE pv k) (f := 139) (fn := Tryz.f139) (by kernel_rfl) rfl (by kernel_rfl) (by kernel_rfl) (lt := slices_IndexFunc_Name_f120.L) (by kernel_rfl) (fun b A h => by
    unfold slices_IndexFunc_Name_f120.L at h; split at h
    · cases h; exact ⟨by kernel_rfl, by kernel_rfl, by kernel_rfl, fun _ => rfl, fun _ => rfl, fun _ => rfl⟩
    · cases h) (fun b A h => by
    unfold slices_IndexFunc_Name_f120.L at h; split at h
    · cases h; exact fun k x => slices_IndexFunc_Name_f120.step0 k x.1 x.2.2.1 x.2.2.2.1
    · cases h) ((slices_IndexFunc_Name_f120.run k a0).trans h) fun r hr => wk_view1 hr
end Go.Proofs.YtolcacancfmmiaaGreatDoor
end
