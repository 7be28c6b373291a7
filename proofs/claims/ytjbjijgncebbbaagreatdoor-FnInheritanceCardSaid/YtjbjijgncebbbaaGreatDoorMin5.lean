/- Library functions: their contracts, proved once for any program, as what a callee keeps to. By an AI agent's session. -/
import Derived.Test.YtjbjijgncebbbaaGreatDoorMin3
import Derived.Shelf.Vars
import Derived.Below
import Derived.Lib.IndexMore
import Derived.Lib.Split
import Derived.Lib.SplitLaws
import Derived.Lib.Repeat
import Derived.Deep.Draws
import Derived.Lib.Join
import Derived.Lib.SlTrimSet
import Derived.Lib.IndexAny
import Derived.Lib.TrimByte
import Derived.Laws.AppendOwn
import Derived.Lib.ItoaNum
import Derived.Sort.Grow
import Derived.Test.YtjbjijgncebbbaaGreatDoorMin4
import Derived.Test.YtjbjijgncebbbaaGreatDoorProg
import Derived.KernelRfl
section
namespace Go.Gx
open Go.RowKit Go.Lib
set_option linter.unusedVariables false
theorem ext_goes {P : Program} {f : FuncId} {fn : Func} {c : Code} (hf : P.funcs[f]? = some fn) (hb : fn.body = some c) (hname : (fn.name == "runtime.NumGoroutine") = false) {args : Array Value} {w : World} {R : Value → World → Prop}
    (h : Calls P f args w fun e w' => ∃ v, e = .returned v ∧ R v w') : Goes P f args w R := by
  have hcall : (callFunc f args).run P w = .ok (.enter f args) w := by
    have hn' : fn.name ≠ "runtime.NumGoroutine" := by simpa using hname
    simp [callFunc, hf, hn', hb]
  unfold Goes
  rw [hcall]
  exact h
theorem args_nil {S : Nat → Prop} {w : World} {pv : Nat → Value} {vs : List Value} (h : ArgsOk S w pv [] vs) : vs = [] := List.eq_nil_of_length_eq_zero h.1
theorem args_cons {S : Nat → Prop} {w : World} {pv : Nat → Value} {a : AV} {al : List AV} {vs : List Value} (h : ArgsOk S w pv (a :: al) vs) : ∃ cs vs', AR S w (fun _ => none) (fun _ => none) pv a cs ∧ vs = valOf a cs :: vs' ∧ ArgsOk S w pv al vs' := by
  match vs, h with
  | [], h => cases h.1
  | v :: vs', ⟨h1, h2⟩ =>
    obtain ⟨cs, hc, rfl⟩ := h2 0 a v rfl rfl
    exact ⟨cs, vs', hc, rfl, by simpa using h1, fun i b u hb hu => h2 (i + 1) b u (by simpa using hb) (by simpa using hu)⟩
theorem args_str {S : Nat → Prop} {w : World} {pv : Nat → Value} {s : ByteArray} {al : List AV} {vs : List Value} (h : ArgsOk S w pv (.t .str s :: al) vs) : ∃ vs', vs = .string s :: vs' ∧ ArgsOk S w pv al vs' := by
  obtain ⟨cs, vs', hc, rfl, h'⟩ := args_cons h
  cases hc with | t _ _ _ hc => cases hc; exact ⟨vs', rfl, h'⟩
theorem args_int {S : Nat → Prop} {w : World} {pv : Nat → Value} {k : IntKind} {n : Int} {al : List AV} {vs : List Value} (h : ArgsOk S w pv (.t (.int k) n :: al) vs) : ∃ vs', vs = .int k n :: vs' ∧ ArgsOk S w pv al vs' := by
  obtain ⟨cs, vs', hc, rfl, h'⟩ := args_cons h
  cases hc with | t _ _ _ hc => cases hc; exact ⟨vs', rfl, h'⟩
section
variable {P : Program} {E : Env} {pv : Nat → Value} {f : FuncId} {fn : Func} {c : Code}
/-- An answer that leads nowhere. -/
theorem ext_flat (hf : P.funcs[f]? = some fn) (hb : fn.body = some c) (hname : (fn.name == "runtime.NumGoroutine") = false) {args : List AV} {τ : Ty} {y : den τ} {v : Value} (hy : ∀ S w, ∃ cs, CR S w τ y cs ∧ v = valOf (.t τ y) cs)
    (h : ∀ S w vs, (∀ b, S b → b < w.heap.size) → GlOk E pv S w → ArgsOk S w pv args vs → Calls P f vs.toArray w fun e w' => e = .returned v ∧ Below w.heap.size w w') : Meets P E pv (.f f) args (.t τ y) := by
  intro S w vs hS hgl hargs
  refine ext_goes hf hb hname ((h S w vs hS hgl hargs).mono fun e w' ⟨he, hbl⟩ => ⟨v, he, hbl, S, fun b hb => hb, fun b hb => .inl hb, ?_⟩)
  obtain ⟨cs, hc, rfl⟩ := hy S w'
  exact ⟨none, .plain _ _ (.t _ _ _ hc)⟩
/-- New texts in a block of their own. -/
theorem ext_strs (hf : P.funcs[f]? = some fn) (hb : fn.body = some c) (hname : (fn.name == "runtime.NumGoroutine") = false) {args : List AV} {te : Nat} {xs : List ByteArray} (hx : xs.length ≤ maxLen)
    (h : ∀ S w vs, (∀ b, S b → b < w.heap.size) → GlOk E pv S w → ArgsOk S w pv args vs → Calls P f vs.toArray w fun e w' => e = .returned (.slice (some ⟨w.heap.size, 0, none⟩) xs.length xs.length) ∧ w' = w.alloc (.cells (xs.map Value.string).toArray te)) : Meets P E pv (.f f) args (.fr te .str xs) := by
  intro S w vs hS hgl hargs
  refine ext_goes hf hb hname ((h S w vs hS hgl hargs).mono fun e w' ⟨he, hw⟩ => ⟨_, he, ?_⟩)
  subst hw
  refine ⟨(Below.refl _ w).alloc (Nat.le_refl _) _, S, fun b hb => hb, fun b hb => .inl hb, some w.heap.size, .fr te .str xs w.heap.size xs.length (Nat.le_refl _) (fun hs => absurd (hS _ hs) (Nat.lt_irrefl _)) ⟨(xs.map Value.string).toArray, (0, 0), ?_, ?_, Nat.le_refl _, hx, fun _ => rfl, .inl (Nat.le_refl _), by decide, fun i hi => ⟨[.string xs[i]], .str _, fun j v hj => ?_⟩⟩⟩
  · show (w.heap.push _)[w.heap.size]? = _
    simp
  · simp [nc]
  · cases j with
    | zero =>
      simp only [List.getElem?_cons_zero, Option.some.injEq] at hj
      subst hj
      simp [nc, hi]
    | succ j => simp at hj
end
/-! ### The functions -/
def xSplit (s sep : ByteArray) : Option (List ByteArray) := bif Nat.ble s.size 4294967280 && Nat.ble 1 sep.size then some (Lib.splitB sep 0 (Lib.countB s sep) s) else none
theorem ext_split {P : Program} {E : Env} {pv : Nat → Value} {f : FuncId} {fn : Func} {c : Code} (hf : P.funcs[f]? = some fn) (hb : fn.body = some c) (hname : (fn.name == "runtime.NumGoroutine") = false) {mx : Nat} (hmx : E.gi mx = true) {te : Nat}
    (hc : ∀ (s sep : ByteArray) (m : Int) (w : World), s.size < 4294967281 → w.cell? ⟨mx, 0, none⟩ = some (.int .i64 m) → 1 ≤ sep.size → Calls P f #[.string s, .string sep] w fun e w' =>
      e = .returned (.slice (some ⟨w.heap.size, 0, none⟩) (Lib.countB s sep + 1) (Lib.countB s sep + 1)) ∧ w' = w.alloc (.cells ((Lib.splitB sep 0 (Lib.countB s sep) s).map Value.string).toArray te))
    {s sep : ByteArray} {y : List ByteArray} (h : xSplit s sep = some y) : Meets P E pv (.f f) (tvals [.str, .str] (s, sep, ())) (.fr te .str y) := by
  unfold xSplit at h
  cases hs : Nat.ble s.size 4294967280 && Nat.ble 1 sep.size with
  | false => rw [hs] at h; cases h
  | true =>
    rw [hs] at h
    cases h
    rw [Bool.and_eq_true] at hs
    have h1 := Nat.le_of_ble_eq_true hs.1
    have h2 := Nat.le_of_ble_eq_true hs.2
    have hl := Lib.splitB_all sep h2 0 _ s rfl
    have hle := Lib.countB_le sep h2 s.size s (Nat.le_refl _)
    have hm : maxLen = 9223372036854775807 := by decide
    refine ext_strs hf hb hname (by rw [hl, hm]; omega) fun S w vs hS hgl ha => ?_
    obtain ⟨_, rfl, ha1⟩ := args_str ha
    obtain ⟨_, rfl, ha2⟩ := args_str ha1
    obtain rfl := args_nil ha2
    obtain ⟨_, m, hm⟩ := hgl.2.1 mx hmx
    rw [hl]
    exact hc s sep m w (by omega) hm h2
def xJoin (xs : List ByteArray) (sep : ByteArray) : Option ByteArray := bif Nat.ble xs.length 140737488355328 && Nat.ble (Lib.join (xs.map (·.data.toList)) sep.data.toList).length 140737488355328 then some ⟨(Lib.join (xs.map (·.data.toList)) sep.data.toList).toArray⟩ else none
theorem ext_join {P : Program} {E : Env} {pv : Nat → Value} {f : FuncId} {fn : Func} {c : Code} (hf : P.funcs[f]? = some fn) (hb : fn.body = some c) (hname : (fn.name == "runtime.NumGoroutine") = false)
    (hc0 : ∀ (a : Option Addr) (c : Nat) (sep : ByteArray) (w : World), Calls P f #[.slice a 0 c, .string sep] w fun e w' => e = .returned (.string ⟨#[]⟩) ∧ w' = w)
    (hc : ∀ (bk o c : Nat) (xs : List ByteArray) (sep : ByteArray) (w : World), (∀ (j : Nat) x, xs[j]? = some x → w.cell? ⟨bk, o + j, none⟩ = some (.string x)) → bk < w.heap.size → xs.length ≤ 140737488355328 → xs.length ≤ c →
      (Lib.join (xs.map (·.data.toList)) sep.data.toList).length ≤ 140737488355328 → Calls P f #[.slice (some ⟨bk, o, none⟩) xs.length c, .string sep] w fun e w' => e = .returned (.string ⟨(Lib.join (xs.map (·.data.toList)) sep.data.toList).toArray⟩) ∧ Below w.heap.size w w')
    {xs : List ByteArray} {sep : ByteArray} {y : ByteArray} (h : xJoin xs sep = some y) : Meets P E pv (.f f) (tvals [.sl .str, .str] (xs, sep, ())) (.t .str y) := by
  unfold xJoin at h
  cases hs : Nat.ble xs.length 140737488355328 && Nat.ble (Lib.join (xs.map (·.data.toList)) sep.data.toList).length 140737488355328 with
  | false => rw [hs] at h; cases h
  | true =>
    rw [hs] at h
    cases h
    rw [Bool.and_eq_true] at hs
    refine ext_flat hf hb hname (v := .string _) (fun S w => ⟨_, .str _, rfl⟩) fun S w vs hS hgl ha => ?_
    obtain ⟨cs, _, hcr, rfl, ha1⟩ := args_cons ha
    obtain ⟨_, rfl, ha2⟩ := args_str ha1
    obtain rfl := args_nil ha2
    cases hcr with
    | t _ _ _ hcr =>
      cases hcr with
      | sl e xs A c cv hle hm h1 h2 =>
        match xs, A, hle, h1, h2, hs with
        | [], A, _, _, _, _ => exact (hc0 A c sep w).mono fun e w' ⟨he, hw⟩ => ⟨he, hw ▸ Below.refl _ _⟩
        | x :: l, A, hle, h1, h2, hs =>
          obtain ⟨g, o, rfl, hg, _⟩ := h2 0 (Nat.succ_pos _)
          refine hc g o c (x :: l) sep w (fun j z hj => ?_) (hS g hg) (Nat.le_of_ble_eq_true hs.1) hle (Nat.le_of_ble_eq_true hs.2)
          obtain ⟨hj', hz⟩ := List.getElem?_eq_some_iff.1 hj
          obtain ⟨g', o', e', _, hcell⟩ := h2 j hj'
          cases e'
          have hcv := h1 j hj'
          rw [hz] at hcv
          have hq : ∀ q, CR S w .str z q → q[0]? = some (.string z) := fun q hq => by cases hq; rfl
          have := hcell 0 (.string z) (hq _ hcv)
          simpa [nc] using this
def xTrim1 (s cs : ByteArray) : Option ByteArray := match cs with
  | ⟨⟨[c]⟩⟩ => bif Nat.ble s.size 9223372036854775807 && Nat.blt c.toNat 128 then some ⟨(Lib.trimB s.data.toList c).toArray⟩ else none
  | _ => none
theorem ext_trim1 {P : Program} {E : Env} {pv : Nat → Value} {f : FuncId} {fn : Func} {c : Code} (hf : P.funcs[f]? = some fn) (hb : fn.body = some c) (hname : (fn.name == "runtime.NumGoroutine") = false)
    (hc : ∀ (s : ByteArray) (c : UInt8), c.toNat < 128 → ∀ (w : World), s.size ≤ 9223372036854775807 → Calls P f #[.string s, .string ⟨#[c]⟩] w fun e w' => e = .returned (.string ⟨(Lib.trimB s.data.toList c).toArray⟩) ∧ (w' = w ∨ w' = w.drew))
    {s cs : ByteArray} {y : ByteArray} (h : xTrim1 s cs = some y) : Meets P E pv (.f f) (tvals [.str, .str] (s, cs, ())) (.t .str y) := by
  unfold xTrim1 at h
  split at h
  · rename_i c0
    cases hs : Nat.ble s.size 9223372036854775807 && Nat.blt c0.toNat 128 with
    | false => rw [hs] at h; cases h
    | true =>
      rw [hs] at h
      cases h
      rw [Bool.and_eq_true] at hs
      refine ext_flat hf hb hname (v := .string _) (fun S w => ⟨_, .str _, rfl⟩) fun S w vs hS hgl ha => ?_
      obtain ⟨_, rfl, ha1⟩ := args_str ha
      obtain ⟨_, rfl, ha2⟩ := args_str ha1
      obtain rfl := args_nil ha2
      refine (hc s c0 (Nat.le_of_ble_eq_true hs.2) w (Nat.le_of_ble_eq_true hs.1)).mono fun e w' ⟨he, hw⟩ => ⟨he, ?_⟩
      rcases hw with rfl | rfl
      · exact Below.refl _ _
      · exact (Below.refl _ _).drew
  · cases h
end Go.Gx
end
section
/- A library function by its contract: strconv.Itoa. -/
namespace Go.Gx
set_option linter.unusedVariables false
set_option linter.unusedSimpArgs false

/-- Every int's numeral, the table of powers being as it is laid. -/
def xItoaN (n : Int) : Option ByteArray := bif decide (-9223372036854775808 ≤ n) && decide (n ≤ 9223372036854775807) then some ⟨(Lib.itoa n).toArray⟩ else none
theorem ext_itoaN {P : Program} {E : Env} {pv : Nat → Value} {f : FuncId} {fn : Func} {c : Code} (hf : P.funcs[f]? = some fn) (hb : fn.body = some c) (hname : (fn.name == "runtime.NumGoroutine") = false)
    {g : Nat} (hE : E.gl g = some (.t (.arr 20 (.int .u64)) Lib.pow10Tab)) (hg : P.globalNamed "internal/strconv.uint64pow10" = some g)
    (hc : ∀ (n : Int), -9223372036854775808 ≤ n → n ≤ 9223372036854775807 → ∀ w : World, Lib.TabIs P w "internal/strconv.uint64pow10" .u64 Lib.pow10Tab → Calls P f #[.int .i64 n] w fun e w' => e = .returned (.string ⟨(Lib.itoa n).toArray⟩) ∧ ∃ k os, w' = Go.Sort.grow (w.drewN k) os)
    {n : Int} {y : ByteArray} (h : xItoaN n = some y) : Meets P E pv (.f f) (tvals [.int .i64] (n, ())) (.t .str y) := by
  unfold xItoaN at h
  cases hs : decide (-9223372036854775808 ≤ n) && decide (n ≤ 9223372036854775807) with
  | false => rw [hs] at h; cases h
  | true =>
    rw [hs] at h
    cases h
    simp only [Bool.and_eq_true, decide_eq_true_eq] at hs
    refine ext_flat hf hb hname (v := .string _) (fun S w => ⟨_, .str _, rfl⟩) fun S w vs hS hgl ha => ?_
    obtain ⟨_, rfl, ha1⟩ := args_int ha
    obtain rfl := args_nil ha1
    refine (hc n hs.1 hs.2 w (gl_tab hgl hE hg)).mono fun e w' ⟨he, k, os, hw⟩ => ⟨he, ?_⟩
    subst hw
    refine ⟨rfl, rfl, rfl, by simp [Go.Sort.grow, World.drewN], fun b hb => ?_⟩
    simp only [Go.Sort.grow]
    rw [Array.getElem?_append_left (by exact hb)]
    rfl
end Go.Gx
end
section
namespace Go.Proofs.YtjbjijgncebbbaaGreatDoor
open Go.Gx
set_option linter.unusedVariables false
set_option maxRecDepth 100000
def tyT (t : Nat) : Option Ty := match t with
  | 2 => some (.int .i64)
  | 3 => some (.int .i64)
  | 4 => some .bool
  | 5 => some (.int .u8)
  | 6 => some (.int .u8)
  | 9 => some .str
  | 10 => some .str
  | 11 => some .str
  | 21 => some (.int .i32)
  | 22 => some (.sl (.int .u8))
  | 24 => some (.sl .entry)
  | 26 => some .lib
  | 29 => some (.sl .name)
  | 31 => some .date
  | 33 => some .entry
  | 39 => some (.sl .str)
  | 49 => some (.sl (.sl .str))
  | 57 => some (.arr 8 .str)
  | 68 => some (.int .u64)
  | 70 => some .cur
  | 72 => some (.sl (.int .i64))
  | 83 => some .name
  | 121 => some (.arr 256 .bool)
  | 130 => some (.int .u64)
  | 133 => some (.arr 24 (.int .u8))
  | 148 => some (.arr 20 (.int .u64))
  | 149 => some (.int .u32)
  | 150 => some (.arr 65 (.int .u8))
  | 158 => some (.arr 256 (.int .u8))
  | 163 => some (.arr 32 (.int .u8))
  | 164 => some (.arr 64 (.int .u8))
  | 173 => some (.int .u8)
  | _ => none
def elT (t : Nat) : Nat := match t with
  | 22 => 5
  | 24 => 33
  | 29 => 83
  | 39 => 9
  | 49 => 39
  | 72 => 3
  | _ => 0
def mdT (f : Nat) : Bool := match f with
  | 38 => true
  | 43 => true
  | 65 => true
  | 66 => true
  | 67 => true
  | 68 => true
  | 97 => true
  | 98 => true
  | 99 => true
  | 100 => true
  | 105 => true
  | 124 => true
  | 125 => true
  | 126 => true
  | 127 => true
  | 129 => true
  | 133 => true
  | 146 => true
  | 147 => true
  | _ => false
def glV0 : List ByteArray := [⟨#[97, 117, 116, 104, 111, 114, 115]⟩, ⟨#[101, 100, 105, 116, 111, 114, 115]⟩, ⟨#[116, 105, 116, 108, 101]⟩, ⟨#[99, 111, 110, 116, 97, 105, 110, 101, 114]⟩, ⟨#[112, 117, 98, 108, 105, 115, 104, 101, 114]⟩, ⟨#[100, 97, 116, 101]⟩, ⟨#[118, 111, 108, 117, 109, 101]⟩, ⟨#[112, 97, 103, 101, 115]⟩]
def glT (g : Nat) : Option AV := match g with
  | 0 => some (.t (.arr 8 .str) glV0)
  | 1 => some (.t (.arr 20 (.int .u64)) Lib.pow10Tab)
  | _ => none
def giT (g : Nat) : Bool := match g with
  | 2 => true
  | _ => false
def dmT (f : Nat) : Bool := match f with
  | _ => false
def pmT (f : Nat) : Bool := match f with
  | _ => false
def envX : Env := { ty := tyT, el := elT, gl := glT, md := mdT, gi := giT, dm := dmT, pm := pmT }
theorem env_ty : ∀ T τ, envX.ty T = some τ → TyOk Tryz.prog envX T τ := fun T τ h => by
  dsimp only [envX, tyT] at h
  split at h <;> first
    | (cases h; done)
    | (cases h; exact tyOk_of (by kernel_rfl) (by kernel_rfl))
theorem envOk : EnvOk Tryz.prog envX := ⟨env_ty, by kernel_rfl, fun T h => by
  dsimp only [envX, tyT] at h
  split at h <;> first
    | (cases h; done)
    | exact date_eq env_ty rfl (by kernel_rfl) (by kernel_rfl) (by kernel_rfl), fun T h => by
  dsimp only [envX, tyT] at h
  split at h <;> first
    | (cases h; done)
    | exact abbr_eq env_ty rfl (by kernel_rfl) (by kernel_rfl) (by kernel_rfl)⟩
/-! ### 4 loop.example/g00896/laws.rBig -/
def laws_rBig.F (a0 : List Int) : Option (Bool) := some (decide ((a0.length : Int) > 65536))
def laws_rBig.C : Cal → Option CArm := fun c => match c with
  | _ => none
theorem laws_rBig.run (a0 : List Int) : runF envX (tabC laws_rBig.C) (tabL 6 0 (fun _ => none)) Tryz.f4 [.t (.sl (.int .u8)) a0] (viewR1 (.t .bool)) = laws_rBig.F a0 := by kernel_rfl
theorem laws_rBig.G (hE : EnvOk Tryz.prog envX) (pv : Nat → Value) : ∀ cal A, laws_rBig.C cal = some A → ArmOk Tryz.prog envX pv cal A := by
  intro cal A h
  unfold laws_rBig.C at h
  cases h
theorem laws_rBig.good (hE : EnvOk Tryz.prog envX) (pv : Nat → Value) (a0 : List Int) {y : _} (h : laws_rBig.F a0 = some y) : Meets Tryz.prog envX pv (.f 4) (tvals [(.sl (.int .u8))] (a0, ())) (.t .bool y) :=
  fun_plain hE (laws_rBig.G hE pv) (f := 4) (fn := Tryz.f4) (by kernel_rfl) rfl (by kernel_rfl) (by kernel_rfl) ((laws_rBig.run a0).trans h) fun r hr => wk_view1 hr
/-! ### 80 loop.example/g00896/spec.l1In -/
def spec_l1In.F (a0 : Int) (a1 : Int) (a2 : Int) : Option (Bool) := bif (decide (a0 ≥ a1)) then (some (decide (a0 ≤ a2))) else (some false)
def spec_l1In.C : Cal → Option CArm := fun c => match c with
  | _ => none
theorem spec_l1In.run (a0 : Int) (a1 : Int) (a2 : Int) : runF envX (tabC spec_l1In.C) (tabL 15 0 (fun _ => none)) Tryz.f80 [.t (.int .i64) a0, .t (.int .i64) a1, .t (.int .i64) a2] (viewR1 (.t .bool)) = spec_l1In.F a0 a1 a2 := by kernel_rfl
theorem spec_l1In.G (hE : EnvOk Tryz.prog envX) (pv : Nat → Value) : ∀ cal A, spec_l1In.C cal = some A → ArmOk Tryz.prog envX pv cal A := by
  intro cal A h
  unfold spec_l1In.C at h
  cases h
theorem spec_l1In.good (hE : EnvOk Tryz.prog envX) (pv : Nat → Value) (a0 : Int) (a1 : Int) (a2 : Int) {y : _} (h : spec_l1In.F a0 a1 a2 = some y) : Meets Tryz.prog envX pv (.f 80) (tvals [(.int .i64), (.int .i64), (.int .i64)] (a0, a1, a2, ())) (.t .bool y) :=
  fun_plain hE (spec_l1In.G hE pv) (f := 80) (fn := Tryz.f80) (by kernel_rfl) rfl (by kernel_rfl) (by kernel_rfl) ((spec_l1In.run a0 a1 a2).trans h) fun r hr => wk_view1 hr
/-! ### 102 loop.example/g00896/spec.l2Lower -/
def spec_l2Lower.F (a0 : Int) : Option (Bool) := bif (decide (a0 ≥ 97)) then (some (decide (a0 ≤ 122))) else (some false)
def spec_l2Lower.C : Cal → Option CArm := fun c => match c with
  | _ => none
theorem spec_l2Lower.run (a0 : Int) : runF envX (tabC spec_l2Lower.C) (tabL 9 0 (fun _ => none)) Tryz.f102 [.t (.int .u8) a0] (viewR1 (.t .bool)) = spec_l2Lower.F a0 := by kernel_rfl
theorem spec_l2Lower.G (hE : EnvOk Tryz.prog envX) (pv : Nat → Value) : ∀ cal A, spec_l2Lower.C cal = some A → ArmOk Tryz.prog envX pv cal A := by
  intro cal A h
  unfold spec_l2Lower.C at h
  cases h
theorem spec_l2Lower.good (hE : EnvOk Tryz.prog envX) (pv : Nat → Value) (a0 : Int) {y : _} (h : spec_l2Lower.F a0 = some y) : Meets Tryz.prog envX pv (.f 102) (tvals [(.int .u8)] (a0, ())) (.t .bool y) :=
  fun_plain hE (spec_l2Lower.G hE pv) (f := 102) (fn := Tryz.f102) (by kernel_rfl) rfl (by kernel_rfl) (by kernel_rfl) ((spec_l2Lower.run a0).trans h) fun r hr => wk_view1 hr
/-! ### 79 loop.example/g00896/spec.l4Key -/
def spec_l4Key.l0 : Nat → ByteArray → Int → Option (Sum Bool Unit)
  | 0, _, _ => none
  | k + 1, x0, x3 => bif (decide (x3 < (x0.size : Int))) then (bif decide (0 ≤ x3) then (bif decide (x3 < (x0.size : Int)) then ((spec_l2Lower.F (bt x0 (x3 : Int).toNat)).bind fun r3 => bif (!r3) then (bif decide (0 ≤ x3) then (bif decide (x3 < (x0.size : Int)) then (bif (decide ((bt x0 (x3 : Int).toNat) < 48)) then (some (.inl false)) else (bif decide (0 ≤ x3) then (bif decide (x3 < (x0.size : Int)) then (bif (decide ((bt x0 (x3 : Int).toNat) > 57)) then (some (.inl false)) else (spec_l4Key.l0 k x0 (IntKind.wrap .i64 (x3 + 1)))) else none) else none)) else none) else none) else (spec_l4Key.l0 k x0 (IntKind.wrap .i64 (x3 + 1)))) else none) else none) else (some (.inr ()))
def spec_l4Key.F (k : Nat) (a0 : ByteArray) : Option (Bool) := (spec_l1In.F (a0.size : Int) 1 10).bind fun r1 => bif (!r1) then (some false) else (bif decide (0 ≤ 0) then (bif decide (0 < (a0.size : Int)) then ((spec_l2Lower.F (bt a0 (0 : Int).toNat)).bind fun r2 => bif (!r2) then (some false) else ((spec_l4Key.l0 k a0 0).bind fun y4 => match y4 with | .inl z5 => some z5 | .inr z5 => some true)) else none) else none)
def spec_l4Key.C (k : Nat) : Cal → Option CArm := fun c => match c with
  | .f 80 => some (.p [(.int .i64), (.int .i64), (.int .i64)] _ (fun x => spec_l1In.F x.1 x.2.1 x.2.2.1) (fun r => (.t .bool r)))
  | .f 102 => some (.p [(.int .u8)] _ (fun x => spec_l2Lower.F x.1) (fun r => (.t .bool r)))
  | _ => none
def spec_l4Key.sp0 : List Sp := [.t 0 .str, .t 3 (.int .i64)]
def spec_l4Key.sp0_0 : List Sp := [.t 2 .bool]
def spec_l4Key.sp0_1 : List Sp := []
def spec_l4Key.A0 : LArm := .two spec_l4Key.sp0 spec_l4Key.sp0_0 spec_l4Key.sp0_1 (Bool) (Unit) (fun k x => spec_l4Key.l0 k x.1 x.2.1) .ret (.exit 0) (fun y => (y, ())) (fun x => x.1) (fun y => ()) (fun x => ())
def spec_l4Key.L : Nat → Option LArm := fun b => match b with
  | 0 => some spec_l4Key.A0
  | _ => none
theorem spec_l4Key.run (k : Nat) (a0 : ByteArray) : runF envX (tabC (spec_l4Key.C k)) (tabL 37 k spec_l4Key.L) Tryz.f79 [.t .str a0] (viewR1 (.t .bool)) = spec_l4Key.F k a0 := by kernel_rfl
theorem spec_l4Key.step0 (k : Nat) (x0 : ByteArray) (x3 : Int) : runC envX (tabC (spec_l4Key.C k)) (tabL 37 k spec_l4Key.L) 0 (loopAt Tryz.f79 0) (stOf 37 spec_l4Key.sp0 (x0, x3, ())) (spec_l4Key.A0.cont 37 k) = spec_l4Key.l0 (k + 1) x0 x3 := by kernel_rfl
theorem spec_l4Key.G (hE : EnvOk Tryz.prog envX) (pv : Nat → Value) (k : Nat) : ∀ cal A, spec_l4Key.C k cal = some A → ArmOk Tryz.prog envX pv cal A := by
  intro cal A h
  unfold spec_l4Key.C at h
  split at h
  · cases h; exact fun x y hy => spec_l1In.good hE pv x.1 x.2.1 x.2.2.1 hy
  · cases h; exact fun x y hy => spec_l2Lower.good hE pv x.1 hy
  · cases h
theorem spec_l4Key.good (hE : EnvOk Tryz.prog envX) (pv : Nat → Value) (k : Nat) (a0 : ByteArray) {y : _} (h : spec_l4Key.F k a0 = some y) : Meets Tryz.prog envX pv (.f 79) (tvals [.str] (a0, ())) (.t .bool y) :=
  fun_loops hE (t := spec_l4Key.C) k (fun k _ => spec_l4Key.G hE pv k) (f := 79) (fn := Tryz.f79) (by kernel_rfl) rfl (by kernel_rfl) (by kernel_rfl) (lt := spec_l4Key.L) (by kernel_rfl) (fun b A h => by
    unfold spec_l4Key.L at h; split at h
    · cases h; exact ⟨by kernel_rfl, by kernel_rfl, by kernel_rfl, fun _ => rfl, fun _ => rfl, fun _ => rfl⟩
    · cases h) (fun b A h => by
    unfold spec_l4Key.L at h; split at h
    · cases h; exact fun k x => spec_l4Key.step0 k x.1 x.2.1
    · cases h) ((spec_l4Key.run k a0).trans h) fun r hr => wk_view1 hr
/-! ### 131 loop.example/g00896/spec.l2Upper -/
def spec_l2Upper.F (a0 : Int) : Option (Bool) := bif (decide (a0 ≥ 65)) then (some (decide (a0 ≤ 90))) else (some false)
def spec_l2Upper.C : Cal → Option CArm := fun c => match c with
  | _ => none
theorem spec_l2Upper.run (a0 : Int) : runF envX (tabC spec_l2Upper.C) (tabL 9 0 (fun _ => none)) Tryz.f131 [.t (.int .u8) a0] (viewR1 (.t .bool)) = spec_l2Upper.F a0 := by kernel_rfl
theorem spec_l2Upper.G (hE : EnvOk Tryz.prog envX) (pv : Nat → Value) : ∀ cal A, spec_l2Upper.C cal = some A → ArmOk Tryz.prog envX pv cal A := by
  intro cal A h
  unfold spec_l2Upper.C at h
  cases h
theorem spec_l2Upper.good (hE : EnvOk Tryz.prog envX) (pv : Nat → Value) (a0 : Int) {y : _} (h : spec_l2Upper.F a0 = some y) : Meets Tryz.prog envX pv (.f 131) (tvals [(.int .u8)] (a0, ())) (.t .bool y) :=
  fun_plain hE (spec_l2Upper.G hE pv) (f := 131) (fn := Tryz.f131) (by kernel_rfl) rfl (by kernel_rfl) (by kernel_rfl) ((spec_l2Upper.run a0).trans h) fun r hr => wk_view1 hr
/-! ### 148 loop.example/g00896/spec.l2Letter -/
def spec_l2Letter.F (a0 : Int) : Option (Bool) := (spec_l2Upper.F a0).bind fun r1 => bif r1 then (some true) else ((spec_l2Lower.F a0).bind fun r2 => some r2)
def spec_l2Letter.C : Cal → Option CArm := fun c => match c with
  | .f 131 => some (.p [(.int .u8)] _ (fun x => spec_l2Upper.F x.1) (fun r => (.t .bool r)))
  | .f 102 => some (.p [(.int .u8)] _ (fun x => spec_l2Lower.F x.1) (fun r => (.t .bool r)))
  | _ => none
theorem spec_l2Letter.run (a0 : Int) : runF envX (tabC spec_l2Letter.C) (tabL 9 0 (fun _ => none)) Tryz.f148 [.t (.int .u8) a0] (viewR1 (.t .bool)) = spec_l2Letter.F a0 := by kernel_rfl
theorem spec_l2Letter.G (hE : EnvOk Tryz.prog envX) (pv : Nat → Value) : ∀ cal A, spec_l2Letter.C cal = some A → ArmOk Tryz.prog envX pv cal A := by
  intro cal A h
  unfold spec_l2Letter.C at h
  split at h
  · cases h; exact fun x y hy => spec_l2Upper.good hE pv x.1 hy
  · cases h; exact fun x y hy => spec_l2Lower.good hE pv x.1 hy
  · cases h
theorem spec_l2Letter.good (hE : EnvOk Tryz.prog envX) (pv : Nat → Value) (a0 : Int) {y : _} (h : spec_l2Letter.F a0 = some y) : Meets Tryz.prog envX pv (.f 148) (tvals [(.int .u8)] (a0, ())) (.t .bool y) :=
  fun_plain hE (spec_l2Letter.G hE pv) (f := 148) (fn := Tryz.f148) (by kernel_rfl) rfl (by kernel_rfl) (by kernel_rfl) ((spec_l2Letter.run a0).trans h) fun r hr => wk_view1 hr
/-! ### 130 loop.example/g00896/spec.l2Word -/
def spec_l2Word.l0 : Nat → ByteArray → Int → Option (Sum Bool Unit)
  | 0, _, _ => none
  | k + 1, x0, x3 => bif (decide (x3 < (x0.size : Int))) then (bif decide (0 ≤ x3) then (bif decide (x3 < (x0.size : Int)) then ((spec_l2Letter.F (bt x0 (x3 : Int).toNat)).bind fun r4 => bif (!r4) then (bif decide (0 ≤ x3) then (bif decide (x3 < (x0.size : Int)) then (bif ((bt x0 (x3 : Int).toNat) != 45) then (bif decide (0 ≤ x3) then (bif decide (x3 < (x0.size : Int)) then (bif ((bt x0 (x3 : Int).toNat) != 39) then (some (.inl false)) else (bif decide (0 ≤ (IntKind.wrap .i64 (x3 - 1))) then (bif decide ((IntKind.wrap .i64 (x3 - 1)) < (x0.size : Int)) then ((spec_l2Letter.F (bt x0 ((IntKind.wrap .i64 (x3 - 1)) : Int).toNat)).bind fun r5 => bif (!r5) then (some (.inl false)) else (spec_l2Word.l0 k x0 (IntKind.wrap .i64 (x3 + 1)))) else none) else none)) else none) else none) else (bif decide (0 ≤ (IntKind.wrap .i64 (x3 - 1))) then (bif decide ((IntKind.wrap .i64 (x3 - 1)) < (x0.size : Int)) then ((spec_l2Letter.F (bt x0 ((IntKind.wrap .i64 (x3 - 1)) : Int).toNat)).bind fun r6 => bif (!r6) then (some (.inl false)) else (spec_l2Word.l0 k x0 (IntKind.wrap .i64 (x3 + 1)))) else none) else none)) else none) else none) else (spec_l2Word.l0 k x0 (IntKind.wrap .i64 (x3 + 1)))) else none) else none) else (some (.inr ()))
def spec_l2Word.F (k : Nat) (a0 : ByteArray) : Option (Bool) := (spec_l1In.F (a0.size : Int) 1 12).bind fun r1 => bif (!r1) then (some false) else (bif decide (0 ≤ 0) then (bif decide (0 < (a0.size : Int)) then ((spec_l2Letter.F (bt a0 (0 : Int).toNat)).bind fun r2 => bif (!r2) then (some false) else (bif decide (0 ≤ (IntKind.wrap .i64 ((a0.size : Int) - 1))) then (bif decide ((IntKind.wrap .i64 ((a0.size : Int) - 1)) < (a0.size : Int)) then ((spec_l2Letter.F (bt a0 ((IntKind.wrap .i64 ((a0.size : Int) - 1)) : Int).toNat)).bind fun r3 => bif (!r3) then (some false) else ((spec_l2Word.l0 k a0 1).bind fun y7 => match y7 with | .inl z8 => some z8 | .inr z8 => some true)) else none) else none)) else none) else none)
def spec_l2Word.C (k : Nat) : Cal → Option CArm := fun c => match c with
  | .f 80 => some (.p [(.int .i64), (.int .i64), (.int .i64)] _ (fun x => spec_l1In.F x.1 x.2.1 x.2.2.1) (fun r => (.t .bool r)))
  | .f 148 => some (.p [(.int .u8)] _ (fun x => spec_l2Letter.F x.1) (fun r => (.t .bool r)))
  | _ => none
def spec_l2Word.sp0 : List Sp := [.t 0 .str, .t 3 (.int .i64)]
def spec_l2Word.sp0_0 : List Sp := [.t 2 .bool]
def spec_l2Word.sp0_1 : List Sp := []
def spec_l2Word.A0 : LArm := .two spec_l2Word.sp0 spec_l2Word.sp0_0 spec_l2Word.sp0_1 (Bool) (Unit) (fun k x => spec_l2Word.l0 k x.1 x.2.1) .ret (.exit 0) (fun y => (y, ())) (fun x => x.1) (fun y => ()) (fun x => ())
def spec_l2Word.L : Nat → Option LArm := fun b => match b with
  | 0 => some spec_l2Word.A0
  | _ => none
theorem spec_l2Word.run (k : Nat) (a0 : ByteArray) : runF envX (tabC (spec_l2Word.C k)) (tabL 54 k spec_l2Word.L) Tryz.f130 [.t .str a0] (viewR1 (.t .bool)) = spec_l2Word.F k a0 := by kernel_rfl
theorem spec_l2Word.step0 (k : Nat) (x0 : ByteArray) (x3 : Int) : runC envX (tabC (spec_l2Word.C k)) (tabL 54 k spec_l2Word.L) 0 (loopAt Tryz.f130 0) (stOf 54 spec_l2Word.sp0 (x0, x3, ())) (spec_l2Word.A0.cont 54 k) = spec_l2Word.l0 (k + 1) x0 x3 := by kernel_rfl
theorem spec_l2Word.G (hE : EnvOk Tryz.prog envX) (pv : Nat → Value) (k : Nat) : ∀ cal A, spec_l2Word.C k cal = some A → ArmOk Tryz.prog envX pv cal A := by
  intro cal A h
  unfold spec_l2Word.C at h
  split at h
  · cases h; exact fun x y hy => spec_l1In.good hE pv x.1 x.2.1 x.2.2.1 hy
  · cases h; exact fun x y hy => spec_l2Letter.good hE pv x.1 hy
  · cases h
theorem spec_l2Word.good (hE : EnvOk Tryz.prog envX) (pv : Nat → Value) (k : Nat) (a0 : ByteArray) {y : _} (h : spec_l2Word.F k a0 = some y) : Meets Tryz.prog envX pv (.f 130) (tvals [.str] (a0, ())) (.t .bool y) :=
  fun_loops hE (t := spec_l2Word.C) k (fun k _ => spec_l2Word.G hE pv k) (f := 130) (fn := Tryz.f130) (by kernel_rfl) rfl (by kernel_rfl) (by kernel_rfl) (lt := spec_l2Word.L) (by kernel_rfl) (fun b A h => by
    unfold spec_l2Word.L at h; split at h
    · cases h; exact ⟨by kernel_rfl, by kernel_rfl, by kernel_rfl, fun _ => rfl, fun _ => rfl, fun _ => rfl⟩
    · cases h) (fun b A h => by
    unfold spec_l2Word.L at h; split at h
    · cases h; exact fun k x => spec_l2Word.step0 k x.1 x.2.1
    · cases h) ((spec_l2Word.run k a0).trans h) fun r hr => wk_view1 hr
/-! ### 149 loop.example/g00896/spec.l1Split -/
def spec_l1Split.l0 : Nat → ByteArray → Int → (List ByteArray) → Int → Int → Option (ByteArray × (List ByteArray) × Int)
  | 0, _, _, _, _, _ => none
  | k + 1, x0, x1, x5, x6, x7 => bif (decide (x7 < (x0.size : Int))) then (bif decide (0 ≤ x7) then (bif decide (x7 < (x0.size : Int)) then (bif ((bt x0 (x7 : Int).toNat) == x1) then (bif decide (0 ≤ x7) then (bif decide (x7 ≤ (x0.size : Int)) then (bif decide (0 ≤ x6) then (bif decide (x6 ≤ x7) then (bif room (x5.length + ([(x0.extract (x6 : Int).toNat (x7 : Int).toNat)] : List ByteArray).length) .str then (spec_l1Split.l0 k x0 x1 (x5 ++ ([(x0.extract (x6 : Int).toNat (x7 : Int).toNat)] : List ByteArray)) (IntKind.wrap .i64 (x7 + 1)) (IntKind.wrap .i64 (x7 + 1))) else none) else none) else none) else none) else none) else (spec_l1Split.l0 k x0 x1 x5 x6 (IntKind.wrap .i64 (x7 + 1)))) else none) else none) else (some (x0, x5, x6))
def spec_l1Split.F (k : Nat) (a0 : ByteArray) (a1 : Int) : Option (List ByteArray) := (spec_l1Split.l0 k a0 a1 ([] : List ByteArray) 0 0).bind fun y1 => bif decide (0 ≤ y1.2.2) then (bif decide (y1.2.2 ≤ (y1.1.size : Int)) then (bif room (y1.2.1.length + ([(y1.1.extract (y1.2.2 : Int).toNat y1.1.size)] : List ByteArray).length) .str then (some (y1.2.1 ++ ([(y1.1.extract (y1.2.2 : Int).toNat y1.1.size)] : List ByteArray))) else none) else none) else none
def spec_l1Split.C (k : Nat) : Cal → Option CArm := fun c => match c with
  | _ => none
def spec_l1Split.sp0 : List Sp := [.t 0 .str, .t 1 (.int .u8), .own 5 1024 9 .str false true, .t 6 (.int .i64), .t 7 (.int .i64)]
def spec_l1Split.sp0_0 : List Sp := [.t 0 .str, .own 5 1024 9 .str false true, .t 6 (.int .i64)]
def spec_l1Split.A0 : LArm := .one spec_l1Split.sp0 spec_l1Split.sp0_0 (ByteArray × (List ByteArray) × Int) (fun k x => spec_l1Split.l0 k x.1 x.2.1 x.2.2.1 x.2.2.2.1 x.2.2.2.2.1) (.exit 0) (fun y => (y.1, y.2.1, y.2.2, ())) (fun x => (x.1, x.2.1, x.2.2.1))
def spec_l1Split.L : Nat → Option LArm := fun b => match b with
  | 0 => some spec_l1Split.A0
  | _ => none
theorem spec_l1Split.run (k : Nat) (a0 : ByteArray) (a1 : Int) : runF envX (tabC (spec_l1Split.C k)) (tabL 35 k spec_l1Split.L) Tryz.f149 [.t .str a0, .t (.int .u8) a1] (viewR1 (.fr 9 .str)) = spec_l1Split.F k a0 a1 := by kernel_rfl
theorem spec_l1Split.step0 (k : Nat) (x0 : ByteArray) (x1 : Int) (x5 : List ByteArray) (x6 : Int) (x7 : Int) : runC envX (tabC (spec_l1Split.C k)) (tabL 35 k spec_l1Split.L) 0 (loopAt Tryz.f149 0) (stOf 35 spec_l1Split.sp0 (x0, x1, x5, x6, x7, ())) (spec_l1Split.A0.cont 35 k) = spec_l1Split.l0 (k + 1) x0 x1 x5 x6 x7 := by kernel_rfl
theorem spec_l1Split.G (hE : EnvOk Tryz.prog envX) (pv : Nat → Value) (k : Nat) : ∀ cal A, spec_l1Split.C k cal = some A → ArmOk Tryz.prog envX pv cal A := by
  intro cal A h
  unfold spec_l1Split.C at h
  cases h
theorem spec_l1Split.good (hE : EnvOk Tryz.prog envX) (pv : Nat → Value) (k : Nat) (a0 : ByteArray) (a1 : Int) {y : _} (h : spec_l1Split.F k a0 a1 = some y) : Meets Tryz.prog envX pv (.f 149) (tvals [.str, (.int .u8)] (a0, a1, ())) (.fr 9 .str y) :=
  fun_loops hE (t := spec_l1Split.C) k (fun k _ => spec_l1Split.G hE pv k) (f := 149) (fn := Tryz.f149) (by kernel_rfl) rfl (by kernel_rfl) (by kernel_rfl) (lt := spec_l1Split.L) (by kernel_rfl) (fun b A h => by
    unfold spec_l1Split.L at h; split at h
    · cases h; exact ⟨by kernel_rfl, by kernel_rfl, fun _ => rfl, fun _ => rfl⟩
    · cases h) (fun b A h => by
    unfold spec_l1Split.L at h; split at h
    · cases h; exact fun k x => spec_l1Split.step0 k x.1 x.2.1 x.2.2.1 x.2.2.2.1 x.2.2.2.2.1
    · cases h) ((spec_l1Split.run k a0 a1).trans h) fun r hr => wk_view1 hr
/-! ### 132 loop.example/g00896/spec.l2Particle -/
def spec_l2Particle.l2 : Nat → (List ByteArray) → Int → Int → Option (Sum Bool ((List ByteArray) × Int))
  | 0, _, _, _ => none
  | k + 1, x3, x4, x5 => bif decide (0 ≤ x4) then (bif decide (x4 < (x3.length : Int)) then (bif (decide (x5 < ((x3.getD ((x4 : Int).toNat) (⟨#[]⟩ : ByteArray)).size : Int))) then (bif decide (0 ≤ x4) then (bif decide (x4 < (x3.length : Int)) then (bif decide (0 ≤ x5) then (bif decide (x5 < ((x3.getD ((x4 : Int).toNat) (⟨#[]⟩ : ByteArray)).size : Int)) then ((spec_l2Lower.F (bt (x3.getD ((x4 : Int).toNat) (⟨#[]⟩ : ByteArray)) (x5 : Int).toNat)).bind fun r3 => bif (!r3) then (some (.inl false)) else (spec_l2Particle.l2 k x3 x4 (IntKind.wrap .i64 (x5 + 1)))) else none) else none) else none) else none) else (some (.inr (x3, x4)))) else none) else none
def spec_l2Particle.l0 : Nat → (List ByteArray) → Int → Option (Sum Bool (List ByteArray))
  | 0, _, _ => none
  | k + 1, x3, x4 => bif (decide (x4 < (x3.length : Int))) then (bif decide (0 ≤ x4) then (bif decide (x4 < (x3.length : Int)) then ((spec_l2Word.F k (x3.getD ((x4 : Int).toNat) (⟨#[]⟩ : ByteArray))).bind fun r2 => bif (!r2) then (some (.inl false)) else ((spec_l2Particle.l2 k x3 x4 0).bind fun y4 => match y4 with | .inl z5 => some (.inl z5) | .inr z5 => spec_l2Particle.l0 k z5.1 (IntKind.wrap .i64 (z5.2 + 1)))) else none) else none) else (some (.inr x3))
def spec_l2Particle.F (k : Nat) (a0 : ByteArray) : Option (Bool) := bif (beqS a0 (⟨#[]⟩ : ByteArray)) then (some true) else ((spec_l1Split.F k a0 32).bind fun r1 => (spec_l2Particle.l0 k r1 0).bind fun y6 => match y6 with | .inl z7 => some z7 | .inr z7 => some (decide ((z7.length : Int) ≤ 2)))
def spec_l2Particle.C (k : Nat) : Cal → Option CArm := fun c => match c with
  | .f 149 => some (.p [.str, (.int .u8)] _ (fun x => spec_l1Split.F k x.1 x.2.1) (fun r => (.fr 9 .str r)))
  | .f 130 => some (.p [.str] _ (fun x => spec_l2Word.F k x.1) (fun r => (.t .bool r)))
  | .f 102 => some (.p [(.int .u8)] _ (fun x => spec_l2Lower.F x.1) (fun r => (.t .bool r)))
  | _ => none
def spec_l2Particle.sp2 : List Sp := [.own 3 3076 9 .str false true, .t 4 (.int .i64), .t 5 (.int .i64)]
def spec_l2Particle.sp2_0 : List Sp := [.t 2 .bool]
def spec_l2Particle.sp2_1 : List Sp := [.own 3 3076 9 .str false true, .t 4 (.int .i64)]
def spec_l2Particle.A2 : LArm := .two spec_l2Particle.sp2 spec_l2Particle.sp2_0 spec_l2Particle.sp2_1 (Bool) ((List ByteArray) × Int) (fun k x => spec_l2Particle.l2 k x.1 x.2.1 x.2.2.1) .ret (.exit 2) (fun y => (y, ())) (fun x => x.1) (fun y => (y.1, y.2, ())) (fun x => (x.1, x.2.1))
def spec_l2Particle.sp0 : List Sp := [.own 3 3076 9 .str false true, .t 4 (.int .i64)]
def spec_l2Particle.sp0_0 : List Sp := [.t 2 .bool]
def spec_l2Particle.sp0_1 : List Sp := [.own 3 3076 9 .str false true]
def spec_l2Particle.A0 : LArm := .two spec_l2Particle.sp0 spec_l2Particle.sp0_0 spec_l2Particle.sp0_1 (Bool) ((List ByteArray)) (fun k x => spec_l2Particle.l0 k x.1 x.2.1) .ret (.exit 0) (fun y => (y, ())) (fun x => x.1) (fun y => (y, ())) (fun x => x.1)
def spec_l2Particle.L : Nat → Option LArm := fun b => match b with
  | 2 => some spec_l2Particle.A2
  | 0 => some spec_l2Particle.A0
  | _ => none
theorem spec_l2Particle.run (k : Nat) (a0 : ByteArray) : runF envX (tabC (spec_l2Particle.C k)) (tabL 42 k spec_l2Particle.L) Tryz.f132 [.t .str a0] (viewR1 (.t .bool)) = spec_l2Particle.F k a0 := by kernel_rfl
theorem spec_l2Particle.step2 (k : Nat) (x3 : List ByteArray) (x4 : Int) (x5 : Int) : runC envX (tabC (spec_l2Particle.C k)) (tabL 42 k spec_l2Particle.L) 2 (loopAt Tryz.f132 2) (stOf 42 spec_l2Particle.sp2 (x3, x4, x5, ())) (spec_l2Particle.A2.cont 42 k) = spec_l2Particle.l2 (k + 1) x3 x4 x5 := by kernel_rfl
theorem spec_l2Particle.step0 (k : Nat) (x3 : List ByteArray) (x4 : Int) : runC envX (tabC (spec_l2Particle.C k)) (tabL 42 k spec_l2Particle.L) 0 (loopAt Tryz.f132 0) (stOf 42 spec_l2Particle.sp0 (x3, x4, ())) (spec_l2Particle.A0.cont 42 k) = spec_l2Particle.l0 (k + 1) x3 x4 := by kernel_rfl
theorem spec_l2Particle.G (hE : EnvOk Tryz.prog envX) (pv : Nat → Value) (k : Nat) : ∀ cal A, spec_l2Particle.C k cal = some A → ArmOk Tryz.prog envX pv cal A := by
  intro cal A h
  unfold spec_l2Particle.C at h
  split at h
  · cases h; exact fun x y hy => spec_l1Split.good hE pv k x.1 x.2.1 hy
  · cases h; exact fun x y hy => spec_l2Word.good hE pv k x.1 hy
  · cases h; exact fun x y hy => spec_l2Lower.good hE pv x.1 hy
  · cases h
theorem spec_l2Particle.good (hE : EnvOk Tryz.prog envX) (pv : Nat → Value) (k : Nat) (a0 : ByteArray) {y : _} (h : spec_l2Particle.F k a0 = some y) : Meets Tryz.prog envX pv (.f 132) (tvals [.str] (a0, ())) (.t .bool y) :=
  fun_loops hE (t := spec_l2Particle.C) k (fun k _ => spec_l2Particle.G hE pv k) (f := 132) (fn := Tryz.f132) (by kernel_rfl) rfl (by kernel_rfl) (by kernel_rfl) (lt := spec_l2Particle.L) (by kernel_rfl) (fun b A h => by
    unfold spec_l2Particle.L at h; split at h
    · cases h; exact ⟨by kernel_rfl, by kernel_rfl, by kernel_rfl, fun _ => rfl, fun _ => rfl, fun _ => rfl⟩
    · cases h; exact ⟨by kernel_rfl, by kernel_rfl, by kernel_rfl, fun _ => rfl, fun _ => rfl, fun _ => rfl⟩
    · cases h) (fun b A h => by
    unfold spec_l2Particle.L at h; split at h
    · cases h; exact fun k x => spec_l2Particle.step2 k x.1 x.2.1 x.2.2.1
    · cases h; exact fun k x => spec_l2Particle.step0 k x.1 x.2.1
    · cases h) ((spec_l2Particle.run k a0).trans h) fun r hr => wk_view1 hr
/-! ### 103 loop.example/g00896/spec.l2Good -/
def spec_l2Good.l0 : Nat → Name → Int → Option (Sum Bool Name)
  | 0, _, _ => none
  | k + 1, x1, x3 => bif (decide (x3 < (x1.given.length : Int))) then (bif decide (0 ≤ x3) then (bif decide (x3 < (x1.given.length : Int)) then ((spec_l2Word.F k (x1.given.getD (x3 : Int).toNat (⟨#[]⟩ : ByteArray))).bind fun r1 => bif (!r1) then (some (.inl false)) else (bif decide (0 ≤ x3) then (bif decide (x3 < (x1.given.length : Int)) then (bif decide (0 ≤ 0) then (bif decide (0 < ((x1.given.getD (x3 : Int).toNat (⟨#[]⟩ : ByteArray)).size : Int)) then ((spec_l2Upper.F (bt (x1.given.getD (x3 : Int).toNat (⟨#[]⟩ : ByteArray)) (0 : Int).toNat)).bind fun r2 => bif (!r2) then (some (.inl false)) else (spec_l2Good.l0 k x1 (IntKind.wrap .i64 (x3 + 1)))) else none) else none) else none) else none)) else none) else none) else (some (.inr x1))
def spec_l2Good.F (k : Nat) (a0 : Name) : Option (Bool) := (spec_l2Good.l0 k a0 0).bind fun y3 => match y3 with | .inl z4 => some z4 | .inr z4 => bif (decide ((z4.given.length : Int) ≤ 3)) then ((spec_l2Particle.F k z4.particle).bind fun r5 => bif r5 then ((spec_l2Word.F k z4.family).bind fun r6 => bif r6 then (bif decide (0 ≤ 0) then (bif decide (0 < (z4.family.size : Int)) then ((spec_l2Upper.F (bt z4.family (0 : Int).toNat)).bind fun r7 => bif r7 then (bif (beqS z4.suffix (⟨#[]⟩ : ByteArray)) then (some true) else ((spec_l2Word.F k z4.suffix).bind fun r8 => some r8)) else (some false)) else none) else none) else (some false)) else (some false)) else (some false)
def spec_l2Good.C (k : Nat) : Cal → Option CArm := fun c => match c with
  | .f 130 => some (.p [.str] _ (fun x => spec_l2Word.F k x.1) (fun r => (.t .bool r)))
  | .f 131 => some (.p [(.int .u8)] _ (fun x => spec_l2Upper.F x.1) (fun r => (.t .bool r)))
  | .f 132 => some (.p [.str] _ (fun x => spec_l2Particle.F k x.1) (fun r => (.t .bool r)))
  | _ => none
def spec_l2Good.sp0 : List Sp := [.boxT 1 0 .name, .t 3 (.int .i64)]
def spec_l2Good.sp0_0 : List Sp := [.t 2 .bool]
def spec_l2Good.sp0_1 : List Sp := [.boxT 1 0 .name]
def spec_l2Good.A0 : LArm := .two spec_l2Good.sp0 spec_l2Good.sp0_0 spec_l2Good.sp0_1 (Bool) (Name) (fun k x => spec_l2Good.l0 k x.1 x.2.1) .ret (.exit 0) (fun y => (y, ())) (fun x => x.1) (fun y => (y, ())) (fun x => x.1)
def spec_l2Good.L : Nat → Option LArm := fun b => match b with
  | 0 => some spec_l2Good.A0
  | _ => none
theorem spec_l2Good.run (k : Nat) (a0 : Name) : runF envX (tabC (spec_l2Good.C k)) (tabL 58 k spec_l2Good.L) Tryz.f103 [.t .name a0] (viewR1 (.t .bool)) = spec_l2Good.F k a0 := by kernel_rfl
theorem spec_l2Good.step0 (k : Nat) (x1 : Name) (x3 : Int) : runC envX (tabC (spec_l2Good.C k)) (tabL 58 k spec_l2Good.L) 0 (loopAt Tryz.f103 0) (stOf 58 spec_l2Good.sp0 (x1, x3, ())) (spec_l2Good.A0.cont 58 k) = spec_l2Good.l0 (k + 1) x1 x3 := by kernel_rfl
theorem spec_l2Good.G (hE : EnvOk Tryz.prog envX) (pv : Nat → Value) (k : Nat) : ∀ cal A, spec_l2Good.C k cal = some A → ArmOk Tryz.prog envX pv cal A := by
  intro cal A h
  unfold spec_l2Good.C at h
  split at h
  · cases h; exact fun x y hy => spec_l2Word.good hE pv k x.1 hy
  · cases h; exact fun x y hy => spec_l2Upper.good hE pv x.1 hy
  · cases h; exact fun x y hy => spec_l2Particle.good hE pv k x.1 hy
  · cases h
theorem spec_l2Good.good (hE : EnvOk Tryz.prog envX) (pv : Nat → Value) (k : Nat) (a0 : Name) {y : _} (h : spec_l2Good.F k a0 = some y) : Meets Tryz.prog envX pv (.f 103) (tvals [.name] (a0, ())) (.t .bool y) :=
  fun_loops hE (t := spec_l2Good.C) k (fun k _ => spec_l2Good.G hE pv k) (f := 103) (fn := Tryz.f103) (by kernel_rfl) rfl (by kernel_rfl) (by kernel_rfl) (lt := spec_l2Good.L) (by kernel_rfl) (fun b A h => by
    unfold spec_l2Good.L at h; split at h
    · cases h; exact ⟨by kernel_rfl, by kernel_rfl, by kernel_rfl, fun _ => rfl, fun _ => rfl, fun _ => rfl⟩
    · cases h) (fun b A h => by
    unfold spec_l2Good.L at h; split at h
    · cases h; exact fun k x => spec_l2Good.step0 k x.1 x.2.1
    · cases h) ((spec_l2Good.run k a0).trans h) fun r hr => wk_view1 hr
/-! ### 81 loop.example/g00896/spec.l2List -/
def spec_l2List.l0 : Nat → (List Name) → Int → Option (Sum Bool (List Name))
  | 0, _, _ => none
  | k + 1, x0, x3 => bif (decide (x3 < (x0.length : Int))) then (bif (decide (x3 ≤ 4)) then (bif decide (0 ≤ x3) then (bif decide (x3 < (x0.length : Int)) then ((spec_l2Good.F k (x0.getD (x3 : Int).toNat (dflt .name))).bind fun r1 => bif (!r1) then (some (.inl false)) else (spec_l2List.l0 k x0 (IntKind.wrap .i64 (x3 + 1)))) else none) else none) else (some (.inr x0))) else (some (.inr x0))
def spec_l2List.F (k : Nat) (a0 : List Name) : Option (Bool) := (spec_l2List.l0 k a0 0).bind fun y2 => match y2 with | .inl z3 => some z3 | .inr z3 => some (decide ((z3.length : Int) ≤ 4))
def spec_l2List.C (k : Nat) : Cal → Option CArm := fun c => match c with
  | .f 103 => some (.p [.name] _ (fun x => spec_l2Good.F k x.1) (fun r => (.t .bool r)))
  | _ => none
def spec_l2List.sp0 : List Sp := [.t 0 (.sl .name), .t 3 (.int .i64)]
def spec_l2List.sp0_0 : List Sp := [.t 2 .bool]
def spec_l2List.sp0_1 : List Sp := [.t 0 (.sl .name)]
def spec_l2List.A0 : LArm := .two spec_l2List.sp0 spec_l2List.sp0_0 spec_l2List.sp0_1 (Bool) ((List Name)) (fun k x => spec_l2List.l0 k x.1 x.2.1) .ret (.exit 0) (fun y => (y, ())) (fun x => x.1) (fun y => (y, ())) (fun x => x.1)
def spec_l2List.L : Nat → Option LArm := fun b => match b with
  | 0 => some spec_l2List.A0
  | _ => none
theorem spec_l2List.run (k : Nat) (a0 : List Name) : runF envX (tabC (spec_l2List.C k)) (tabL 23 k spec_l2List.L) Tryz.f81 [.t (.sl .name) a0] (viewR1 (.t .bool)) = spec_l2List.F k a0 := by kernel_rfl
theorem spec_l2List.step0 (k : Nat) (x0 : List Name) (x3 : Int) : runC envX (tabC (spec_l2List.C k)) (tabL 23 k spec_l2List.L) 0 (loopAt Tryz.f81 0) (stOf 23 spec_l2List.sp0 (x0, x3, ())) (spec_l2List.A0.cont 23 k) = spec_l2List.l0 (k + 1) x0 x3 := by kernel_rfl
theorem spec_l2List.G (hE : EnvOk Tryz.prog envX) (pv : Nat → Value) (k : Nat) : ∀ cal A, spec_l2List.C k cal = some A → ArmOk Tryz.prog envX pv cal A := by
  intro cal A h
  unfold spec_l2List.C at h
  split at h
  · cases h; exact fun x y hy => spec_l2Good.good hE pv k x.1 hy
  · cases h
theorem spec_l2List.good (hE : EnvOk Tryz.prog envX) (pv : Nat → Value) (k : Nat) (a0 : List Name) {y : _} (h : spec_l2List.F k a0 = some y) : Meets Tryz.prog envX pv (.f 81) (tvals [(.sl .name)] (a0, ())) (.t .bool y) :=
  fun_loops hE (t := spec_l2List.C) k (fun k _ => spec_l2List.G hE pv k) (f := 81) (fn := Tryz.f81) (by kernel_rfl) rfl (by kernel_rfl) (by kernel_rfl) (lt := spec_l2List.L) (by kernel_rfl) (fun b A h => by
    unfold spec_l2List.L at h; split at h
    · cases h; exact ⟨by kernel_rfl, by kernel_rfl, by kernel_rfl, fun _ => rfl, fun _ => rfl, fun _ => rfl⟩
    · cases h) (fun b A h => by
    unfold spec_l2List.L at h; split at h
    · cases h; exact fun k x => spec_l2List.step0 k x.1 x.2.1
    · cases h) ((spec_l2List.run k a0).trans h) fun r hr => wk_view1 hr
/-! ### 82 loop.example/g00896/spec.l4Text -/
def spec_l4Text.l0 : Nat → ByteArray → Int → Option (Sum Bool ByteArray)
  | 0, _, _ => none
  | k + 1, x0, x3 => bif (decide (x3 < (x0.size : Int))) then (bif decide (0 ≤ x3) then (bif decide (x3 < (x0.size : Int)) then (bif (decide ((bt x0 (x3 : Int).toNat) < 32)) then (some (.inl false)) else (bif decide (0 ≤ x3) then (bif decide (x3 < (x0.size : Int)) then (bif (decide ((bt x0 (x3 : Int).toNat) > 126)) then (some (.inl false)) else (spec_l4Text.l0 k x0 (IntKind.wrap .i64 (x3 + 1)))) else none) else none)) else none) else none) else (some (.inr x0))
def spec_l4Text.F (k : Nat) (a0 : ByteArray) : Option (Bool) := bif (decide ((a0.size : Int) > 40)) then (some false) else ((spec_l4Text.l0 k a0 0).bind fun y1 => match y1 with | .inl z2 => some z2 | .inr z2 => bif (beqS z2 (⟨#[]⟩ : ByteArray)) then (some true) else (bif decide (0 ≤ 0) then (bif decide (0 < (z2.size : Int)) then (bif ((bt z2 (0 : Int).toNat) != 32) then (bif decide (0 ≤ (IntKind.wrap .i64 ((z2.size : Int) - 1))) then (bif decide ((IntKind.wrap .i64 ((z2.size : Int) - 1)) < (z2.size : Int)) then (some ((bt z2 ((IntKind.wrap .i64 ((z2.size : Int) - 1)) : Int).toNat) != 32)) else none) else none) else (some false)) else none) else none))
def spec_l4Text.C (k : Nat) : Cal → Option CArm := fun c => match c with
  | _ => none
def spec_l4Text.sp0 : List Sp := [.t 0 .str, .t 3 (.int .i64)]
def spec_l4Text.sp0_0 : List Sp := [.t 2 .bool]
def spec_l4Text.sp0_1 : List Sp := [.t 0 .str]
def spec_l4Text.A0 : LArm := .two spec_l4Text.sp0 spec_l4Text.sp0_0 spec_l4Text.sp0_1 (Bool) (ByteArray) (fun k x => spec_l4Text.l0 k x.1 x.2.1) .ret (.exit 0) (fun y => (y, ())) (fun x => x.1) (fun y => (y, ())) (fun x => x.1)
def spec_l4Text.L : Nat → Option LArm := fun b => match b with
  | 0 => some spec_l4Text.A0
  | _ => none
theorem spec_l4Text.run (k : Nat) (a0 : ByteArray) : runF envX (tabC (spec_l4Text.C k)) (tabL 38 k spec_l4Text.L) Tryz.f82 [.t .str a0] (viewR1 (.t .bool)) = spec_l4Text.F k a0 := by kernel_rfl
theorem spec_l4Text.step0 (k : Nat) (x0 : ByteArray) (x3 : Int) : runC envX (tabC (spec_l4Text.C k)) (tabL 38 k spec_l4Text.L) 0 (loopAt Tryz.f82 0) (stOf 38 spec_l4Text.sp0 (x0, x3, ())) (spec_l4Text.A0.cont 38 k) = spec_l4Text.l0 (k + 1) x0 x3 := by kernel_rfl
theorem spec_l4Text.G (hE : EnvOk Tryz.prog envX) (pv : Nat → Value) (k : Nat) : ∀ cal A, spec_l4Text.C k cal = some A → ArmOk Tryz.prog envX pv cal A := by
  intro cal A h
  unfold spec_l4Text.C at h
  cases h
theorem spec_l4Text.good (hE : EnvOk Tryz.prog envX) (pv : Nat → Value) (k : Nat) (a0 : ByteArray) {y : _} (h : spec_l4Text.F k a0 = some y) : Meets Tryz.prog envX pv (.f 82) (tvals [.str] (a0, ())) (.t .bool y) :=
  fun_loops hE (t := spec_l4Text.C) k (fun k _ => spec_l4Text.G hE pv k) (f := 82) (fn := Tryz.f82) (by kernel_rfl) rfl (by kernel_rfl) (by kernel_rfl) (lt := spec_l4Text.L) (by kernel_rfl) (fun b A h => by
    unfold spec_l4Text.L at h; split at h
    · cases h; exact ⟨by kernel_rfl, by kernel_rfl, by kernel_rfl, fun _ => rfl, fun _ => rfl, fun _ => rfl⟩
    · cases h) (fun b A h => by
    unfold spec_l4Text.L at h; split at h
    · cases h; exact fun k x => spec_l4Text.step0 k x.1 x.2.1
    · cases h) ((spec_l4Text.run k a0).trans h) fun r hr => wk_view1 hr
/-! ### 104 loop.example/g00896/spec.l3Days -/
def spec_l3Days.F (a0 : Int) (a1 : Int) : Option (Int) := bif (a1 == 2) then (bif (4 == 0) then (none) else (bif ((Int.tmod a0 4) == 0) then (bif (100 == 0) then (none) else (bif ((Int.tmod a0 100) != 0) then (some 29) else (bif (400 == 0) then (none) else (bif ((Int.tmod a0 400) == 0) then (some 29) else (some 28))))) else (bif (400 == 0) then (none) else (bif ((Int.tmod a0 400) == 0) then (some 29) else (some 28))))) else (bif (a1 == 4) then (some 30) else (bif (a1 == 6) then (some 30) else (bif (a1 == 9) then (some 30) else (bif (a1 == 11) then (some 30) else (some 31)))))
def spec_l3Days.C : Cal → Option CArm := fun c => match c with
  | _ => none
theorem spec_l3Days.run (a0 : Int) (a1 : Int) : runF envX (tabC spec_l3Days.C) (tabL 34 0 (fun _ => none)) Tryz.f104 [.t (.int .i64) a0, .t (.int .i64) a1] (viewR1 (.t (.int .i64))) = spec_l3Days.F a0 a1 := by kernel_rfl
theorem spec_l3Days.G (hE : EnvOk Tryz.prog envX) (pv : Nat → Value) : ∀ cal A, spec_l3Days.C cal = some A → ArmOk Tryz.prog envX pv cal A := by
  intro cal A h
  unfold spec_l3Days.C at h
  cases h
theorem spec_l3Days.good (hE : EnvOk Tryz.prog envX) (pv : Nat → Value) (a0 : Int) (a1 : Int) {y : _} (h : spec_l3Days.F a0 a1 = some y) : Meets Tryz.prog envX pv (.f 104) (tvals [(.int .i64), (.int .i64)] (a0, a1, ())) (.t (.int .i64) y) :=
  fun_plain hE (spec_l3Days.G hE pv) (f := 104) (fn := Tryz.f104) (by kernel_rfl) rfl (by kernel_rfl) (by kernel_rfl) ((spec_l3Days.run a0 a1).trans h) fun r hr => wk_view1 hr
/-! ### 83 loop.example/g00896/spec.l3Good -/
def spec_l3Good.F (a0 : Date) : Option (Bool) := bif ((a0.y == 0 && (a0.m == 0 && (a0.d == 0 && a0.c == false)))) then (some true) else ((spec_l1In.F a0.y 1 2999).bind fun r1 => bif (!r1) then (some false) else ((spec_l1In.F a0.m 0 12).bind fun r2 => bif (!r2) then (some false) else (bif a0.c then (bif (a0.m == 0) then (some (a0.d == 0)) else (some false)) else (bif (a0.m == 0) then (some (a0.d == 0)) else ((spec_l3Days.F a0.y a0.m).bind fun r3 => (spec_l1In.F a0.d 0 r3).bind fun r4 => some r4)))))
def spec_l3Good.C : Cal → Option CArm := fun c => match c with
  | .f 80 => some (.p [(.int .i64), (.int .i64), (.int .i64)] _ (fun x => spec_l1In.F x.1 x.2.1 x.2.2.1) (fun r => (.t .bool r)))
  | .f 104 => some (.p [(.int .i64), (.int .i64)] _ (fun x => spec_l3Days.F x.1 x.2.1) (fun r => (.t (.int .i64) r)))
  | _ => none
theorem spec_l3Good.run (a0 : Date) : runF envX (tabC spec_l3Good.C) (tabL 44 0 (fun _ => none)) Tryz.f83 [.t .date a0] (viewR1 (.t .bool)) = spec_l3Good.F a0 := by kernel_rfl
theorem spec_l3Good.G (hE : EnvOk Tryz.prog envX) (pv : Nat → Value) : ∀ cal A, spec_l3Good.C cal = some A → ArmOk Tryz.prog envX pv cal A := by
  intro cal A h
  unfold spec_l3Good.C at h
  split at h
  · cases h; exact fun x y hy => spec_l1In.good hE pv x.1 x.2.1 x.2.2.1 hy
  · cases h; exact fun x y hy => spec_l3Days.good hE pv x.1 x.2.1 hy
  · cases h
theorem spec_l3Good.good (hE : EnvOk Tryz.prog envX) (pv : Nat → Value) (a0 : Date) {y : _} (h : spec_l3Good.F a0 = some y) : Meets Tryz.prog envX pv (.f 83) (tvals [.date] (a0, ())) (.t .bool y) :=
  fun_plain hE (spec_l3Good.G hE pv) (f := 83) (fn := Tryz.f83) (by kernel_rfl) rfl (by kernel_rfl) (by kernel_rfl) ((spec_l3Good.run a0).trans h) fun r hr => wk_view1 hr
/-! ### 51 loop.example/g00896/spec.l4Entry -/
def spec_l4Entry.F (k : Nat) (a0 : Entry) : Option (Bool) := (spec_l4Key.F k a0.key).bind fun r1 => bif (!r1) then (some false) else ((spec_l1In.F a0.kind 1 4).bind fun r2 => bif (!r2) then (some false) else ((spec_l2List.F k a0.authors).bind fun r3 => bif (!r3) then (some false) else ((spec_l2List.F k a0.editors).bind fun r4 => bif (!r4) then (some false) else ((spec_l4Text.F k a0.title).bind fun r5 => bif (!r5) then (some false) else ((spec_l4Text.F k a0.container).bind fun r6 => bif (!r6) then (some false) else ((spec_l4Text.F k a0.publisher).bind fun r7 => bif (!r7) then (some false) else ((spec_l4Text.F k a0.pages).bind fun r8 => bif (!r8) then (some false) else ((spec_l3Good.F a0.date).bind fun r9 => bif r9 then ((spec_l1In.F a0.volume 0 9999).bind fun r10 => bif r10 then (bif (beqS a0.cross (⟨#[]⟩ : ByteArray)) then (some true) else ((spec_l4Key.F k a0.cross).bind fun r11 => bif r11 then (some (!beqS a0.cross a0.key)) else (some false))) else (some false)) else (some false)))))))))
def spec_l4Entry.C (k : Nat) : Cal → Option CArm := fun c => match c with
  | .f 79 => some (.p [.str] _ (fun x => spec_l4Key.F k x.1) (fun r => (.t .bool r)))
  | .f 80 => some (.p [(.int .i64), (.int .i64), (.int .i64)] _ (fun x => spec_l1In.F x.1 x.2.1 x.2.2.1) (fun r => (.t .bool r)))
  | .f 81 => some (.p [(.sl .name)] _ (fun x => spec_l2List.F k x.1) (fun r => (.t .bool r)))
  | .f 82 => some (.p [.str] _ (fun x => spec_l4Text.F k x.1) (fun r => (.t .bool r)))
  | .f 83 => some (.p [.date] _ (fun x => spec_l3Good.F x.1) (fun r => (.t .bool r)))
  | _ => none
theorem spec_l4Entry.run (k : Nat) (a0 : Entry) : runF envX (tabC (spec_l4Entry.C k)) (tabL 72 0 (fun _ => none)) Tryz.f51 [.t .entry a0] (viewR1 (.t .bool)) = spec_l4Entry.F k a0 := by kernel_rfl
theorem spec_l4Entry.G (hE : EnvOk Tryz.prog envX) (pv : Nat → Value) (k : Nat) : ∀ cal A, spec_l4Entry.C k cal = some A → ArmOk Tryz.prog envX pv cal A := by
  intro cal A h
  unfold spec_l4Entry.C at h
  split at h
  · cases h; exact fun x y hy => spec_l4Key.good hE pv k x.1 hy
  · cases h; exact fun x y hy => spec_l1In.good hE pv x.1 x.2.1 x.2.2.1 hy
  · cases h; exact fun x y hy => spec_l2List.good hE pv k x.1 hy
  · cases h; exact fun x y hy => spec_l4Text.good hE pv k x.1 hy
  · cases h; exact fun x y hy => spec_l3Good.good hE pv x.1 hy
  · cases h
theorem spec_l4Entry.good (hE : EnvOk Tryz.prog envX) (pv : Nat → Value) (k : Nat) (a0 : Entry) {y : _} (h : spec_l4Entry.F k a0 = some y) : Meets Tryz.prog envX pv (.f 51) (tvals [.entry] (a0, ())) (.t .bool y) :=
  fun_plain hE (spec_l4Entry.G hE pv k) (f := 51) (fn := Tryz.f51) (by kernel_rfl) rfl (by kernel_rfl) (by kernel_rfl) ((spec_l4Entry.run k a0).trans h) fun r hr => wk_view1 hr
/-! ### 28 loop.example/g00896/spec.l4Good -/
def spec_l4Good.l0 : Nat → Library → Int → Option (Sum Bool Unit)
  | 0, _, _ => none
  | k + 1, x1, x3 => bif (decide (x3 < (x1.entries.length : Int))) then (bif decide (0 ≤ x3) then (bif decide (x3 < (x1.entries.length : Int)) then ((spec_l4Entry.F k (x1.entries.getD (x3 : Int).toNat (dflt .entry))).bind fun r1 => bif (!r1) then (some (.inl false)) else (bif (decide (x3 > 0)) then (bif decide (0 ≤ (IntKind.wrap .i64 (x3 - 1))) then (bif decide ((IntKind.wrap .i64 (x3 - 1)) < (x1.entries.length : Int)) then (bif decide (0 ≤ x3) then (bif decide (x3 < (x1.entries.length : Int)) then (bif (!ltS ((x1.entries.getD ((IntKind.wrap .i64 (x3 - 1)) : Int).toNat (dflt .entry)).key) ((x1.entries.getD (x3 : Int).toNat (dflt .entry)).key)) then (some (.inl false)) else (spec_l4Good.l0 k x1 (IntKind.wrap .i64 (x3 + 1)))) else none) else none) else none) else none) else (spec_l4Good.l0 k x1 (IntKind.wrap .i64 (x3 + 1))))) else none) else none) else (some (.inr ()))
def spec_l4Good.F (k : Nat) (a0 : Library) : Option (Bool) := bif (decide ((a0.entries.length : Int) > 8)) then (some false) else ((spec_l4Good.l0 k a0 0).bind fun y2 => match y2 with | .inl z3 => some z3 | .inr z3 => some true)
def spec_l4Good.C (k : Nat) : Cal → Option CArm := fun c => match c with
  | .f 51 => some (.p [.entry] _ (fun x => spec_l4Entry.F k x.1) (fun r => (.t .bool r)))
  | _ => none
def spec_l4Good.sp0 : List Sp := [.boxT 1 0 .lib, .t 3 (.int .i64)]
def spec_l4Good.sp0_0 : List Sp := [.t 2 .bool]
def spec_l4Good.sp0_1 : List Sp := []
def spec_l4Good.A0 : LArm := .two spec_l4Good.sp0 spec_l4Good.sp0_0 spec_l4Good.sp0_1 (Bool) (Unit) (fun k x => spec_l4Good.l0 k x.1 x.2.1) .ret (.exit 0) (fun y => (y, ())) (fun x => x.1) (fun y => ()) (fun x => ())
def spec_l4Good.L : Nat → Option LArm := fun b => match b with
  | 0 => some spec_l4Good.A0
  | _ => none
theorem spec_l4Good.run (k : Nat) (a0 : Library) : runF envX (tabC (spec_l4Good.C k)) (tabL 42 k spec_l4Good.L) Tryz.f28 [.t .lib a0] (viewR1 (.t .bool)) = spec_l4Good.F k a0 := by kernel_rfl
theorem spec_l4Good.step0 (k : Nat) (x1 : Library) (x3 : Int) : runC envX (tabC (spec_l4Good.C k)) (tabL 42 k spec_l4Good.L) 0 (loopAt Tryz.f28 0) (stOf 42 spec_l4Good.sp0 (x1, x3, ())) (spec_l4Good.A0.cont 42 k) = spec_l4Good.l0 (k + 1) x1 x3 := by kernel_rfl
theorem spec_l4Good.G (hE : EnvOk Tryz.prog envX) (pv : Nat → Value) (k : Nat) : ∀ cal A, spec_l4Good.C k cal = some A → ArmOk Tryz.prog envX pv cal A := by
  intro cal A h
  unfold spec_l4Good.C at h
  split at h
  · cases h; exact fun x y hy => spec_l4Entry.good hE pv k x.1 hy
  · cases h
theorem spec_l4Good.good (hE : EnvOk Tryz.prog envX) (pv : Nat → Value) (k : Nat) (a0 : Library) {y : _} (h : spec_l4Good.F k a0 = some y) : Meets Tryz.prog envX pv (.f 28) (tvals [.lib] (a0, ())) (.t .bool y) :=
  fun_loops hE (t := spec_l4Good.C) k (fun k _ => spec_l4Good.G hE pv k) (f := 28) (fn := Tryz.f28) (by kernel_rfl) rfl (by kernel_rfl) (by kernel_rfl) (lt := spec_l4Good.L) (by kernel_rfl) (fun b A h => by
    unfold spec_l4Good.L at h; split at h
    · cases h; exact ⟨by kernel_rfl, by kernel_rfl, by kernel_rfl, fun _ => rfl, fun _ => rfl, fun _ => rfl⟩
    · cases h) (fun b A h => by
    unfold spec_l4Good.L at h; split at h
    · cases h; exact fun k x => spec_l4Good.step0 k x.1 x.2.1
    · cases h) ((spec_l4Good.run k a0).trans h) fun r hr => wk_view1 hr
/-! ### 57 loop.example/g00896/spec.l1Num -/
mutual
def spec_l1Num.F : Nat → Int → Option (ByteArray)
  | 0, _ => none
  | k + 1, a0 => bif (decide (a0 < 0)) then ((spec_l1Num.F k (IntKind.wrap .i64 (0 - a0))).bind fun r1 => bif Nat.ble ((⟨#[45]⟩ : ByteArray).size + r1.size) 9223372036854775807 then (some ((⟨#[45]⟩ : ByteArray) ++ r1)) else none) else (bif (decide (a0 < 10)) then (bif decide (0 ≤ (IntKind.wrap .i64 (a0 + 1))) then (bif decide ((IntKind.wrap .i64 (a0 + 1)) ≤ ((⟨#[48, 49, 50, 51, 52, 53, 54, 55, 56, 57]⟩ : ByteArray).size : Int)) then (bif decide (0 ≤ a0) then (bif decide (a0 ≤ (IntKind.wrap .i64 (a0 + 1))) then (some ((⟨#[48, 49, 50, 51, 52, 53, 54, 55, 56, 57]⟩ : ByteArray).extract (a0 : Int).toNat ((IntKind.wrap .i64 (a0 + 1)) : Int).toNat)) else none) else none) else none) else none) else (bif (10 == 0) then (none) else ((spec_l1Num.F k (IntKind.wrap .i64 (Int.tdiv a0 10))).bind fun r2 => bif (10 == 0) then (none) else (bif (10 == 0) then (none) else (bif decide (0 ≤ (IntKind.wrap .i64 ((Int.tmod a0 10) + 1))) then (bif decide ((IntKind.wrap .i64 ((Int.tmod a0 10) + 1)) ≤ ((⟨#[48, 49, 50, 51, 52, 53, 54, 55, 56, 57]⟩ : ByteArray).size : Int)) then (bif decide (0 ≤ (Int.tmod a0 10)) then (bif decide ((Int.tmod a0 10) ≤ (IntKind.wrap .i64 ((Int.tmod a0 10) + 1))) then (bif Nat.ble (r2.size + ((⟨#[48, 49, 50, 51, 52, 53, 54, 55, 56, 57]⟩ : ByteArray).extract ((Int.tmod a0 10) : Int).toNat ((IntKind.wrap .i64 ((Int.tmod a0 10) + 1)) : Int).toNat).size) 9223372036854775807 then (some (r2 ++ ((⟨#[48, 49, 50, 51, 52, 53, 54, 55, 56, 57]⟩ : ByteArray).extract ((Int.tmod a0 10) : Int).toNat ((IntKind.wrap .i64 ((Int.tmod a0 10) + 1)) : Int).toNat))) else none) else none) else none) else none) else none)))))
end
def spec_l1Num.C (k : Nat) : Cal → Option CArm := fun c => match c with
  | .f 57 => some (.p [(.int .i64)] _ (fun x => spec_l1Num.F k x.1) (fun r => (.t .str r)))
  | _ => none
theorem spec_l1Num.run (k : Nat) (a0 : Int) : runF envX (tabC (spec_l1Num.C k)) (tabL 25 0 (fun _ => none)) Tryz.f57 [.t (.int .i64) a0] (viewR1 (.t .str)) = spec_l1Num.F (k + 1) a0 := by kernel_rfl
def spec_l1Num.Gd (pv : Nat → Value) (k : Nat) : Prop := (∀ (a0 : Int) {y : _}, spec_l1Num.F k a0 = some y → Meets Tryz.prog envX pv (.f 57) (tvals [(.int .i64)] (a0, ())) (.t .str y))
theorem spec_l1Num.G (hE : EnvOk Tryz.prog envX) (pv : Nat → Value) (k : Nat) (hI : spec_l1Num.Gd pv k) : ∀ cal A, spec_l1Num.C k cal = some A → ArmOk Tryz.prog envX pv cal A := by
  intro cal A h
  unfold spec_l1Num.C at h
  split at h
  · cases h; exact fun x y hy => hI x.1 hy
  · cases h
theorem spec_l1Num.gd (hE : EnvOk Tryz.prog envX) (pv : Nat → Value) (k : Nat) (hI : ∀ k', k' ≤ k → spec_l1Num.Gd pv k') (a0 : Int) {y : _} (h : spec_l1Num.F (k + 1) a0 = some y) : Meets Tryz.prog envX pv (.f 57) (tvals [(.int .i64)] (a0, ())) (.t .str y) :=
  fun_plain hE (spec_l1Num.G hE pv k (hI k (Nat.le_refl k))) (f := 57) (fn := Tryz.f57) (by kernel_rfl) rfl (by kernel_rfl) (by kernel_rfl) ((spec_l1Num.run k a0).trans h) fun r hr => wk_view1 hr
theorem spec_l1Num.all (hE : EnvOk Tryz.prog envX) (pv : Nat → Value) : ∀ k k', k' ≤ k → spec_l1Num.Gd pv k' := by
  intro k
  induction k with
  | zero =>
    intro k' hk
    obtain rfl : k' = 0 := by omega
    exact fun _ y h => by cases (show (none : Option _) = some y from h)
  | succ k ih =>
    intro k' hk
    rcases Nat.lt_or_ge k' (k + 1) with hlt | hge
    · exact ih k' (by omega)
    · obtain rfl : k' = k + 1 := by omega
      exact fun a0 y h => spec_l1Num.gd hE pv k ih a0 h
theorem spec_l1Num.good (hE : EnvOk Tryz.prog envX) (pv : Nat → Value) (k : Nat) (a0 : Int) {y : _} (h : spec_l1Num.F k a0 = some y) : Meets Tryz.prog envX pv (.f 57) (tvals [(.int .i64)] (a0, ())) (.t .str y) :=
  (spec_l1Num.all hE pv k k (Nat.le_refl k)) a0 h
/-! ### 100 (*loop.example/g00896/spec.l1Cur).next -/
def spec_l1Cur_next.F (a0 : Cur) : Option (Cur × Int) := bif (decide (a0.at_ < (a0.code.length : Int))) then (bif decide (0 ≤ a0.at_) then (bif decide (a0.at_ < (a0.code.length : Int)) then (bif (decide ((IntKind.wrap .i64 (a0.at_ + 1)) ≤ (a0.code.length : Int))) then (some ((⟨a0.code, (IntKind.wrap .i64 (a0.at_ + 1)), (IntKind.wrap .u64 ((IntKind.wrap .u64 ((IntKind.wrap .u64 (a0.seed * 6364136223846793005)) + (IntKind.wrap .u64 (IntKind.wrap .i64 (a0.code.getD (a0.at_ : Int).toNat 0))))) + 896896))⟩ : Cur), (IntKind.wrap .i64 (a0.code.getD (a0.at_ : Int).toNat 0)))) else (bif decide (0 ≤ 40) then (some ((⟨a0.code, (IntKind.wrap .i64 (a0.at_ + 1)), (IntKind.wrap .u64 ((IntKind.wrap .u64 ((IntKind.wrap .u64 (a0.seed * 6364136223846793005)) + (IntKind.wrap .u64 (IntKind.wrap .i64 (a0.code.getD (a0.at_ : Int).toNat 0))))) + 896896))⟩ : Cur), (IntKind.wrap .i64 (IntKind.wrap .u64 ((BitVec.ofInt (IntKind.bits .u64) (Int.fdiv (IntKind.wrap .u64 ((IntKind.wrap .u64 ((IntKind.wrap .u64 (a0.seed * 6364136223846793005)) + (IntKind.wrap .u64 (IntKind.wrap .i64 (a0.code.getD (a0.at_ : Int).toNat 0))))) + 896896)) (2 ^ min (40 : Int).toNat (IntKind.bits .u64))) &&& BitVec.ofInt (IntKind.bits .u64) 255).toNat : Int))))) else none)) else none) else none) else (bif (decide ((IntKind.wrap .i64 (a0.at_ + 1)) ≤ (a0.code.length : Int))) then (some ((⟨a0.code, (IntKind.wrap .i64 (a0.at_ + 1)), (IntKind.wrap .u64 ((IntKind.wrap .u64 ((IntKind.wrap .u64 (a0.seed * 6364136223846793005)) + (IntKind.wrap .u64 0))) + 896896))⟩ : Cur), 0)) else (bif decide (0 ≤ 40) then (some ((⟨a0.code, (IntKind.wrap .i64 (a0.at_ + 1)), (IntKind.wrap .u64 ((IntKind.wrap .u64 ((IntKind.wrap .u64 (a0.seed * 6364136223846793005)) + (IntKind.wrap .u64 0))) + 896896))⟩ : Cur), (IntKind.wrap .i64 (IntKind.wrap .u64 ((BitVec.ofInt (IntKind.bits .u64) (Int.fdiv (IntKind.wrap .u64 ((IntKind.wrap .u64 ((IntKind.wrap .u64 (a0.seed * 6364136223846793005)) + (IntKind.wrap .u64 0))) + 896896)) (2 ^ min (40 : Int).toNat (IntKind.bits .u64))) &&& BitVec.ofInt (IntKind.bits .u64) 255).toNat : Int))))) else none))
def spec_l1Cur_next.C : Cal → Option CArm := fun c => match c with
  | _ => none
theorem spec_l1Cur_next.run (a0 : Cur) : runM envX (tabC spec_l1Cur_next.C) (tabL 62 0 (fun _ => none)) Tryz.f100 mbase (.bx .cur a0) [] (viewK (.bx .cur) (viewR1 (.t (.int .i64)))) = spec_l1Cur_next.F a0 := by kernel_rfl
theorem spec_l1Cur_next.G (hE : EnvOk Tryz.prog envX) (pv : Nat → Value) : ∀ cal A, spec_l1Cur_next.C cal = some A → ArmOk Tryz.prog envX pv cal A := by
  intro cal A h
  unfold spec_l1Cur_next.C at h
  cases h
theorem spec_l1Cur_next.good (hE : EnvOk Tryz.prog envX) (pv : Nat → Value) (a0 : Cur) {y : _} (h : spec_l1Cur_next.F a0 = some y) : MeetsM Tryz.prog envX pv 100 (.bx .cur a0) (tvals [] (())) (.kep (.bx .cur y.1) (.t (.int .i64) y.2)) :=
  funM_plain hE (spec_l1Cur_next.G hE pv) (f := 100) (fn := Tryz.f100) (by kernel_rfl) rfl (by kernel_rfl) (.inl rfl) (by kernel_rfl) ((spec_l1Cur_next.run a0).trans h) fun r hr => wk_viewK (fun r y h => wk_view1 h) hr
/-! ### 67 (*loop.example/g00896/spec.l1Cur).pick -/
def spec_l1Cur_pick.F (a0 : Cur) (a1 : Int) : Option (Cur × Int) := bif (decide (a1 ≤ 1)) then (some (a0, 0)) else ((spec_l1Cur_next.F a0).bind fun r1 => bif (decide (a1 > 200)) then ((spec_l1Cur_next.F r1.1).bind fun r2 => bif (a1 == 0) then (none) else (some (r2.1, (Int.tmod (IntKind.wrap .i64 ((IntKind.wrap .i64 (r1.2 * 256)) + r2.2)) a1)))) else (bif (a1 == 0) then (none) else (some (r1.1, (Int.tmod r1.2 a1)))))
def spec_l1Cur_pick.C : Cal → Option CArm := fun c => match c with
  | .f 100 => some (.m (.bx .cur) [] _ (fun x0 x => spec_l1Cur_next.F x0) (fun r => .kep (.bx .cur r.1) (.t (.int .i64) r.2)))
  | _ => none
theorem spec_l1Cur_pick.run (a0 : Cur) (a1 : Int) : runM envX (tabC spec_l1Cur_pick.C) (tabL 20 0 (fun _ => none)) Tryz.f67 mbase (.bx .cur a0) [.t (.int .i64) a1] (viewK (.bx .cur) (viewR1 (.t (.int .i64)))) = spec_l1Cur_pick.F a0 a1 := by kernel_rfl
theorem spec_l1Cur_pick.G (hE : EnvOk Tryz.prog envX) (pv : Nat → Value) : ∀ cal A, spec_l1Cur_pick.C cal = some A → ArmOk Tryz.prog envX pv cal A := by
  intro cal A h
  unfold spec_l1Cur_pick.C at h
  split at h
  · cases h; exact ⟨_, rfl, fun x0 x y hy => spec_l1Cur_next.good hE pv x0 hy⟩
  · cases h
theorem spec_l1Cur_pick.good (hE : EnvOk Tryz.prog envX) (pv : Nat → Value) (a0 : Cur) (a1 : Int) {y : _} (h : spec_l1Cur_pick.F a0 a1 = some y) : MeetsM Tryz.prog envX pv 67 (.bx .cur a0) (tvals [(.int .i64)] (a1, ())) (.kep (.bx .cur y.1) (.t (.int .i64) y.2)) :=
  funM_plain hE (spec_l1Cur_pick.G hE pv) (f := 67) (fn := Tryz.f67) (by kernel_rfl) rfl (by kernel_rfl) (.inl rfl) (by kernel_rfl) ((spec_l1Cur_pick.run a0 a1).trans h) fun r hr => wk_viewK (fun r y h => wk_view1 h) hr
/-! ### 66 (*loop.example/g00896/spec.l1Cur).one -/
def spec_l1Cur_one.F (a0 : Cur) (a1 : Int) : Option (Cur × Bool) := (spec_l1Cur_pick.F a0 a1).bind fun r1 => some (r1.1, (r1.2 == 0))
def spec_l1Cur_one.C : Cal → Option CArm := fun c => match c with
  | .f 67 => some (.m (.bx .cur) [(.int .i64)] _ (fun x0 x => spec_l1Cur_pick.F x0 x.1) (fun r => .kep (.bx .cur r.1) (.t (.int .i64) r.2)))
  | _ => none
theorem spec_l1Cur_one.run (a0 : Cur) (a1 : Int) : runM envX (tabC spec_l1Cur_one.C) (tabL 9 0 (fun _ => none)) Tryz.f66 mbase (.bx .cur a0) [.t (.int .i64) a1] (viewK (.bx .cur) (viewR1 (.t .bool))) = spec_l1Cur_one.F a0 a1 := by kernel_rfl
theorem spec_l1Cur_one.G (hE : EnvOk Tryz.prog envX) (pv : Nat → Value) : ∀ cal A, spec_l1Cur_one.C cal = some A → ArmOk Tryz.prog envX pv cal A := by
  intro cal A h
  unfold spec_l1Cur_one.C at h
  split at h
  · cases h; exact ⟨_, rfl, fun x0 x y hy => spec_l1Cur_pick.good hE pv x0 x.1 hy⟩
  · cases h
theorem spec_l1Cur_one.good (hE : EnvOk Tryz.prog envX) (pv : Nat → Value) (a0 : Cur) (a1 : Int) {y : _} (h : spec_l1Cur_one.F a0 a1 = some y) : MeetsM Tryz.prog envX pv 66 (.bx .cur a0) (tvals [(.int .i64)] (a1, ())) (.kep (.bx .cur y.1) (.t .bool y.2)) :=
  funM_plain hE (spec_l1Cur_one.G hE pv) (f := 66) (fn := Tryz.f66) (by kernel_rfl) rfl (by kernel_rfl) (.inl rfl) (by kernel_rfl) ((spec_l1Cur_one.run a0 a1).trans h) fun r hr => wk_viewK (fun r y h => wk_view1 h) hr
/-! ### 68 (*loop.example/g00896/spec.l1Cur).of -/
def spec_l1Cur_of.F (a0 : Cur) (a1 : List ByteArray) : Option (Cur × ByteArray) := (spec_l1Cur_pick.F a0 (a1.length : Int)).bind fun r1 => bif decide (0 ≤ r1.2) then (bif decide (r1.2 < (a1.length : Int)) then (some (r1.1, (a1.getD (r1.2 : Int).toNat (⟨#[]⟩ : ByteArray)))) else none) else none
def spec_l1Cur_of.C : Cal → Option CArm := fun c => match c with
  | .f 67 => some (.m (.bx .cur) [(.int .i64)] _ (fun x0 x => spec_l1Cur_pick.F x0 x.1) (fun r => .kep (.bx .cur r.1) (.t (.int .i64) r.2)))
  | _ => none
theorem spec_l1Cur_of.run (a0 : Cur) (a1 : List ByteArray) : runM envX (tabC spec_l1Cur_of.C) (tabL 12 0 (fun _ => none)) Tryz.f68 mbase (.bx .cur a0) [.t (.sl .str) a1] (viewK (.bx .cur) (viewR1 (.t .str))) = spec_l1Cur_of.F a0 a1 := by kernel_rfl
theorem spec_l1Cur_of.G (hE : EnvOk Tryz.prog envX) (pv : Nat → Value) : ∀ cal A, spec_l1Cur_of.C cal = some A → ArmOk Tryz.prog envX pv cal A := by
  intro cal A h
  unfold spec_l1Cur_of.C at h
  split at h
  · cases h; exact ⟨_, rfl, fun x0 x y hy => spec_l1Cur_pick.good hE pv x0 x.1 hy⟩
  · cases h
theorem spec_l1Cur_of.good (hE : EnvOk Tryz.prog envX) (pv : Nat → Value) (a0 : Cur) (a1 : List ByteArray) {y : _} (h : spec_l1Cur_of.F a0 a1 = some y) : MeetsM Tryz.prog envX pv 68 (.bx .cur a0) (tvals [(.sl .str)] (a1, ())) (.kep (.bx .cur y.1) (.t .str y.2)) :=
  funM_plain hE (spec_l1Cur_of.G hE pv) (f := 68) (fn := Tryz.f68) (by kernel_rfl) rfl (by kernel_rfl) (.inl rfl) (by kernel_rfl) ((spec_l1Cur_of.run a0 a1).trans h) fun r hr => wk_viewK (fun r y h => wk_view1 h) hr
/-! ### 126 (*loop.example/g00896/spec.l1Cur).among -/
def spec_l1Cur_among.F (a0 : Cur) (a1 : List Int) : Option (Cur × Int) := (spec_l1Cur_pick.F a0 (a1.length : Int)).bind fun r1 => bif decide (0 ≤ r1.2) then (bif decide (r1.2 < (a1.length : Int)) then (some (r1.1, (a1.getD (r1.2 : Int).toNat 0))) else none) else none
def spec_l1Cur_among.C : Cal → Option CArm := fun c => match c with
  | .f 67 => some (.m (.bx .cur) [(.int .i64)] _ (fun x0 x => spec_l1Cur_pick.F x0 x.1) (fun r => .kep (.bx .cur r.1) (.t (.int .i64) r.2)))
  | _ => none
theorem spec_l1Cur_among.run (a0 : Cur) (a1 : List Int) : runM envX (tabC spec_l1Cur_among.C) (tabL 12 0 (fun _ => none)) Tryz.f126 mbase (.bx .cur a0) [.t (.sl (.int .i64)) a1] (viewK (.bx .cur) (viewR1 (.t (.int .i64)))) = spec_l1Cur_among.F a0 a1 := by kernel_rfl
theorem spec_l1Cur_among.G (hE : EnvOk Tryz.prog envX) (pv : Nat → Value) : ∀ cal A, spec_l1Cur_among.C cal = some A → ArmOk Tryz.prog envX pv cal A := by
  intro cal A h
  unfold spec_l1Cur_among.C at h
  split at h
  · cases h; exact ⟨_, rfl, fun x0 x y hy => spec_l1Cur_pick.good hE pv x0 x.1 hy⟩
  · cases h
theorem spec_l1Cur_among.good (hE : EnvOk Tryz.prog envX) (pv : Nat → Value) (a0 : Cur) (a1 : List Int) {y : _} (h : spec_l1Cur_among.F a0 a1 = some y) : MeetsM Tryz.prog envX pv 126 (.bx .cur a0) (tvals [(.sl (.int .i64))] (a1, ())) (.kep (.bx .cur y.1) (.t (.int .i64) y.2)) :=
  funM_plain hE (spec_l1Cur_among.G hE pv) (f := 126) (fn := Tryz.f126) (by kernel_rfl) rfl (by kernel_rfl) (.inl rfl) (by kernel_rfl) ((spec_l1Cur_among.run a0 a1).trans h) fun r hr => wk_viewK (fun r y h => wk_view1 h) hr
/-! ### 147 (*loop.example/g00896/spec.l1Cur).name -/
def spec_l1Cur_name.l0 : Nat → Cur → (List ByteArray) → ByteArray → ByteArray → ByteArray → (List ByteArray) → ByteArray → ByteArray → ByteArray → Int → Option (Cur × (List ByteArray) × ByteArray × ByteArray × ByteArray × (List ByteArray) × ByteArray × ByteArray × ByteArray)
  | 0, _, _, _, _, _, _, _, _, _, _ => none
  | k + 1, x0, x2_0, x2_1, x2_2, x2_3, x3_0, x3_1, x3_2, x3_3, x4 => bif (decide (x4 > 0)) then ((spec_l1Cur_of.F x0 ([(⟨#[65, 110, 110, 97]⟩ : ByteArray), (⟨#[65]⟩ : ByteArray), (⟨#[74, 101, 97, 110, 45, 80, 97, 117, 108]⟩ : ByteArray), (⟨#[77, 97, 114, 105, 97]⟩ : ByteArray), (⟨#[66]⟩ : ByteArray), (⟨#[66, 101, 110]⟩ : ByteArray), (⟨#[74, 101, 97, 110, 45, 112, 97, 117, 108]⟩ : ByteArray)] : List ByteArray)).bind fun r3 => bif room (x3_0.length + ([r3.2] : List ByteArray).length) .str then (spec_l1Cur_name.l0 k r3.1 x2_0 x2_1 x2_2 x2_3 (x3_0 ++ ([r3.2] : List ByteArray)) x3_1 x3_2 x3_3 (IntKind.wrap .i64 (x4 - 1))) else none) else (some (x0, x2_0, x2_1, x2_2, x2_3, x3_0, x3_1, x3_2, x3_3))
def spec_l1Cur_name.F (k : Nat) (a0 : Cur) : Option (Cur × Name) := bif decide (0 ≤ 5) then (bif decide (5 ≤ (([(⟨#[66, 101, 114, 103]⟩ : ByteArray), (⟨#[83, 109, 105, 116, 104]⟩ : ByteArray), (⟨#[79, 39, 78, 101, 105, 108, 108]⟩ : ByteArray), (⟨#[76, 101, 101]⟩ : ByteArray), (⟨#[66, 101, 114, 103, 45, 72, 97, 108, 108]⟩ : ByteArray), (⟨#[115, 109, 105, 116, 104, 115, 111, 110]⟩ : ByteArray)] : List ByteArray).length : Int)) then ((spec_l1Cur_of.F a0 (([(⟨#[66, 101, 114, 103]⟩ : ByteArray), (⟨#[83, 109, 105, 116, 104]⟩ : ByteArray), (⟨#[79, 39, 78, 101, 105, 108, 108]⟩ : ByteArray), (⟨#[76, 101, 101]⟩ : ByteArray), (⟨#[66, 101, 114, 103, 45, 72, 97, 108, 108]⟩ : ByteArray), (⟨#[115, 109, 105, 116, 104, 115, 111, 110]⟩ : ByteArray)] : List ByteArray).take (5 : Int).toNat)).bind fun r1 => (spec_l1Cur_pick.F r1.1 3).bind fun r2 => (spec_l1Cur_name.l0 k r2.1 ([] : List ByteArray) (⟨#[]⟩ : ByteArray) (⟨#[]⟩ : ByteArray) (⟨#[]⟩ : ByteArray) ([]) (⟨#[]⟩ : ByteArray) r1.2 (⟨#[]⟩ : ByteArray) r2.2).bind fun y4 => (spec_l1Cur_one.F y4.1 3).bind fun r5 => bif r5.2 then ((spec_l1Cur_of.F r5.1 ([(⟨#[118, 97, 110]⟩ : ByteArray), (⟨#[100, 101]⟩ : ByteArray), (⟨#[118, 97, 110, 32, 100, 101, 114]⟩ : ByteArray)] : List ByteArray)).bind fun r6 => (spec_l1Cur_one.F r6.1 5).bind fun r7 => bif r7.2 then ((spec_l1Cur_of.F r7.1 ([(⟨#[74, 114]⟩ : ByteArray), (⟨#[73, 73, 73]⟩ : ByteArray), (⟨#[106, 114]⟩ : ByteArray)] : List ByteArray)).bind fun r8 => some (r8.1, (⟨y4.2.2.2.2.2.1, r6.2, y4.2.2.2.2.2.2.2.1, r8.2⟩ : Name))) else (some (r7.1, (⟨y4.2.2.2.2.2.1, r6.2, y4.2.2.2.2.2.2.2.1, y4.2.2.2.2.2.2.2.2⟩ : Name)))) else ((spec_l1Cur_one.F r5.1 5).bind fun r9 => bif r9.2 then ((spec_l1Cur_of.F r9.1 ([(⟨#[74, 114]⟩ : ByteArray), (⟨#[73, 73, 73]⟩ : ByteArray), (⟨#[106, 114]⟩ : ByteArray)] : List ByteArray)).bind fun r10 => some (r10.1, (⟨y4.2.2.2.2.2.1, y4.2.2.2.2.2.2.1, y4.2.2.2.2.2.2.2.1, r10.2⟩ : Name))) else (some (r9.1, (⟨y4.2.2.2.2.2.1, y4.2.2.2.2.2.2.1, y4.2.2.2.2.2.2.2.1, y4.2.2.2.2.2.2.2.2⟩ : Name))))) else none) else none
def spec_l1Cur_name.C (k : Nat) : Cal → Option CArm := fun c => match c with
  | .f 68 => some (.m (.bx .cur) [(.sl .str)] _ (fun x0 x => spec_l1Cur_of.F x0 x.1) (fun r => .kep (.bx .cur r.1) (.t .str r.2)))
  | .f 67 => some (.m (.bx .cur) [(.int .i64)] _ (fun x0 x => spec_l1Cur_pick.F x0 x.1) (fun r => .kep (.bx .cur r.1) (.t (.int .i64) r.2)))
  | .f 66 => some (.m (.bx .cur) [(.int .i64)] _ (fun x0 x => spec_l1Cur_one.F x0 x.1) (fun r => .kep (.bx .cur r.1) (.t .bool r.2)))
  | _ => none
def spec_l1Cur_name.sp0 : List Sp := [.boxT 0 1099511627776 .cur, .boxF 2 0 .name [.t (.sl .str), .t .str, .t .str, .t .str], .boxF 3 1044 .name [.own 1099511627827 9 .str false true, .t .str, .t .str, .t .str], .t 4 (.int .i64)]
def spec_l1Cur_name.sp0_0 : List Sp := [.boxT 0 1099511627776 .cur, .boxF 2 0 .name [.t (.sl .str), .t .str, .t .str, .t .str], .boxF 3 1044 .name [.own 1099511627827 9 .str false true, .t .str, .t .str, .t .str]]
def spec_l1Cur_name.A0 : LArm := .one spec_l1Cur_name.sp0 spec_l1Cur_name.sp0_0 (Cur × (List ByteArray) × ByteArray × ByteArray × ByteArray × (List ByteArray) × ByteArray × ByteArray × ByteArray) (fun k x => spec_l1Cur_name.l0 k x.1 x.2.1.1 x.2.1.2.1 x.2.1.2.2.1 x.2.1.2.2.2.1 x.2.2.1.1 x.2.2.1.2.1 x.2.2.1.2.2.1 x.2.2.1.2.2.2.1 x.2.2.2.1) (.exit 0) (fun y => (y.1, (y.2.1, y.2.2.1, y.2.2.2.1, y.2.2.2.2.1, ()), (y.2.2.2.2.2.1, y.2.2.2.2.2.2.1, y.2.2.2.2.2.2.2.1, y.2.2.2.2.2.2.2.2, ()), ())) (fun x => (x.1, x.2.1.1, x.2.1.2.1, x.2.1.2.2.1, x.2.1.2.2.2.1, x.2.2.1.1, x.2.2.1.2.1, x.2.2.1.2.2.1, x.2.2.1.2.2.2.1))
def spec_l1Cur_name.L : Nat → Option LArm := fun b => match b with
  | 0 => some spec_l1Cur_name.A0
  | _ => none
theorem spec_l1Cur_name.run (k : Nat) (a0 : Cur) : runM envX (tabC (spec_l1Cur_name.C k)) (tabL 37 k spec_l1Cur_name.L) Tryz.f147 mbase (.bx .cur a0) [] (viewK (.bx .cur) (viewR1 (.sf .name 9))) = spec_l1Cur_name.F k a0 := by kernel_rfl
theorem spec_l1Cur_name.step0 (k : Nat) (x0 : Cur) (x2_0 : List ByteArray) (x2_1 : ByteArray) (x2_2 : ByteArray) (x2_3 : ByteArray) (x3_0 : List ByteArray) (x3_1 : ByteArray) (x3_2 : ByteArray) (x3_3 : ByteArray) (x4 : Int) : runC envX (tabC (spec_l1Cur_name.C k)) (tabL 37 k spec_l1Cur_name.L) 0 (loopAt Tryz.f147 0) (stOf 37 spec_l1Cur_name.sp0 (x0, (x2_0, x2_1, x2_2, x2_3, ()), (x3_0, x3_1, x3_2, x3_3, ()), x4, ())) (spec_l1Cur_name.A0.cont 37 k) = spec_l1Cur_name.l0 (k + 1) x0 x2_0 x2_1 x2_2 x2_3 x3_0 x3_1 x3_2 x3_3 x4 := by kernel_rfl
theorem spec_l1Cur_name.G (hE : EnvOk Tryz.prog envX) (pv : Nat → Value) (k : Nat) : ∀ cal A, spec_l1Cur_name.C k cal = some A → ArmOk Tryz.prog envX pv cal A := by
  intro cal A h
  unfold spec_l1Cur_name.C at h
  split at h
  · cases h; exact ⟨_, rfl, fun x0 x y hy => spec_l1Cur_of.good hE pv x0 x.1 hy⟩
  · cases h; exact ⟨_, rfl, fun x0 x y hy => spec_l1Cur_pick.good hE pv x0 x.1 hy⟩
  · cases h; exact ⟨_, rfl, fun x0 x y hy => spec_l1Cur_one.good hE pv x0 x.1 hy⟩
  · cases h
theorem spec_l1Cur_name.good (hE : EnvOk Tryz.prog envX) (pv : Nat → Value) (k : Nat) (a0 : Cur) {y : _} (h : spec_l1Cur_name.F k a0 = some y) : MeetsM Tryz.prog envX pv 147 (.bx .cur a0) (tvals [] (())) (.kep (.bx .cur y.1) (sfV 9 .name y.2)) :=
  funM_loops hE (t := spec_l1Cur_name.C) k (fun k _ => spec_l1Cur_name.G hE pv k) (f := 147) (fn := Tryz.f147) (by kernel_rfl) rfl (by kernel_rfl) (.inl rfl) (by kernel_rfl) (lt := spec_l1Cur_name.L) (by kernel_rfl) (fun b A h => by
    unfold spec_l1Cur_name.L at h; split at h
    · cases h; exact ⟨by kernel_rfl, by kernel_rfl, fun _ => rfl, fun _ => rfl⟩
    · cases h) (fun b A h => by
    unfold spec_l1Cur_name.L at h; split at h
    · cases h; exact fun k x => spec_l1Cur_name.step0 k x.1 x.2.1.1 x.2.1.2.1 x.2.1.2.2.1 x.2.1.2.2.2.1 x.2.2.1.1 x.2.2.1.2.1 x.2.2.1.2.2.1 x.2.2.1.2.2.2.1 x.2.2.2.1
    · cases h) ((spec_l1Cur_name.run k a0).trans h) fun r hr => wk_viewK (fun r y h => wk_view1 h) hr
/-! ### 127 (*loop.example/g00896/spec.l1Cur).names -/
def spec_l1Cur_names.l0 : Nat → Cur → (List Name) → Int → Option (Cur × (List Name))
  | 0, _, _, _ => none
  | k + 1, x0, x3, x4 => bif (decide (x4 > 0)) then ((spec_l1Cur_name.F k x0).bind fun r2 => bif room (x3.length + ([(⟨r2.2.given, r2.2.particle, r2.2.family, r2.2.suffix⟩ : Name)] : List Name).length) .name then (spec_l1Cur_names.l0 k r2.1 (x3 ++ ([(⟨r2.2.given, r2.2.particle, r2.2.family, r2.2.suffix⟩ : Name)] : List Name)) (IntKind.wrap .i64 (x4 - 1))) else none) else (some (x0, x3))
def spec_l1Cur_names.F (k : Nat) (a0 : Cur) : Option (Cur × List Name) := (spec_l1Cur_pick.F a0 4).bind fun r1 => (spec_l1Cur_names.l0 k r1.1 ([] : List Name) r1.2).bind fun y3 => some (y3.1, y3.2)
def spec_l1Cur_names.C (k : Nat) : Cal → Option CArm := fun c => match c with
  | .f 67 => some (.m (.bx .cur) [(.int .i64)] _ (fun x0 x => spec_l1Cur_pick.F x0 x.1) (fun r => .kep (.bx .cur r.1) (.t (.int .i64) r.2)))
  | .f 147 => some (.m (.bx .cur) [] _ (fun x0 x => spec_l1Cur_name.F k x0) (fun r => .kep (.bx .cur r.1) (sfV 9 .name r.2)))
  | _ => none
def spec_l1Cur_names.sp0 : List Sp := [.boxT 0 1099511627776 .cur, .own 3 1024 83 .name false true, .t 4 (.int .i64)]
def spec_l1Cur_names.sp0_0 : List Sp := [.boxT 0 1099511627776 .cur, .own 3 1024 83 .name false true]
def spec_l1Cur_names.A0 : LArm := .one spec_l1Cur_names.sp0 spec_l1Cur_names.sp0_0 (Cur × (List Name)) (fun k x => spec_l1Cur_names.l0 k x.1 x.2.1 x.2.2.1) (.exit 0) (fun y => (y.1, y.2, ())) (fun x => (x.1, x.2.1))
def spec_l1Cur_names.L : Nat → Option LArm := fun b => match b with
  | 0 => some spec_l1Cur_names.A0
  | _ => none
theorem spec_l1Cur_names.run (k : Nat) (a0 : Cur) : runM envX (tabC (spec_l1Cur_names.C k)) (tabL 18 k spec_l1Cur_names.L) Tryz.f127 mbase (.bx .cur a0) [] (viewK (.bx .cur) (viewR1 (.fr 83 .name))) = spec_l1Cur_names.F k a0 := by kernel_rfl
theorem spec_l1Cur_names.step0 (k : Nat) (x0 : Cur) (x3 : List Name) (x4 : Int) : runC envX (tabC (spec_l1Cur_names.C k)) (tabL 18 k spec_l1Cur_names.L) 0 (loopAt Tryz.f127 0) (stOf 18 spec_l1Cur_names.sp0 (x0, x3, x4, ())) (spec_l1Cur_names.A0.cont 18 k) = spec_l1Cur_names.l0 (k + 1) x0 x3 x4 := by kernel_rfl
theorem spec_l1Cur_names.G (hE : EnvOk Tryz.prog envX) (pv : Nat → Value) (k : Nat) : ∀ cal A, spec_l1Cur_names.C k cal = some A → ArmOk Tryz.prog envX pv cal A := by
  intro cal A h
  unfold spec_l1Cur_names.C at h
  split at h
  · cases h; exact ⟨_, rfl, fun x0 x y hy => spec_l1Cur_pick.good hE pv x0 x.1 hy⟩
  · cases h; exact ⟨_, rfl, fun x0 x y hy => spec_l1Cur_name.good hE pv k x0 hy⟩
  · cases h
theorem spec_l1Cur_names.good (hE : EnvOk Tryz.prog envX) (pv : Nat → Value) (k : Nat) (a0 : Cur) {y : _} (h : spec_l1Cur_names.F k a0 = some y) : MeetsM Tryz.prog envX pv 127 (.bx .cur a0) (tvals [] (())) (.kep (.bx .cur y.1) (.fr 83 .name y.2)) :=
  funM_loops hE (t := spec_l1Cur_names.C) k (fun k _ => spec_l1Cur_names.G hE pv k) (f := 127) (fn := Tryz.f127) (by kernel_rfl) rfl (by kernel_rfl) (.inl rfl) (by kernel_rfl) (lt := spec_l1Cur_names.L) (by kernel_rfl) (fun b A h => by
    unfold spec_l1Cur_names.L at h; split at h
    · cases h; exact ⟨by kernel_rfl, by kernel_rfl, fun _ => rfl, fun _ => rfl⟩
    · cases h) (fun b A h => by
    unfold spec_l1Cur_names.L at h; split at h
    · cases h; exact fun k x => spec_l1Cur_names.step0 k x.1 x.2.1 x.2.2.1
    · cases h) ((spec_l1Cur_names.run k a0).trans h) fun r hr => wk_viewK (fun r y h => wk_view1 h) hr
/-! ### 128 loop.example/g00896/spec.l4Titles -/
def spec_l4Titles.F : Option (List ByteArray) := some ([(⟨#[79, 110, 32, 114, 105, 118, 101, 114, 115]⟩ : ByteArray), (⟨#[65, 32, 104, 105, 115, 116, 111, 114, 121, 32, 111, 102, 32, 109, 97, 112, 115]⟩ : ByteArray), (⟨#[84, 104, 101, 32, 110, 111, 114, 116, 104]⟩ : ByteArray), (⟨#[79, 108, 100, 32, 114, 111, 97, 100, 115, 58, 32, 97, 32, 103, 117, 105, 100, 101]⟩ : ByteArray), (⟨#[79, 110, 32, 114, 105, 118, 101, 114, 115]⟩ : ByteArray), (⟨#[]⟩ : ByteArray)] : List ByteArray)
def spec_l4Titles.C : Cal → Option CArm := fun c => match c with
  | _ => none
theorem spec_l4Titles.run : runF envX (tabC spec_l4Titles.C) (tabL 2 0 (fun _ => none)) Tryz.f128 [] (viewR1 (.fr 9 .str)) = spec_l4Titles.F := by kernel_rfl
theorem spec_l4Titles.G (hE : EnvOk Tryz.prog envX) (pv : Nat → Value) : ∀ cal A, spec_l4Titles.C cal = some A → ArmOk Tryz.prog envX pv cal A := by
  intro cal A h
  unfold spec_l4Titles.C at h
  cases h
theorem spec_l4Titles.good (hE : EnvOk Tryz.prog envX) (pv : Nat → Value) {y : _} (h : spec_l4Titles.F = some y) : Meets Tryz.prog envX pv (.f 128) (tvals [] (())) (.fr 9 .str y) :=
  fun_plain hE (spec_l4Titles.G hE pv) (f := 128) (fn := Tryz.f128) (by kernel_rfl) rfl (by kernel_rfl) (by kernel_rfl) ((spec_l4Titles.run).trans h) fun r hr => wk_view1 hr
/-! ### 129 (*loop.example/g00896/spec.l1Cur).date -/
def spec_l1Cur_date.F (a0 : Cur) : Option (Cur × Date) := (spec_l1Cur_among.F a0 ([1999, 2000, 1850, 987, 1900, 2024] : List Int)).bind fun r1 => (spec_l1Cur_pick.F r1.1 5).bind fun r2 => bif (r2.2 == 0) then (some (r2.1, (⟨0, 0, 0, false⟩ : Date))) else (bif (r2.2 == 1) then (some (r2.1, (⟨r1.2, 0, 0, true⟩ : Date))) else (bif (r2.2 == 2) then ((spec_l1Cur_pick.F r2.1 12).bind fun r3 => some (r3.1, (⟨r1.2, (IntKind.wrap .i64 (1 + r3.2)), 0, false⟩ : Date))) else (bif (r2.2 == 3) then ((spec_l1Cur_pick.F r2.1 12).bind fun r4 => (spec_l1Cur_pick.F r4.1 28).bind fun r5 => some (r5.1, (⟨r1.2, (IntKind.wrap .i64 (1 + r4.2)), (IntKind.wrap .i64 (1 + r5.2)), false⟩ : Date))) else (some (r2.1, (⟨r1.2, 0, 0, false⟩ : Date))))))
def spec_l1Cur_date.C : Cal → Option CArm := fun c => match c with
  | .f 126 => some (.m (.bx .cur) [(.sl (.int .i64))] _ (fun x0 x => spec_l1Cur_among.F x0 x.1) (fun r => .kep (.bx .cur r.1) (.t (.int .i64) r.2)))
  | .f 67 => some (.m (.bx .cur) [(.int .i64)] _ (fun x0 x => spec_l1Cur_pick.F x0 x.1) (fun r => .kep (.bx .cur r.1) (.t (.int .i64) r.2)))
  | _ => none
theorem spec_l1Cur_date.run (a0 : Cur) : runM envX (tabC spec_l1Cur_date.C) (tabL 33 0 (fun _ => none)) Tryz.f129 mbase (.bx .cur a0) [] (viewK (.bx .cur) (viewR1 (.t .date))) = spec_l1Cur_date.F a0 := by kernel_rfl
theorem spec_l1Cur_date.G (hE : EnvOk Tryz.prog envX) (pv : Nat → Value) : ∀ cal A, spec_l1Cur_date.C cal = some A → ArmOk Tryz.prog envX pv cal A := by
  intro cal A h
  unfold spec_l1Cur_date.C at h
  split at h
  · cases h; exact ⟨_, rfl, fun x0 x y hy => spec_l1Cur_among.good hE pv x0 x.1 hy⟩
  · cases h; exact ⟨_, rfl, fun x0 x y hy => spec_l1Cur_pick.good hE pv x0 x.1 hy⟩
  · cases h
theorem spec_l1Cur_date.good (hE : EnvOk Tryz.prog envX) (pv : Nat → Value) (a0 : Cur) {y : _} (h : spec_l1Cur_date.F a0 = some y) : MeetsM Tryz.prog envX pv 129 (.bx .cur a0) (tvals [] (())) (.kep (.bx .cur y.1) (.t .date y.2)) :=
  funM_plain hE (spec_l1Cur_date.G hE pv) (f := 129) (fn := Tryz.f129) (by kernel_rfl) rfl (by kernel_rfl) (.inl rfl) (by kernel_rfl) ((spec_l1Cur_date.run a0).trans h) fun r hr => wk_viewK (fun r y h => wk_view1 h) hr
/-! ### 99 (*loop.example/g00896/spec.l1Cur).entry -/
def spec_l1Cur_entry.F (k : Nat) (a0 : Cur) : Option (Cur × Entry) := (spec_l1Cur_of.F a0 ([(⟨#[97, 49]⟩ : ByteArray), (⟨#[98, 50]⟩ : ByteArray), (⟨#[99, 51]⟩ : ByteArray), (⟨#[100, 52]⟩ : ByteArray), (⟨#[101, 53]⟩ : ByteArray), (⟨#[102, 54]⟩ : ByteArray)] : List ByteArray)).bind fun r1 => (spec_l1Cur_pick.F r1.1 4).bind fun r2 => (spec_l1Cur_names.F k r2.1).bind fun r3 => (spec_l4Titles.F).bind fun r4 => (spec_l1Cur_of.F r3.1 r4).bind fun r5 => (spec_l1Cur_date.F r5.1).bind fun r6 => (spec_l1Cur_one.F r6.1 3).bind fun r7 => bif r7.2 then ((spec_l1Cur_names.F k r7.1).bind fun r8 => (spec_l1Cur_one.F r8.1 3).bind fun r9 => bif (!r9.2) then ((spec_l1Cur_of.F r9.1 ([(⟨#[74, 111, 117, 114, 110, 97, 108, 32, 111, 102, 32, 77, 97, 112, 115]⟩ : ByteArray), (⟨#[65, 110, 110, 97, 108, 115]⟩ : ByteArray), (⟨#[69, 115, 115, 97, 121, 115, 32, 111, 110, 32, 108, 97, 110, 100]⟩ : ByteArray)] : List ByteArray)).bind fun r10 => (spec_l1Cur_among.F r10.1 ([0, 1, 7, 12, 9999] : List Int)).bind fun r11 => (spec_l1Cur_of.F r11.1 ([(⟨#[]⟩ : ByteArray), (⟨#[49, 45, 57]⟩ : ByteArray), (⟨#[55, 55]⟩ : ByteArray), (⟨#[49, 50, 48, 45, 49, 51, 53]⟩ : ByteArray)] : List ByteArray)).bind fun r12 => (spec_l1Cur_one.F r12.1 3).bind fun r13 => bif (!r13.2) then ((spec_l1Cur_of.F r13.1 ([(⟨#[78, 111, 114, 116, 104, 32, 80, 114, 101, 115, 115]⟩ : ByteArray), (⟨#[72, 97, 108, 108]⟩ : ByteArray), (⟨#[76, 97, 110, 101, 32, 38, 32, 67, 111]⟩ : ByteArray)] : List ByteArray)).bind fun r14 => (spec_l1Cur_one.F r14.1 4).bind fun r15 => bif r15.2 then ((spec_l1Cur_of.F r15.1 ([(⟨#[97, 48]⟩ : ByteArray), (⟨#[98, 49]⟩ : ByteArray), (⟨#[122, 57]⟩ : ByteArray)] : List ByteArray)).bind fun r16 => some (r16.1, (⟨r1.2, (IntKind.wrap .i64 (1 + r2.2)), r3.2, r8.2, r5.2, r10.2, r14.2, r6.2, r11.2, r12.2, r16.2⟩ : Entry))) else (some (r15.1, (⟨r1.2, (IntKind.wrap .i64 (1 + r2.2)), r3.2, r8.2, r5.2, r10.2, r14.2, r6.2, r11.2, r12.2, (⟨#[]⟩ : ByteArray)⟩ : Entry)))) else ((spec_l1Cur_one.F r13.1 4).bind fun r17 => bif r17.2 then ((spec_l1Cur_of.F r17.1 ([(⟨#[97, 48]⟩ : ByteArray), (⟨#[98, 49]⟩ : ByteArray), (⟨#[122, 57]⟩ : ByteArray)] : List ByteArray)).bind fun r18 => some (r18.1, (⟨r1.2, (IntKind.wrap .i64 (1 + r2.2)), r3.2, r8.2, r5.2, r10.2, (⟨#[]⟩ : ByteArray), r6.2, r11.2, r12.2, r18.2⟩ : Entry))) else (some (r17.1, (⟨r1.2, (IntKind.wrap .i64 (1 + r2.2)), r3.2, r8.2, r5.2, r10.2, (⟨#[]⟩ : ByteArray), r6.2, r11.2, r12.2, (⟨#[]⟩ : ByteArray)⟩ : Entry))))) else ((spec_l1Cur_one.F r9.1 3).bind fun r19 => bif (!r19.2) then ((spec_l1Cur_of.F r19.1 ([(⟨#[78, 111, 114, 116, 104, 32, 80, 114, 101, 115, 115]⟩ : ByteArray), (⟨#[72, 97, 108, 108]⟩ : ByteArray), (⟨#[76, 97, 110, 101, 32, 38, 32, 67, 111]⟩ : ByteArray)] : List ByteArray)).bind fun r20 => (spec_l1Cur_one.F r20.1 4).bind fun r21 => bif r21.2 then ((spec_l1Cur_of.F r21.1 ([(⟨#[97, 48]⟩ : ByteArray), (⟨#[98, 49]⟩ : ByteArray), (⟨#[122, 57]⟩ : ByteArray)] : List ByteArray)).bind fun r22 => some (r22.1, (⟨r1.2, (IntKind.wrap .i64 (1 + r2.2)), r3.2, r8.2, r5.2, (⟨#[]⟩ : ByteArray), r20.2, r6.2, 0, (⟨#[]⟩ : ByteArray), r22.2⟩ : Entry))) else (some (r21.1, (⟨r1.2, (IntKind.wrap .i64 (1 + r2.2)), r3.2, r8.2, r5.2, (⟨#[]⟩ : ByteArray), r20.2, r6.2, 0, (⟨#[]⟩ : ByteArray), (⟨#[]⟩ : ByteArray)⟩ : Entry)))) else ((spec_l1Cur_one.F r19.1 4).bind fun r23 => bif r23.2 then ((spec_l1Cur_of.F r23.1 ([(⟨#[97, 48]⟩ : ByteArray), (⟨#[98, 49]⟩ : ByteArray), (⟨#[122, 57]⟩ : ByteArray)] : List ByteArray)).bind fun r24 => some (r24.1, (⟨r1.2, (IntKind.wrap .i64 (1 + r2.2)), r3.2, r8.2, r5.2, (⟨#[]⟩ : ByteArray), (⟨#[]⟩ : ByteArray), r6.2, 0, (⟨#[]⟩ : ByteArray), r24.2⟩ : Entry))) else (some (r23.1, (⟨r1.2, (IntKind.wrap .i64 (1 + r2.2)), r3.2, r8.2, r5.2, (⟨#[]⟩ : ByteArray), (⟨#[]⟩ : ByteArray), r6.2, 0, (⟨#[]⟩ : ByteArray), (⟨#[]⟩ : ByteArray)⟩ : Entry)))))) else ((spec_l1Cur_one.F r7.1 3).bind fun r25 => bif (!r25.2) then ((spec_l1Cur_of.F r25.1 ([(⟨#[74, 111, 117, 114, 110, 97, 108, 32, 111, 102, 32, 77, 97, 112, 115]⟩ : ByteArray), (⟨#[65, 110, 110, 97, 108, 115]⟩ : ByteArray), (⟨#[69, 115, 115, 97, 121, 115, 32, 111, 110, 32, 108, 97, 110, 100]⟩ : ByteArray)] : List ByteArray)).bind fun r26 => (spec_l1Cur_among.F r26.1 ([0, 1, 7, 12, 9999] : List Int)).bind fun r27 => (spec_l1Cur_of.F r27.1 ([(⟨#[]⟩ : ByteArray), (⟨#[49, 45, 57]⟩ : ByteArray), (⟨#[55, 55]⟩ : ByteArray), (⟨#[49, 50, 48, 45, 49, 51, 53]⟩ : ByteArray)] : List ByteArray)).bind fun r28 => (spec_l1Cur_one.F r28.1 3).bind fun r29 => bif (!r29.2) then ((spec_l1Cur_of.F r29.1 ([(⟨#[78, 111, 114, 116, 104, 32, 80, 114, 101, 115, 115]⟩ : ByteArray), (⟨#[72, 97, 108, 108]⟩ : ByteArray), (⟨#[76, 97, 110, 101, 32, 38, 32, 67, 111]⟩ : ByteArray)] : List ByteArray)).bind fun r30 => (spec_l1Cur_one.F r30.1 4).bind fun r31 => bif r31.2 then ((spec_l1Cur_of.F r31.1 ([(⟨#[97, 48]⟩ : ByteArray), (⟨#[98, 49]⟩ : ByteArray), (⟨#[122, 57]⟩ : ByteArray)] : List ByteArray)).bind fun r32 => some (r32.1, (⟨r1.2, (IntKind.wrap .i64 (1 + r2.2)), r3.2, ([] : List Name), r5.2, r26.2, r30.2, r6.2, r27.2, r28.2, r32.2⟩ : Entry))) else (some (r31.1, (⟨r1.2, (IntKind.wrap .i64 (1 + r2.2)), r3.2, ([] : List Name), r5.2, r26.2, r30.2, r6.2, r27.2, r28.2, (⟨#[]⟩ : ByteArray)⟩ : Entry)))) else ((spec_l1Cur_one.F r29.1 4).bind fun r33 => bif r33.2 then ((spec_l1Cur_of.F r33.1 ([(⟨#[97, 48]⟩ : ByteArray), (⟨#[98, 49]⟩ : ByteArray), (⟨#[122, 57]⟩ : ByteArray)] : List ByteArray)).bind fun r34 => some (r34.1, (⟨r1.2, (IntKind.wrap .i64 (1 + r2.2)), r3.2, ([] : List Name), r5.2, r26.2, (⟨#[]⟩ : ByteArray), r6.2, r27.2, r28.2, r34.2⟩ : Entry))) else (some (r33.1, (⟨r1.2, (IntKind.wrap .i64 (1 + r2.2)), r3.2, ([] : List Name), r5.2, r26.2, (⟨#[]⟩ : ByteArray), r6.2, r27.2, r28.2, (⟨#[]⟩ : ByteArray)⟩ : Entry))))) else ((spec_l1Cur_one.F r25.1 3).bind fun r35 => bif (!r35.2) then ((spec_l1Cur_of.F r35.1 ([(⟨#[78, 111, 114, 116, 104, 32, 80, 114, 101, 115, 115]⟩ : ByteArray), (⟨#[72, 97, 108, 108]⟩ : ByteArray), (⟨#[76, 97, 110, 101, 32, 38, 32, 67, 111]⟩ : ByteArray)] : List ByteArray)).bind fun r36 => (spec_l1Cur_one.F r36.1 4).bind fun r37 => bif r37.2 then ((spec_l1Cur_of.F r37.1 ([(⟨#[97, 48]⟩ : ByteArray), (⟨#[98, 49]⟩ : ByteArray), (⟨#[122, 57]⟩ : ByteArray)] : List ByteArray)).bind fun r38 => some (r38.1, (⟨r1.2, (IntKind.wrap .i64 (1 + r2.2)), r3.2, ([] : List Name), r5.2, (⟨#[]⟩ : ByteArray), r36.2, r6.2, 0, (⟨#[]⟩ : ByteArray), r38.2⟩ : Entry))) else (some (r37.1, (⟨r1.2, (IntKind.wrap .i64 (1 + r2.2)), r3.2, ([] : List Name), r5.2, (⟨#[]⟩ : ByteArray), r36.2, r6.2, 0, (⟨#[]⟩ : ByteArray), (⟨#[]⟩ : ByteArray)⟩ : Entry)))) else ((spec_l1Cur_one.F r35.1 4).bind fun r39 => bif r39.2 then ((spec_l1Cur_of.F r39.1 ([(⟨#[97, 48]⟩ : ByteArray), (⟨#[98, 49]⟩ : ByteArray), (⟨#[122, 57]⟩ : ByteArray)] : List ByteArray)).bind fun r40 => some (r40.1, (⟨r1.2, (IntKind.wrap .i64 (1 + r2.2)), r3.2, ([] : List Name), r5.2, (⟨#[]⟩ : ByteArray), (⟨#[]⟩ : ByteArray), r6.2, 0, (⟨#[]⟩ : ByteArray), r40.2⟩ : Entry))) else (some (r39.1, (⟨r1.2, (IntKind.wrap .i64 (1 + r2.2)), r3.2, ([] : List Name), r5.2, (⟨#[]⟩ : ByteArray), (⟨#[]⟩ : ByteArray), r6.2, 0, (⟨#[]⟩ : ByteArray), (⟨#[]⟩ : ByteArray)⟩ : Entry))))))
def spec_l1Cur_entry.C (k : Nat) : Cal → Option CArm := fun c => match c with
  | .f 68 => some (.m (.bx .cur) [(.sl .str)] _ (fun x0 x => spec_l1Cur_of.F x0 x.1) (fun r => .kep (.bx .cur r.1) (.t .str r.2)))
  | .f 67 => some (.m (.bx .cur) [(.int .i64)] _ (fun x0 x => spec_l1Cur_pick.F x0 x.1) (fun r => .kep (.bx .cur r.1) (.t (.int .i64) r.2)))
  | .f 127 => some (.m (.bx .cur) [] _ (fun x0 x => spec_l1Cur_names.F k x0) (fun r => .kep (.bx .cur r.1) (.fr 83 .name r.2)))
  | .f 128 => some (.p [] _ (fun x => spec_l4Titles.F) (fun r => (.fr 9 .str r)))
  | .f 129 => some (.m (.bx .cur) [] _ (fun x0 x => spec_l1Cur_date.F x0) (fun r => .kep (.bx .cur r.1) (.t .date r.2)))
  | .f 66 => some (.m (.bx .cur) [(.int .i64)] _ (fun x0 x => spec_l1Cur_one.F x0 x.1) (fun r => .kep (.bx .cur r.1) (.t .bool r.2)))
  | .f 126 => some (.m (.bx .cur) [(.sl (.int .i64))] _ (fun x0 x => spec_l1Cur_among.F x0 x.1) (fun r => .kep (.bx .cur r.1) (.t (.int .i64) r.2)))
  | _ => none
theorem spec_l1Cur_entry.run (k : Nat) (a0 : Cur) : runM envX (tabC (spec_l1Cur_entry.C k)) (tabL 52 0 (fun _ => none)) Tryz.f99 mbase (.bx .cur a0) [] (viewK (.bx .cur) (viewR1 (.t .entry))) = spec_l1Cur_entry.F k a0 := by kernel_rfl
theorem spec_l1Cur_entry.G (hE : EnvOk Tryz.prog envX) (pv : Nat → Value) (k : Nat) : ∀ cal A, spec_l1Cur_entry.C k cal = some A → ArmOk Tryz.prog envX pv cal A := by
  intro cal A h
  unfold spec_l1Cur_entry.C at h
  split at h
  · cases h; exact ⟨_, rfl, fun x0 x y hy => spec_l1Cur_of.good hE pv x0 x.1 hy⟩
  · cases h; exact ⟨_, rfl, fun x0 x y hy => spec_l1Cur_pick.good hE pv x0 x.1 hy⟩
  · cases h; exact ⟨_, rfl, fun x0 x y hy => spec_l1Cur_names.good hE pv k x0 hy⟩
  · cases h; exact fun x y hy => spec_l4Titles.good hE pv hy
  · cases h; exact ⟨_, rfl, fun x0 x y hy => spec_l1Cur_date.good hE pv x0 hy⟩
  · cases h; exact ⟨_, rfl, fun x0 x y hy => spec_l1Cur_one.good hE pv x0 x.1 hy⟩
  · cases h; exact ⟨_, rfl, fun x0 x y hy => spec_l1Cur_among.good hE pv x0 x.1 hy⟩
  · cases h
theorem spec_l1Cur_entry.good (hE : EnvOk Tryz.prog envX) (pv : Nat → Value) (k : Nat) (a0 : Cur) {y : _} (h : spec_l1Cur_entry.F k a0 = some y) : MeetsM Tryz.prog envX pv 99 (.bx .cur a0) (tvals [] (())) (.kep (.bx .cur y.1) (.t .entry y.2)) :=
  funM_plain hE (spec_l1Cur_entry.G hE pv k) (f := 99) (fn := Tryz.f99) (by kernel_rfl) rfl (by kernel_rfl) (.inl rfl) (by kernel_rfl) ((spec_l1Cur_entry.run k a0).trans h) fun r hr => wk_viewK (fun r y h => wk_view1 h) hr
/-! ### 77 loop.example/g00896/spec.l2Own -/
def spec_l2Own.l0 : Nat → (List Name) → (List Name) → Int → Option ((List Name))
  | 0, _, _, _ => none
  | k + 1, x0, x3, x4 => bif (decide (x4 < (x0.length : Int))) then (bif decide (0 ≤ x4) then (bif decide (x4 < (x0.length : Int)) then (bif room (([] : List ByteArray).length + ((x0.getD (x4 : Int).toNat (dflt .name)).given).length) .str then (bif room (x3.length + ([(⟨(([] : List ByteArray) ++ ((x0.getD (x4 : Int).toNat (dflt .name)).given)), (x0.getD (x4 : Int).toNat (dflt .name)).particle, (x0.getD (x4 : Int).toNat (dflt .name)).family, (x0.getD (x4 : Int).toNat (dflt .name)).suffix⟩ : Name)] : List Name).length) .name then (spec_l2Own.l0 k x0 (x3 ++ ([(⟨(([] : List ByteArray) ++ ((x0.getD (x4 : Int).toNat (dflt .name)).given)), (x0.getD (x4 : Int).toNat (dflt .name)).particle, (x0.getD (x4 : Int).toNat (dflt .name)).family, (x0.getD (x4 : Int).toNat (dflt .name)).suffix⟩ : Name)] : List Name)) (IntKind.wrap .i64 (x4 + 1))) else none) else none) else none) else none) else (some x3)
def spec_l2Own.F (k : Nat) (a0 : List Name) : Option (List Name) := (spec_l2Own.l0 k a0 ([] : List Name) 0).bind fun y1 => some y1
def spec_l2Own.C (k : Nat) : Cal → Option CArm := fun c => match c with
  | _ => none
def spec_l2Own.sp0 : List Sp := [.t 0 (.sl .name), .own 3 1024 83 .name false true, .t 4 (.int .i64)]
def spec_l2Own.sp0_0 : List Sp := [.own 3 1024 83 .name false true]
def spec_l2Own.A0 : LArm := .one spec_l2Own.sp0 spec_l2Own.sp0_0 ((List Name)) (fun k x => spec_l2Own.l0 k x.1 x.2.1 x.2.2.1) (.exit 0) (fun y => (y, ())) (fun x => x.1)
def spec_l2Own.L : Nat → Option LArm := fun b => match b with
  | 0 => some spec_l2Own.A0
  | _ => none
theorem spec_l2Own.run (k : Nat) (a0 : List Name) : runF envX (tabC (spec_l2Own.C k)) (tabL 27 k spec_l2Own.L) Tryz.f77 [.t (.sl .name) a0] (viewR1 (.fr 83 .name)) = spec_l2Own.F k a0 := by kernel_rfl
theorem spec_l2Own.step0 (k : Nat) (x0 : List Name) (x3 : List Name) (x4 : Int) : runC envX (tabC (spec_l2Own.C k)) (tabL 27 k spec_l2Own.L) 0 (loopAt Tryz.f77 0) (stOf 27 spec_l2Own.sp0 (x0, x3, x4, ())) (spec_l2Own.A0.cont 27 k) = spec_l2Own.l0 (k + 1) x0 x3 x4 := by kernel_rfl
theorem spec_l2Own.G (hE : EnvOk Tryz.prog envX) (pv : Nat → Value) (k : Nat) : ∀ cal A, spec_l2Own.C k cal = some A → ArmOk Tryz.prog envX pv cal A := by
  intro cal A h
  unfold spec_l2Own.C at h
  cases h
theorem spec_l2Own.good (hE : EnvOk Tryz.prog envX) (pv : Nat → Value) (k : Nat) (a0 : List Name) {y : _} (h : spec_l2Own.F k a0 = some y) : Meets Tryz.prog envX pv (.f 77) (tvals [(.sl .name)] (a0, ())) (.fr 83 .name y) :=
  fun_loops hE (t := spec_l2Own.C) k (fun k _ => spec_l2Own.G hE pv k) (f := 77) (fn := Tryz.f77) (by kernel_rfl) rfl (by kernel_rfl) (by kernel_rfl) (lt := spec_l2Own.L) (by kernel_rfl) (fun b A h => by
    unfold spec_l2Own.L at h; split at h
    · cases h; exact ⟨by kernel_rfl, by kernel_rfl, fun _ => rfl, fun _ => rfl⟩
    · cases h) (fun b A h => by
    unfold spec_l2Own.L at h; split at h
    · cases h; exact fun k x => spec_l2Own.step0 k x.1 x.2.1 x.2.2.1
    · cases h) ((spec_l2Own.run k a0).trans h) fun r hr => wk_view1 hr
/-! ### 49 loop.example/g00896/spec.l4Copy -/
def spec_l4Copy.F (k : Nat) (a0 : Entry) : Option (Entry) := (spec_l2Own.F k a0.authors).bind fun r1 => (spec_l2Own.F k a0.editors).bind fun r2 => some (⟨a0.key, a0.kind, r1, r2, a0.title, a0.container, a0.publisher, a0.date, a0.volume, a0.pages, a0.cross⟩ : Entry)
def spec_l4Copy.C (k : Nat) : Cal → Option CArm := fun c => match c with
  | .f 77 => some (.p [(.sl .name)] _ (fun x => spec_l2Own.F k x.1) (fun r => (.fr 83 .name r)))
  | _ => none
theorem spec_l4Copy.run (k : Nat) (a0 : Entry) : runF envX (tabC (spec_l4Copy.C k)) (tabL 12 0 (fun _ => none)) Tryz.f49 [.t .entry a0] (viewR1 (.t .entry)) = spec_l4Copy.F k a0 := by kernel_rfl
theorem spec_l4Copy.G (hE : EnvOk Tryz.prog envX) (pv : Nat → Value) (k : Nat) : ∀ cal A, spec_l4Copy.C k cal = some A → ArmOk Tryz.prog envX pv cal A := by
  intro cal A h
  unfold spec_l4Copy.C at h
  split at h
  · cases h; exact fun x y hy => spec_l2Own.good hE pv k x.1 hy
  · cases h
theorem spec_l4Copy.good (hE : EnvOk Tryz.prog envX) (pv : Nat → Value) (k : Nat) (a0 : Entry) {y : _} (h : spec_l4Copy.F k a0 = some y) : Meets Tryz.prog envX pv (.f 49) (tvals [.entry] (a0, ())) (.t .entry y) :=
  fun_plain hE (spec_l4Copy.G hE pv k) (f := 49) (fn := Tryz.f49) (by kernel_rfl) rfl (by kernel_rfl) (by kernel_rfl) ((spec_l4Copy.run k a0).trans h) fun r hr => wk_view1 hr
/-! ### 123 loop.example/g00896/spec.l4Put -/
def spec_l4Put.l0 : Nat → Library → Entry → (List Entry) → (List Entry) → Bool → Int → Option (Entry × (List Entry) × (List Entry) × Bool)
  | 0, _, _, _, _, _, _ => none
  | k + 1, x2, x3, x4, x5, x6, x7 => bif (decide (x7 < (x2.entries.length : Int))) then (bif decide (0 ≤ x7) then (bif decide (x7 < (x2.entries.length : Int)) then (bif (!ltS ((x2.entries.getD (x7 : Int).toNat (dflt .entry)).key) x3.key) then (bif (!x6) then ((spec_l4Copy.F k x3).bind fun r1 => bif room (x5.length + ([r1] : List Entry).length) .entry then (bif decide (0 ≤ x7) then (bif decide (x7 < (x2.entries.length : Int)) then (bif (!beqS ((x2.entries.getD (x7 : Int).toNat (dflt .entry)).key) x3.key) then (bif decide (0 ≤ x7) then (bif decide (x7 < (x2.entries.length : Int)) then ((spec_l4Copy.F k (x2.entries.getD (x7 : Int).toNat (dflt .entry))).bind fun r2 => bif room ((x5 ++ ([r1] : List Entry)).length + ([r2] : List Entry).length) .entry then (spec_l4Put.l0 k x2 x3 x4 ((x5 ++ ([r1] : List Entry)) ++ ([r2] : List Entry)) true (IntKind.wrap .i64 (x7 + 1))) else none) else none) else none) else (spec_l4Put.l0 k x2 x3 x4 (x5 ++ ([r1] : List Entry)) true (IntKind.wrap .i64 (x7 + 1)))) else none) else none) else none) else (bif decide (0 ≤ x7) then (bif decide (x7 < (x2.entries.length : Int)) then (bif (!beqS ((x2.entries.getD (x7 : Int).toNat (dflt .entry)).key) x3.key) then (bif decide (0 ≤ x7) then (bif decide (x7 < (x2.entries.length : Int)) then ((spec_l4Copy.F k (x2.entries.getD (x7 : Int).toNat (dflt .entry))).bind fun r3 => bif room (x5.length + ([r3] : List Entry).length) .entry then (spec_l4Put.l0 k x2 x3 x4 (x5 ++ ([r3] : List Entry)) x6 (IntKind.wrap .i64 (x7 + 1))) else none) else none) else none) else (spec_l4Put.l0 k x2 x3 x4 x5 x6 (IntKind.wrap .i64 (x7 + 1)))) else none) else none)) else (bif decide (0 ≤ x7) then (bif decide (x7 < (x2.entries.length : Int)) then (bif (!beqS ((x2.entries.getD (x7 : Int).toNat (dflt .entry)).key) x3.key) then (bif decide (0 ≤ x7) then (bif decide (x7 < (x2.entries.length : Int)) then ((spec_l4Copy.F k (x2.entries.getD (x7 : Int).toNat (dflt .entry))).bind fun r4 => bif room (x5.length + ([r4] : List Entry).length) .entry then (spec_l4Put.l0 k x2 x3 x4 (x5 ++ ([r4] : List Entry)) x6 (IntKind.wrap .i64 (x7 + 1))) else none) else none) else none) else (spec_l4Put.l0 k x2 x3 x4 x5 x6 (IntKind.wrap .i64 (x7 + 1)))) else none) else none)) else none) else none) else (some (x3, x4, x5, x6))
def spec_l4Put.F (k : Nat) (a0 : Library) (a1 : Entry) : Option (Library) := (spec_l4Put.l0 k a0 a1 ([] : List Entry) ([]) false 0).bind fun y5 => bif (!y5.2.2.2) then ((spec_l4Copy.F k y5.1).bind fun r6 => bif room (y5.2.2.1.length + ([r6] : List Entry).length) .entry then (some (⟨(y5.2.2.1 ++ ([r6] : List Entry))⟩ : Library)) else none) else (some (⟨y5.2.2.1⟩ : Library))
def spec_l4Put.C (k : Nat) : Cal → Option CArm := fun c => match c with
  | .f 49 => some (.p [.entry] _ (fun x => spec_l4Copy.F k x.1) (fun r => (.t .entry r)))
  | _ => none
def spec_l4Put.sp0 : List Sp := [.boxT 2 0 .lib, .boxT 3 4 .entry, .boxF 4 8 .lib [.t (.sl .entry)], .boxF 5 1028 .lib [.own 1099511627859 33 .entry false true], .t 6 .bool, .t 7 (.int .i64)]
def spec_l4Put.sp0_0 : List Sp := [.boxT 3 4 .entry, .boxF 4 8 .lib [.t (.sl .entry)], .boxF 5 1028 .lib [.own 1099511627859 33 .entry false true], .t 6 .bool]
def spec_l4Put.A0 : LArm := .one spec_l4Put.sp0 spec_l4Put.sp0_0 (Entry × (List Entry) × (List Entry) × Bool) (fun k x => spec_l4Put.l0 k x.1 x.2.1 x.2.2.1.1 x.2.2.2.1.1 x.2.2.2.2.1 x.2.2.2.2.2.1) (.exit 0) (fun y => (y.1, (y.2.1, ()), (y.2.2.1, ()), y.2.2.2, ())) (fun x => (x.1, x.2.1.1, x.2.2.1.1, x.2.2.2.1))
def spec_l4Put.L : Nat → Option LArm := fun b => match b with
  | 0 => some spec_l4Put.A0
  | _ => none
theorem spec_l4Put.run (k : Nat) (a0 : Library) (a1 : Entry) : runF envX (tabC (spec_l4Put.C k)) (tabL 66 k spec_l4Put.L) Tryz.f123 [.t .lib a0, .t .entry a1] (viewR1 (.sf .lib 33)) = spec_l4Put.F k a0 a1 := by kernel_rfl
theorem spec_l4Put.step0 (k : Nat) (x2 : Library) (x3 : Entry) (x4 : List Entry) (x5 : List Entry) (x6 : Bool) (x7 : Int) : runC envX (tabC (spec_l4Put.C k)) (tabL 66 k spec_l4Put.L) 0 (loopAt Tryz.f123 0) (stOf 66 spec_l4Put.sp0 (x2, x3, (x4, ()), (x5, ()), x6, x7, ())) (spec_l4Put.A0.cont 66 k) = spec_l4Put.l0 (k + 1) x2 x3 x4 x5 x6 x7 := by kernel_rfl
theorem spec_l4Put.G (hE : EnvOk Tryz.prog envX) (pv : Nat → Value) (k : Nat) : ∀ cal A, spec_l4Put.C k cal = some A → ArmOk Tryz.prog envX pv cal A := by
  intro cal A h
  unfold spec_l4Put.C at h
  split at h
  · cases h; exact fun x y hy => spec_l4Copy.good hE pv k x.1 hy
  · cases h
theorem spec_l4Put.good (hE : EnvOk Tryz.prog envX) (pv : Nat → Value) (k : Nat) (a0 : Library) (a1 : Entry) {y : _} (h : spec_l4Put.F k a0 a1 = some y) : Meets Tryz.prog envX pv (.f 123) (tvals [.lib, .entry] (a0, a1, ())) (sfV 33 .lib y) :=
  fun_loops hE (t := spec_l4Put.C) k (fun k _ => spec_l4Put.G hE pv k) (f := 123) (fn := Tryz.f123) (by kernel_rfl) rfl (by kernel_rfl) (by kernel_rfl) (lt := spec_l4Put.L) (by kernel_rfl) (fun b A h => by
    unfold spec_l4Put.L at h; split at h
    · cases h; exact ⟨by kernel_rfl, by kernel_rfl, fun _ => rfl, fun _ => rfl⟩
    · cases h) (fun b A h => by
    unfold spec_l4Put.L at h; split at h
    · cases h; exact fun k x => spec_l4Put.step0 k x.1 x.2.1 x.2.2.1.1 x.2.2.2.1.1 x.2.2.2.2.1 x.2.2.2.2.2.1
    · cases h) ((spec_l4Put.run k a0 a1).trans h) fun r hr => wk_view1 hr
/-! ### 97 (*loop.example/g00896/spec.l1Cur).library -/
def spec_l1Cur_library.l0 : Nat → Cur → (List Entry) → (List Entry) → Int → Option (Cur × (List Entry) × (List Entry))
  | 0, _, _, _, _ => none
  | k + 1, x0, x2, x3, x4 => bif (decide (x4 > 0)) then ((spec_l1Cur_entry.F k x0).bind fun r2 => (spec_l1Cur_one.F r2.1 4).bind fun r3 => bif r3.2 then ((spec_l1Cur_of.F r3.1 ([(⟨#[97, 49]⟩ : ByteArray), (⟨#[98, 50]⟩ : ByteArray), (⟨#[99, 51]⟩ : ByteArray)] : List ByteArray)).bind fun r4 => bif (beqS r4.2 r2.2.key) then ((spec_l4Put.F k (⟨x3⟩ : Library) (⟨r2.2.key, r2.2.kind, r2.2.authors, r2.2.editors, r2.2.title, r2.2.container, r2.2.publisher, r2.2.date, r2.2.volume, r2.2.pages, (⟨#[]⟩ : ByteArray)⟩ : Entry)).bind fun r5 => spec_l1Cur_library.l0 k r4.1 x2 r5.entries (IntKind.wrap .i64 (x4 - 1))) else ((spec_l4Put.F k (⟨x3⟩ : Library) (⟨r2.2.key, r2.2.kind, r2.2.authors, r2.2.editors, r2.2.title, r2.2.container, r2.2.publisher, r2.2.date, r2.2.volume, r2.2.pages, r4.2⟩ : Entry)).bind fun r6 => spec_l1Cur_library.l0 k r4.1 x2 r6.entries (IntKind.wrap .i64 (x4 - 1)))) else ((spec_l4Put.F k (⟨x3⟩ : Library) r2.2).bind fun r7 => spec_l1Cur_library.l0 k r3.1 x2 r7.entries (IntKind.wrap .i64 (x4 - 1)))) else (some (x0, x2, x3))
def spec_l1Cur_library.F (k : Nat) (a0 : Cur) : Option (Cur × Library) := (spec_l1Cur_pick.F a0 6).bind fun r1 => (spec_l1Cur_library.l0 k r1.1 ([] : List Entry) ([]) r1.2).bind fun y8 => some (y8.1, (⟨y8.2.2⟩ : Library))
def spec_l1Cur_library.C (k : Nat) : Cal → Option CArm := fun c => match c with
  | .f 67 => some (.m (.bx .cur) [(.int .i64)] _ (fun x0 x => spec_l1Cur_pick.F x0 x.1) (fun r => .kep (.bx .cur r.1) (.t (.int .i64) r.2)))
  | .f 99 => some (.m (.bx .cur) [] _ (fun x0 x => spec_l1Cur_entry.F k x0) (fun r => .kep (.bx .cur r.1) (.t .entry r.2)))
  | .f 66 => some (.m (.bx .cur) [(.int .i64)] _ (fun x0 x => spec_l1Cur_one.F x0 x.1) (fun r => .kep (.bx .cur r.1) (.t .bool r.2)))
  | .f 68 => some (.m (.bx .cur) [(.sl .str)] _ (fun x0 x => spec_l1Cur_of.F x0 x.1) (fun r => .kep (.bx .cur r.1) (.t .str r.2)))
  | .f 123 => some (.p [.lib, .entry] _ (fun x => spec_l4Put.F k x.1 x.2.1) (fun r => (sfV 33 .lib r)))
  | _ => none
def spec_l1Cur_library.sp0 : List Sp := [.boxT 0 1099511627776 .cur, .boxF 2 0 .lib [.t (.sl .entry)], .boxF 3 1028 .lib [.own 1099511627827 33 .entry false true], .t 4 (.int .i64)]
def spec_l1Cur_library.sp0_0 : List Sp := [.boxT 0 1099511627776 .cur, .boxF 2 0 .lib [.t (.sl .entry)], .boxF 3 1028 .lib [.own 1099511627827 33 .entry false true]]
def spec_l1Cur_library.A0 : LArm := .one spec_l1Cur_library.sp0 spec_l1Cur_library.sp0_0 (Cur × (List Entry) × (List Entry)) (fun k x => spec_l1Cur_library.l0 k x.1 x.2.1.1 x.2.2.1.1 x.2.2.2.1) (.exit 0) (fun y => (y.1, (y.2.1, ()), (y.2.2, ()), ())) (fun x => (x.1, x.2.1.1, x.2.2.1.1))
def spec_l1Cur_library.L : Nat → Option LArm := fun b => match b with
  | 0 => some spec_l1Cur_library.A0
  | _ => none
theorem spec_l1Cur_library.run (k : Nat) (a0 : Cur) : runM envX (tabC (spec_l1Cur_library.C k)) (tabL 31 k spec_l1Cur_library.L) Tryz.f97 mbase (.bx .cur a0) [] (viewK (.bx .cur) (viewR1 (.sf .lib 33))) = spec_l1Cur_library.F k a0 := by kernel_rfl
theorem spec_l1Cur_library.step0 (k : Nat) (x0 : Cur) (x2 : List Entry) (x3 : List Entry) (x4 : Int) : runC envX (tabC (spec_l1Cur_library.C k)) (tabL 31 k spec_l1Cur_library.L) 0 (loopAt Tryz.f97 0) (stOf 31 spec_l1Cur_library.sp0 (x0, (x2, ()), (x3, ()), x4, ())) (spec_l1Cur_library.A0.cont 31 k) = spec_l1Cur_library.l0 (k + 1) x0 x2 x3 x4 := by kernel_rfl
theorem spec_l1Cur_library.G (hE : EnvOk Tryz.prog envX) (pv : Nat → Value) (k : Nat) : ∀ cal A, spec_l1Cur_library.C k cal = some A → ArmOk Tryz.prog envX pv cal A := by
  intro cal A h
  unfold spec_l1Cur_library.C at h
  split at h
  · cases h; exact ⟨_, rfl, fun x0 x y hy => spec_l1Cur_pick.good hE pv x0 x.1 hy⟩
  · cases h; exact ⟨_, rfl, fun x0 x y hy => spec_l1Cur_entry.good hE pv k x0 hy⟩
  · cases h; exact ⟨_, rfl, fun x0 x y hy => spec_l1Cur_one.good hE pv x0 x.1 hy⟩
  · cases h; exact ⟨_, rfl, fun x0 x y hy => spec_l1Cur_of.good hE pv x0 x.1 hy⟩
  · cases h; exact fun x y hy => spec_l4Put.good hE pv k x.1 x.2.1 hy
  · cases h
theorem spec_l1Cur_library.good (hE : EnvOk Tryz.prog envX) (pv : Nat → Value) (k : Nat) (a0 : Cur) {y : _} (h : spec_l1Cur_library.F k a0 = some y) : MeetsM Tryz.prog envX pv 97 (.bx .cur a0) (tvals [] (())) (.kep (.bx .cur y.1) (sfV 33 .lib y.2)) :=
  funM_loops hE (t := spec_l1Cur_library.C) k (fun k _ => spec_l1Cur_library.G hE pv k) (f := 97) (fn := Tryz.f97) (by kernel_rfl) rfl (by kernel_rfl) (.inl rfl) (by kernel_rfl) (lt := spec_l1Cur_library.L) (by kernel_rfl) (fun b A h => by
    unfold spec_l1Cur_library.L at h; split at h
    · cases h; exact ⟨by kernel_rfl, by kernel_rfl, fun _ => rfl, fun _ => rfl⟩
    · cases h) (fun b A h => by
    unfold spec_l1Cur_library.L at h; split at h
    · cases h; exact fun k x => spec_l1Cur_library.step0 k x.1 x.2.1.1 x.2.2.1.1 x.2.2.2.1
    · cases h) ((spec_l1Cur_library.run k a0).trans h) fun r hr => wk_viewK (fun r y h => wk_view1 h) hr
/-! ### 146 (*loop.example/g00896/spec.l1Cur).anyName -/
def spec_l1Cur_anyName.F (k : Nat) (a0 : Cur) : Option (Cur × Name) := (spec_l1Cur_name.F k a0).bind fun r1 => (spec_l1Cur_pick.F r1.1 16).bind fun r2 => bif (r2.2 == 0) then ((spec_l1Cur_of.F r2.1 ([(⟨#[]⟩ : ByteArray), (⟨#[98, 101, 114, 103]⟩ : ByteArray), (⟨#[66, 45]⟩ : ByteArray), (⟨#[66, 45, 45, 99]⟩ : ByteArray), (⟨#[65, 98, 99, 100, 101, 102, 103, 104, 105, 106, 107, 108]⟩ : ByteArray), (⟨#[65, 98, 99, 100, 101, 102, 103, 104, 105, 106, 107, 108, 109]⟩ : ByteArray), (⟨#[66, 57]⟩ : ByteArray)] : List ByteArray)).bind fun r3 => some (r3.1, (⟨r1.2.given, r1.2.particle, r3.2, r1.2.suffix⟩ : Name))) else (bif (r2.2 == 1) then ((spec_l1Cur_of.F r2.1 ([(⟨#[86, 97, 110]⟩ : ByteArray), (⟨#[118, 97, 110, 32, 100, 101, 114, 32, 100, 101]⟩ : ByteArray), (⟨#[118, 97, 110, 32]⟩ : ByteArray), (⟨#[100, 39]⟩ : ByteArray), (⟨#[100, 39, 97]⟩ : ByteArray), (⟨#[118, 97, 110, 32, 32, 100, 101, 114]⟩ : ByteArray)] : List ByteArray)).bind fun r4 => some (r4.1, (⟨r1.2.given, r4.2, r1.2.family, r1.2.suffix⟩ : Name))) else (bif (r2.2 == 2) then ((spec_l1Cur_of.F r2.1 ([(⟨#[45]⟩ : ByteArray), (⟨#[74, 32, 114]⟩ : ByteArray), (⟨#[120]⟩ : ByteArray)] : List ByteArray)).bind fun r5 => some (r5.1, (⟨r1.2.given, r1.2.particle, r1.2.family, r5.2⟩ : Name))) else (bif (r2.2 == 3) then ((spec_l1Cur_of.F r2.1 ([(⟨#[97, 110, 110, 97]⟩ : ByteArray), (⟨#[]⟩ : ByteArray), (⟨#[67]⟩ : ByteArray), (⟨#[68, 32, 101]⟩ : ByteArray)] : List ByteArray)).bind fun r6 => bif room (r1.2.given.length + ([r6.2, (⟨#[69, 118, 101]⟩ : ByteArray)] : List ByteArray).length) .str then (some (r6.1, (⟨(r1.2.given ++ ([r6.2, (⟨#[69, 118, 101]⟩ : ByteArray)] : List ByteArray)), r1.2.particle, r1.2.family, r1.2.suffix⟩ : Name))) else none) else (some (r2.1, (⟨r1.2.given, r1.2.particle, r1.2.family, r1.2.suffix⟩ : Name))))))
def spec_l1Cur_anyName.C (k : Nat) : Cal → Option CArm := fun c => match c with
  | .f 147 => some (.m (.bx .cur) [] _ (fun x0 x => spec_l1Cur_name.F k x0) (fun r => .kep (.bx .cur r.1) (sfV 9 .name r.2)))
  | .f 67 => some (.m (.bx .cur) [(.int .i64)] _ (fun x0 x => spec_l1Cur_pick.F x0 x.1) (fun r => .kep (.bx .cur r.1) (.t (.int .i64) r.2)))
  | .f 68 => some (.m (.bx .cur) [(.sl .str)] _ (fun x0 x => spec_l1Cur_of.F x0 x.1) (fun r => .kep (.bx .cur r.1) (.t .str r.2)))
  | _ => none
theorem spec_l1Cur_anyName.run (k : Nat) (a0 : Cur) : runM envX (tabC (spec_l1Cur_anyName.C k)) (tabL 37 0 (fun _ => none)) Tryz.f146 mbase (.bx .cur a0) [] (viewK (.bx .cur) (viewR1 (.sf .name 9))) = spec_l1Cur_anyName.F k a0 := by kernel_rfl
theorem spec_l1Cur_anyName.G (hE : EnvOk Tryz.prog envX) (pv : Nat → Value) (k : Nat) : ∀ cal A, spec_l1Cur_anyName.C k cal = some A → ArmOk Tryz.prog envX pv cal A := by
  intro cal A h
  unfold spec_l1Cur_anyName.C at h
  split at h
  · cases h; exact ⟨_, rfl, fun x0 x y hy => spec_l1Cur_name.good hE pv k x0 hy⟩
  · cases h; exact ⟨_, rfl, fun x0 x y hy => spec_l1Cur_pick.good hE pv x0 x.1 hy⟩
  · cases h; exact ⟨_, rfl, fun x0 x y hy => spec_l1Cur_of.good hE pv x0 x.1 hy⟩
  · cases h
theorem spec_l1Cur_anyName.good (hE : EnvOk Tryz.prog envX) (pv : Nat → Value) (k : Nat) (a0 : Cur) {y : _} (h : spec_l1Cur_anyName.F k a0 = some y) : MeetsM Tryz.prog envX pv 146 (.bx .cur a0) (tvals [] (())) (.kep (.bx .cur y.1) (sfV 9 .name y.2)) :=
  funM_plain hE (spec_l1Cur_anyName.G hE pv k) (f := 146) (fn := Tryz.f146) (by kernel_rfl) rfl (by kernel_rfl) (.inl rfl) (by kernel_rfl) ((spec_l1Cur_anyName.run k a0).trans h) fun r hr => wk_viewK (fun r y h => wk_view1 h) hr
/-! ### 124 (*loop.example/g00896/spec.l1Cur).anyNames -/
def spec_l1Cur_anyNames.l1 : Nat → Cur → (List Name) → Option (Cur × (List Name))
  | 0, _, _ => none
  | k + 1, x0, x3 => (spec_l1Cur_pick.F x0 2).bind fun r4 => bif (decide ((x3.length : Int) < (IntKind.wrap .i64 (4 + r4.2)))) then ((spec_l1Cur_name.F k r4.1).bind fun r5 => bif room (x3.length + ([(⟨r5.2.given, r5.2.particle, r5.2.family, r5.2.suffix⟩ : Name)] : List Name).length) .name then (spec_l1Cur_anyNames.l1 k r5.1 (x3 ++ ([(⟨r5.2.given, r5.2.particle, r5.2.family, r5.2.suffix⟩ : Name)] : List Name))) else none) else (some (r4.1, x3))
def spec_l1Cur_anyNames.F (k : Nat) (a0 : Cur) : Option (Cur × List Name) := (spec_l1Cur_names.F k a0).bind fun r1 => (spec_l1Cur_pick.F r1.1 12).bind fun r2 => bif (r2.2 == 0) then ((spec_l1Cur_anyName.F k r2.1).bind fun r3 => bif room (r1.2.length + ([(⟨r3.2.given, r3.2.particle, r3.2.family, r3.2.suffix⟩ : Name)] : List Name).length) .name then (some (r3.1, (r1.2 ++ ([(⟨r3.2.given, r3.2.particle, r3.2.family, r3.2.suffix⟩ : Name)] : List Name)))) else none) else (bif (r2.2 == 1) then ((spec_l1Cur_anyNames.l1 k r2.1 r1.2).bind fun y6 => some (y6.1, y6.2)) else (some (r2.1, r1.2)))
def spec_l1Cur_anyNames.C (k : Nat) : Cal → Option CArm := fun c => match c with
  | .f 127 => some (.m (.bx .cur) [] _ (fun x0 x => spec_l1Cur_names.F k x0) (fun r => .kep (.bx .cur r.1) (.fr 83 .name r.2)))
  | .f 67 => some (.m (.bx .cur) [(.int .i64)] _ (fun x0 x => spec_l1Cur_pick.F x0 x.1) (fun r => .kep (.bx .cur r.1) (.t (.int .i64) r.2)))
  | .f 146 => some (.m (.bx .cur) [] _ (fun x0 x => spec_l1Cur_anyName.F k x0) (fun r => .kep (.bx .cur r.1) (sfV 9 .name r.2)))
  | .f 147 => some (.m (.bx .cur) [] _ (fun x0 x => spec_l1Cur_name.F k x0) (fun r => .kep (.bx .cur r.1) (sfV 9 .name r.2)))
  | _ => none
def spec_l1Cur_anyNames.sp1 : List Sp := [.boxT 0 1099511627776 .cur, .own 3 1028 83 .name false true]
def spec_l1Cur_anyNames.sp1_0 : List Sp := [.boxT 0 1099511627776 .cur, .own 3 1028 83 .name false true]
def spec_l1Cur_anyNames.A1 : LArm := .one spec_l1Cur_anyNames.sp1 spec_l1Cur_anyNames.sp1_0 (Cur × (List Name)) (fun k x => spec_l1Cur_anyNames.l1 k x.1 x.2.1) (.exit 1) (fun y => (y.1, y.2, ())) (fun x => (x.1, x.2.1))
def spec_l1Cur_anyNames.L : Nat → Option LArm := fun b => match b with
  | 1 => some spec_l1Cur_anyNames.A1
  | _ => none
theorem spec_l1Cur_anyNames.run (k : Nat) (a0 : Cur) : runM envX (tabC (spec_l1Cur_anyNames.C k)) (tabL 29 k spec_l1Cur_anyNames.L) Tryz.f124 mbase (.bx .cur a0) [] (viewK (.bx .cur) (viewR1 (.fr 83 .name))) = spec_l1Cur_anyNames.F k a0 := by kernel_rfl
theorem spec_l1Cur_anyNames.step1 (k : Nat) (x0 : Cur) (x3 : List Name) : runC envX (tabC (spec_l1Cur_anyNames.C k)) (tabL 29 k spec_l1Cur_anyNames.L) 1 (loopAt Tryz.f124 1) (stOf 29 spec_l1Cur_anyNames.sp1 (x0, x3, ())) (spec_l1Cur_anyNames.A1.cont 29 k) = spec_l1Cur_anyNames.l1 (k + 1) x0 x3 := by kernel_rfl
theorem spec_l1Cur_anyNames.G (hE : EnvOk Tryz.prog envX) (pv : Nat → Value) (k : Nat) : ∀ cal A, spec_l1Cur_anyNames.C k cal = some A → ArmOk Tryz.prog envX pv cal A := by
  intro cal A h
  unfold spec_l1Cur_anyNames.C at h
  split at h
  · cases h; exact ⟨_, rfl, fun x0 x y hy => spec_l1Cur_names.good hE pv k x0 hy⟩
  · cases h; exact ⟨_, rfl, fun x0 x y hy => spec_l1Cur_pick.good hE pv x0 x.1 hy⟩
  · cases h; exact ⟨_, rfl, fun x0 x y hy => spec_l1Cur_anyName.good hE pv k x0 hy⟩
  · cases h; exact ⟨_, rfl, fun x0 x y hy => spec_l1Cur_name.good hE pv k x0 hy⟩
  · cases h
theorem spec_l1Cur_anyNames.good (hE : EnvOk Tryz.prog envX) (pv : Nat → Value) (k : Nat) (a0 : Cur) {y : _} (h : spec_l1Cur_anyNames.F k a0 = some y) : MeetsM Tryz.prog envX pv 124 (.bx .cur a0) (tvals [] (())) (.kep (.bx .cur y.1) (.fr 83 .name y.2)) :=
  funM_loops hE (t := spec_l1Cur_anyNames.C) k (fun k _ => spec_l1Cur_anyNames.G hE pv k) (f := 124) (fn := Tryz.f124) (by kernel_rfl) rfl (by kernel_rfl) (.inl rfl) (by kernel_rfl) (lt := spec_l1Cur_anyNames.L) (by kernel_rfl) (fun b A h => by
    unfold spec_l1Cur_anyNames.L at h; split at h
    · cases h; exact ⟨by kernel_rfl, by kernel_rfl, fun _ => rfl, fun _ => rfl⟩
    · cases h) (fun b A h => by
    unfold spec_l1Cur_anyNames.L at h; split at h
    · cases h; exact fun k x => spec_l1Cur_anyNames.step1 k x.1 x.2.1
    · cases h) ((spec_l1Cur_anyNames.run k a0).trans h) fun r hr => wk_viewK (fun r y h => wk_view1 h) hr
/-! ### 125 (*loop.example/g00896/spec.l1Cur).anyDate -/
def spec_l1Cur_anyDate.F (a0 : Cur) : Option (Cur × Date) := (spec_l1Cur_date.F a0).bind fun r1 => (spec_l1Cur_pick.F r1.1 14).bind fun r2 => bif (r2.2 == 0) then ((spec_l1Cur_among.F r2.1 ([0, (-1), 2999, 3000, 1] : List Int)).bind fun r3 => some (r3.1, (⟨r3.2, r1.2.m, r1.2.d, r1.2.c⟩ : Date))) else (bif (r2.2 == 1) then ((spec_l1Cur_among.F r2.1 ([13, (-1), 2] : List Int)).bind fun r4 => some (r4.1, (⟨r1.2.y, r4.2, r1.2.d, r1.2.c⟩ : Date))) else (bif (r2.2 == 2) then ((spec_l1Cur_among.F r2.1 ([29, 30, 31, 32, (-1)] : List Int)).bind fun r5 => some (r5.1, (⟨r1.2.y, r1.2.m, r5.2, r1.2.c⟩ : Date))) else (bif (r2.2 == 3) then (some (r2.1, (⟨r1.2.y, r1.2.m, r1.2.d, (!r1.2.c)⟩ : Date))) else (some (r2.1, r1.2)))))
def spec_l1Cur_anyDate.C : Cal → Option CArm := fun c => match c with
  | .f 129 => some (.m (.bx .cur) [] _ (fun x0 x => spec_l1Cur_date.F x0) (fun r => .kep (.bx .cur r.1) (.t .date r.2)))
  | .f 67 => some (.m (.bx .cur) [(.int .i64)] _ (fun x0 x => spec_l1Cur_pick.F x0 x.1) (fun r => .kep (.bx .cur r.1) (.t (.int .i64) r.2)))
  | .f 126 => some (.m (.bx .cur) [(.sl (.int .i64))] _ (fun x0 x => spec_l1Cur_among.F x0 x.1) (fun r => .kep (.bx .cur r.1) (.t (.int .i64) r.2)))
  | _ => none
theorem spec_l1Cur_anyDate.run (a0 : Cur) : runM envX (tabC spec_l1Cur_anyDate.C) (tabL 33 0 (fun _ => none)) Tryz.f125 mbase (.bx .cur a0) [] (viewK (.bx .cur) (viewR1 (.t .date))) = spec_l1Cur_anyDate.F a0 := by kernel_rfl
theorem spec_l1Cur_anyDate.G (hE : EnvOk Tryz.prog envX) (pv : Nat → Value) : ∀ cal A, spec_l1Cur_anyDate.C cal = some A → ArmOk Tryz.prog envX pv cal A := by
  intro cal A h
  unfold spec_l1Cur_anyDate.C at h
  split at h
  · cases h; exact ⟨_, rfl, fun x0 x y hy => spec_l1Cur_date.good hE pv x0 hy⟩
  · cases h; exact ⟨_, rfl, fun x0 x y hy => spec_l1Cur_pick.good hE pv x0 x.1 hy⟩
  · cases h; exact ⟨_, rfl, fun x0 x y hy => spec_l1Cur_among.good hE pv x0 x.1 hy⟩
  · cases h
theorem spec_l1Cur_anyDate.good (hE : EnvOk Tryz.prog envX) (pv : Nat → Value) (a0 : Cur) {y : _} (h : spec_l1Cur_anyDate.F a0 = some y) : MeetsM Tryz.prog envX pv 125 (.bx .cur a0) (tvals [] (())) (.kep (.bx .cur y.1) (.t .date y.2)) :=
  funM_plain hE (spec_l1Cur_anyDate.G hE pv) (f := 125) (fn := Tryz.f125) (by kernel_rfl) rfl (by kernel_rfl) (.inl rfl) (by kernel_rfl) ((spec_l1Cur_anyDate.run a0).trans h) fun r hr => wk_viewK (fun r y h => wk_view1 h) hr
/-! ### 98 (*loop.example/g00896/spec.l1Cur).anyEntry -/
def spec_l1Cur_anyEntry.F (k : Nat) (a0 : Cur) : Option (Cur × Entry) := (spec_l1Cur_entry.F k a0).bind fun r1 => (spec_l1Cur_pick.F r1.1 24).bind fun r2 => bif (r2.2 == 0) then ((spec_l1Cur_of.F r2.1 ([(⟨#[]⟩ : ByteArray), (⟨#[65]⟩ : ByteArray), (⟨#[49, 97]⟩ : ByteArray), (⟨#[97, 98, 99, 100, 101, 102, 103, 104, 105, 106]⟩ : ByteArray), (⟨#[97, 98, 99, 100, 101, 102, 103, 104, 105, 106, 107]⟩ : ByteArray)] : List ByteArray)).bind fun r3 => some (r3.1, (⟨r3.2, r1.2.kind, r1.2.authors, r1.2.editors, r1.2.title, r1.2.container, r1.2.publisher, r1.2.date, r1.2.volume, r1.2.pages, r1.2.cross⟩ : Entry))) else (bif (r2.2 == 1) then ((spec_l1Cur_pick.F r2.1 6).bind fun r4 => some (r4.1, (⟨r1.2.key, r4.2, r1.2.authors, r1.2.editors, r1.2.title, r1.2.container, r1.2.publisher, r1.2.date, r1.2.volume, r1.2.pages, r1.2.cross⟩ : Entry))) else (bif (r2.2 == 2) then ((spec_l1Cur_anyNames.F k r2.1).bind fun r5 => some (r5.1, (⟨r1.2.key, r1.2.kind, r5.2, r1.2.editors, r1.2.title, r1.2.container, r1.2.publisher, r1.2.date, r1.2.volume, r1.2.pages, r1.2.cross⟩ : Entry))) else (bif (r2.2 == 3) then ((spec_l1Cur_of.F r2.1 ([(⟨#[32, 120]⟩ : ByteArray), (⟨#[120, 32]⟩ : ByteArray), (⟨#[97, 9, 98]⟩ : ByteArray), (⟨#[48, 49, 50, 51, 52, 53, 54, 55, 56, 57, 48, 49, 50, 51, 52, 53, 54, 55, 56, 57, 48, 49, 50, 51, 52, 53, 54, 55, 56, 57, 48, 49, 50, 51, 52, 53, 54, 55, 56, 57]⟩ : ByteArray), (⟨#[48, 49, 50, 51, 52, 53, 54, 55, 56, 57, 48, 49, 50, 51, 52, 53, 54, 55, 56, 57, 48, 49, 50, 51, 52, 53, 54, 55, 56, 57, 48, 49, 50, 51, 52, 53, 54, 55, 56, 57, 48]⟩ : ByteArray)] : List ByteArray)).bind fun r6 => some (r6.1, (⟨r1.2.key, r1.2.kind, r1.2.authors, r1.2.editors, r6.2, r1.2.container, r1.2.publisher, r1.2.date, r1.2.volume, r1.2.pages, r1.2.cross⟩ : Entry))) else (bif (r2.2 == 4) then ((spec_l1Cur_anyDate.F r2.1).bind fun r7 => some (r7.1, (⟨r1.2.key, r1.2.kind, r1.2.authors, r1.2.editors, r1.2.title, r1.2.container, r1.2.publisher, r7.2, r1.2.volume, r1.2.pages, r1.2.cross⟩ : Entry))) else (bif (r2.2 == 5) then ((spec_l1Cur_among.F r2.1 ([(-1), 10000] : List Int)).bind fun r8 => some (r8.1, (⟨r1.2.key, r1.2.kind, r1.2.authors, r1.2.editors, r1.2.title, r1.2.container, r1.2.publisher, r1.2.date, r8.2, r1.2.pages, r1.2.cross⟩ : Entry))) else (bif (r2.2 == 6) then ((spec_l1Cur_of.F r2.1 ([r1.2.key, (⟨#[65]⟩ : ByteArray), (⟨#[98, 50]⟩ : ByteArray)] : List ByteArray)).bind fun r9 => some (r9.1, (⟨r1.2.key, r1.2.kind, r1.2.authors, r1.2.editors, r1.2.title, r1.2.container, r1.2.publisher, r1.2.date, r1.2.volume, r1.2.pages, r9.2⟩ : Entry))) else (bif (r2.2 == 7) then ((spec_l1Cur_anyNames.F k r2.1).bind fun r10 => some (r10.1, (⟨r1.2.key, r1.2.kind, r1.2.authors, r10.2, r1.2.title, r1.2.container, r1.2.publisher, r1.2.date, r1.2.volume, r1.2.pages, r1.2.cross⟩ : Entry))) else (some (r2.1, r1.2)))))))))
def spec_l1Cur_anyEntry.C (k : Nat) : Cal → Option CArm := fun c => match c with
  | .f 99 => some (.m (.bx .cur) [] _ (fun x0 x => spec_l1Cur_entry.F k x0) (fun r => .kep (.bx .cur r.1) (.t .entry r.2)))
  | .f 67 => some (.m (.bx .cur) [(.int .i64)] _ (fun x0 x => spec_l1Cur_pick.F x0 x.1) (fun r => .kep (.bx .cur r.1) (.t (.int .i64) r.2)))
  | .f 68 => some (.m (.bx .cur) [(.sl .str)] _ (fun x0 x => spec_l1Cur_of.F x0 x.1) (fun r => .kep (.bx .cur r.1) (.t .str r.2)))
  | .f 124 => some (.m (.bx .cur) [] _ (fun x0 x => spec_l1Cur_anyNames.F k x0) (fun r => .kep (.bx .cur r.1) (.fr 83 .name r.2)))
  | .f 125 => some (.m (.bx .cur) [] _ (fun x0 x => spec_l1Cur_anyDate.F x0) (fun r => .kep (.bx .cur r.1) (.t .date r.2)))
  | .f 126 => some (.m (.bx .cur) [(.sl (.int .i64))] _ (fun x0 x => spec_l1Cur_among.F x0 x.1) (fun r => .kep (.bx .cur r.1) (.t (.int .i64) r.2)))
  | _ => none
theorem spec_l1Cur_anyEntry.run (k : Nat) (a0 : Cur) : runM envX (tabC (spec_l1Cur_anyEntry.C k)) (tabL 55 0 (fun _ => none)) Tryz.f98 mbase (.bx .cur a0) [] (viewK (.bx .cur) (viewR1 (.t .entry))) = spec_l1Cur_anyEntry.F k a0 := by kernel_rfl
theorem spec_l1Cur_anyEntry.G (hE : EnvOk Tryz.prog envX) (pv : Nat → Value) (k : Nat) : ∀ cal A, spec_l1Cur_anyEntry.C k cal = some A → ArmOk Tryz.prog envX pv cal A := by
  intro cal A h
  unfold spec_l1Cur_anyEntry.C at h
  split at h
  · cases h; exact ⟨_, rfl, fun x0 x y hy => spec_l1Cur_entry.good hE pv k x0 hy⟩
  · cases h; exact ⟨_, rfl, fun x0 x y hy => spec_l1Cur_pick.good hE pv x0 x.1 hy⟩
  · cases h; exact ⟨_, rfl, fun x0 x y hy => spec_l1Cur_of.good hE pv x0 x.1 hy⟩
  · cases h; exact ⟨_, rfl, fun x0 x y hy => spec_l1Cur_anyNames.good hE pv k x0 hy⟩
  · cases h; exact ⟨_, rfl, fun x0 x y hy => spec_l1Cur_anyDate.good hE pv x0 hy⟩
  · cases h; exact ⟨_, rfl, fun x0 x y hy => spec_l1Cur_among.good hE pv x0 x.1 hy⟩
  · cases h
theorem spec_l1Cur_anyEntry.good (hE : EnvOk Tryz.prog envX) (pv : Nat → Value) (k : Nat) (a0 : Cur) {y : _} (h : spec_l1Cur_anyEntry.F k a0 = some y) : MeetsM Tryz.prog envX pv 98 (.bx .cur a0) (tvals [] (())) (.kep (.bx .cur y.1) (.t .entry y.2)) :=
  funM_plain hE (spec_l1Cur_anyEntry.G hE pv k) (f := 98) (fn := Tryz.f98) (by kernel_rfl) rfl (by kernel_rfl) (.inl rfl) (by kernel_rfl) ((spec_l1Cur_anyEntry.run k a0).trans h) fun r hr => wk_viewK (fun r y h => wk_view1 h) hr
/-! ### 65 (*loop.example/g00896/spec.l1Cur).anyLibrary -/
def spec_l1Cur_anyLibrary.l1 : Nat → Cur → (List Entry) → (List Entry) → Int → Option (Cur × (List Entry) × (List Entry))
  | 0, _, _, _, _ => none
  | k + 1, x0, x2, x3, x4 => (spec_l1Cur_pick.F x0 2).bind fun r5 => bif (decide ((x3.length : Int) < (IntKind.wrap .i64 (8 + r5.2)))) then (bif (decide (x4 < 10)) then ((spec_l1Cur_entry.F k r5.1).bind fun r6 => (spec_l1Num.F k x4).bind fun r7 => bif Nat.ble ((⟨#[120]⟩ : ByteArray).size + r7.size) 9223372036854775807 then (bif room (x3.length + ([(⟨((⟨#[120]⟩ : ByteArray) ++ r7), r6.2.kind, r6.2.authors, r6.2.editors, r6.2.title, r6.2.container, r6.2.publisher, r6.2.date, r6.2.volume, r6.2.pages, r6.2.cross⟩ : Entry)] : List Entry).length) .entry then (spec_l1Cur_anyLibrary.l1 k r6.1 x2 (x3 ++ ([(⟨((⟨#[120]⟩ : ByteArray) ++ r7), r6.2.kind, r6.2.authors, r6.2.editors, r6.2.title, r6.2.container, r6.2.publisher, r6.2.date, r6.2.volume, r6.2.pages, r6.2.cross⟩ : Entry)] : List Entry)) (IntKind.wrap .i64 (x4 + 1))) else none) else none) else (some (r5.1, x2, x3))) else (some (r5.1, x2, x3))
def spec_l1Cur_anyLibrary.F (k : Nat) (a0 : Cur) : Option (Cur × Library) := (spec_l1Cur_library.F k a0).bind fun r1 => bif ((r1.2.entries.length : Int) == 0) then (some (r1.1, (⟨r1.2.entries⟩ : Library))) else ((spec_l1Cur_pick.F r1.1 16).bind fun r2 => bif (r2.2 == 0) then ((spec_l1Cur_pick.F r2.1 (r1.2.entries.length : Int)).bind fun r3 => (spec_l1Cur_anyEntry.F k r3.1).bind fun r4 => bif decide (0 ≤ r3.2) then (bif decide (r3.2 < (r1.2.entries.length : Int)) then (some (r4.1, (⟨(r1.2.entries.set ((r3.2 : Int).toNat) r4.2)⟩ : Library))) else none) else none) else (bif (r2.2 == 1) then (bif decide (0 ≤ 0) then (bif decide (0 < (r1.2.entries.length : Int)) then (bif room (r1.2.entries.length + ([(r1.2.entries.getD ((0 : Int).toNat) (dflt .entry))] : List Entry).length) .entry then (some (r2.1, (⟨(r1.2.entries ++ ([(r1.2.entries.getD ((0 : Int).toNat) (dflt .entry))] : List Entry))⟩ : Library))) else none) else none) else none) else (bif (r2.2 == 2) then ((spec_l1Cur_anyLibrary.l1 k r2.1 ([] : List Entry) r1.2.entries 0).bind fun y8 => some (y8.1, (⟨y8.2.2⟩ : Library))) else (some (r2.1, (⟨r1.2.entries⟩ : Library))))))
def spec_l1Cur_anyLibrary.C (k : Nat) : Cal → Option CArm := fun c => match c with
  | .f 97 => some (.m (.bx .cur) [] _ (fun x0 x => spec_l1Cur_library.F k x0) (fun r => .kep (.bx .cur r.1) (sfV 33 .lib r.2)))
  | .f 67 => some (.m (.bx .cur) [(.int .i64)] _ (fun x0 x => spec_l1Cur_pick.F x0 x.1) (fun r => .kep (.bx .cur r.1) (.t (.int .i64) r.2)))
  | .f 98 => some (.m (.bx .cur) [] _ (fun x0 x => spec_l1Cur_anyEntry.F k x0) (fun r => .kep (.bx .cur r.1) (.t .entry r.2)))
  | .f 99 => some (.m (.bx .cur) [] _ (fun x0 x => spec_l1Cur_entry.F k x0) (fun r => .kep (.bx .cur r.1) (.t .entry r.2)))
  | .f 57 => some (.p [(.int .i64)] _ (fun x => spec_l1Num.F k x.1) (fun r => (.t .str r)))
  | _ => none
def spec_l1Cur_anyLibrary.sp1 : List Sp := [.boxT 0 1099511627776 .cur, .boxF 2 0 .lib [.t (.sl .entry)], .boxF 3 1032 .lib [.own 1028 33 .entry false true], .t 4 (.int .i64)]
def spec_l1Cur_anyLibrary.sp1_0 : List Sp := [.boxT 0 1099511627776 .cur, .boxF 2 0 .lib [.t (.sl .entry)], .boxF 3 1032 .lib [.own 1028 33 .entry false true]]
def spec_l1Cur_anyLibrary.A1 : LArm := .one spec_l1Cur_anyLibrary.sp1 spec_l1Cur_anyLibrary.sp1_0 (Cur × (List Entry) × (List Entry)) (fun k x => spec_l1Cur_anyLibrary.l1 k x.1 x.2.1.1 x.2.2.1.1 x.2.2.2.1) (.exit 1) (fun y => (y.1, (y.2.1, ()), (y.2.2, ()), ())) (fun x => (x.1, x.2.1.1, x.2.2.1.1))
def spec_l1Cur_anyLibrary.L : Nat → Option LArm := fun b => match b with
  | 1 => some spec_l1Cur_anyLibrary.A1
  | _ => none
theorem spec_l1Cur_anyLibrary.run (k : Nat) (a0 : Cur) : runM envX (tabC (spec_l1Cur_anyLibrary.C k)) (tabL 66 k spec_l1Cur_anyLibrary.L) Tryz.f65 mbase (.bx .cur a0) [] (viewK (.bx .cur) (viewR1 (.sf .lib 33))) = spec_l1Cur_anyLibrary.F k a0 := by kernel_rfl
theorem spec_l1Cur_anyLibrary.step1 (k : Nat) (x0 : Cur) (x2 : List Entry) (x3 : List Entry) (x4 : Int) : runC envX (tabC (spec_l1Cur_anyLibrary.C k)) (tabL 66 k spec_l1Cur_anyLibrary.L) 1 (loopAt Tryz.f65 1) (stOf 66 spec_l1Cur_anyLibrary.sp1 (x0, (x2, ()), (x3, ()), x4, ())) (spec_l1Cur_anyLibrary.A1.cont 66 k) = spec_l1Cur_anyLibrary.l1 (k + 1) x0 x2 x3 x4 := by kernel_rfl
theorem spec_l1Cur_anyLibrary.G (hE : EnvOk Tryz.prog envX) (pv : Nat → Value) (k : Nat) : ∀ cal A, spec_l1Cur_anyLibrary.C k cal = some A → ArmOk Tryz.prog envX pv cal A := by
  intro cal A h
  unfold spec_l1Cur_anyLibrary.C at h
  split at h
  · cases h; exact ⟨_, rfl, fun x0 x y hy => spec_l1Cur_library.good hE pv k x0 hy⟩
  · cases h; exact ⟨_, rfl, fun x0 x y hy => spec_l1Cur_pick.good hE pv x0 x.1 hy⟩
  · cases h; exact ⟨_, rfl, fun x0 x y hy => spec_l1Cur_anyEntry.good hE pv k x0 hy⟩
  · cases h; exact ⟨_, rfl, fun x0 x y hy => spec_l1Cur_entry.good hE pv k x0 hy⟩
  · cases h; exact fun x y hy => spec_l1Num.good hE pv k x.1 hy
  · cases h
theorem spec_l1Cur_anyLibrary.good (hE : EnvOk Tryz.prog envX) (pv : Nat → Value) (k : Nat) (a0 : Cur) {y : _} (h : spec_l1Cur_anyLibrary.F k a0 = some y) : MeetsM Tryz.prog envX pv 65 (.bx .cur a0) (tvals [] (())) (.kep (.bx .cur y.1) (sfV 33 .lib y.2)) :=
  funM_loops hE (t := spec_l1Cur_anyLibrary.C) k (fun k _ => spec_l1Cur_anyLibrary.G hE pv k) (f := 65) (fn := Tryz.f65) (by kernel_rfl) rfl (by kernel_rfl) (.inl rfl) (by kernel_rfl) (lt := spec_l1Cur_anyLibrary.L) (by kernel_rfl) (fun b A h => by
    unfold spec_l1Cur_anyLibrary.L at h; split at h
    · cases h; exact ⟨by kernel_rfl, by kernel_rfl, fun _ => rfl, fun _ => rfl⟩
    · cases h) (fun b A h => by
    unfold spec_l1Cur_anyLibrary.L at h; split at h
    · cases h; exact fun k x => spec_l1Cur_anyLibrary.step1 k x.1 x.2.1.1 x.2.2.1.1 x.2.2.2.1
    · cases h) ((spec_l1Cur_anyLibrary.run k a0).trans h) fun r hr => wk_viewK (fun r y h => wk_view1 h) hr
/-! ### 38 (*loop.example/g00896/spec.l1Cur).crossed -/
def spec_l1Cur_crossed.l0 : Nat → Cur → (List Entry) → (List Entry) → Int → Option (Cur × (List Entry) × (List Entry))
  | 0, _, _, _, _ => none
  | k + 1, x0, x2, x3, x4 => bif (decide (x4 < (x3.length : Int))) then (bif decide (0 ≤ x4) then (bif decide (x4 < (x3.length : Int)) then ((spec_l1Cur_one.F x0 2).bind fun r3 => bif r3.2 then ((spec_l1Cur_pick.F r3.1 (x3.length : Int)).bind fun r4 => bif decide (0 ≤ r4.2) then (bif decide (r4.2 < (x3.length : Int)) then (bif (beqS ((x3.getD ((r4.2 : Int).toNat) (dflt .entry)).key) ((x3.getD ((x4 : Int).toNat) (dflt .entry)).key)) then ((spec_l1Cur_of.F r4.1 ([(⟨#[]⟩ : ByteArray), (⟨#[110, 111, 116, 104, 101, 114, 101]⟩ : ByteArray)] : List ByteArray)).bind fun r5 => (spec_l1Cur_one.F r5.1 3).bind fun r6 => bif r6.2 then ((spec_l1Cur_one.F r6.1 3).bind fun r7 => bif r7.2 then (bif decide (0 ≤ x4) then (bif decide (x4 < (x3.length : Int)) then (spec_l1Cur_crossed.l0 k r7.1 x2 (x3.set ((x4 : Int).toNat) (⟨(x3.getD ((x4 : Int).toNat) (dflt .entry)).key, (x3.getD ((x4 : Int).toNat) (dflt .entry)).kind, (x3.getD ((x4 : Int).toNat) (dflt .entry)).authors, ([] : List Name), (x3.getD ((x4 : Int).toNat) (dflt .entry)).title, (⟨#[]⟩ : ByteArray), (⟨#[]⟩ : ByteArray), (⟨0, 0, 0, false⟩ : Date), 0, (x3.getD ((x4 : Int).toNat) (dflt .entry)).pages, r5.2⟩ : Entry)) (IntKind.wrap .i64 (x4 + 1))) else none) else none) else (bif decide (0 ≤ x4) then (bif decide (x4 < (x3.length : Int)) then (spec_l1Cur_crossed.l0 k r7.1 x2 (x3.set ((x4 : Int).toNat) (⟨(x3.getD ((x4 : Int).toNat) (dflt .entry)).key, (x3.getD ((x4 : Int).toNat) (dflt .entry)).kind, (x3.getD ((x4 : Int).toNat) (dflt .entry)).authors, ([] : List Name), (x3.getD ((x4 : Int).toNat) (dflt .entry)).title, (⟨#[]⟩ : ByteArray), (x3.getD ((x4 : Int).toNat) (dflt .entry)).publisher, (x3.getD ((x4 : Int).toNat) (dflt .entry)).date, 0, (x3.getD ((x4 : Int).toNat) (dflt .entry)).pages, r5.2⟩ : Entry)) (IntKind.wrap .i64 (x4 + 1))) else none) else none)) else ((spec_l1Cur_one.F r6.1 3).bind fun r8 => bif r8.2 then (bif decide (0 ≤ x4) then (bif decide (x4 < (x3.length : Int)) then (spec_l1Cur_crossed.l0 k r8.1 x2 (x3.set ((x4 : Int).toNat) (⟨(x3.getD ((x4 : Int).toNat) (dflt .entry)).key, (x3.getD ((x4 : Int).toNat) (dflt .entry)).kind, (x3.getD ((x4 : Int).toNat) (dflt .entry)).authors, (x3.getD ((x4 : Int).toNat) (dflt .entry)).editors, (x3.getD ((x4 : Int).toNat) (dflt .entry)).title, (x3.getD ((x4 : Int).toNat) (dflt .entry)).container, (⟨#[]⟩ : ByteArray), (⟨0, 0, 0, false⟩ : Date), (x3.getD ((x4 : Int).toNat) (dflt .entry)).volume, (x3.getD ((x4 : Int).toNat) (dflt .entry)).pages, r5.2⟩ : Entry)) (IntKind.wrap .i64 (x4 + 1))) else none) else none) else (bif decide (0 ≤ x4) then (bif decide (x4 < (x3.length : Int)) then (spec_l1Cur_crossed.l0 k r8.1 x2 (x3.set ((x4 : Int).toNat) (⟨(x3.getD ((x4 : Int).toNat) (dflt .entry)).key, (x3.getD ((x4 : Int).toNat) (dflt .entry)).kind, (x3.getD ((x4 : Int).toNat) (dflt .entry)).authors, (x3.getD ((x4 : Int).toNat) (dflt .entry)).editors, (x3.getD ((x4 : Int).toNat) (dflt .entry)).title, (x3.getD ((x4 : Int).toNat) (dflt .entry)).container, (x3.getD ((x4 : Int).toNat) (dflt .entry)).publisher, (x3.getD ((x4 : Int).toNat) (dflt .entry)).date, (x3.getD ((x4 : Int).toNat) (dflt .entry)).volume, (x3.getD ((x4 : Int).toNat) (dflt .entry)).pages, r5.2⟩ : Entry)) (IntKind.wrap .i64 (x4 + 1))) else none) else none))) else ((spec_l1Cur_one.F r4.1 3).bind fun r9 => bif r9.2 then ((spec_l1Cur_one.F r9.1 3).bind fun r10 => bif r10.2 then (bif decide (0 ≤ x4) then (bif decide (x4 < (x3.length : Int)) then (spec_l1Cur_crossed.l0 k r10.1 x2 (x3.set ((x4 : Int).toNat) (⟨(x3.getD ((x4 : Int).toNat) (dflt .entry)).key, (x3.getD ((x4 : Int).toNat) (dflt .entry)).kind, (x3.getD ((x4 : Int).toNat) (dflt .entry)).authors, ([] : List Name), (x3.getD ((x4 : Int).toNat) (dflt .entry)).title, (⟨#[]⟩ : ByteArray), (⟨#[]⟩ : ByteArray), (⟨0, 0, 0, false⟩ : Date), 0, (x3.getD ((x4 : Int).toNat) (dflt .entry)).pages, (x3.getD ((r4.2 : Int).toNat) (dflt .entry)).key⟩ : Entry)) (IntKind.wrap .i64 (x4 + 1))) else none) else none) else (bif decide (0 ≤ x4) then (bif decide (x4 < (x3.length : Int)) then (spec_l1Cur_crossed.l0 k r10.1 x2 (x3.set ((x4 : Int).toNat) (⟨(x3.getD ((x4 : Int).toNat) (dflt .entry)).key, (x3.getD ((x4 : Int).toNat) (dflt .entry)).kind, (x3.getD ((x4 : Int).toNat) (dflt .entry)).authors, ([] : List Name), (x3.getD ((x4 : Int).toNat) (dflt .entry)).title, (⟨#[]⟩ : ByteArray), (x3.getD ((x4 : Int).toNat) (dflt .entry)).publisher, (x3.getD ((x4 : Int).toNat) (dflt .entry)).date, 0, (x3.getD ((x4 : Int).toNat) (dflt .entry)).pages, (x3.getD ((r4.2 : Int).toNat) (dflt .entry)).key⟩ : Entry)) (IntKind.wrap .i64 (x4 + 1))) else none) else none)) else ((spec_l1Cur_one.F r9.1 3).bind fun r11 => bif r11.2 then (bif decide (0 ≤ x4) then (bif decide (x4 < (x3.length : Int)) then (spec_l1Cur_crossed.l0 k r11.1 x2 (x3.set ((x4 : Int).toNat) (⟨(x3.getD ((x4 : Int).toNat) (dflt .entry)).key, (x3.getD ((x4 : Int).toNat) (dflt .entry)).kind, (x3.getD ((x4 : Int).toNat) (dflt .entry)).authors, (x3.getD ((x4 : Int).toNat) (dflt .entry)).editors, (x3.getD ((x4 : Int).toNat) (dflt .entry)).title, (x3.getD ((x4 : Int).toNat) (dflt .entry)).container, (⟨#[]⟩ : ByteArray), (⟨0, 0, 0, false⟩ : Date), (x3.getD ((x4 : Int).toNat) (dflt .entry)).volume, (x3.getD ((x4 : Int).toNat) (dflt .entry)).pages, (x3.getD ((r4.2 : Int).toNat) (dflt .entry)).key⟩ : Entry)) (IntKind.wrap .i64 (x4 + 1))) else none) else none) else (bif decide (0 ≤ x4) then (bif decide (x4 < (x3.length : Int)) then (spec_l1Cur_crossed.l0 k r11.1 x2 (x3.set ((x4 : Int).toNat) (⟨(x3.getD ((x4 : Int).toNat) (dflt .entry)).key, (x3.getD ((x4 : Int).toNat) (dflt .entry)).kind, (x3.getD ((x4 : Int).toNat) (dflt .entry)).authors, (x3.getD ((x4 : Int).toNat) (dflt .entry)).editors, (x3.getD ((x4 : Int).toNat) (dflt .entry)).title, (x3.getD ((x4 : Int).toNat) (dflt .entry)).container, (x3.getD ((x4 : Int).toNat) (dflt .entry)).publisher, (x3.getD ((x4 : Int).toNat) (dflt .entry)).date, (x3.getD ((x4 : Int).toNat) (dflt .entry)).volume, (x3.getD ((x4 : Int).toNat) (dflt .entry)).pages, (x3.getD ((r4.2 : Int).toNat) (dflt .entry)).key⟩ : Entry)) (IntKind.wrap .i64 (x4 + 1))) else none) else none)))) else none) else none) else (bif (beqS ((x3.getD ((x4 : Int).toNat) (dflt .entry)).cross) ((x3.getD ((x4 : Int).toNat) (dflt .entry)).key)) then ((spec_l1Cur_of.F r3.1 ([(⟨#[]⟩ : ByteArray), (⟨#[110, 111, 116, 104, 101, 114, 101]⟩ : ByteArray)] : List ByteArray)).bind fun r12 => (spec_l1Cur_one.F r12.1 3).bind fun r13 => bif r13.2 then ((spec_l1Cur_one.F r13.1 3).bind fun r14 => bif r14.2 then (bif decide (0 ≤ x4) then (bif decide (x4 < (x3.length : Int)) then (spec_l1Cur_crossed.l0 k r14.1 x2 (x3.set ((x4 : Int).toNat) (⟨(x3.getD ((x4 : Int).toNat) (dflt .entry)).key, (x3.getD ((x4 : Int).toNat) (dflt .entry)).kind, (x3.getD ((x4 : Int).toNat) (dflt .entry)).authors, ([] : List Name), (x3.getD ((x4 : Int).toNat) (dflt .entry)).title, (⟨#[]⟩ : ByteArray), (⟨#[]⟩ : ByteArray), (⟨0, 0, 0, false⟩ : Date), 0, (x3.getD ((x4 : Int).toNat) (dflt .entry)).pages, r12.2⟩ : Entry)) (IntKind.wrap .i64 (x4 + 1))) else none) else none) else (bif decide (0 ≤ x4) then (bif decide (x4 < (x3.length : Int)) then (spec_l1Cur_crossed.l0 k r14.1 x2 (x3.set ((x4 : Int).toNat) (⟨(x3.getD ((x4 : Int).toNat) (dflt .entry)).key, (x3.getD ((x4 : Int).toNat) (dflt .entry)).kind, (x3.getD ((x4 : Int).toNat) (dflt .entry)).authors, ([] : List Name), (x3.getD ((x4 : Int).toNat) (dflt .entry)).title, (⟨#[]⟩ : ByteArray), (x3.getD ((x4 : Int).toNat) (dflt .entry)).publisher, (x3.getD ((x4 : Int).toNat) (dflt .entry)).date, 0, (x3.getD ((x4 : Int).toNat) (dflt .entry)).pages, r12.2⟩ : Entry)) (IntKind.wrap .i64 (x4 + 1))) else none) else none)) else ((spec_l1Cur_one.F r13.1 3).bind fun r15 => bif r15.2 then (bif decide (0 ≤ x4) then (bif decide (x4 < (x3.length : Int)) then (spec_l1Cur_crossed.l0 k r15.1 x2 (x3.set ((x4 : Int).toNat) (⟨(x3.getD ((x4 : Int).toNat) (dflt .entry)).key, (x3.getD ((x4 : Int).toNat) (dflt .entry)).kind, (x3.getD ((x4 : Int).toNat) (dflt .entry)).authors, (x3.getD ((x4 : Int).toNat) (dflt .entry)).editors, (x3.getD ((x4 : Int).toNat) (dflt .entry)).title, (x3.getD ((x4 : Int).toNat) (dflt .entry)).container, (⟨#[]⟩ : ByteArray), (⟨0, 0, 0, false⟩ : Date), (x3.getD ((x4 : Int).toNat) (dflt .entry)).volume, (x3.getD ((x4 : Int).toNat) (dflt .entry)).pages, r12.2⟩ : Entry)) (IntKind.wrap .i64 (x4 + 1))) else none) else none) else (bif decide (0 ≤ x4) then (bif decide (x4 < (x3.length : Int)) then (spec_l1Cur_crossed.l0 k r15.1 x2 (x3.set ((x4 : Int).toNat) (⟨(x3.getD ((x4 : Int).toNat) (dflt .entry)).key, (x3.getD ((x4 : Int).toNat) (dflt .entry)).kind, (x3.getD ((x4 : Int).toNat) (dflt .entry)).authors, (x3.getD ((x4 : Int).toNat) (dflt .entry)).editors, (x3.getD ((x4 : Int).toNat) (dflt .entry)).title, (x3.getD ((x4 : Int).toNat) (dflt .entry)).container, (x3.getD ((x4 : Int).toNat) (dflt .entry)).publisher, (x3.getD ((x4 : Int).toNat) (dflt .entry)).date, (x3.getD ((x4 : Int).toNat) (dflt .entry)).volume, (x3.getD ((x4 : Int).toNat) (dflt .entry)).pages, r12.2⟩ : Entry)) (IntKind.wrap .i64 (x4 + 1))) else none) else none))) else ((spec_l1Cur_one.F r3.1 3).bind fun r16 => bif r16.2 then ((spec_l1Cur_one.F r16.1 3).bind fun r17 => bif r17.2 then (bif decide (0 ≤ x4) then (bif decide (x4 < (x3.length : Int)) then (spec_l1Cur_crossed.l0 k r17.1 x2 (x3.set ((x4 : Int).toNat) (⟨(x3.getD ((x4 : Int).toNat) (dflt .entry)).key, (x3.getD ((x4 : Int).toNat) (dflt .entry)).kind, (x3.getD ((x4 : Int).toNat) (dflt .entry)).authors, ([] : List Name), (x3.getD ((x4 : Int).toNat) (dflt .entry)).title, (⟨#[]⟩ : ByteArray), (⟨#[]⟩ : ByteArray), (⟨0, 0, 0, false⟩ : Date), 0, (x3.getD ((x4 : Int).toNat) (dflt .entry)).pages, (x3.getD ((x4 : Int).toNat) (dflt .entry)).cross⟩ : Entry)) (IntKind.wrap .i64 (x4 + 1))) else none) else none) else (bif decide (0 ≤ x4) then (bif decide (x4 < (x3.length : Int)) then (spec_l1Cur_crossed.l0 k r17.1 x2 (x3.set ((x4 : Int).toNat) (⟨(x3.getD ((x4 : Int).toNat) (dflt .entry)).key, (x3.getD ((x4 : Int).toNat) (dflt .entry)).kind, (x3.getD ((x4 : Int).toNat) (dflt .entry)).authors, ([] : List Name), (x3.getD ((x4 : Int).toNat) (dflt .entry)).title, (⟨#[]⟩ : ByteArray), (x3.getD ((x4 : Int).toNat) (dflt .entry)).publisher, (x3.getD ((x4 : Int).toNat) (dflt .entry)).date, 0, (x3.getD ((x4 : Int).toNat) (dflt .entry)).pages, (x3.getD ((x4 : Int).toNat) (dflt .entry)).cross⟩ : Entry)) (IntKind.wrap .i64 (x4 + 1))) else none) else none)) else ((spec_l1Cur_one.F r16.1 3).bind fun r18 => bif r18.2 then (bif decide (0 ≤ x4) then (bif decide (x4 < (x3.length : Int)) then (spec_l1Cur_crossed.l0 k r18.1 x2 (x3.set ((x4 : Int).toNat) (⟨(x3.getD ((x4 : Int).toNat) (dflt .entry)).key, (x3.getD ((x4 : Int).toNat) (dflt .entry)).kind, (x3.getD ((x4 : Int).toNat) (dflt .entry)).authors, (x3.getD ((x4 : Int).toNat) (dflt .entry)).editors, (x3.getD ((x4 : Int).toNat) (dflt .entry)).title, (x3.getD ((x4 : Int).toNat) (dflt .entry)).container, (⟨#[]⟩ : ByteArray), (⟨0, 0, 0, false⟩ : Date), (x3.getD ((x4 : Int).toNat) (dflt .entry)).volume, (x3.getD ((x4 : Int).toNat) (dflt .entry)).pages, (x3.getD ((x4 : Int).toNat) (dflt .entry)).cross⟩ : Entry)) (IntKind.wrap .i64 (x4 + 1))) else none) else none) else (bif decide (0 ≤ x4) then (bif decide (x4 < (x3.length : Int)) then (spec_l1Cur_crossed.l0 k r18.1 x2 (x3.set ((x4 : Int).toNat) (x3.getD ((x4 : Int).toNat) (dflt .entry))) (IntKind.wrap .i64 (x4 + 1))) else none) else none))))) else none) else none) else (some (x0, x2, x3))
def spec_l1Cur_crossed.F (k : Nat) (a0 : Cur) : Option (Cur × Library) := (spec_l1Cur_anyLibrary.F k a0).bind fun r1 => (spec_l4Good.F k (⟨r1.2.entries⟩ : Library)).bind fun r2 => bif (!r2) then (some (r1.1, (⟨r1.2.entries⟩ : Library))) else ((spec_l1Cur_crossed.l0 k r1.1 ([] : List Entry) r1.2.entries 0).bind fun y19 => some (y19.1, (⟨y19.2.2⟩ : Library)))
def spec_l1Cur_crossed.C (k : Nat) : Cal → Option CArm := fun c => match c with
  | .f 65 => some (.m (.bx .cur) [] _ (fun x0 x => spec_l1Cur_anyLibrary.F k x0) (fun r => .kep (.bx .cur r.1) (sfV 33 .lib r.2)))
  | .f 28 => some (.p [.lib] _ (fun x => spec_l4Good.F k x.1) (fun r => (.t .bool r)))
  | .f 66 => some (.m (.bx .cur) [(.int .i64)] _ (fun x0 x => spec_l1Cur_one.F x0 x.1) (fun r => .kep (.bx .cur r.1) (.t .bool r.2)))
  | .f 67 => some (.m (.bx .cur) [(.int .i64)] _ (fun x0 x => spec_l1Cur_pick.F x0 x.1) (fun r => .kep (.bx .cur r.1) (.t (.int .i64) r.2)))
  | .f 68 => some (.m (.bx .cur) [(.sl .str)] _ (fun x0 x => spec_l1Cur_of.F x0 x.1) (fun r => .kep (.bx .cur r.1) (.t .str r.2)))
  | _ => none
def spec_l1Cur_crossed.sp0 : List Sp := [.boxT 0 1099511627776 .cur, .boxF 2 0 .lib [.t (.sl .entry)], .boxF 3 1032 .lib [.own 1028 33 .entry false true], .t 4 (.int .i64)]
def spec_l1Cur_crossed.sp0_0 : List Sp := [.boxT 0 1099511627776 .cur, .boxF 2 0 .lib [.t (.sl .entry)], .boxF 3 1032 .lib [.own 1028 33 .entry false true]]
def spec_l1Cur_crossed.A0 : LArm := .one spec_l1Cur_crossed.sp0 spec_l1Cur_crossed.sp0_0 (Cur × (List Entry) × (List Entry)) (fun k x => spec_l1Cur_crossed.l0 k x.1 x.2.1.1 x.2.2.1.1 x.2.2.2.1) (.exit 0) (fun y => (y.1, (y.2.1, ()), (y.2.2, ()), ())) (fun x => (x.1, x.2.1.1, x.2.2.1.1))
def spec_l1Cur_crossed.L : Nat → Option LArm := fun b => match b with
  | 0 => some spec_l1Cur_crossed.A0
  | _ => none
theorem spec_l1Cur_crossed.run (k : Nat) (a0 : Cur) : runM envX (tabC (spec_l1Cur_crossed.C k)) (tabL 62 k spec_l1Cur_crossed.L) Tryz.f38 mbase (.bx .cur a0) [] (viewK (.bx .cur) (viewR1 (.t .lib))) = spec_l1Cur_crossed.F k a0 := by kernel_rfl
theorem spec_l1Cur_crossed.step0 (k : Nat) (x0 : Cur) (x2 : List Entry) (x3 : List Entry) (x4 : Int) : runC envX (tabC (spec_l1Cur_crossed.C k)) (tabL 62 k spec_l1Cur_crossed.L) 0 (loopAt Tryz.f38 0) (stOf 62 spec_l1Cur_crossed.sp0 (x0, (x2, ()), (x3, ()), x4, ())) (spec_l1Cur_crossed.A0.cont 62 k) = spec_l1Cur_crossed.l0 (k + 1) x0 x2 x3 x4 := by kernel_rfl
theorem spec_l1Cur_crossed.G (hE : EnvOk Tryz.prog envX) (pv : Nat → Value) (k : Nat) : ∀ cal A, spec_l1Cur_crossed.C k cal = some A → ArmOk Tryz.prog envX pv cal A := by
  intro cal A h
  unfold spec_l1Cur_crossed.C at h
  split at h
  · cases h; exact ⟨_, rfl, fun x0 x y hy => spec_l1Cur_anyLibrary.good hE pv k x0 hy⟩
  · cases h; exact fun x y hy => spec_l4Good.good hE pv k x.1 hy
  · cases h; exact ⟨_, rfl, fun x0 x y hy => spec_l1Cur_one.good hE pv x0 x.1 hy⟩
  · cases h; exact ⟨_, rfl, fun x0 x y hy => spec_l1Cur_pick.good hE pv x0 x.1 hy⟩
  · cases h; exact ⟨_, rfl, fun x0 x y hy => spec_l1Cur_of.good hE pv x0 x.1 hy⟩
  · cases h
theorem spec_l1Cur_crossed.good (hE : EnvOk Tryz.prog envX) (pv : Nat → Value) (k : Nat) (a0 : Cur) {y : _} (h : spec_l1Cur_crossed.F k a0 = some y) : MeetsM Tryz.prog envX pv 38 (.bx .cur a0) (tvals [] (())) (.kep (.bx .cur y.1) (.t .lib y.2)) :=
  funM_loops hE (t := spec_l1Cur_crossed.C) k (fun k _ => spec_l1Cur_crossed.G hE pv k) (f := 38) (fn := Tryz.f38) (by kernel_rfl) rfl (by kernel_rfl) (.inl rfl) (by kernel_rfl) (lt := spec_l1Cur_crossed.L) (by kernel_rfl) (fun b A h => by
    unfold spec_l1Cur_crossed.L at h; split at h
    · cases h; exact ⟨by kernel_rfl, by kernel_rfl, fun _ => rfl, fun _ => rfl⟩
    · cases h) (fun b A h => by
    unfold spec_l1Cur_crossed.L at h; split at h
    · cases h; exact fun k x => spec_l1Cur_crossed.step0 k x.1 x.2.1.1 x.2.2.1.1 x.2.2.2.1
    · cases h) ((spec_l1Cur_crossed.run k a0).trans h) fun r hr => wk_viewK (fun r y h => wk_view1 h) hr
/-! ### 43 (*loop.example/g00896/spec.l1Cur).keyOf -/
def spec_l1Cur_keyOf.F (a0 : Cur) (a1 : Library) : Option (Cur × ByteArray) := bif ((a1.entries.length : Int) == 0) then ((spec_l1Cur_of.F a0 ([(⟨#[97, 49]⟩ : ByteArray), (⟨#[98, 50]⟩ : ByteArray), (⟨#[122, 122]⟩ : ByteArray), (⟨#[]⟩ : ByteArray), (⟨#[65]⟩ : ByteArray)] : List ByteArray)).bind fun r1 => some (r1.1, r1.2)) else ((spec_l1Cur_one.F a0 8).bind fun r2 => bif r2.2 then ((spec_l1Cur_of.F r2.1 ([(⟨#[97, 49]⟩ : ByteArray), (⟨#[98, 50]⟩ : ByteArray), (⟨#[122, 122]⟩ : ByteArray), (⟨#[]⟩ : ByteArray), (⟨#[65]⟩ : ByteArray)] : List ByteArray)).bind fun r3 => some (r3.1, r3.2)) else ((spec_l1Cur_pick.F r2.1 (a1.entries.length : Int)).bind fun r4 => bif decide (0 ≤ r4.2) then (bif decide (r4.2 < (a1.entries.length : Int)) then (some (r4.1, (a1.entries.getD (r4.2 : Int).toNat (dflt .entry)).key)) else none) else none))
def spec_l1Cur_keyOf.C : Cal → Option CArm := fun c => match c with
  | .f 68 => some (.m (.bx .cur) [(.sl .str)] _ (fun x0 x => spec_l1Cur_of.F x0 x.1) (fun r => .kep (.bx .cur r.1) (.t .str r.2)))
  | .f 66 => some (.m (.bx .cur) [(.int .i64)] _ (fun x0 x => spec_l1Cur_one.F x0 x.1) (fun r => .kep (.bx .cur r.1) (.t .bool r.2)))
  | .f 67 => some (.m (.bx .cur) [(.int .i64)] _ (fun x0 x => spec_l1Cur_pick.F x0 x.1) (fun r => .kep (.bx .cur r.1) (.t (.int .i64) r.2)))
  | _ => none
theorem spec_l1Cur_keyOf.run (a0 : Cur) (a1 : Library) : runM envX (tabC spec_l1Cur_keyOf.C) (tabL 26 0 (fun _ => none)) Tryz.f43 mbase (.bx .cur a0) [.t .lib a1] (viewK (.bx .cur) (viewR1 (.t .str))) = spec_l1Cur_keyOf.F a0 a1 := by kernel_rfl
theorem spec_l1Cur_keyOf.G (hE : EnvOk Tryz.prog envX) (pv : Nat → Value) : ∀ cal A, spec_l1Cur_keyOf.C cal = some A → ArmOk Tryz.prog envX pv cal A := by
  intro cal A h
  unfold spec_l1Cur_keyOf.C at h
  split at h
  · cases h; exact ⟨_, rfl, fun x0 x y hy => spec_l1Cur_of.good hE pv x0 x.1 hy⟩
  · cases h; exact ⟨_, rfl, fun x0 x y hy => spec_l1Cur_one.good hE pv x0 x.1 hy⟩
  · cases h; exact ⟨_, rfl, fun x0 x y hy => spec_l1Cur_pick.good hE pv x0 x.1 hy⟩
  · cases h
theorem spec_l1Cur_keyOf.good (hE : EnvOk Tryz.prog envX) (pv : Nat → Value) (a0 : Cur) (a1 : Library) {y : _} (h : spec_l1Cur_keyOf.F a0 a1 = some y) : MeetsM Tryz.prog envX pv 43 (.bx .cur a0) (tvals [.lib] (a1, ())) (.kep (.bx .cur y.1) (.t .str y.2)) :=
  funM_plain hE (spec_l1Cur_keyOf.G hE pv) (f := 43) (fn := Tryz.f43) (by kernel_rfl) rfl (by kernel_rfl) (.inl rfl) (by kernel_rfl) ((spec_l1Cur_keyOf.run a0 a1).trans h) fun r hr => wk_viewK (fun r y h => wk_view1 h) hr
/-! ### 21 loop.example/g00896/spec.DrawParentOf -/
def spec_DrawParentOf.F (k : Nat) (a0 : List Int) : Option (Library × ByteArray) := (spec_l1Cur_crossed.F k (⟨a0, 0, 0⟩ : Cur)).bind fun r1 => (spec_l1Cur_keyOf.F r1.1 r1.2).bind fun r2 => some (r1.2, r2.2)
def spec_DrawParentOf.C (k : Nat) : Cal → Option CArm := fun c => match c with
  | .f 38 => some (.m (.bx .cur) [] _ (fun x0 x => spec_l1Cur_crossed.F k x0) (fun r => .kep (.bx .cur r.1) (.t .lib r.2)))
  | .f 43 => some (.m (.bx .cur) [.lib] _ (fun x0 x => spec_l1Cur_keyOf.F x0 x.1) (fun r => .kep (.bx .cur r.1) (.t .str r.2)))
  | _ => none
theorem spec_DrawParentOf.run (k : Nat) (a0 : List Int) : runF envX (tabC (spec_DrawParentOf.C k)) (tabL 15 0 (fun _ => none)) Tryz.f21 [.t (.sl (.int .u8)) a0] (viewR2 (.t .lib) (.t .str)) = spec_DrawParentOf.F k a0 := by kernel_rfl
theorem spec_DrawParentOf.G (hE : EnvOk Tryz.prog envX) (pv : Nat → Value) (k : Nat) : ∀ cal A, spec_DrawParentOf.C k cal = some A → ArmOk Tryz.prog envX pv cal A := by
  intro cal A h
  unfold spec_DrawParentOf.C at h
  split at h
  · cases h; exact ⟨_, rfl, fun x0 x y hy => spec_l1Cur_crossed.good hE pv k x0 hy⟩
  · cases h; exact ⟨_, rfl, fun x0 x y hy => spec_l1Cur_keyOf.good hE pv x0 x.1 hy⟩
  · cases h
theorem spec_DrawParentOf.good (hE : EnvOk Tryz.prog envX) (pv : Nat → Value) (k : Nat) (a0 : List Int) {y : _} (h : spec_DrawParentOf.F k a0 = some y) : Meets Tryz.prog envX pv (.f 21) (tvals [(.sl (.int .u8))] (a0, ())) (.tup [.t .lib y.1, .t .str y.2]) :=
  fun_plain hE (spec_DrawParentOf.G hE pv k) (f := 21) (fn := Tryz.f21) (by kernel_rfl) rfl (by kernel_rfl) (by kernel_rfl) ((spec_DrawParentOf.run k a0).trans h) fun r hr => wk_view2 hr
/-! ### 5 loop.example/g00896/spec.DrawResolveEntry -/
def spec_DrawResolveEntry.F (k : Nat) (a0 : List Int) : Option (Library × ByteArray) := (spec_DrawParentOf.F k a0).bind fun r1 => some (r1.1, r1.2)
def spec_DrawResolveEntry.C (k : Nat) : Cal → Option CArm := fun c => match c with
  | .f 21 => some (.p [(.sl (.int .u8))] _ (fun x => spec_DrawParentOf.F k x.1) (fun r => (.tup [.t .lib r.1, .t .str r.2])))
  | _ => none
theorem spec_DrawResolveEntry.run (k : Nat) (a0 : List Int) : runF envX (tabC (spec_DrawResolveEntry.C k)) (tabL 8 0 (fun _ => none)) Tryz.f5 [.t (.sl (.int .u8)) a0] (viewR2 (.t .lib) (.t .str)) = spec_DrawResolveEntry.F k a0 := by kernel_rfl
theorem spec_DrawResolveEntry.G (hE : EnvOk Tryz.prog envX) (pv : Nat → Value) (k : Nat) : ∀ cal A, spec_DrawResolveEntry.C k cal = some A → ArmOk Tryz.prog envX pv cal A := by
  intro cal A h
  unfold spec_DrawResolveEntry.C at h
  split at h
  · cases h; exact fun x y hy => spec_DrawParentOf.good hE pv k x.1 hy
  · cases h
theorem spec_DrawResolveEntry.good (hE : EnvOk Tryz.prog envX) (pv : Nat → Value) (k : Nat) (a0 : List Int) {y : _} (h : spec_DrawResolveEntry.F k a0 = some y) : Meets Tryz.prog envX pv (.f 5) (tvals [(.sl (.int .u8))] (a0, ())) (.tup [.t .lib y.1, .t .str y.2]) :=
  fun_plain hE (spec_DrawResolveEntry.G hE pv k) (f := 5) (fn := Tryz.f5) (by kernel_rfl) rfl (by kernel_rfl) (by kernel_rfl) ((spec_DrawResolveEntry.run k a0).trans h) fun r hr => wk_view2 hr
/-! ### 36 loop.example/g00896/impl.inside -/
def impl_inside.F (a0 : Int) (a1 : Int) (a2 : Int) : Option (Bool) := bif (decide (a0 ≥ a1)) then (some (decide (a0 ≤ a2))) else (some false)
def impl_inside.C : Cal → Option CArm := fun c => match c with
  | _ => none
theorem impl_inside.run (a0 : Int) (a1 : Int) (a2 : Int) : runF envX (tabC impl_inside.C) (tabL 15 0 (fun _ => none)) Tryz.f36 [.t (.int .i64) a0, .t (.int .i64) a1, .t (.int .i64) a2] (viewR1 (.t .bool)) = impl_inside.F a0 a1 a2 := by kernel_rfl
theorem impl_inside.G (hE : EnvOk Tryz.prog envX) (pv : Nat → Value) : ∀ cal A, impl_inside.C cal = some A → ArmOk Tryz.prog envX pv cal A := by
  intro cal A h
  unfold impl_inside.C at h
  cases h
theorem impl_inside.good (hE : EnvOk Tryz.prog envX) (pv : Nat → Value) (a0 : Int) (a1 : Int) (a2 : Int) {y : _} (h : impl_inside.F a0 a1 a2 = some y) : Meets Tryz.prog envX pv (.f 36) (tvals [(.int .i64), (.int .i64), (.int .i64)] (a0, a1, a2, ())) (.t .bool y) :=
  fun_plain hE (impl_inside.G hE pv) (f := 36) (fn := Tryz.f36) (by kernel_rfl) rfl (by kernel_rfl) (by kernel_rfl) ((impl_inside.run a0 a1 a2).trans h) fun r hr => wk_view1 hr
/-! ### 58 loop.example/g00896/impl.isLower -/
def impl_isLower.F (a0 : Int) : Option (Bool) := bif (decide (a0 ≥ 97)) then (some (decide (a0 ≤ 122))) else (some false)
def impl_isLower.C : Cal → Option CArm := fun c => match c with
  | _ => none
theorem impl_isLower.run (a0 : Int) : runF envX (tabC impl_isLower.C) (tabL 9 0 (fun _ => none)) Tryz.f58 [.t (.int .u8) a0] (viewR1 (.t .bool)) = impl_isLower.F a0 := by kernel_rfl
theorem impl_isLower.G (hE : EnvOk Tryz.prog envX) (pv : Nat → Value) : ∀ cal A, impl_isLower.C cal = some A → ArmOk Tryz.prog envX pv cal A := by
  intro cal A h
  unfold impl_isLower.C at h
  cases h
theorem impl_isLower.good (hE : EnvOk Tryz.prog envX) (pv : Nat → Value) (a0 : Int) {y : _} (h : impl_isLower.F a0 = some y) : Meets Tryz.prog envX pv (.f 58) (tvals [(.int .u8)] (a0, ())) (.t .bool y) :=
  fun_plain hE (impl_isLower.G hE pv) (f := 58) (fn := Tryz.f58) (by kernel_rfl) rfl (by kernel_rfl) (by kernel_rfl) ((impl_isLower.run a0).trans h) fun r hr => wk_view1 hr
/-! ### 59 loop.example/g00896/impl.isDigit -/
def impl_isDigit.F (a0 : Int) : Option (Bool) := bif (decide (a0 ≥ 48)) then (some (decide (a0 ≤ 57))) else (some false)
def impl_isDigit.C : Cal → Option CArm := fun c => match c with
  | _ => none
theorem impl_isDigit.run (a0 : Int) : runF envX (tabC impl_isDigit.C) (tabL 9 0 (fun _ => none)) Tryz.f59 [.t (.int .u8) a0] (viewR1 (.t .bool)) = impl_isDigit.F a0 := by kernel_rfl
theorem impl_isDigit.G (hE : EnvOk Tryz.prog envX) (pv : Nat → Value) : ∀ cal A, impl_isDigit.C cal = some A → ArmOk Tryz.prog envX pv cal A := by
  intro cal A h
  unfold impl_isDigit.C at h
  cases h
theorem impl_isDigit.good (hE : EnvOk Tryz.prog envX) (pv : Nat → Value) (a0 : Int) {y : _} (h : impl_isDigit.F a0 = some y) : Meets Tryz.prog envX pv (.f 59) (tvals [(.int .u8)] (a0, ())) (.t .bool y) :=
  fun_plain hE (impl_isDigit.G hE pv) (f := 59) (fn := Tryz.f59) (by kernel_rfl) rfl (by kernel_rfl) (by kernel_rfl) ((impl_isDigit.run a0).trans h) fun r hr => wk_view1 hr
/-! ### 32 loop.example/g00896/impl.isKey -/
def impl_isKey.l0 : Nat → ByteArray → Int → Option (Sum Bool Unit)
  | 0, _, _ => none
  | k + 1, x0, x3 => bif (decide (x3 < (x0.size : Int))) then (bif decide (0 ≤ x3) then (bif decide (x3 < (x0.size : Int)) then ((impl_isLower.F (bt x0 (x3 : Int).toNat)).bind fun r3 => bif (!r3) then (bif decide (0 ≤ x3) then (bif decide (x3 < (x0.size : Int)) then ((impl_isDigit.F (bt x0 (x3 : Int).toNat)).bind fun r4 => bif (!r4) then (some (.inl false)) else (impl_isKey.l0 k x0 (IntKind.wrap .i64 (x3 + 1)))) else none) else none) else (impl_isKey.l0 k x0 (IntKind.wrap .i64 (x3 + 1)))) else none) else none) else (some (.inr ()))
def impl_isKey.F (k : Nat) (a0 : ByteArray) : Option (Bool) := (impl_inside.F (a0.size : Int) 1 10).bind fun r1 => bif (!r1) then (some false) else (bif decide (0 ≤ 0) then (bif decide (0 < (a0.size : Int)) then ((impl_isLower.F (bt a0 (0 : Int).toNat)).bind fun r2 => bif (!r2) then (some false) else ((impl_isKey.l0 k a0 0).bind fun y5 => match y5 with | .inl z6 => some z6 | .inr z6 => some true)) else none) else none)
def impl_isKey.C (k : Nat) : Cal → Option CArm := fun c => match c with
  | .f 36 => some (.p [(.int .i64), (.int .i64), (.int .i64)] _ (fun x => impl_inside.F x.1 x.2.1 x.2.2.1) (fun r => (.t .bool r)))
  | .f 58 => some (.p [(.int .u8)] _ (fun x => impl_isLower.F x.1) (fun r => (.t .bool r)))
  | .f 59 => some (.p [(.int .u8)] _ (fun x => impl_isDigit.F x.1) (fun r => (.t .bool r)))
  | _ => none
def impl_isKey.sp0 : List Sp := [.t 0 .str, .t 3 (.int .i64)]
def impl_isKey.sp0_0 : List Sp := [.t 2 .bool]
def impl_isKey.sp0_1 : List Sp := []
def impl_isKey.A0 : LArm := .two impl_isKey.sp0 impl_isKey.sp0_0 impl_isKey.sp0_1 (Bool) (Unit) (fun k x => impl_isKey.l0 k x.1 x.2.1) .ret (.exit 0) (fun y => (y, ())) (fun x => x.1) (fun y => ()) (fun x => ())
def impl_isKey.L : Nat → Option LArm := fun b => match b with
  | 0 => some impl_isKey.A0
  | _ => none
theorem impl_isKey.run (k : Nat) (a0 : ByteArray) : runF envX (tabC (impl_isKey.C k)) (tabL 32 k impl_isKey.L) Tryz.f32 [.t .str a0] (viewR1 (.t .bool)) = impl_isKey.F k a0 := by kernel_rfl
theorem impl_isKey.step0 (k : Nat) (x0 : ByteArray) (x3 : Int) : runC envX (tabC (impl_isKey.C k)) (tabL 32 k impl_isKey.L) 0 (loopAt Tryz.f32 0) (stOf 32 impl_isKey.sp0 (x0, x3, ())) (impl_isKey.A0.cont 32 k) = impl_isKey.l0 (k + 1) x0 x3 := by kernel_rfl
theorem impl_isKey.G (hE : EnvOk Tryz.prog envX) (pv : Nat → Value) (k : Nat) : ∀ cal A, impl_isKey.C k cal = some A → ArmOk Tryz.prog envX pv cal A := by
  intro cal A h
  unfold impl_isKey.C at h
  split at h
  · cases h; exact fun x y hy => impl_inside.good hE pv x.1 x.2.1 x.2.2.1 hy
  · cases h; exact fun x y hy => impl_isLower.good hE pv x.1 hy
  · cases h; exact fun x y hy => impl_isDigit.good hE pv x.1 hy
  · cases h
theorem impl_isKey.good (hE : EnvOk Tryz.prog envX) (pv : Nat → Value) (k : Nat) (a0 : ByteArray) {y : _} (h : impl_isKey.F k a0 = some y) : Meets Tryz.prog envX pv (.f 32) (tvals [.str] (a0, ())) (.t .bool y) :=
  fun_loops hE (t := impl_isKey.C) k (fun k _ => impl_isKey.G hE pv k) (f := 32) (fn := Tryz.f32) (by kernel_rfl) rfl (by kernel_rfl) (by kernel_rfl) (lt := impl_isKey.L) (by kernel_rfl) (fun b A h => by
    unfold impl_isKey.L at h; split at h
    · cases h; exact ⟨by kernel_rfl, by kernel_rfl, by kernel_rfl, fun _ => rfl, fun _ => rfl, fun _ => rfl⟩
    · cases h) (fun b A h => by
    unfold impl_isKey.L at h; split at h
    · cases h; exact fun k x => impl_isKey.step0 k x.1 x.2.1
    · cases h) ((impl_isKey.run k a0).trans h) fun r hr => wk_view1 hr
/-! ### 33 loop.example/g00896/impl.isKind -/
def impl_isKind.F (a0 : Int) : Option (Bool) := (impl_inside.F a0 1 4).bind fun r1 => some r1
def impl_isKind.C : Cal → Option CArm := fun c => match c with
  | .f 36 => some (.p [(.int .i64), (.int .i64), (.int .i64)] _ (fun x => impl_inside.F x.1 x.2.1 x.2.2.1) (fun r => (.t .bool r)))
  | _ => none
theorem impl_isKind.run (a0 : Int) : runF envX (tabC impl_isKind.C) (tabL 5 0 (fun _ => none)) Tryz.f33 [.t (.int .i64) a0] (viewR1 (.t .bool)) = impl_isKind.F a0 := by kernel_rfl
theorem impl_isKind.G (hE : EnvOk Tryz.prog envX) (pv : Nat → Value) : ∀ cal A, impl_isKind.C cal = some A → ArmOk Tryz.prog envX pv cal A := by
  intro cal A h
  unfold impl_isKind.C at h
  split at h
  · cases h; exact fun x y hy => impl_inside.good hE pv x.1 x.2.1 x.2.2.1 hy
  · cases h
theorem impl_isKind.good (hE : EnvOk Tryz.prog envX) (pv : Nat → Value) (a0 : Int) {y : _} (h : impl_isKind.F a0 = some y) : Meets Tryz.prog envX pv (.f 33) (tvals [(.int .i64)] (a0, ())) (.t .bool y) :=
  fun_plain hE (impl_isKind.G hE pv) (f := 33) (fn := Tryz.f33) (by kernel_rfl) rfl (by kernel_rfl) (by kernel_rfl) ((impl_isKind.run a0).trans h) fun r hr => wk_view1 hr
-- NO 90 slices.IndexFunc[[]loop.example/g00896/impl.Name,loop.example/g00896/impl.Name]: a parameter's type
-- NO 60 slices.ContainsFunc[[]loop.example/g00896/impl.Name,loop.example/g00896/impl.Name]: a parameter's type
-- NO 112 slices.IndexFunc[[]string,string]: a parameter's type
-- NO 91 slices.ContainsFunc[[]string,string]: a parameter's type
/-! ### 113 loop.example/g00896/impl.isUpper -/
def impl_isUpper.F (a0 : Int) : Option (Bool) := bif (decide (a0 ≥ 65)) then (some (decide (a0 ≤ 90))) else (some false)
def impl_isUpper.C : Cal → Option CArm := fun c => match c with
  | _ => none
theorem impl_isUpper.run (a0 : Int) : runF envX (tabC impl_isUpper.C) (tabL 9 0 (fun _ => none)) Tryz.f113 [.t (.int .u8) a0] (viewR1 (.t .bool)) = impl_isUpper.F a0 := by kernel_rfl
theorem impl_isUpper.G (hE : EnvOk Tryz.prog envX) (pv : Nat → Value) : ∀ cal A, impl_isUpper.C cal = some A → ArmOk Tryz.prog envX pv cal A := by
  intro cal A h
  unfold impl_isUpper.C at h
  cases h
theorem impl_isUpper.good (hE : EnvOk Tryz.prog envX) (pv : Nat → Value) (a0 : Int) {y : _} (h : impl_isUpper.F a0 = some y) : Meets Tryz.prog envX pv (.f 113) (tvals [(.int .u8)] (a0, ())) (.t .bool y) :=
  fun_plain hE (impl_isUpper.G hE pv) (f := 113) (fn := Tryz.f113) (by kernel_rfl) rfl (by kernel_rfl) (by kernel_rfl) ((impl_isUpper.run a0).trans h) fun r hr => wk_view1 hr
/-! ### 115 loop.example/g00896/impl.isLetter -/
def impl_isLetter.F (a0 : Int) : Option (Bool) := (impl_isUpper.F a0).bind fun r1 => bif r1 then (some true) else ((impl_isLower.F a0).bind fun r2 => some r2)
def impl_isLetter.C : Cal → Option CArm := fun c => match c with
  | .f 113 => some (.p [(.int .u8)] _ (fun x => impl_isUpper.F x.1) (fun r => (.t .bool r)))
  | .f 58 => some (.p [(.int .u8)] _ (fun x => impl_isLower.F x.1) (fun r => (.t .bool r)))
  | _ => none
theorem impl_isLetter.run (a0 : Int) : runF envX (tabC impl_isLetter.C) (tabL 9 0 (fun _ => none)) Tryz.f115 [.t (.int .u8) a0] (viewR1 (.t .bool)) = impl_isLetter.F a0 := by kernel_rfl
theorem impl_isLetter.G (hE : EnvOk Tryz.prog envX) (pv : Nat → Value) : ∀ cal A, impl_isLetter.C cal = some A → ArmOk Tryz.prog envX pv cal A := by
  intro cal A h
  unfold impl_isLetter.C at h
  split at h
  · cases h; exact fun x y hy => impl_isUpper.good hE pv x.1 hy
  · cases h; exact fun x y hy => impl_isLower.good hE pv x.1 hy
  · cases h
theorem impl_isLetter.good (hE : EnvOk Tryz.prog envX) (pv : Nat → Value) (a0 : Int) {y : _} (h : impl_isLetter.F a0 = some y) : Meets Tryz.prog envX pv (.f 115) (tvals [(.int .u8)] (a0, ())) (.t .bool y) :=
  fun_plain hE (impl_isLetter.G hE pv) (f := 115) (fn := Tryz.f115) (by kernel_rfl) rfl (by kernel_rfl) (by kernel_rfl) ((impl_isLetter.run a0).trans h) fun r hr => wk_view1 hr
/-! ### 95 loop.example/g00896/impl.isNameWord -/
def impl_isNameWord.l0 : Nat → ByteArray → Int → Option (Sum Bool Unit)
  | 0, _, _ => none
  | k + 1, x0, x3 => bif (decide (x3 < (x0.size : Int))) then (bif decide (0 ≤ x3) then (bif decide (x3 < (x0.size : Int)) then ((impl_isLetter.F (bt x0 (x3 : Int).toNat)).bind fun r4 => bif (!r4) then (bif decide (0 ≤ x3) then (bif decide (x3 < (x0.size : Int)) then (bif ((bt x0 (x3 : Int).toNat) != 45) then (bif decide (0 ≤ x3) then (bif decide (x3 < (x0.size : Int)) then (bif ((bt x0 (x3 : Int).toNat) != 39) then (some (.inl false)) else (bif decide (0 ≤ (IntKind.wrap .i64 (x3 - 1))) then (bif decide ((IntKind.wrap .i64 (x3 - 1)) < (x0.size : Int)) then ((impl_isLetter.F (bt x0 ((IntKind.wrap .i64 (x3 - 1)) : Int).toNat)).bind fun r5 => bif (!r5) then (some (.inl false)) else (impl_isNameWord.l0 k x0 (IntKind.wrap .i64 (x3 + 1)))) else none) else none)) else none) else none) else (bif decide (0 ≤ (IntKind.wrap .i64 (x3 - 1))) then (bif decide ((IntKind.wrap .i64 (x3 - 1)) < (x0.size : Int)) then ((impl_isLetter.F (bt x0 ((IntKind.wrap .i64 (x3 - 1)) : Int).toNat)).bind fun r6 => bif (!r6) then (some (.inl false)) else (impl_isNameWord.l0 k x0 (IntKind.wrap .i64 (x3 + 1)))) else none) else none)) else none) else none) else (impl_isNameWord.l0 k x0 (IntKind.wrap .i64 (x3 + 1)))) else none) else none) else (some (.inr ()))
def impl_isNameWord.F (k : Nat) (a0 : ByteArray) : Option (Bool) := (impl_inside.F (a0.size : Int) 1 12).bind fun r1 => bif (!r1) then (some false) else (bif decide (0 ≤ (IntKind.wrap .i64 ((a0.size : Int) - 1))) then (bif decide ((IntKind.wrap .i64 ((a0.size : Int) - 1)) < (a0.size : Int)) then ((impl_isLetter.F (bt a0 ((IntKind.wrap .i64 ((a0.size : Int) - 1)) : Int).toNat)).bind fun r2 => bif (!r2) then (some false) else (bif decide (0 ≤ 0) then (bif decide (0 < (a0.size : Int)) then ((impl_isLetter.F (bt a0 (0 : Int).toNat)).bind fun r3 => bif (!r3) then (some false) else ((impl_isNameWord.l0 k a0 0).bind fun y7 => match y7 with | .inl z8 => some z8 | .inr z8 => some true)) else none) else none)) else none) else none)
def impl_isNameWord.C (k : Nat) : Cal → Option CArm := fun c => match c with
  | .f 36 => some (.p [(.int .i64), (.int .i64), (.int .i64)] _ (fun x => impl_inside.F x.1 x.2.1 x.2.2.1) (fun r => (.t .bool r)))
  | .f 115 => some (.p [(.int .u8)] _ (fun x => impl_isLetter.F x.1) (fun r => (.t .bool r)))
  | _ => none
def impl_isNameWord.sp0 : List Sp := [.t 0 .str, .t 3 (.int .i64)]
def impl_isNameWord.sp0_0 : List Sp := [.t 2 .bool]
def impl_isNameWord.sp0_1 : List Sp := []
def impl_isNameWord.A0 : LArm := .two impl_isNameWord.sp0 impl_isNameWord.sp0_0 impl_isNameWord.sp0_1 (Bool) (Unit) (fun k x => impl_isNameWord.l0 k x.1 x.2.1) .ret (.exit 0) (fun y => (y, ())) (fun x => x.1) (fun y => ()) (fun x => ())
def impl_isNameWord.L : Nat → Option LArm := fun b => match b with
  | 0 => some impl_isNameWord.A0
  | _ => none
theorem impl_isNameWord.run (k : Nat) (a0 : ByteArray) : runF envX (tabC (impl_isNameWord.C k)) (tabL 54 k impl_isNameWord.L) Tryz.f95 [.t .str a0] (viewR1 (.t .bool)) = impl_isNameWord.F k a0 := by kernel_rfl
theorem impl_isNameWord.step0 (k : Nat) (x0 : ByteArray) (x3 : Int) : runC envX (tabC (impl_isNameWord.C k)) (tabL 54 k impl_isNameWord.L) 0 (loopAt Tryz.f95 0) (stOf 54 impl_isNameWord.sp0 (x0, x3, ())) (impl_isNameWord.A0.cont 54 k) = impl_isNameWord.l0 (k + 1) x0 x3 := by kernel_rfl
theorem impl_isNameWord.G (hE : EnvOk Tryz.prog envX) (pv : Nat → Value) (k : Nat) : ∀ cal A, impl_isNameWord.C k cal = some A → ArmOk Tryz.prog envX pv cal A := by
  intro cal A h
  unfold impl_isNameWord.C at h
  split at h
  · cases h; exact fun x y hy => impl_inside.good hE pv x.1 x.2.1 x.2.2.1 hy
  · cases h; exact fun x y hy => impl_isLetter.good hE pv x.1 hy
  · cases h
theorem impl_isNameWord.good (hE : EnvOk Tryz.prog envX) (pv : Nat → Value) (k : Nat) (a0 : ByteArray) {y : _} (h : impl_isNameWord.F k a0 = some y) : Meets Tryz.prog envX pv (.f 95) (tvals [.str] (a0, ())) (.t .bool y) :=
  fun_loops hE (t := impl_isNameWord.C) k (fun k _ => impl_isNameWord.G hE pv k) (f := 95) (fn := Tryz.f95) (by kernel_rfl) rfl (by kernel_rfl) (by kernel_rfl) (lt := impl_isNameWord.L) (by kernel_rfl) (fun b A h => by
    unfold impl_isNameWord.L at h; split at h
    · cases h; exact ⟨by kernel_rfl, by kernel_rfl, by kernel_rfl, fun _ => rfl, fun _ => rfl, fun _ => rfl⟩
    · cases h) (fun b A h => by
    unfold impl_isNameWord.L at h; split at h
    · cases h; exact fun k x => impl_isNameWord.step0 k x.1 x.2.1
    · cases h) ((impl_isNameWord.run k a0).trans h) fun r hr => wk_view1 hr
/-! ### 93 loop.example/g00896/impl.isGreatWord -/
def impl_isGreatWord.F (k : Nat) (a0 : ByteArray) : Option (Bool) := (impl_isNameWord.F k a0).bind fun r1 => bif r1 then (bif decide (0 ≤ 0) then (bif decide (0 < (a0.size : Int)) then ((impl_isUpper.F (bt a0 (0 : Int).toNat)).bind fun r2 => some r2) else none) else none) else (some false)
def impl_isGreatWord.C (k : Nat) : Cal → Option CArm := fun c => match c with
  | .f 95 => some (.p [.str] _ (fun x => impl_isNameWord.F k x.1) (fun r => (.t .bool r)))
  | .f 113 => some (.p [(.int .u8)] _ (fun x => impl_isUpper.F x.1) (fun r => (.t .bool r)))
  | _ => none
theorem impl_isGreatWord.run (k : Nat) (a0 : ByteArray) : runF envX (tabC (impl_isGreatWord.C k)) (tabL 10 0 (fun _ => none)) Tryz.f93 [.t .str a0] (viewR1 (.t .bool)) = impl_isGreatWord.F k a0 := by kernel_rfl
theorem impl_isGreatWord.G (hE : EnvOk Tryz.prog envX) (pv : Nat → Value) (k : Nat) : ∀ cal A, impl_isGreatWord.C k cal = some A → ArmOk Tryz.prog envX pv cal A := by
  intro cal A h
  unfold impl_isGreatWord.C at h
  split at h
  · cases h; exact fun x y hy => impl_isNameWord.good hE pv k x.1 hy
  · cases h; exact fun x y hy => impl_isUpper.good hE pv x.1 hy
  · cases h
theorem impl_isGreatWord.good (hE : EnvOk Tryz.prog envX) (pv : Nat → Value) (k : Nat) (a0 : ByteArray) {y : _} (h : impl_isGreatWord.F k a0 = some y) : Meets Tryz.prog envX pv (.f 93) (tvals [.str] (a0, ())) (.t .bool y) :=
  fun_plain hE (impl_isGreatWord.G hE pv k) (f := 93) (fn := Tryz.f93) (by kernel_rfl) rfl (by kernel_rfl) (by kernel_rfl) ((impl_isGreatWord.run k a0).trans h) fun r hr => wk_view1 hr
/-! ### 92 loop.example/g00896/impl.IsValidName$1 -/
def impl_IsValidName_1.F (k : Nat) (a0 : ByteArray) : Option (Bool) := (impl_isGreatWord.F k a0).bind fun r1 => some (!r1)
def impl_IsValidName_1.C (k : Nat) : Cal → Option CArm := fun c => match c with
  | .f 93 => some (.p [.str] _ (fun x => impl_isGreatWord.F k x.1) (fun r => (.t .bool r)))
  | _ => none
theorem impl_IsValidName_1.run (k : Nat) (a0 : ByteArray) : runF envX (tabC (impl_IsValidName_1.C k)) (tabL 6 0 (fun _ => none)) Tryz.f92 [.t .str a0] (viewR1 (.t .bool)) = impl_IsValidName_1.F k a0 := by kernel_rfl
theorem impl_IsValidName_1.G (hE : EnvOk Tryz.prog envX) (pv : Nat → Value) (k : Nat) : ∀ cal A, impl_IsValidName_1.C k cal = some A → ArmOk Tryz.prog envX pv cal A := by
  intro cal A h
  unfold impl_IsValidName_1.C at h
  split at h
  · cases h; exact fun x y hy => impl_isGreatWord.good hE pv k x.1 hy
  · cases h
theorem impl_IsValidName_1.good (hE : EnvOk Tryz.prog envX) (pv : Nat → Value) (k : Nat) (a0 : ByteArray) {y : _} (h : impl_IsValidName_1.F k a0 = some y) : Meets Tryz.prog envX pv (.f 92) (tvals [.str] (a0, ())) (.t .bool y) :=
  fun_plain hE (impl_IsValidName_1.G hE pv k) (f := 92) (fn := Tryz.f92) (by kernel_rfl) rfl (by kernel_rfl) (by kernel_rfl) ((impl_IsValidName_1.run k a0).trans h) fun r hr => wk_view1 hr
/-! ### 114 strings.Split -/
def strings_Split.F (a0 : ByteArray) (a1 : ByteArray) : Option (List ByteArray) := xSplit a0 a1
theorem strings_Split.good (hE : EnvOk Tryz.prog envX) (pv : Nat → Value) (a0 : ByteArray) (a1 : ByteArray) {y : _} (h : strings_Split.F a0 a1 = some y) : Meets Tryz.prog envX pv (.f 114) (tvals [.str, .str] (a0, a1, ())) (.fr 9 .str y) :=
  ext_split (fn := Tryz.f114) (by kernel_rfl) rfl (by kernel_rfl) (mx := 2) (by kernel_rfl) Tryz.strings_Split h
/-! ### 94 loop.example/g00896/impl.isParticle -/
def impl_isParticle.l2 : Nat → (List ByteArray) → ByteArray → Int → Int → Int → Option (Sum Bool ((List ByteArray) × Int × Int))
  | 0, _, _, _, _, _ => none
  | k + 1, x3, x5, x6, x12, x13 => bif (decide (x6 < (x5.size : Int))) then (bif decide (0 ≤ x6) then (bif decide (x6 < (x5.size : Int)) then ((impl_isLower.F (bt x5 (x6 : Int).toNat)).bind fun r3 => bif (!r3) then (some (.inl false)) else (impl_isParticle.l2 k x3 x5 (IntKind.wrap .i64 (x6 + 1)) x12 x13)) else none) else none) else (some (.inr (x3, x12, x13)))
def impl_isParticle.l0 : Nat → (List ByteArray) → Int → Int → Option (Sum Bool (List ByteArray))
  | 0, _, _, _ => none
  | k + 1, x3, x12, x13 => bif (decide (x13 < x12)) then (bif decide (0 ≤ x13) then (bif decide (x13 < (x3.length : Int)) then ((impl_inside.F ((x3.getD ((x13 : Int).toNat) (⟨#[]⟩ : ByteArray)).size : Int) 1 12).bind fun r2 => bif (!r2) then (some (.inl false)) else ((impl_isParticle.l2 k x3 (x3.getD ((x13 : Int).toNat) (⟨#[]⟩ : ByteArray)) 0 x12 x13).bind fun y4 => match y4 with | .inl z5 => some (.inl z5) | .inr z5 => impl_isParticle.l0 k z5.1 z5.2.1 (IntKind.wrap .i64 (z5.2.2 + 1)))) else none) else none) else (some (.inr x3))
def impl_isParticle.F (k : Nat) (a0 : ByteArray) : Option (Bool) := bif (beqS a0 (⟨#[]⟩ : ByteArray)) then (some true) else ((strings_Split.F a0 (⟨#[32]⟩ : ByteArray)).bind fun r1 => (impl_isParticle.l0 k r1 (r1.length : Int) 0).bind fun y6 => match y6 with | .inl z7 => some z7 | .inr z7 => some (decide ((z7.length : Int) ≤ 2)))
def impl_isParticle.C (k : Nat) : Cal → Option CArm := fun c => match c with
  | .f 114 => some (.p [.str, .str] _ (fun x => strings_Split.F x.1 x.2.1) (fun r => (.fr 9 .str r)))
  | .f 36 => some (.p [(.int .i64), (.int .i64), (.int .i64)] _ (fun x => impl_inside.F x.1 x.2.1 x.2.2.1) (fun r => (.t .bool r)))
  | .f 58 => some (.p [(.int .u8)] _ (fun x => impl_isLower.F x.1) (fun r => (.t .bool r)))
  | _ => none
def impl_isParticle.sp2 : List Sp := [.own 3 3076 9 .str false true, .t 5 .str, .t 6 (.int .i64), .con 11 (.own 3076), .t 12 (.int .i64), .t 13 (.int .i64)]
def impl_isParticle.sp2_0 : List Sp := [.t 2 .bool]
def impl_isParticle.sp2_1 : List Sp := [.own 3 3076 9 .str false true, .con 11 (.own 3076), .t 12 (.int .i64), .t 13 (.int .i64)]
def impl_isParticle.A2 : LArm := .two impl_isParticle.sp2 impl_isParticle.sp2_0 impl_isParticle.sp2_1 (Bool) ((List ByteArray) × Int × Int) (fun k x => impl_isParticle.l2 k x.1 x.2.1 x.2.2.1 x.2.2.2.2.1 x.2.2.2.2.2.1) .ret (.exit 2) (fun y => (y, ())) (fun x => x.1) (fun y => (y.1, (), y.2.1, y.2.2, ())) (fun x => (x.1, x.2.2.1, x.2.2.2.1))
def impl_isParticle.sp0 : List Sp := [.own 3 3076 9 .str false true, .con 11 (.own 3076), .t 12 (.int .i64), .t 13 (.int .i64)]
def impl_isParticle.sp0_0 : List Sp := [.t 2 .bool]
def impl_isParticle.sp0_1 : List Sp := [.own 3 3076 9 .str false true]
def impl_isParticle.A0 : LArm := .two impl_isParticle.sp0 impl_isParticle.sp0_0 impl_isParticle.sp0_1 (Bool) ((List ByteArray)) (fun k x => impl_isParticle.l0 k x.1 x.2.2.1 x.2.2.2.1) .ret (.exit 0) (fun y => (y, ())) (fun x => x.1) (fun y => (y, ())) (fun x => x.1)
def impl_isParticle.L : Nat → Option LArm := fun b => match b with
  | 2 => some impl_isParticle.A2
  | 0 => some impl_isParticle.A0
  | _ => none
theorem impl_isParticle.run (k : Nat) (a0 : ByteArray) : runF envX (tabC (impl_isParticle.C k)) (tabL 36 k impl_isParticle.L) Tryz.f94 [.t .str a0] (viewR1 (.t .bool)) = impl_isParticle.F k a0 := by kernel_rfl
theorem impl_isParticle.step2 (k : Nat) (x3 : List ByteArray) (x5 : ByteArray) (x6 : Int) (x12 : Int) (x13 : Int) : runC envX (tabC (impl_isParticle.C k)) (tabL 36 k impl_isParticle.L) 2 (loopAt Tryz.f94 2) (stOf 36 impl_isParticle.sp2 (x3, x5, x6, (), x12, x13, ())) (impl_isParticle.A2.cont 36 k) = impl_isParticle.l2 (k + 1) x3 x5 x6 x12 x13 := by kernel_rfl
theorem impl_isParticle.step0 (k : Nat) (x3 : List ByteArray) (x12 : Int) (x13 : Int) : runC envX (tabC (impl_isParticle.C k)) (tabL 36 k impl_isParticle.L) 0 (loopAt Tryz.f94 0) (stOf 36 impl_isParticle.sp0 (x3, (), x12, x13, ())) (impl_isParticle.A0.cont 36 k) = impl_isParticle.l0 (k + 1) x3 x12 x13 := by kernel_rfl
theorem impl_isParticle.G (hE : EnvOk Tryz.prog envX) (pv : Nat → Value) (k : Nat) : ∀ cal A, impl_isParticle.C k cal = some A → ArmOk Tryz.prog envX pv cal A := by
  intro cal A h
  unfold impl_isParticle.C at h
  split at h
  · cases h; exact fun x y hy => strings_Split.good hE pv x.1 x.2.1 hy
  · cases h; exact fun x y hy => impl_inside.good hE pv x.1 x.2.1 x.2.2.1 hy
  · cases h; exact fun x y hy => impl_isLower.good hE pv x.1 hy
  · cases h
theorem impl_isParticle.good (hE : EnvOk Tryz.prog envX) (pv : Nat → Value) (k : Nat) (a0 : ByteArray) {y : _} (h : impl_isParticle.F k a0 = some y) : Meets Tryz.prog envX pv (.f 94) (tvals [.str] (a0, ())) (.t .bool y) :=
  fun_loops hE (t := impl_isParticle.C) k (fun k _ => impl_isParticle.G hE pv k) (f := 94) (fn := Tryz.f94) (by kernel_rfl) rfl (by kernel_rfl) (by kernel_rfl) (lt := impl_isParticle.L) (by kernel_rfl) (fun b A h => by
    unfold impl_isParticle.L at h; split at h
    · cases h; exact ⟨by kernel_rfl, by kernel_rfl, by kernel_rfl, fun _ => rfl, fun _ => rfl, fun _ => rfl⟩
    · cases h; exact ⟨by kernel_rfl, by kernel_rfl, by kernel_rfl, fun _ => rfl, fun _ => rfl, fun _ => rfl⟩
    · cases h) (fun b A h => by
    unfold impl_isParticle.L at h; split at h
    · cases h; exact fun k x => impl_isParticle.step2 k x.1 x.2.1 x.2.2.1 x.2.2.2.2.1 x.2.2.2.2.2.1
    · cases h; exact fun k x => impl_isParticle.step0 k x.1 x.2.2.1 x.2.2.2.1
    · cases h) ((impl_isParticle.run k a0).trans h) fun r hr => wk_view1 hr
/-! ### 112 slices.IndexFunc[[]string,string] at loop.example/g00896/impl.IsValidName$1 -/
def slices_IndexFunc_string_f92.l0 : Nat → (List ByteArray) → Int → Int → Option (Sum Int Unit)
  | 0, _, _, _ => none
  | k + 1, x0, x7, x8 => bif (decide (x8 < x7)) then (bif decide (0 ≤ x8) then (bif decide (x8 < (x0.length : Int)) then ((impl_IsValidName_1.F k (x0.getD (x8 : Int).toNat (⟨#[]⟩ : ByteArray))).bind fun r1 => bif r1 then (some (.inl x8)) else (slices_IndexFunc_string_f92.l0 k x0 x7 (IntKind.wrap .i64 (x8 + 1)))) else none) else none) else (some (.inr ()))
def slices_IndexFunc_string_f92.F (k : Nat) (a0 : List ByteArray) : Option (Int) := (slices_IndexFunc_string_f92.l0 k a0 (a0.length : Int) 0).bind fun y2 => match y2 with | .inl z3 => some z3 | .inr z3 => some (-1)
def slices_IndexFunc_string_f92.C (k : Nat) : Cal → Option CArm := fun c => match c with
  | .f 92 => some (.p [.str] _ (fun x => impl_IsValidName_1.F k x.1) (fun r => (.t .bool r)))
  | _ => none
def slices_IndexFunc_string_f92.sp0 : List Sp := [.t 0 (.sl .str), .con 1 (.clo 92), .t 7 (.int .i64), .t 8 (.int .i64)]
def slices_IndexFunc_string_f92.sp0_0 : List Sp := [.t 4 (.int .i64)]
def slices_IndexFunc_string_f92.sp0_1 : List Sp := []
def slices_IndexFunc_string_f92.A0 : LArm := .two slices_IndexFunc_string_f92.sp0 slices_IndexFunc_string_f92.sp0_0 slices_IndexFunc_string_f92.sp0_1 (Int) (Unit) (fun k x => slices_IndexFunc_string_f92.l0 k x.1 x.2.2.1 x.2.2.2.1) .ret (.exit 0) (fun y => (y, ())) (fun x => x.1) (fun y => ()) (fun x => ())
def slices_IndexFunc_string_f92.L : Nat → Option LArm := fun b => match b with
  | 0 => some slices_IndexFunc_string_f92.A0
  | _ => none
theorem slices_IndexFunc_string_f92.run (k : Nat) (a0 : List ByteArray) : runF envX (tabC (slices_IndexFunc_string_f92.C k)) (tabL 19 k slices_IndexFunc_string_f92.L) Tryz.f112 [.t (.sl .str) a0, .clo 92 []] (viewR1 (.t (.int .i64))) = slices_IndexFunc_string_f92.F k a0 := by kernel_rfl
theorem slices_IndexFunc_string_f92.step0 (k : Nat) (x0 : List ByteArray) (x7 : Int) (x8 : Int) : runC envX (tabC (slices_IndexFunc_string_f92.C k)) (tabL 19 k slices_IndexFunc_string_f92.L) 0 (loopAt Tryz.f112 0) (stOf 19 slices_IndexFunc_string_f92.sp0 (x0, (), x7, x8, ())) (slices_IndexFunc_string_f92.A0.cont 19 k) = slices_IndexFunc_string_f92.l0 (k + 1) x0 x7 x8 := by kernel_rfl
theorem slices_IndexFunc_string_f92.G (hE : EnvOk Tryz.prog envX) (pv : Nat → Value) (k : Nat) : ∀ cal A, slices_IndexFunc_string_f92.C k cal = some A → ArmOk Tryz.prog envX pv cal A := by
  intro cal A h
  unfold slices_IndexFunc_string_f92.C at h
  split at h
  · cases h; exact fun x y hy => impl_IsValidName_1.good hE pv k x.1 hy
  · cases h
theorem slices_IndexFunc_string_f92.good (hE : EnvOk Tryz.prog envX) (pv : Nat → Value) (k : Nat) (a0 : List ByteArray) {y : _} (h : slices_IndexFunc_string_f92.F k a0 = some y) : Meets Tryz.prog envX pv (.f 112) (pvals [.t (.sl .str), .clo 92 []] (a0, (()), ())) (.t (.int .i64) y) :=
  fun_loops hE (t := slices_IndexFunc_string_f92.C) k (fun k _ => slices_IndexFunc_string_f92.G hE pv k) (f := 112) (fn := Tryz.f112) (by kernel_rfl) rfl (by kernel_rfl) (by kernel_rfl) (lt := slices_IndexFunc_string_f92.L) (by kernel_rfl) (fun b A h => by
    unfold slices_IndexFunc_string_f92.L at h; split at h
    · cases h; exact ⟨by kernel_rfl, by kernel_rfl, by kernel_rfl, fun _ => rfl, fun _ => rfl, fun _ => rfl⟩
    · cases h) (fun b A h => by
    unfold slices_IndexFunc_string_f92.L at h; split at h
    · cases h; exact fun k x => slices_IndexFunc_string_f92.step0 k x.1 x.2.2.1 x.2.2.2.1
    · cases h) ((slices_IndexFunc_string_f92.run k a0).trans h) fun r hr => wk_view1 hr
/-! ### 91 slices.ContainsFunc[[]string,string] at loop.example/g00896/impl.IsValidName$1 -/
def slices_ContainsFunc_string_f92.F (k : Nat) (a0 : List ByteArray) : Option (Bool) := (slices_IndexFunc_string_f92.F k a0).bind fun r1 => some (decide (r1 ≥ 0))
def slices_ContainsFunc_string_f92.C (k : Nat) : Cal → Option CArm := fun c => match c with
  | .f 112 => some (.q [.t (.sl .str), .clo 92 []] _ (fun x => slices_IndexFunc_string_f92.F k x.1) (fun r => (.t (.int .i64) r)))
  | _ => none
theorem slices_ContainsFunc_string_f92.run (k : Nat) (a0 : List ByteArray) : runF envX (tabC (slices_ContainsFunc_string_f92.C k)) (tabL 9 0 (fun _ => none)) Tryz.f91 [.t (.sl .str) a0, .clo 92 []] (viewR1 (.t .bool)) = slices_ContainsFunc_string_f92.F k a0 := by kernel_rfl
theorem slices_ContainsFunc_string_f92.G (hE : EnvOk Tryz.prog envX) (pv : Nat → Value) (k : Nat) : ∀ cal A, slices_ContainsFunc_string_f92.C k cal = some A → ArmOk Tryz.prog envX pv cal A := by
  intro cal A h
  unfold slices_ContainsFunc_string_f92.C at h
  split at h
  · cases h; exact fun x y hy => slices_IndexFunc_string_f92.good hE pv k x.1 hy
  · cases h
theorem slices_ContainsFunc_string_f92.good (hE : EnvOk Tryz.prog envX) (pv : Nat → Value) (k : Nat) (a0 : List ByteArray) {y : _} (h : slices_ContainsFunc_string_f92.F k a0 = some y) : Meets Tryz.prog envX pv (.f 91) (pvals [.t (.sl .str), .clo 92 []] (a0, (()), ())) (.t .bool y) :=
  fun_plain hE (slices_ContainsFunc_string_f92.G hE pv k) (f := 91) (fn := Tryz.f91) (by kernel_rfl) rfl (by kernel_rfl) (by kernel_rfl) ((slices_ContainsFunc_string_f92.run k a0).trans h) fun r hr => wk_view1 hr
/-! ### 62 loop.example/g00896/impl.IsValidName -/
def impl_IsValidName.F (k : Nat) (a0 : Name) : Option (Bool) := bif (decide ((a0.given.length : Int) > 3)) then (some false) else ((slices_ContainsFunc_string_f92.F k a0.given).bind fun r1 => bif r1 then (some false) else ((impl_isParticle.F k a0.particle).bind fun r2 => bif r2 then ((impl_isGreatWord.F k a0.family).bind fun r3 => bif r3 then (bif (beqS a0.suffix (⟨#[]⟩ : ByteArray)) then (some true) else ((impl_isNameWord.F k a0.suffix).bind fun r4 => some r4)) else (some false)) else (some false)))
def impl_IsValidName.C (k : Nat) : Cal → Option CArm := fun c => match c with
  | .f 91 => some (.q [.t (.sl .str), .clo 92 []] _ (fun x => slices_ContainsFunc_string_f92.F k x.1) (fun r => (.t .bool r)))
  | .f 94 => some (.p [.str] _ (fun x => impl_isParticle.F k x.1) (fun r => (.t .bool r)))
  | .f 93 => some (.p [.str] _ (fun x => impl_isGreatWord.F k x.1) (fun r => (.t .bool r)))
  | .f 95 => some (.p [.str] _ (fun x => impl_isNameWord.F k x.1) (fun r => (.t .bool r)))
  | _ => none
theorem impl_IsValidName.run (k : Nat) (a0 : Name) : runF envX (tabC (impl_IsValidName.C k)) (tabL 30 0 (fun _ => none)) Tryz.f62 [.t .name a0] (viewR1 (.t .bool)) = impl_IsValidName.F k a0 := by kernel_rfl
theorem impl_IsValidName.G (hE : EnvOk Tryz.prog envX) (pv : Nat → Value) (k : Nat) : ∀ cal A, impl_IsValidName.C k cal = some A → ArmOk Tryz.prog envX pv cal A := by
  intro cal A h
  unfold impl_IsValidName.C at h
  split at h
  · cases h; exact fun x y hy => slices_ContainsFunc_string_f92.good hE pv k x.1 hy
  · cases h; exact fun x y hy => impl_isParticle.good hE pv k x.1 hy
  · cases h; exact fun x y hy => impl_isGreatWord.good hE pv k x.1 hy
  · cases h; exact fun x y hy => impl_isNameWord.good hE pv k x.1 hy
  · cases h
theorem impl_IsValidName.good (hE : EnvOk Tryz.prog envX) (pv : Nat → Value) (k : Nat) (a0 : Name) {y : _} (h : impl_IsValidName.F k a0 = some y) : Meets Tryz.prog envX pv (.f 62) (tvals [.name] (a0, ())) (.t .bool y) :=
  fun_plain hE (impl_IsValidName.G hE pv k) (f := 62) (fn := Tryz.f62) (by kernel_rfl) rfl (by kernel_rfl) (by kernel_rfl) ((impl_IsValidName.run k a0).trans h) fun r hr => wk_view1 hr
/-! ### 61 loop.example/g00896/impl.areNames$1 -/
def impl_areNames_1.F (k : Nat) (a0 : Name) : Option (Bool) := (impl_IsValidName.F k a0).bind fun r1 => some (!r1)
def impl_areNames_1.C (k : Nat) : Cal → Option CArm := fun c => match c with
  | .f 62 => some (.p [.name] _ (fun x => impl_IsValidName.F k x.1) (fun r => (.t .bool r)))
  | _ => none
theorem impl_areNames_1.run (k : Nat) (a0 : Name) : runF envX (tabC (impl_areNames_1.C k)) (tabL 6 0 (fun _ => none)) Tryz.f61 [.t .name a0] (viewR1 (.t .bool)) = impl_areNames_1.F k a0 := by kernel_rfl
theorem impl_areNames_1.G (hE : EnvOk Tryz.prog envX) (pv : Nat → Value) (k : Nat) : ∀ cal A, impl_areNames_1.C k cal = some A → ArmOk Tryz.prog envX pv cal A := by
  intro cal A h
  unfold impl_areNames_1.C at h
  split at h
  · cases h; exact fun x y hy => impl_IsValidName.good hE pv k x.1 hy
  · cases h
theorem impl_areNames_1.good (hE : EnvOk Tryz.prog envX) (pv : Nat → Value) (k : Nat) (a0 : Name) {y : _} (h : impl_areNames_1.F k a0 = some y) : Meets Tryz.prog envX pv (.f 61) (tvals [.name] (a0, ())) (.t .bool y) :=
  fun_plain hE (impl_areNames_1.G hE pv k) (f := 61) (fn := Tryz.f61) (by kernel_rfl) rfl (by kernel_rfl) (by kernel_rfl) ((impl_areNames_1.run k a0).trans h) fun r hr => wk_view1 hr
/-! ### 90 slices.IndexFunc[[]loop.example/g00896/impl.Name,loop.example/g00896/impl.Name] at loop.example/g00896/impl.areNames$1 -/
def slices_IndexFunc_Name_f61.l0 : Nat → (List Name) → Int → Int → Option (Sum Int Unit)
  | 0, _, _, _ => none
  | k + 1, x0, x7, x8 => bif (decide (x8 < x7)) then (bif decide (0 ≤ x8) then (bif decide (x8 < (x0.length : Int)) then ((impl_areNames_1.F k (x0.getD (x8 : Int).toNat (dflt .name))).bind fun r1 => bif r1 then (some (.inl x8)) else (slices_IndexFunc_Name_f61.l0 k x0 x7 (IntKind.wrap .i64 (x8 + 1)))) else none) else none) else (some (.inr ()))
def slices_IndexFunc_Name_f61.F (k : Nat) (a0 : List Name) : Option (Int) := (slices_IndexFunc_Name_f61.l0 k a0 (a0.length : Int) 0).bind fun y2 => match y2 with | .inl z3 => some z3 | .inr z3 => some (-1)
def slices_IndexFunc_Name_f61.C (k : Nat) : Cal → Option CArm := fun c => match c with
  | .f 61 => some (.p [.name] _ (fun x => impl_areNames_1.F k x.1) (fun r => (.t .bool r)))
  | _ => none
def slices_IndexFunc_Name_f61.sp0 : List Sp := [.t 0 (.sl .name), .con 1 (.clo 61), .t 7 (.int .i64), .t 8 (.int .i64)]
def slices_IndexFunc_Name_f61.sp0_0 : List Sp := [.t 4 (.int .i64)]
def slices_IndexFunc_Name_f61.sp0_1 : List Sp := []
def slices_IndexFunc_Name_f61.A0 : LArm := .two slices_IndexFunc_Name_f61.sp0 slices_IndexFunc_Name_f61.sp0_0 slices_IndexFunc_Name_f61.sp0_1 (Int) (Unit) (fun k x => slices_IndexFunc_Name_f61.l0 k x.1 x.2.2.1 x.2.2.2.1) .ret (.exit 0) (fun y => (y, ())) (fun x => x.1) (fun y => ()) (fun x => ())
def slices_IndexFunc_Name_f61.L : Nat → Option LArm := fun b => match b with
  | 0 => some slices_IndexFunc_Name_f61.A0
  | _ => none
theorem slices_IndexFunc_Name_f61.run (k : Nat) (a0 : List Name) : runF envX (tabC (slices_IndexFunc_Name_f61.C k)) (tabL 19 k slices_IndexFunc_Name_f61.L) Tryz.f90 [.t (.sl .name) a0, .clo 61 []] (viewR1 (.t (.int .i64))) = slices_IndexFunc_Name_f61.F k a0 := by kernel_rfl
theorem slices_IndexFunc_Name_f61.step0 (k : Nat) (x0 : List Name) (x7 : Int) (x8 : Int) : runC envX (tabC (slices_IndexFunc_Name_f61.C k)) (tabL 19 k slices_IndexFunc_Name_f61.L) 0 (loopAt Tryz.f90 0) (stOf 19 slices_IndexFunc_Name_f61.sp0 (x0, (), x7, x8, ())) (slices_IndexFunc_Name_f61.A0.cont 19 k) = slices_IndexFunc_Name_f61.l0 (k + 1) x0 x7 x8 := by kernel_rfl
theorem slices_IndexFunc_Name_f61.G (hE : EnvOk Tryz.prog envX) (pv : Nat → Value) (k : Nat) : ∀ cal A, slices_IndexFunc_Name_f61.C k cal = some A → ArmOk Tryz.prog envX pv cal A := by
  intro cal A h
  unfold slices_IndexFunc_Name_f61.C at h
  split at h
  · cases h; exact fun x y hy => impl_areNames_1.good hE pv k x.1 hy
  · cases h
theorem slices_IndexFunc_Name_f61.good (hE : EnvOk Tryz.prog envX) (pv : Nat → Value) (k : Nat) (a0 : List Name) {y : _} (h : slices_IndexFunc_Name_f61.F k a0 = some y) : Meets Tryz.prog envX pv (.f 90) (pvals [.t (.sl .name), .clo 61 []] (a0, (()), ())) (.t (.int .i64) y) :=
  fun_loops hE (t := slices_IndexFunc_Name_f61.C) k (fun k _ => slices_IndexFunc_Name_f61.G hE pv k) (f := 90) (fn := Tryz.f90) (by kernel_rfl) rfl (by kernel_rfl) (by kernel_rfl) (lt := slices_IndexFunc_Name_f61.L) (by kernel_rfl) (fun b A h => by
    unfold slices_IndexFunc_Name_f61.L at h; split at h
    · cases h; exact ⟨by kernel_rfl, by kernel_rfl, by kernel_rfl, fun _ => rfl, fun _ => rfl, fun _ => rfl⟩
    · cases h) (fun b A h => by
    unfold slices_IndexFunc_Name_f61.L at h; split at h
    · cases h; exact fun k x => slices_IndexFunc_Name_f61.step0 k x.1 x.2.2.1 x.2.2.2.1
    · cases h) ((slices_IndexFunc_Name_f61.run k a0).trans h) fun r hr => wk_view1 hr
/-! ### 60 slices.ContainsFunc[[]loop.example/g00896/impl.Name,loop.example/g00896/impl.Name] at loop.example/g00896/impl.areNames$1 -/
def slices_ContainsFunc_Name_f61.F (k : Nat) (a0 : List Name) : Option (Bool) := (slices_IndexFunc_Name_f61.F k a0).bind fun r1 => some (decide (r1 ≥ 0))
def slices_ContainsFunc_Name_f61.C (k : Nat) : Cal → Option CArm := fun c => match c with
  | .f 90 => some (.q [.t (.sl .name), .clo 61 []] _ (fun x => slices_IndexFunc_Name_f61.F k x.1) (fun r => (.t (.int .i64) r)))
  | _ => none
theorem slices_ContainsFunc_Name_f61.run (k : Nat) (a0 : List Name) : runF envX (tabC (slices_ContainsFunc_Name_f61.C k)) (tabL 9 0 (fun _ => none)) Tryz.f60 [.t (.sl .name) a0, .clo 61 []] (viewR1 (.t .bool)) = slices_ContainsFunc_Name_f61.F k a0 := by kernel_rfl
theorem slices_ContainsFunc_Name_f61.G (hE : EnvOk Tryz.prog envX) (pv : Nat → Value) (k : Nat) : ∀ cal A, slices_ContainsFunc_Name_f61.C k cal = some A → ArmOk Tryz.prog envX pv cal A := by
  intro cal A h
  unfold slices_ContainsFunc_Name_f61.C at h
  split at h
  · cases h; exact fun x y hy => slices_IndexFunc_Name_f61.good hE pv k x.1 hy
  · cases h
theorem slices_ContainsFunc_Name_f61.good (hE : EnvOk Tryz.prog envX) (pv : Nat → Value) (k : Nat) (a0 : List Name) {y : _} (h : slices_ContainsFunc_Name_f61.F k a0 = some y) : Meets Tryz.prog envX pv (.f 60) (pvals [.t (.sl .name), .clo 61 []] (a0, (()), ())) (.t .bool y) :=
  fun_plain hE (slices_ContainsFunc_Name_f61.G hE pv k) (f := 60) (fn := Tryz.f60) (by kernel_rfl) rfl (by kernel_rfl) (by kernel_rfl) ((slices_ContainsFunc_Name_f61.run k a0).trans h) fun r hr => wk_view1 hr
/-! ### 34 loop.example/g00896/impl.areNames -/
def impl_areNames.F (k : Nat) (a0 : List Name) : Option (Bool) := bif (decide ((a0.length : Int) ≤ 4)) then ((slices_ContainsFunc_Name_f61.F k a0).bind fun r1 => some (!r1)) else (some false)
def impl_areNames.C (k : Nat) : Cal → Option CArm := fun c => match c with
  | .f 60 => some (.q [.t (.sl .name), .clo 61 []] _ (fun x => slices_ContainsFunc_Name_f61.F k x.1) (fun r => (.t .bool r)))
  | _ => none
theorem impl_areNames.run (k : Nat) (a0 : List Name) : runF envX (tabC (impl_areNames.C k)) (tabL 11 0 (fun _ => none)) Tryz.f34 [.t (.sl .name) a0] (viewR1 (.t .bool)) = impl_areNames.F k a0 := by kernel_rfl
theorem impl_areNames.G (hE : EnvOk Tryz.prog envX) (pv : Nat → Value) (k : Nat) : ∀ cal A, impl_areNames.C k cal = some A → ArmOk Tryz.prog envX pv cal A := by
  intro cal A h
  unfold impl_areNames.C at h
  split at h
  · cases h; exact fun x y hy => slices_ContainsFunc_Name_f61.good hE pv k x.1 hy
  · cases h
theorem impl_areNames.good (hE : EnvOk Tryz.prog envX) (pv : Nat → Value) (k : Nat) (a0 : List Name) {y : _} (h : impl_areNames.F k a0 = some y) : Meets Tryz.prog envX pv (.f 34) (tvals [(.sl .name)] (a0, ())) (.t .bool y) :=
  fun_plain hE (impl_areNames.G hE pv k) (f := 34) (fn := Tryz.f34) (by kernel_rfl) rfl (by kernel_rfl) (by kernel_rfl) ((impl_areNames.run k a0).trans h) fun r hr => wk_view1 hr
/-! ### 63 loop.example/g00896/impl.daysInMonth -/
def impl_daysInMonth.F (a0 : Int) (a1 : Int) : Option (Int) := bif (a1 == 2) then (bif (4 == 0) then (none) else (bif ((Int.tmod a0 4) == 0) then (bif (100 == 0) then (none) else (bif ((Int.tmod a0 100) != 0) then (some 29) else (bif (400 == 0) then (none) else (bif ((Int.tmod a0 400) == 0) then (some 29) else (some 28))))) else (some 28))) else (bif (a1 == 4) then (bif (a1 == 4) then (some 30) else (some 31)) else (bif (a1 == 6) then (bif (a1 == 6) then (some 30) else (some 31)) else (bif (a1 == 9) then (bif (a1 == 9) then (some 30) else (some 31)) else (bif (a1 == 11) then (some 30) else (some 31)))))
def impl_daysInMonth.C : Cal → Option CArm := fun c => match c with
  | _ => none
theorem impl_daysInMonth.run (a0 : Int) (a1 : Int) : runF envX (tabC impl_daysInMonth.C) (tabL 26 0 (fun _ => none)) Tryz.f63 [.t (.int .i64) a0, .t (.int .i64) a1] (viewR1 (.t (.int .i64))) = impl_daysInMonth.F a0 a1 := by kernel_rfl
theorem impl_daysInMonth.G (hE : EnvOk Tryz.prog envX) (pv : Nat → Value) : ∀ cal A, impl_daysInMonth.C cal = some A → ArmOk Tryz.prog envX pv cal A := by
  intro cal A h
  unfold impl_daysInMonth.C at h
  cases h
theorem impl_daysInMonth.good (hE : EnvOk Tryz.prog envX) (pv : Nat → Value) (a0 : Int) (a1 : Int) {y : _} (h : impl_daysInMonth.F a0 a1 = some y) : Meets Tryz.prog envX pv (.f 63) (tvals [(.int .i64), (.int .i64)] (a0, a1, ())) (.t (.int .i64) y) :=
  fun_plain hE (impl_daysInMonth.G hE pv) (f := 63) (fn := Tryz.f63) (by kernel_rfl) rfl (by kernel_rfl) (by kernel_rfl) ((impl_daysInMonth.run a0 a1).trans h) fun r hr => wk_view1 hr
/-! ### 35 loop.example/g00896/impl.IsValidDate -/
def impl_IsValidDate.F (a0 : Date) : Option (Bool) := bif ((a0.y == 0 && (a0.m == 0 && (a0.d == 0 && a0.c == false)))) then (some true) else ((impl_inside.F a0.y 1 2999).bind fun r1 => bif (!r1) then (some false) else ((impl_inside.F a0.m 0 12).bind fun r2 => bif (!r2) then (some false) else (bif a0.c then (bif (a0.m != 0) then (some false) else (bif (a0.m == 0) then (some (a0.d == 0)) else ((impl_daysInMonth.F a0.y a0.m).bind fun r3 => (impl_inside.F a0.d 0 r3).bind fun r4 => some r4))) else (bif (a0.m == 0) then (some (a0.d == 0)) else ((impl_daysInMonth.F a0.y a0.m).bind fun r5 => (impl_inside.F a0.d 0 r5).bind fun r6 => some r6)))))
def impl_IsValidDate.C : Cal → Option CArm := fun c => match c with
  | .f 36 => some (.p [(.int .i64), (.int .i64), (.int .i64)] _ (fun x => impl_inside.F x.1 x.2.1 x.2.2.1) (fun r => (.t .bool r)))
  | .f 63 => some (.p [(.int .i64), (.int .i64)] _ (fun x => impl_daysInMonth.F x.1 x.2.1) (fun r => (.t (.int .i64) r)))
  | _ => none
theorem impl_IsValidDate.run (a0 : Date) : runF envX (tabC impl_IsValidDate.C) (tabL 39 0 (fun _ => none)) Tryz.f35 [.t .date a0] (viewR1 (.t .bool)) = impl_IsValidDate.F a0 := by kernel_rfl
theorem impl_IsValidDate.G (hE : EnvOk Tryz.prog envX) (pv : Nat → Value) : ∀ cal A, impl_IsValidDate.C cal = some A → ArmOk Tryz.prog envX pv cal A := by
  intro cal A h
  unfold impl_IsValidDate.C at h
  split at h
  · cases h; exact fun x y hy => impl_inside.good hE pv x.1 x.2.1 x.2.2.1 hy
  · cases h; exact fun x y hy => impl_daysInMonth.good hE pv x.1 x.2.1 hy
  · cases h
theorem impl_IsValidDate.good (hE : EnvOk Tryz.prog envX) (pv : Nat → Value) (a0 : Date) {y : _} (h : impl_IsValidDate.F a0 = some y) : Meets Tryz.prog envX pv (.f 35) (tvals [.date] (a0, ())) (.t .bool y) :=
  fun_plain hE (impl_IsValidDate.G hE pv) (f := 35) (fn := Tryz.f35) (by kernel_rfl) rfl (by kernel_rfl) (by kernel_rfl) ((impl_IsValidDate.run a0).trans h) fun r hr => wk_view1 hr
/-! ### 96 strings.Trim -/
def strings_Trim.F (a0 : ByteArray) (a1 : ByteArray) : Option (ByteArray) := xTrim1 a0 a1
theorem strings_Trim.good (hE : EnvOk Tryz.prog envX) (pv : Nat → Value) (a0 : ByteArray) (a1 : ByteArray) {y : _} (h : strings_Trim.F a0 a1 = some y) : Meets Tryz.prog envX pv (.f 96) (tvals [.str, .str] (a0, a1, ())) (.t .str y) :=
  ext_trim1 (fn := Tryz.f96) (by kernel_rfl) rfl (by kernel_rfl) Tryz.strings_Trim_one h
/-! ### 64 loop.example/g00896/impl.isPrintable -/
def impl_isPrintable.l0 : Nat → ByteArray → Int → Option (Sum Bool ByteArray)
  | 0, _, _ => none
  | k + 1, x0, x3 => bif (decide (x3 < (x0.size : Int))) then (bif decide (0 ≤ x3) then (bif decide (x3 < (x0.size : Int)) then (bif (decide ((bt x0 (x3 : Int).toNat) < 32)) then (some (.inl false)) else (bif decide (0 ≤ x3) then (bif decide (x3 < (x0.size : Int)) then (bif (decide ((bt x0 (x3 : Int).toNat) > 126)) then (some (.inl false)) else (impl_isPrintable.l0 k x0 (IntKind.wrap .i64 (x3 + 1)))) else none) else none)) else none) else none) else (some (.inr x0))
def impl_isPrintable.F (k : Nat) (a0 : ByteArray) : Option (Bool) := (impl_isPrintable.l0 k a0 0).bind fun y1 => match y1 with | .inl z2 => some z2 | .inr z2 => (strings_Trim.F z2 (⟨#[32]⟩ : ByteArray)).bind fun r3 => some (beqS r3 z2)
def impl_isPrintable.C (k : Nat) : Cal → Option CArm := fun c => match c with
  | .f 96 => some (.p [.str, .str] _ (fun x => strings_Trim.F x.1 x.2.1) (fun r => (.t .str r)))
  | _ => none
def impl_isPrintable.sp0 : List Sp := [.t 0 .str, .t 3 (.int .i64)]
def impl_isPrintable.sp0_0 : List Sp := [.t 2 .bool]
def impl_isPrintable.sp0_1 : List Sp := [.t 0 .str]
def impl_isPrintable.A0 : LArm := .two impl_isPrintable.sp0 impl_isPrintable.sp0_0 impl_isPrintable.sp0_1 (Bool) (ByteArray) (fun k x => impl_isPrintable.l0 k x.1 x.2.1) .ret (.exit 0) (fun y => (y, ())) (fun x => x.1) (fun y => (y, ())) (fun x => x.1)
def impl_isPrintable.L : Nat → Option LArm := fun b => match b with
  | 0 => some impl_isPrintable.A0
  | _ => none
theorem impl_isPrintable.run (k : Nat) (a0 : ByteArray) : runF envX (tabC (impl_isPrintable.C k)) (tabL 24 k impl_isPrintable.L) Tryz.f64 [.t .str a0] (viewR1 (.t .bool)) = impl_isPrintable.F k a0 := by kernel_rfl
theorem impl_isPrintable.step0 (k : Nat) (x0 : ByteArray) (x3 : Int) : runC envX (tabC (impl_isPrintable.C k)) (tabL 24 k impl_isPrintable.L) 0 (loopAt Tryz.f64 0) (stOf 24 impl_isPrintable.sp0 (x0, x3, ())) (impl_isPrintable.A0.cont 24 k) = impl_isPrintable.l0 (k + 1) x0 x3 := by kernel_rfl
theorem impl_isPrintable.G (hE : EnvOk Tryz.prog envX) (pv : Nat → Value) (k : Nat) : ∀ cal A, impl_isPrintable.C k cal = some A → ArmOk Tryz.prog envX pv cal A := by
  intro cal A h
  unfold impl_isPrintable.C at h
  split at h
  · cases h; exact fun x y hy => strings_Trim.good hE pv x.1 x.2.1 hy
  · cases h
theorem impl_isPrintable.good (hE : EnvOk Tryz.prog envX) (pv : Nat → Value) (k : Nat) (a0 : ByteArray) {y : _} (h : impl_isPrintable.F k a0 = some y) : Meets Tryz.prog envX pv (.f 64) (tvals [.str] (a0, ())) (.t .bool y) :=
  fun_loops hE (t := impl_isPrintable.C) k (fun k _ => impl_isPrintable.G hE pv k) (f := 64) (fn := Tryz.f64) (by kernel_rfl) rfl (by kernel_rfl) (by kernel_rfl) (lt := impl_isPrintable.L) (by kernel_rfl) (fun b A h => by
    unfold impl_isPrintable.L at h; split at h
    · cases h; exact ⟨by kernel_rfl, by kernel_rfl, by kernel_rfl, fun _ => rfl, fun _ => rfl, fun _ => rfl⟩
    · cases h) (fun b A h => by
    unfold impl_isPrintable.L at h; split at h
    · cases h; exact fun k x => impl_isPrintable.step0 k x.1 x.2.1
    · cases h) ((impl_isPrintable.run k a0).trans h) fun r hr => wk_view1 hr
/-! ### 37 loop.example/g00896/impl.isText -/
def impl_isText.F (k : Nat) (a0 : ByteArray) : Option (Bool) := bif (decide ((a0.size : Int) ≤ 40)) then ((impl_isPrintable.F k a0).bind fun r1 => some r1) else (some false)
def impl_isText.C (k : Nat) : Cal → Option CArm := fun c => match c with
  | .f 64 => some (.p [.str] _ (fun x => impl_isPrintable.F k x.1) (fun r => (.t .bool r)))
  | _ => none
theorem impl_isText.run (k : Nat) (a0 : ByteArray) : runF envX (tabC (impl_isText.C k)) (tabL 10 0 (fun _ => none)) Tryz.f37 [.t .str a0] (viewR1 (.t .bool)) = impl_isText.F k a0 := by kernel_rfl
theorem impl_isText.G (hE : EnvOk Tryz.prog envX) (pv : Nat → Value) (k : Nat) : ∀ cal A, impl_isText.C k cal = some A → ArmOk Tryz.prog envX pv cal A := by
  intro cal A h
  unfold impl_isText.C at h
  split at h
  · cases h; exact fun x y hy => impl_isPrintable.good hE pv k x.1 hy
  · cases h
theorem impl_isText.good (hE : EnvOk Tryz.prog envX) (pv : Nat → Value) (k : Nat) (a0 : ByteArray) {y : _} (h : impl_isText.F k a0 = some y) : Meets Tryz.prog envX pv (.f 37) (tvals [.str] (a0, ())) (.t .bool y) :=
  fun_plain hE (impl_isText.G hE pv k) (f := 37) (fn := Tryz.f37) (by kernel_rfl) rfl (by kernel_rfl) (by kernel_rfl) ((impl_isText.run k a0).trans h) fun r hr => wk_view1 hr
/-! ### 14 loop.example/g00896/impl.IsValidEntry -/
def impl_IsValidEntry.F (k : Nat) (a0 : Entry) : Option (Bool) := (impl_isKey.F k a0.key).bind fun r1 => bif (!r1) then (some false) else ((impl_isKind.F a0.kind).bind fun r2 => bif (!r2) then (some false) else ((impl_areNames.F k a0.authors).bind fun r3 => bif (!r3) then (some false) else ((impl_areNames.F k a0.editors).bind fun r4 => bif (!r4) then (some false) else ((impl_IsValidDate.F a0.date).bind fun r5 => bif (!r5) then (some false) else ((impl_inside.F a0.volume 0 9999).bind fun r6 => bif (!r6) then (some false) else ((impl_isText.F k a0.title).bind fun r7 => bif r7 then ((impl_isText.F k a0.container).bind fun r8 => bif r8 then ((impl_isText.F k a0.publisher).bind fun r9 => bif r9 then ((impl_isText.F k a0.pages).bind fun r10 => bif r10 then (bif (beqS a0.cross (⟨#[]⟩ : ByteArray)) then (some true) else ((impl_isKey.F k a0.cross).bind fun r11 => bif r11 then (some (!beqS a0.cross a0.key)) else (some false))) else (some false)) else (some false)) else (some false)) else (some false)))))))
def impl_IsValidEntry.C (k : Nat) : Cal → Option CArm := fun c => match c with
  | .f 32 => some (.p [.str] _ (fun x => impl_isKey.F k x.1) (fun r => (.t .bool r)))
  | .f 33 => some (.p [(.int .i64)] _ (fun x => impl_isKind.F x.1) (fun r => (.t .bool r)))
  | .f 34 => some (.p [(.sl .name)] _ (fun x => impl_areNames.F k x.1) (fun r => (.t .bool r)))
  | .f 35 => some (.p [.date] _ (fun x => impl_IsValidDate.F x.1) (fun r => (.t .bool r)))
  | .f 36 => some (.p [(.int .i64), (.int .i64), (.int .i64)] _ (fun x => impl_inside.F x.1 x.2.1 x.2.2.1) (fun r => (.t .bool r)))
  | .f 37 => some (.p [.str] _ (fun x => impl_isText.F k x.1) (fun r => (.t .bool r)))
  | _ => none
theorem impl_IsValidEntry.run (k : Nat) (a0 : Entry) : runF envX (tabC (impl_IsValidEntry.C k)) (tabL 72 0 (fun _ => none)) Tryz.f14 [.t .entry a0] (viewR1 (.t .bool)) = impl_IsValidEntry.F k a0 := by kernel_rfl
theorem impl_IsValidEntry.G (hE : EnvOk Tryz.prog envX) (pv : Nat → Value) (k : Nat) : ∀ cal A, impl_IsValidEntry.C k cal = some A → ArmOk Tryz.prog envX pv cal A := by
  intro cal A h
  unfold impl_IsValidEntry.C at h
  split at h
  · cases h; exact fun x y hy => impl_isKey.good hE pv k x.1 hy
  · cases h; exact fun x y hy => impl_isKind.good hE pv x.1 hy
  · cases h; exact fun x y hy => impl_areNames.good hE pv k x.1 hy
  · cases h; exact fun x y hy => impl_IsValidDate.good hE pv x.1 hy
  · cases h; exact fun x y hy => impl_inside.good hE pv x.1 x.2.1 x.2.2.1 hy
  · cases h; exact fun x y hy => impl_isText.good hE pv k x.1 hy
  · cases h
theorem impl_IsValidEntry.good (hE : EnvOk Tryz.prog envX) (pv : Nat → Value) (k : Nat) (a0 : Entry) {y : _} (h : impl_IsValidEntry.F k a0 = some y) : Meets Tryz.prog envX pv (.f 14) (tvals [.entry] (a0, ())) (.t .bool y) :=
  fun_plain hE (impl_IsValidEntry.G hE pv k) (f := 14) (fn := Tryz.f14) (by kernel_rfl) rfl (by kernel_rfl) (by kernel_rfl) ((impl_IsValidEntry.run k a0).trans h) fun r hr => wk_view1 hr
end Go.Proofs.YtjbjijgncebbbaaGreatDoor
end
