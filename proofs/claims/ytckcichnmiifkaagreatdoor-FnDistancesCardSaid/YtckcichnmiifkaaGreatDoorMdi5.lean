/- Library functions: their contracts, proved once for any program, as what a callee keeps to. By an AI agent's session. -/
import Derived.Test.YtckcichnmiifkaaGreatDoorMdi3
import Derived.Shelf.Vars
import Derived.Below
import Derived.Lib.IndexMore
import Derived.Lib.Split
import Derived.Lib.SplitLaws
import Derived.Lib.Repeat
import Derived.Deep.Draws
import Derived.Lib.Join
import Derived.Lib.SlTrimSet
import Derived.Lib.IndexAny
import Derived.Lib.TrimByte
import Derived.Laws.AppendOwn
import Derived.Test.YtckcichnmiifkaaGreatDoorMdi4
import Derived.Test.YtckcichnmiifkaaGreatDoorProg
import Derived.KernelRfl
section
namespace Go.Gx
open Go.RowKit Go.Lib
set_option linter.unusedVariables false
theorem ext_goes {P : Program} {f : FuncId} {fn : Func} {c : Code} (hf : P.funcs[f]? = some fn) (hb : fn.body = some c) (hname : (fn.name == "runtime.NumGoroutine") = false) {args : Array Value} {w : World} {R : Value → World → Prop}
    (h : Calls P f args w fun e w' => ∃ v, e = .returned v ∧ R v w') : Goes P f args w R := by
  have hcall : (callFunc f args).run P w = .ok (.enter f args) w := by
    have hn' : fn.name ≠ "runtime.NumGoroutine" := by simpa using hname
    simp [callFunc, hf, hn', hb]
  unfold Goes
  rw [hcall]
  exact h
theorem args_nil {S : Nat → Prop} {w : World} {pv : Nat → Value} {vs : List Value} (h : ArgsOk S w pv [] vs) : vs = [] := List.eq_nil_of_length_eq_zero h.1
theorem args_cons {S : Nat → Prop} {w : World} {pv : Nat → Value} {a : AV} {al : List AV} {vs : List Value} (h : ArgsOk S w pv (a :: al) vs) : ∃ cs vs', AR S w (fun _ => none) (fun _ => none) pv a cs ∧ vs = valOf a cs :: vs' ∧ ArgsOk S w pv al vs' := by
  match vs, h with
  | [], h => cases h.1
  | v :: vs', ⟨h1, h2⟩ =>
    obtain ⟨cs, hc, rfl⟩ := h2 0 a v rfl rfl
    exact ⟨cs, vs', hc, rfl, by simpa using h1, fun i b u hb hu => h2 (i + 1) b u (by simpa using hb) (by simpa using hu)⟩
theorem args_str {S : Nat → Prop} {w : World} {pv : Nat → Value} {s : ByteArray} {al : List AV} {vs : List Value} (h : ArgsOk S w pv (.t .str s :: al) vs) : ∃ vs', vs = .string s :: vs' ∧ ArgsOk S w pv al vs' := by
  obtain ⟨cs, vs', hc, rfl, h'⟩ := args_cons h
  cases hc with | t _ _ _ hc => cases hc; exact ⟨vs', rfl, h'⟩
section
variable {P : Program} {E : Env} {pv : Nat → Value} {f : FuncId} {fn : Func} {c : Code}
/-- An answer that leads nowhere. -/
theorem ext_flat (hf : P.funcs[f]? = some fn) (hb : fn.body = some c) (hname : (fn.name == "runtime.NumGoroutine") = false) {args : List AV} {τ : Ty} {y : den τ} {v : Value} (hy : ∀ S w, ∃ cs, CR S w τ y cs ∧ v = valOf (.t τ y) cs)
    (h : ∀ S w vs, (∀ b, S b → b < w.heap.size) → GlOk E pv S w → ArgsOk S w pv args vs → Calls P f vs.toArray w fun e w' => e = .returned v ∧ Below w.heap.size w w') : Meets P E pv (.f f) args (.t τ y) := by
  intro S w vs hS hgl hargs
  refine ext_goes hf hb hname ((h S w vs hS hgl hargs).mono fun e w' ⟨he, hbl⟩ => ⟨v, he, hbl, S, fun b hb => hb, fun b hb => .inl hb, ?_⟩)
  obtain ⟨cs, hc, rfl⟩ := hy S w'
  exact ⟨none, .plain _ _ (.t _ _ _ hc)⟩
/-- New texts in a block of their own. -/
theorem ext_strs (hf : P.funcs[f]? = some fn) (hb : fn.body = some c) (hname : (fn.name == "runtime.NumGoroutine") = false) {args : List AV} {te : Nat} {xs : List ByteArray} (hx : xs.length ≤ maxLen)
    (h : ∀ S w vs, (∀ b, S b → b < w.heap.size) → GlOk E pv S w → ArgsOk S w pv args vs → Calls P f vs.toArray w fun e w' => e = .returned (.slice (some ⟨w.heap.size, 0, none⟩) xs.length xs.length) ∧ w' = w.alloc (.cells (xs.map Value.string).toArray te)) : Meets P E pv (.f f) args (.fr te .str xs) := by
  intro S w vs hS hgl hargs
  refine ext_goes hf hb hname ((h S w vs hS hgl hargs).mono fun e w' ⟨he, hw⟩ => ⟨_, he, ?_⟩)
  subst hw
  refine ⟨(Below.refl _ w).alloc (Nat.le_refl _) _, S, fun b hb => hb, fun b hb => .inl hb, some w.heap.size, .fr te .str xs w.heap.size xs.length (Nat.le_refl _) (fun hs => absurd (hS _ hs) (Nat.lt_irrefl _)) ⟨(xs.map Value.string).toArray, (0, 0), ?_, ?_, Nat.le_refl _, hx, fun _ => rfl, .inl (Nat.le_refl _), by decide, fun i hi => ⟨[.string xs[i]], .str _, fun j v hj => ?_⟩⟩⟩
  · show (w.heap.push _)[w.heap.size]? = _
    simp
  · simp [nc]
  · cases j with
    | zero =>
      simp only [List.getElem?_cons_zero, Option.some.injEq] at hj
      subst hj
      simp [nc, hi]
    | succ j => simp at hj
end
/-! ### The functions -/
def xSplit (s sep : ByteArray) : Option (List ByteArray) := bif Nat.ble s.size 4294967280 && Nat.ble 1 sep.size then some (Lib.splitB sep 0 (Lib.countB s sep) s) else none
theorem ext_split {P : Program} {E : Env} {pv : Nat → Value} {f : FuncId} {fn : Func} {c : Code} (hf : P.funcs[f]? = some fn) (hb : fn.body = some c) (hname : (fn.name == "runtime.NumGoroutine") = false) {mx : Nat} (hmx : E.gi mx = true) {te : Nat}
    (hc : ∀ (s sep : ByteArray) (m : Int) (w : World), s.size < 4294967281 → w.cell? ⟨mx, 0, none⟩ = some (.int .i64 m) → 1 ≤ sep.size → Calls P f #[.string s, .string sep] w fun e w' =>
      e = .returned (.slice (some ⟨w.heap.size, 0, none⟩) (Lib.countB s sep + 1) (Lib.countB s sep + 1)) ∧ w' = w.alloc (.cells ((Lib.splitB sep 0 (Lib.countB s sep) s).map Value.string).toArray te))
    {s sep : ByteArray} {y : List ByteArray} (h : xSplit s sep = some y) : Meets P E pv (.f f) (tvals [.str, .str] (s, sep, ())) (.fr te .str y) := by
  unfold xSplit at h
  cases hs : Nat.ble s.size 4294967280 && Nat.ble 1 sep.size with
  | false => rw [hs] at h; cases h
  | true =>
    rw [hs] at h
    cases h
    rw [Bool.and_eq_true] at hs
    have h1 := Nat.le_of_ble_eq_true hs.1
    have h2 := Nat.le_of_ble_eq_true hs.2
    have hl := Lib.splitB_all sep h2 0 _ s rfl
    have hle := Lib.countB_le sep h2 s.size s (Nat.le_refl _)
    have hm : maxLen = 9223372036854775807 := by decide
    refine ext_strs hf hb hname (by rw [hl, hm]; omega) fun S w vs hS hgl ha => ?_
    obtain ⟨_, rfl, ha1⟩ := args_str ha
    obtain ⟨_, rfl, ha2⟩ := args_str ha1
    obtain rfl := args_nil ha2
    obtain ⟨_, m, hm⟩ := hgl.2.1 mx hmx
    rw [hl]
    exact hc s sep m w (by omega) hm h2
def xJoin (xs : List ByteArray) (sep : ByteArray) : Option ByteArray := bif Nat.ble xs.length 140737488355328 && Nat.ble (Lib.join (xs.map (·.data.toList)) sep.data.toList).length 140737488355328 then some ⟨(Lib.join (xs.map (·.data.toList)) sep.data.toList).toArray⟩ else none
theorem ext_join {P : Program} {E : Env} {pv : Nat → Value} {f : FuncId} {fn : Func} {c : Code} (hf : P.funcs[f]? = some fn) (hb : fn.body = some c) (hname : (fn.name == "runtime.NumGoroutine") = false)
    (hc0 : ∀ (a : Option Addr) (c : Nat) (sep : ByteArray) (w : World), Calls P f #[.slice a 0 c, .string sep] w fun e w' => e = .returned (.string ⟨#[]⟩) ∧ w' = w)
    (hc : ∀ (bk o c : Nat) (xs : List ByteArray) (sep : ByteArray) (w : World), (∀ (j : Nat) x, xs[j]? = some x → w.cell? ⟨bk, o + j, none⟩ = some (.string x)) → bk < w.heap.size → xs.length ≤ 140737488355328 → xs.length ≤ c →
      (Lib.join (xs.map (·.data.toList)) sep.data.toList).length ≤ 140737488355328 → Calls P f #[.slice (some ⟨bk, o, none⟩) xs.length c, .string sep] w fun e w' => e = .returned (.string ⟨(Lib.join (xs.map (·.data.toList)) sep.data.toList).toArray⟩) ∧ Below w.heap.size w w')
    {xs : List ByteArray} {sep : ByteArray} {y : ByteArray} (h : xJoin xs sep = some y) : Meets P E pv (.f f) (tvals [.sl .str, .str] (xs, sep, ())) (.t .str y) := by
  unfold xJoin at h
  cases hs : Nat.ble xs.length 140737488355328 && Nat.ble (Lib.join (xs.map (·.data.toList)) sep.data.toList).length 140737488355328 with
  | false => rw [hs] at h; cases h
  | true =>
    rw [hs] at h
    cases h
    rw [Bool.and_eq_true] at hs
    refine ext_flat hf hb hname (v := .string _) (fun S w => ⟨_, .str _, rfl⟩) fun S w vs hS hgl ha => ?_
    obtain ⟨cs, _, hcr, rfl, ha1⟩ := args_cons ha
    obtain ⟨_, rfl, ha2⟩ := args_str ha1
    obtain rfl := args_nil ha2
    cases hcr with
    | t _ _ _ hcr =>
      cases hcr with
      | sl e xs A c cv hle hm h1 h2 =>
        match xs, A, hle, h1, h2, hs with
        | [], A, _, _, _, _ => exact (hc0 A c sep w).mono fun e w' ⟨he, hw⟩ => ⟨he, hw ▸ Below.refl _ _⟩
        | x :: l, A, hle, h1, h2, hs =>
          obtain ⟨g, o, rfl, hg, _⟩ := h2 0 (Nat.succ_pos _)
          refine hc g o c (x :: l) sep w (fun j z hj => ?_) (hS g hg) (Nat.le_of_ble_eq_true hs.1) hle (Nat.le_of_ble_eq_true hs.2)
          obtain ⟨hj', hz⟩ := List.getElem?_eq_some_iff.1 hj
          obtain ⟨g', o', e', _, hcell⟩ := h2 j hj'
          cases e'
          have hcv := h1 j hj'
          rw [hz] at hcv
          have hq : ∀ q, CR S w .str z q → q[0]? = some (.string z) := fun q hq => by cases hq; rfl
          have := hcell 0 (.string z) (hq _ hcv)
          simpa [nc] using this
def xTrim1 (s cs : ByteArray) : Option ByteArray := match cs with
  | ⟨⟨[c]⟩⟩ => bif Nat.ble s.size 9223372036854775807 && Nat.blt c.toNat 128 then some ⟨(Lib.trimB s.data.toList c).toArray⟩ else none
  | _ => none
theorem ext_trim1 {P : Program} {E : Env} {pv : Nat → Value} {f : FuncId} {fn : Func} {c : Code} (hf : P.funcs[f]? = some fn) (hb : fn.body = some c) (hname : (fn.name == "runtime.NumGoroutine") = false)
    (hc : ∀ (s : ByteArray) (c : UInt8), c.toNat < 128 → ∀ (w : World), s.size ≤ 9223372036854775807 → Calls P f #[.string s, .string ⟨#[c]⟩] w fun e w' => e = .returned (.string ⟨(Lib.trimB s.data.toList c).toArray⟩) ∧ (w' = w ∨ w' = w.drew))
    {s cs : ByteArray} {y : ByteArray} (h : xTrim1 s cs = some y) : Meets P E pv (.f f) (tvals [.str, .str] (s, cs, ())) (.t .str y) := by
  unfold xTrim1 at h
  split at h
  · rename_i c0
    cases hs : Nat.ble s.size 9223372036854775807 && Nat.blt c0.toNat 128 with
    | false => rw [hs] at h; cases h
    | true =>
      rw [hs] at h
      cases h
      rw [Bool.and_eq_true] at hs
      refine ext_flat hf hb hname (v := .string _) (fun S w => ⟨_, .str _, rfl⟩) fun S w vs hS hgl ha => ?_
      obtain ⟨_, rfl, ha1⟩ := args_str ha
      obtain ⟨_, rfl, ha2⟩ := args_str ha1
      obtain rfl := args_nil ha2
      refine (hc s c0 (Nat.le_of_ble_eq_true hs.2) w (Nat.le_of_ble_eq_true hs.1)).mono fun e w' ⟨he, hw⟩ => ⟨he, ?_⟩
      rcases hw with rfl | rfl
      · exact Below.refl _ _
      · exact (Below.refl _ _).drew
  · cases h
end Go.Gx
end
section
namespace Go.Proofs.YtckcichnmiifkaaGreatDoor
open Go.Gx
set_option linter.unusedVariables false
set_option maxRecDepth 100000
def tyT (t : Nat) : Option Ty := match t with
  | 2 => some (.int .i64)
  | 3 => some (.int .i64)
  | 4 => some .bool
  | 5 => some (.int .u8)
  | 6 => some (.int .u8)
  | 9 => some .str
  | 10 => some .str
  | 11 => some .str
  | 12 => some (.int .u64)
  | 21 => some (.int .i32)
  | 22 => some (.sl (.int .u8))
  | 24 => some (.sl .entry)
  | 26 => some .lib
  | 29 => some (.sl .str)
  | 39 => some (.sl (.sl .str))
  | 46 => some (.sl .name)
  | 48 => some .date
  | 50 => some .entry
  | 58 => some (.sl .entry)
  | 60 => some .lib
  | 70 => some (.sl (.int .i64))
  | 79 => some (.int .u64)
  | 81 => some .cur
  | 115 => some (.sl .name)
  | 116 => some .date
  | 118 => some .entry
  | 130 => some .name
  | 134 => some (.int .u64)
  | 146 => some (.arr 256 .bool)
  | 165 => some .name
  | 184 => some (.int .i64)
  | 191 => some (.int .u32)
  | 200 => some (.int .u64)
  | 207 => some (.arr 256 (.int .u8))
  | 225 => some (.int .u8)
  | _ => none
def elT (t : Nat) : Nat := match t with
  | 22 => 5
  | 24 => 50
  | 29 => 9
  | 39 => 29
  | 46 => 130
  | 58 => 118
  | 70 => 3
  | 115 => 165
  | _ => 0
def mdT (f : Nat) : Bool := match f with
  | 47 => true
  | 48 => true
  | 49 => true
  | 54 => true
  | 55 => true
  | 56 => true
  | 57 => true
  | 64 => true
  | 77 => true
  | 78 => true
  | 84 => true
  | 89 => true
  | 90 => true
  | 93 => true
  | 94 => true
  | 95 => true
  | 118 => true
  | 129 => true
  | 130 => true
  | 152 => true
  | 165 => true
  | 249 => true
  | _ => false
def glT (g : Nat) : Option AV := match g with
  | _ => none
def giT (g : Nat) : Bool := match g with
  | 0 => true
  | _ => false
def dmT (f : Nat) : Bool := match f with
  | _ => false
def pmT (f : Nat) : Bool := match f with
  | 30 => true
  | 110 => true
  | 188 => true
  | _ => false
def envX : Env := { ty := tyT, el := elT, gl := glT, md := mdT, gi := giT, dm := dmT, pm := pmT }
theorem env_ty : ∀ T τ, envX.ty T = some τ → TyOk Tryz.prog envX T τ := fun T τ h => by
  dsimp only [envX, tyT] at h
  split at h <;> first
    | (cases h; done)
    | (cases h; exact tyOk_of (by kernel_rfl) (by kernel_rfl))
theorem envOk : EnvOk Tryz.prog envX := ⟨env_ty, by kernel_rfl, fun T h => by
  dsimp only [envX, tyT] at h
  split at h <;> first
    | (cases h; done)
    | exact date_eq env_ty rfl (by kernel_rfl) (by kernel_rfl) (by kernel_rfl), fun T h => by
  dsimp only [envX, tyT] at h
  split at h <;> first
    | (cases h; done)
    | exact abbr_eq env_ty rfl (by kernel_rfl) (by kernel_rfl) (by kernel_rfl)⟩
/-! ### 6 loop.example/g00896/laws.rBig -/
def laws_rBig.F (a0 : List Int) : Option (Bool) := some (decide ((a0.length : Int) > 65536))
def laws_rBig.C : Cal → Option CArm := fun c => match c with
  | _ => none
theorem laws_rBig.run (a0 : List Int) : runF envX (tabC laws_rBig.C) (tabL 6 0 (fun _ => none)) Tryz.f6 [.t (.sl (.int .u8)) a0] (viewR1 (.t .bool)) = laws_rBig.F a0 := by kernel_rfl
theorem laws_rBig.G (hE : EnvOk Tryz.prog envX) (pv : Nat → Value) : ∀ cal A, laws_rBig.C cal = some A → ArmOk Tryz.prog envX pv cal A := by
  intro cal A h
  unfold laws_rBig.C at h
  cases h
theorem laws_rBig.good (hE : EnvOk Tryz.prog envX) (pv : Nat → Value) (a0 : List Int) {y : _} (h : laws_rBig.F a0 = some y) : Meets Tryz.prog envX pv (.f 6) (tvals [(.sl (.int .u8))] (a0, ())) (.t .bool y) :=
  fun_plain hE (laws_rBig.G hE pv) (f := 6) (fn := Tryz.f6) (by kernel_rfl) rfl (by kernel_rfl) (by kernel_rfl) ((laws_rBig.run a0).trans h) fun r hr => wk_view1 hr
/-! ### 95 (*loop.example/g00896/spec.l1Cur).next -/
def spec_l1Cur_next.F (a0 : Cur) : Option (Cur × Int) := bif (decide (a0.at_ < (a0.code.length : Int))) then (bif decide (0 ≤ a0.at_) then (bif decide (a0.at_ < (a0.code.length : Int)) then (bif (decide ((IntKind.wrap .i64 (a0.at_ + 1)) ≤ (a0.code.length : Int))) then (some ((⟨a0.code, (IntKind.wrap .i64 (a0.at_ + 1)), (IntKind.wrap .u64 ((IntKind.wrap .u64 ((IntKind.wrap .u64 (a0.seed * 6364136223846793005)) + (IntKind.wrap .u64 (IntKind.wrap .i64 (a0.code.getD (a0.at_ : Int).toNat 0))))) + 896896))⟩ : Cur), (IntKind.wrap .i64 (a0.code.getD (a0.at_ : Int).toNat 0)))) else (bif decide (0 ≤ 40) then (some ((⟨a0.code, (IntKind.wrap .i64 (a0.at_ + 1)), (IntKind.wrap .u64 ((IntKind.wrap .u64 ((IntKind.wrap .u64 (a0.seed * 6364136223846793005)) + (IntKind.wrap .u64 (IntKind.wrap .i64 (a0.code.getD (a0.at_ : Int).toNat 0))))) + 896896))⟩ : Cur), (IntKind.wrap .i64 (IntKind.wrap .u64 ((BitVec.ofInt (IntKind.bits .u64) (Int.fdiv (IntKind.wrap .u64 ((IntKind.wrap .u64 ((IntKind.wrap .u64 (a0.seed * 6364136223846793005)) + (IntKind.wrap .u64 (IntKind.wrap .i64 (a0.code.getD (a0.at_ : Int).toNat 0))))) + 896896)) (2 ^ min (40 : Int).toNat (IntKind.bits .u64))) &&& BitVec.ofInt (IntKind.bits .u64) 255).toNat : Int))))) else none)) else none) else none) else (bif (decide ((IntKind.wrap .i64 (a0.at_ + 1)) ≤ (a0.code.length : Int))) then (some ((⟨a0.code, (IntKind.wrap .i64 (a0.at_ + 1)), (IntKind.wrap .u64 ((IntKind.wrap .u64 ((IntKind.wrap .u64 (a0.seed * 6364136223846793005)) + (IntKind.wrap .u64 0))) + 896896))⟩ : Cur), 0)) else (bif decide (0 ≤ 40) then (some ((⟨a0.code, (IntKind.wrap .i64 (a0.at_ + 1)), (IntKind.wrap .u64 ((IntKind.wrap .u64 ((IntKind.wrap .u64 (a0.seed * 6364136223846793005)) + (IntKind.wrap .u64 0))) + 896896))⟩ : Cur), (IntKind.wrap .i64 (IntKind.wrap .u64 ((BitVec.ofInt (IntKind.bits .u64) (Int.fdiv (IntKind.wrap .u64 ((IntKind.wrap .u64 ((IntKind.wrap .u64 (a0.seed * 6364136223846793005)) + (IntKind.wrap .u64 0))) + 896896)) (2 ^ min (40 : Int).toNat (IntKind.bits .u64))) &&& BitVec.ofInt (IntKind.bits .u64) 255).toNat : Int))))) else none))
def spec_l1Cur_next.C : Cal → Option CArm := fun c => match c with
  | _ => none
theorem spec_l1Cur_next.run (a0 : Cur) : runM envX (tabC spec_l1Cur_next.C) (tabL 62 0 (fun _ => none)) Tryz.f95 mbase (.bx .cur a0) [] (viewK (.bx .cur) (viewR1 (.t (.int .i64)))) = spec_l1Cur_next.F a0 := by kernel_rfl
theorem spec_l1Cur_next.G (hE : EnvOk Tryz.prog envX) (pv : Nat → Value) : ∀ cal A, spec_l1Cur_next.C cal = some A → ArmOk Tryz.prog envX pv cal A := by
  intro cal A h
  unfold spec_l1Cur_next.C at h
  cases h
theorem spec_l1Cur_next.good (hE : EnvOk Tryz.prog envX) (pv : Nat → Value) (a0 : Cur) {y : _} (h : spec_l1Cur_next.F a0 = some y) : MeetsM Tryz.prog envX pv 95 (.bx .cur a0) (tvals [] (())) (.kep (.bx .cur y.1) (.t (.int .i64) y.2)) :=
  funM_plain hE (spec_l1Cur_next.G hE pv) (f := 95) (fn := Tryz.f95) (by kernel_rfl) rfl (by kernel_rfl) (.inl rfl) (by kernel_rfl) ((spec_l1Cur_next.run a0).trans h) fun r hr => wk_viewK (fun r y h => wk_view1 h) hr
/-! ### 57 (*loop.example/g00896/spec.l1Cur).pick -/
def spec_l1Cur_pick.F (a0 : Cur) (a1 : Int) : Option (Cur × Int) := bif (decide (a1 ≤ 1)) then (some (a0, 0)) else ((spec_l1Cur_next.F a0).bind fun r1 => bif (decide (a1 > 200)) then ((spec_l1Cur_next.F r1.1).bind fun r2 => bif (a1 == 0) then (none) else (some (r2.1, (Int.tmod (IntKind.wrap .i64 ((IntKind.wrap .i64 (r1.2 * 256)) + r2.2)) a1)))) else (bif (a1 == 0) then (none) else (some (r1.1, (Int.tmod r1.2 a1)))))
def spec_l1Cur_pick.C : Cal → Option CArm := fun c => match c with
  | .f 95 => some (.m (.bx .cur) [] _ (fun x0 x => spec_l1Cur_next.F x0) (fun r => .kep (.bx .cur r.1) (.t (.int .i64) r.2)))
  | _ => none
theorem spec_l1Cur_pick.run (a0 : Cur) (a1 : Int) : runM envX (tabC spec_l1Cur_pick.C) (tabL 20 0 (fun _ => none)) Tryz.f57 mbase (.bx .cur a0) [.t (.int .i64) a1] (viewK (.bx .cur) (viewR1 (.t (.int .i64)))) = spec_l1Cur_pick.F a0 a1 := by kernel_rfl
theorem spec_l1Cur_pick.G (hE : EnvOk Tryz.prog envX) (pv : Nat → Value) : ∀ cal A, spec_l1Cur_pick.C cal = some A → ArmOk Tryz.prog envX pv cal A := by
  intro cal A h
  unfold spec_l1Cur_pick.C at h
  split at h
  · cases h; exact ⟨_, rfl, fun x0 x y hy => spec_l1Cur_next.good hE pv x0 hy⟩
  · cases h
theorem spec_l1Cur_pick.good (hE : EnvOk Tryz.prog envX) (pv : Nat → Value) (a0 : Cur) (a1 : Int) {y : _} (h : spec_l1Cur_pick.F a0 a1 = some y) : MeetsM Tryz.prog envX pv 57 (.bx .cur a0) (tvals [(.int .i64)] (a1, ())) (.kep (.bx .cur y.1) (.t (.int .i64) y.2)) :=
  funM_plain hE (spec_l1Cur_pick.G hE pv) (f := 57) (fn := Tryz.f57) (by kernel_rfl) rfl (by kernel_rfl) (.inl rfl) (by kernel_rfl) ((spec_l1Cur_pick.run a0 a1).trans h) fun r hr => wk_viewK (fun r y h => wk_view1 h) hr
/-! ### 84 (*loop.example/g00896/spec.l1Cur).of -/
def spec_l1Cur_of.F (a0 : Cur) (a1 : List ByteArray) : Option (Cur × ByteArray) := (spec_l1Cur_pick.F a0 (a1.length : Int)).bind fun r1 => bif decide (0 ≤ r1.2) then (bif decide (r1.2 < (a1.length : Int)) then (some (r1.1, (a1.getD (r1.2 : Int).toNat (⟨#[]⟩ : ByteArray)))) else none) else none
def spec_l1Cur_of.C : Cal → Option CArm := fun c => match c with
  | .f 57 => some (.m (.bx .cur) [(.int .i64)] _ (fun x0 x => spec_l1Cur_pick.F x0 x.1) (fun r => .kep (.bx .cur r.1) (.t (.int .i64) r.2)))
  | _ => none
theorem spec_l1Cur_of.run (a0 : Cur) (a1 : List ByteArray) : runM envX (tabC spec_l1Cur_of.C) (tabL 12 0 (fun _ => none)) Tryz.f84 mbase (.bx .cur a0) [.t (.sl .str) a1] (viewK (.bx .cur) (viewR1 (.t .str))) = spec_l1Cur_of.F a0 a1 := by kernel_rfl
theorem spec_l1Cur_of.G (hE : EnvOk Tryz.prog envX) (pv : Nat → Value) : ∀ cal A, spec_l1Cur_of.C cal = some A → ArmOk Tryz.prog envX pv cal A := by
  intro cal A h
  unfold spec_l1Cur_of.C at h
  split at h
  · cases h; exact ⟨_, rfl, fun x0 x y hy => spec_l1Cur_pick.good hE pv x0 x.1 hy⟩
  · cases h
theorem spec_l1Cur_of.good (hE : EnvOk Tryz.prog envX) (pv : Nat → Value) (a0 : Cur) (a1 : List ByteArray) {y : _} (h : spec_l1Cur_of.F a0 a1 = some y) : MeetsM Tryz.prog envX pv 84 (.bx .cur a0) (tvals [(.sl .str)] (a1, ())) (.kep (.bx .cur y.1) (.t .str y.2)) :=
  funM_plain hE (spec_l1Cur_of.G hE pv) (f := 84) (fn := Tryz.f84) (by kernel_rfl) rfl (by kernel_rfl) (.inl rfl) (by kernel_rfl) ((spec_l1Cur_of.run a0 a1).trans h) fun r hr => wk_viewK (fun r y h => wk_view1 h) hr
/-! ### 47 (*loop.example/g00896/spec.l1Cur).container -/
def spec_l1Cur_container.l0 : Nat → Cur → ByteArray → Int → Option (Cur × ByteArray)
  | 0, _, _, _ => none
  | k + 1, x0, x3, x4 => bif (decide (x4 > 0)) then (bif (!beqS x3 (⟨#[]⟩ : ByteArray)) then (bif Nat.ble (x3.size + (⟨#[32]⟩ : ByteArray).size) 9223372036854775807 then ((spec_l1Cur_of.F x0 ([(⟨#[84, 104, 101]⟩ : ByteArray), (⟨#[74, 111, 117, 114, 110, 97, 108]⟩ : ByteArray), (⟨#[111, 102]⟩ : ByteArray), (⟨#[72, 105, 115, 116, 111, 114, 121]⟩ : ByteArray), (⟨#[115, 99, 105, 101, 110, 99, 101]⟩ : ByteArray), (⟨#[73, 110, 116, 101, 114, 110, 97, 116, 105, 111, 110, 97, 108]⟩ : ByteArray), (⟨#[82, 101, 118, 105, 101, 119]⟩ : ByteArray), (⟨#[97, 110, 100]⟩ : ByteArray), (⟨#[76, 101, 116, 116, 101, 114, 115]⟩ : ByteArray), (⟨#[65]⟩ : ByteArray), (⟨#[101, 45, 83, 99, 105, 101, 110, 99, 101]⟩ : ByteArray), (⟨#[73, 78, 84]⟩ : ByteArray)] : List ByteArray)).bind fun r2 => bif Nat.ble ((x3 ++ (⟨#[32]⟩ : ByteArray)).size + r2.2.size) 9223372036854775807 then (spec_l1Cur_container.l0 k r2.1 ((x3 ++ (⟨#[32]⟩ : ByteArray)) ++ r2.2) (IntKind.wrap .i64 (x4 - 1))) else none) else none) else ((spec_l1Cur_of.F x0 ([(⟨#[84, 104, 101]⟩ : ByteArray), (⟨#[74, 111, 117, 114, 110, 97, 108]⟩ : ByteArray), (⟨#[111, 102]⟩ : ByteArray), (⟨#[72, 105, 115, 116, 111, 114, 121]⟩ : ByteArray), (⟨#[115, 99, 105, 101, 110, 99, 101]⟩ : ByteArray), (⟨#[73, 110, 116, 101, 114, 110, 97, 116, 105, 111, 110, 97, 108]⟩ : ByteArray), (⟨#[82, 101, 118, 105, 101, 119]⟩ : ByteArray), (⟨#[97, 110, 100]⟩ : ByteArray), (⟨#[76, 101, 116, 116, 101, 114, 115]⟩ : ByteArray), (⟨#[65]⟩ : ByteArray), (⟨#[101, 45, 83, 99, 105, 101, 110, 99, 101]⟩ : ByteArray), (⟨#[73, 78, 84]⟩ : ByteArray)] : List ByteArray)).bind fun r3 => bif Nat.ble (x3.size + r3.2.size) 9223372036854775807 then (spec_l1Cur_container.l0 k r3.1 (x3 ++ r3.2) (IntKind.wrap .i64 (x4 - 1))) else none)) else (some (x0, x3))
def spec_l1Cur_container.F (k : Nat) (a0 : Cur) : Option (Cur × ByteArray) := (spec_l1Cur_pick.F a0 5).bind fun r1 => (spec_l1Cur_container.l0 k r1.1 (⟨#[]⟩ : ByteArray) (IntKind.wrap .i64 (1 + r1.2))).bind fun y4 => bif (decide ((y4.2.size : Int) > 40)) then (bif decide (0 ≤ 20) then (bif decide (20 ≤ (y4.2.size : Int)) then (bif Nat.ble ((y4.2.extract 0 (20 : Int).toNat).size + (⟨#[120]⟩ : ByteArray).size) 9223372036854775807 then ((spec_l1Cur_pick.F y4.1 40).bind fun r5 => bif (r5.2 == 0) then (some (r5.1, (⟨#[]⟩ : ByteArray))) else (bif (r5.2 == 1) then ((spec_l1Cur_of.F r5.1 ([(⟨#[32]⟩ : ByteArray), (⟨#[9]⟩ : ByteArray)] : List ByteArray)).bind fun r6 => bif Nat.ble (((y4.2.extract 0 (20 : Int).toNat) ++ (⟨#[120]⟩ : ByteArray)).size + r6.2.size) 9223372036854775807 then (some (r6.1, (((y4.2.extract 0 (20 : Int).toNat) ++ (⟨#[120]⟩ : ByteArray)) ++ r6.2))) else none) else (bif (r5.2 == 2) then (some (r5.1, (⟨#[111, 102, 32, 32, 84, 104, 101]⟩ : ByteArray))) else (some (r5.1, ((y4.2.extract 0 (20 : Int).toNat) ++ (⟨#[120]⟩ : ByteArray))))))) else none) else none) else none) else ((spec_l1Cur_pick.F y4.1 40).bind fun r7 => bif (r7.2 == 0) then (some (r7.1, (⟨#[]⟩ : ByteArray))) else (bif (r7.2 == 1) then ((spec_l1Cur_of.F r7.1 ([(⟨#[32]⟩ : ByteArray), (⟨#[9]⟩ : ByteArray)] : List ByteArray)).bind fun r8 => bif Nat.ble (y4.2.size + r8.2.size) 9223372036854775807 then (some (r8.1, (y4.2 ++ r8.2))) else none) else (bif (r7.2 == 2) then (some (r7.1, (⟨#[111, 102, 32, 32, 84, 104, 101]⟩ : ByteArray))) else (some (r7.1, y4.2)))))
def spec_l1Cur_container.C (k : Nat) : Cal → Option CArm := fun c => match c with
  | .f 57 => some (.m (.bx .cur) [(.int .i64)] _ (fun x0 x => spec_l1Cur_pick.F x0 x.1) (fun r => .kep (.bx .cur r.1) (.t (.int .i64) r.2)))
  | .f 84 => some (.m (.bx .cur) [(.sl .str)] _ (fun x0 x => spec_l1Cur_of.F x0 x.1) (fun r => .kep (.bx .cur r.1) (.t .str r.2)))
  | _ => none
def spec_l1Cur_container.sp0 : List Sp := [.boxT 0 1099511627776 .cur, .t 3 .str, .t 4 (.int .i64)]
def spec_l1Cur_container.sp0_0 : List Sp := [.boxT 0 1099511627776 .cur, .t 3 .str]
def spec_l1Cur_container.A0 : LArm := .one spec_l1Cur_container.sp0 spec_l1Cur_container.sp0_0 (Cur × ByteArray) (fun k x => spec_l1Cur_container.l0 k x.1 x.2.1 x.2.2.1) (.exit 0) (fun y => (y.1, y.2, ())) (fun x => (x.1, x.2.1))
def spec_l1Cur_container.L : Nat → Option LArm := fun b => match b with
  | 0 => some spec_l1Cur_container.A0
  | _ => none
theorem spec_l1Cur_container.run (k : Nat) (a0 : Cur) : runM envX (tabC (spec_l1Cur_container.C k)) (tabL 41 k spec_l1Cur_container.L) Tryz.f47 mbase (.bx .cur a0) [] (viewK (.bx .cur) (viewR1 (.t .str))) = spec_l1Cur_container.F k a0 := by kernel_rfl
theorem spec_l1Cur_container.step0 (k : Nat) (x0 : Cur) (x3 : ByteArray) (x4 : Int) : runC envX (tabC (spec_l1Cur_container.C k)) (tabL 41 k spec_l1Cur_container.L) 0 (loopAt Tryz.f47 0) (stOf 41 spec_l1Cur_container.sp0 (x0, x3, x4, ())) (spec_l1Cur_container.A0.cont 41 k) = spec_l1Cur_container.l0 (k + 1) x0 x3 x4 := by kernel_rfl
theorem spec_l1Cur_container.G (hE : EnvOk Tryz.prog envX) (pv : Nat → Value) (k : Nat) : ∀ cal A, spec_l1Cur_container.C k cal = some A → ArmOk Tryz.prog envX pv cal A := by
  intro cal A h
  unfold spec_l1Cur_container.C at h
  split at h
  · cases h; exact ⟨_, rfl, fun x0 x y hy => spec_l1Cur_pick.good hE pv x0 x.1 hy⟩
  · cases h; exact ⟨_, rfl, fun x0 x y hy => spec_l1Cur_of.good hE pv x0 x.1 hy⟩
  · cases h
theorem spec_l1Cur_container.good (hE : EnvOk Tryz.prog envX) (pv : Nat → Value) (k : Nat) (a0 : Cur) {y : _} (h : spec_l1Cur_container.F k a0 = some y) : MeetsM Tryz.prog envX pv 47 (.bx .cur a0) (tvals [] (())) (.kep (.bx .cur y.1) (.t .str y.2)) :=
  funM_loops hE (t := spec_l1Cur_container.C) k (fun k _ => spec_l1Cur_container.G hE pv k) (f := 47) (fn := Tryz.f47) (by kernel_rfl) rfl (by kernel_rfl) (.inl rfl) (by kernel_rfl) (lt := spec_l1Cur_container.L) (by kernel_rfl) (fun b A h => by
    unfold spec_l1Cur_container.L at h; split at h
    · cases h; exact ⟨by kernel_rfl, by kernel_rfl, fun _ => rfl, fun _ => rfl⟩
    · cases h) (fun b A h => by
    unfold spec_l1Cur_container.L at h; split at h
    · cases h; exact fun k x => spec_l1Cur_container.step0 k x.1 x.2.1 x.2.2.1
    · cases h) ((spec_l1Cur_container.run k a0).trans h) fun r hr => wk_viewK (fun r y h => wk_view1 h) hr
/-! ### 48 (*loop.example/g00896/spec.l1Cur).one -/
def spec_l1Cur_one.F (a0 : Cur) (a1 : Int) : Option (Cur × Bool) := (spec_l1Cur_pick.F a0 a1).bind fun r1 => some (r1.1, (r1.2 == 0))
def spec_l1Cur_one.C : Cal → Option CArm := fun c => match c with
  | .f 57 => some (.m (.bx .cur) [(.int .i64)] _ (fun x0 x => spec_l1Cur_pick.F x0 x.1) (fun r => .kep (.bx .cur r.1) (.t (.int .i64) r.2)))
  | _ => none
theorem spec_l1Cur_one.run (a0 : Cur) (a1 : Int) : runM envX (tabC spec_l1Cur_one.C) (tabL 9 0 (fun _ => none)) Tryz.f48 mbase (.bx .cur a0) [.t (.int .i64) a1] (viewK (.bx .cur) (viewR1 (.t .bool))) = spec_l1Cur_one.F a0 a1 := by kernel_rfl
theorem spec_l1Cur_one.G (hE : EnvOk Tryz.prog envX) (pv : Nat → Value) : ∀ cal A, spec_l1Cur_one.C cal = some A → ArmOk Tryz.prog envX pv cal A := by
  intro cal A h
  unfold spec_l1Cur_one.C at h
  split at h
  · cases h; exact ⟨_, rfl, fun x0 x y hy => spec_l1Cur_pick.good hE pv x0 x.1 hy⟩
  · cases h
theorem spec_l1Cur_one.good (hE : EnvOk Tryz.prog envX) (pv : Nat → Value) (a0 : Cur) (a1 : Int) {y : _} (h : spec_l1Cur_one.F a0 a1 = some y) : MeetsM Tryz.prog envX pv 48 (.bx .cur a0) (tvals [(.int .i64)] (a1, ())) (.kep (.bx .cur y.1) (.t .bool y.2)) :=
  funM_plain hE (spec_l1Cur_one.G hE pv) (f := 48) (fn := Tryz.f48) (by kernel_rfl) rfl (by kernel_rfl) (.inl rfl) (by kernel_rfl) ((spec_l1Cur_one.run a0 a1).trans h) fun r hr => wk_viewK (fun r y h => wk_view1 h) hr
/-! ### 49 (*loop.example/g00896/spec.l1Cur).spoilt -/
def spec_l1Cur_spoilt.F (a0 : Cur) (a1 : ByteArray) (a2 : ByteArray) : Option (Cur × ByteArray) := bif (beqS a1 (⟨#[]⟩ : ByteArray)) then (bif decide (0 ≤ 1) then (bif decide (1 ≤ (a2.size : Int)) then (some (a0, (a2.extract 0 (1 : Int).toNat))) else none) else none) else ((spec_l1Cur_pick.F a0 (a1.size : Int)).bind fun r1 => (spec_l1Cur_pick.F r1.1 (a2.size : Int)).bind fun r2 => bif decide (0 ≤ r2.2) then (bif decide (r2.2 ≤ (a2.size : Int)) then (bif decide (0 ≤ 1) then (bif decide (1 ≤ ((a2.extract (r2.2 : Int).toNat a2.size).size : Int)) then ((spec_l1Cur_pick.F r2.1 3).bind fun r3 => bif (r3.2 == 0) then (bif decide (0 ≤ r1.2) then (bif decide (r1.2 ≤ (a1.size : Int)) then (bif Nat.ble ((a1.extract 0 (r1.2 : Int).toNat).size + ((a2.extract (r2.2 : Int).toNat a2.size).extract 0 (1 : Int).toNat).size) 9223372036854775807 then (bif decide (0 ≤ r1.2) then (bif decide (r1.2 ≤ (a1.size : Int)) then (bif Nat.ble (((a1.extract 0 (r1.2 : Int).toNat) ++ ((a2.extract (r2.2 : Int).toNat a2.size).extract 0 (1 : Int).toNat)).size + (a1.extract (r1.2 : Int).toNat a1.size).size) 9223372036854775807 then (some (r3.1, (((a1.extract 0 (r1.2 : Int).toNat) ++ ((a2.extract (r2.2 : Int).toNat a2.size).extract 0 (1 : Int).toNat)) ++ (a1.extract (r1.2 : Int).toNat a1.size)))) else none) else none) else none) else none) else none) else none) else (bif (r3.2 == 1) then (bif decide (0 ≤ r1.2) then (bif decide (r1.2 ≤ (a1.size : Int)) then (bif Nat.ble ((a1.extract 0 (r1.2 : Int).toNat).size + ((a2.extract (r2.2 : Int).toNat a2.size).extract 0 (1 : Int).toNat).size) 9223372036854775807 then (bif decide (0 ≤ (IntKind.wrap .i64 (r1.2 + 1))) then (bif decide ((IntKind.wrap .i64 (r1.2 + 1)) ≤ (a1.size : Int)) then (bif Nat.ble (((a1.extract 0 (r1.2 : Int).toNat) ++ ((a2.extract (r2.2 : Int).toNat a2.size).extract 0 (1 : Int).toNat)).size + (a1.extract ((IntKind.wrap .i64 (r1.2 + 1)) : Int).toNat a1.size).size) 9223372036854775807 then (some (r3.1, (((a1.extract 0 (r1.2 : Int).toNat) ++ ((a2.extract (r2.2 : Int).toNat a2.size).extract 0 (1 : Int).toNat)) ++ (a1.extract ((IntKind.wrap .i64 (r1.2 + 1)) : Int).toNat a1.size)))) else none) else none) else none) else none) else none) else none) else (bif decide (0 ≤ r1.2) then (bif decide (r1.2 ≤ (a1.size : Int)) then (bif decide (0 ≤ (IntKind.wrap .i64 (r1.2 + 1))) then (bif decide ((IntKind.wrap .i64 (r1.2 + 1)) ≤ (a1.size : Int)) then (bif Nat.ble ((a1.extract 0 (r1.2 : Int).toNat).size + (a1.extract ((IntKind.wrap .i64 (r1.2 + 1)) : Int).toNat a1.size).size) 9223372036854775807 then (some (r3.1, ((a1.extract 0 (r1.2 : Int).toNat) ++ (a1.extract ((IntKind.wrap .i64 (r1.2 + 1)) : Int).toNat a1.size)))) else none) else none) else none) else none) else none))) else none) else none) else none) else none)
def spec_l1Cur_spoilt.C : Cal → Option CArm := fun c => match c with
  | .f 57 => some (.m (.bx .cur) [(.int .i64)] _ (fun x0 x => spec_l1Cur_pick.F x0 x.1) (fun r => .kep (.bx .cur r.1) (.t (.int .i64) r.2)))
  | _ => none
theorem spec_l1Cur_spoilt.run (a0 : Cur) (a1 : ByteArray) (a2 : ByteArray) : runM envX (tabC spec_l1Cur_spoilt.C) (tabL 57 0 (fun _ => none)) Tryz.f49 mbase (.bx .cur a0) [.t .str a1, .t .str a2] (viewK (.bx .cur) (viewR1 (.t .str))) = spec_l1Cur_spoilt.F a0 a1 a2 := by kernel_rfl
theorem spec_l1Cur_spoilt.G (hE : EnvOk Tryz.prog envX) (pv : Nat → Value) : ∀ cal A, spec_l1Cur_spoilt.C cal = some A → ArmOk Tryz.prog envX pv cal A := by
  intro cal A h
  unfold spec_l1Cur_spoilt.C at h
  split at h
  · cases h; exact ⟨_, rfl, fun x0 x y hy => spec_l1Cur_pick.good hE pv x0 x.1 hy⟩
  · cases h
theorem spec_l1Cur_spoilt.good (hE : EnvOk Tryz.prog envX) (pv : Nat → Value) (a0 : Cur) (a1 : ByteArray) (a2 : ByteArray) {y : _} (h : spec_l1Cur_spoilt.F a0 a1 a2 = some y) : MeetsM Tryz.prog envX pv 49 (.bx .cur a0) (tvals [.str, .str] (a1, a2, ())) (.kep (.bx .cur y.1) (.t .str y.2)) :=
  funM_plain hE (spec_l1Cur_spoilt.G hE pv) (f := 49) (fn := Tryz.f49) (by kernel_rfl) rfl (by kernel_rfl) (.inl rfl) (by kernel_rfl) ((spec_l1Cur_spoilt.run a0 a1 a2).trans h) fun r hr => wk_viewK (fun r y h => wk_view1 h) hr
/-! ### 18 loop.example/g00896/spec.DrawTextDistance -/
def spec_DrawTextDistance.F (k : Nat) (a0 : List Int) : Option (ByteArray × ByteArray) := (spec_l1Cur_container.F k (⟨a0, 0, 0⟩ : Cur)).bind fun r1 => (spec_l1Cur_container.F k r1.1).bind fun r2 => (spec_l1Cur_one.F r2.1 2).bind fun r3 => bif r3.2 then ((spec_l1Cur_spoilt.F r3.1 r1.2 (⟨#[84, 120, 32, 45]⟩ : ByteArray)).bind fun r4 => some (r1.2, r4.2)) else (some (r1.2, r2.2))
def spec_DrawTextDistance.C (k : Nat) : Cal → Option CArm := fun c => match c with
  | .f 47 => some (.m (.bx .cur) [] _ (fun x0 x => spec_l1Cur_container.F k x0) (fun r => .kep (.bx .cur r.1) (.t .str r.2)))
  | .f 48 => some (.m (.bx .cur) [(.int .i64)] _ (fun x0 x => spec_l1Cur_one.F x0 x.1) (fun r => .kep (.bx .cur r.1) (.t .bool r.2)))
  | .f 49 => some (.m (.bx .cur) [.str, .str] _ (fun x0 x => spec_l1Cur_spoilt.F x0 x.1 x.2.1) (fun r => .kep (.bx .cur r.1) (.t .str r.2)))
  | _ => none
theorem spec_DrawTextDistance.run (k : Nat) (a0 : List Int) : runF envX (tabC (spec_DrawTextDistance.C k)) (tabL 21 0 (fun _ => none)) Tryz.f18 [.t (.sl (.int .u8)) a0] (viewR2 (.t .str) (.t .str)) = spec_DrawTextDistance.F k a0 := by kernel_rfl
theorem spec_DrawTextDistance.G (hE : EnvOk Tryz.prog envX) (pv : Nat → Value) (k : Nat) : ∀ cal A, spec_DrawTextDistance.C k cal = some A → ArmOk Tryz.prog envX pv cal A := by
  intro cal A h
  unfold spec_DrawTextDistance.C at h
  split at h
  · cases h; exact ⟨_, rfl, fun x0 x y hy => spec_l1Cur_container.good hE pv k x0 hy⟩
  · cases h; exact ⟨_, rfl, fun x0 x y hy => spec_l1Cur_one.good hE pv x0 x.1 hy⟩
  · cases h; exact ⟨_, rfl, fun x0 x y hy => spec_l1Cur_spoilt.good hE pv x0 x.1 x.2.1 hy⟩
  · cases h
theorem spec_DrawTextDistance.good (hE : EnvOk Tryz.prog envX) (pv : Nat → Value) (k : Nat) (a0 : List Int) {y : _} (h : spec_DrawTextDistance.F k a0 = some y) : Meets Tryz.prog envX pv (.f 18) (tvals [(.sl (.int .u8))] (a0, ())) (.tup [.t .str y.1, .t .str y.2]) :=
  fun_plain hE (spec_DrawTextDistance.G hE pv k) (f := 18) (fn := Tryz.f18) (by kernel_rfl) rfl (by kernel_rfl) (by kernel_rfl) ((spec_DrawTextDistance.run k a0).trans h) fun r hr => wk_view2 hr
/-! ### 119 strings.Trim -/
def strings_Trim.F (a0 : ByteArray) (a1 : ByteArray) : Option (ByteArray) := xTrim1 a0 a1
theorem strings_Trim.good (hE : EnvOk Tryz.prog envX) (pv : Nat → Value) (a0 : ByteArray) (a1 : ByteArray) {y : _} (h : strings_Trim.F a0 a1 = some y) : Meets Tryz.prog envX pv (.f 119) (tvals [.str, .str] (a0, a1, ())) (.t .str y) :=
  ext_trim1 (fn := Tryz.f119) (by kernel_rfl) rfl (by kernel_rfl) Tryz.strings_Trim_one h
/-! ### 85 loop.example/g00896/impl.isPrintable -/
def impl_isPrintable.l0 : Nat → ByteArray → Int → Option (Sum Bool ByteArray)
  | 0, _, _ => none
  | k + 1, x0, x3 => bif (decide (x3 < (x0.size : Int))) then (bif decide (0 ≤ x3) then (bif decide (x3 < (x0.size : Int)) then (bif (decide ((bt x0 (x3 : Int).toNat) < 32)) then (some (.inl false)) else (bif decide (0 ≤ x3) then (bif decide (x3 < (x0.size : Int)) then (bif (decide ((bt x0 (x3 : Int).toNat) > 126)) then (some (.inl false)) else (impl_isPrintable.l0 k x0 (IntKind.wrap .i64 (x3 + 1)))) else none) else none)) else none) else none) else (some (.inr x0))
def impl_isPrintable.F (k : Nat) (a0 : ByteArray) : Option (Bool) := (impl_isPrintable.l0 k a0 0).bind fun y1 => match y1 with | .inl z2 => some z2 | .inr z2 => (strings_Trim.F z2 (⟨#[32]⟩ : ByteArray)).bind fun r3 => some (beqS r3 z2)
def impl_isPrintable.C (k : Nat) : Cal → Option CArm := fun c => match c with
  | .f 119 => some (.p [.str, .str] _ (fun x => strings_Trim.F x.1 x.2.1) (fun r => (.t .str r)))
  | _ => none
def impl_isPrintable.sp0 : List Sp := [.t 0 .str, .t 3 (.int .i64)]
def impl_isPrintable.sp0_0 : List Sp := [.t 2 .bool]
def impl_isPrintable.sp0_1 : List Sp := [.t 0 .str]
def impl_isPrintable.A0 : LArm := .two impl_isPrintable.sp0 impl_isPrintable.sp0_0 impl_isPrintable.sp0_1 (Bool) (ByteArray) (fun k x => impl_isPrintable.l0 k x.1 x.2.1) .ret (.exit 0) (fun y => (y, ())) (fun x => x.1) (fun y => (y, ())) (fun x => x.1)
def impl_isPrintable.L : Nat → Option LArm := fun b => match b with
  | 0 => some impl_isPrintable.A0
  | _ => none
theorem impl_isPrintable.run (k : Nat) (a0 : ByteArray) : runF envX (tabC (impl_isPrintable.C k)) (tabL 24 k impl_isPrintable.L) Tryz.f85 [.t .str a0] (viewR1 (.t .bool)) = impl_isPrintable.F k a0 := by kernel_rfl
theorem impl_isPrintable.step0 (k : Nat) (x0 : ByteArray) (x3 : Int) : runC envX (tabC (impl_isPrintable.C k)) (tabL 24 k impl_isPrintable.L) 0 (loopAt Tryz.f85 0) (stOf 24 impl_isPrintable.sp0 (x0, x3, ())) (impl_isPrintable.A0.cont 24 k) = impl_isPrintable.l0 (k + 1) x0 x3 := by kernel_rfl
theorem impl_isPrintable.G (hE : EnvOk Tryz.prog envX) (pv : Nat → Value) (k : Nat) : ∀ cal A, impl_isPrintable.C k cal = some A → ArmOk Tryz.prog envX pv cal A := by
  intro cal A h
  unfold impl_isPrintable.C at h
  split at h
  · cases h; exact fun x y hy => strings_Trim.good hE pv x.1 x.2.1 hy
  · cases h
theorem impl_isPrintable.good (hE : EnvOk Tryz.prog envX) (pv : Nat → Value) (k : Nat) (a0 : ByteArray) {y : _} (h : impl_isPrintable.F k a0 = some y) : Meets Tryz.prog envX pv (.f 85) (tvals [.str] (a0, ())) (.t .bool y) :=
  fun_loops hE (t := impl_isPrintable.C) k (fun k _ => impl_isPrintable.G hE pv k) (f := 85) (fn := Tryz.f85) (by kernel_rfl) rfl (by kernel_rfl) (by kernel_rfl) (lt := impl_isPrintable.L) (by kernel_rfl) (fun b A h => by
    unfold impl_isPrintable.L at h; split at h
    · cases h; exact ⟨by kernel_rfl, by kernel_rfl, by kernel_rfl, fun _ => rfl, fun _ => rfl, fun _ => rfl⟩
    · cases h) (fun b A h => by
    unfold impl_isPrintable.L at h; split at h
    · cases h; exact fun k x => impl_isPrintable.step0 k x.1 x.2.1
    · cases h) ((impl_isPrintable.run k a0).trans h) fun r hr => wk_view1 hr
/-! ### 50 loop.example/g00896/impl.isText -/
def impl_isText.F (k : Nat) (a0 : ByteArray) : Option (Bool) := bif (decide ((a0.size : Int) ≤ 40)) then ((impl_isPrintable.F k a0).bind fun r1 => some r1) else (some false)
def impl_isText.C (k : Nat) : Cal → Option CArm := fun c => match c with
  | .f 85 => some (.p [.str] _ (fun x => impl_isPrintable.F k x.1) (fun r => (.t .bool r)))
  | _ => none
theorem impl_isText.run (k : Nat) (a0 : ByteArray) : runF envX (tabC (impl_isText.C k)) (tabL 10 0 (fun _ => none)) Tryz.f50 [.t .str a0] (viewR1 (.t .bool)) = impl_isText.F k a0 := by kernel_rfl
theorem impl_isText.G (hE : EnvOk Tryz.prog envX) (pv : Nat → Value) (k : Nat) : ∀ cal A, impl_isText.C k cal = some A → ArmOk Tryz.prog envX pv cal A := by
  intro cal A h
  unfold impl_isText.C at h
  split at h
  · cases h; exact fun x y hy => impl_isPrintable.good hE pv k x.1 hy
  · cases h
theorem impl_isText.good (hE : EnvOk Tryz.prog envX) (pv : Nat → Value) (k : Nat) (a0 : ByteArray) {y : _} (h : impl_isText.F k a0 = some y) : Meets Tryz.prog envX pv (.f 50) (tvals [.str] (a0, ())) (.t .bool y) :=
  fun_plain hE (impl_isText.G hE pv k) (f := 50) (fn := Tryz.f50) (by kernel_rfl) rfl (by kernel_rfl) (by kernel_rfl) ((impl_isText.run k a0).trans h) fun r hr => wk_view1 hr
/-! ### 161 loop.example/g00896/impl.isUpper -/
def impl_isUpper.F (a0 : Int) : Option (Bool) := bif (decide (a0 ≥ 65)) then (some (decide (a0 ≤ 90))) else (some false)
def impl_isUpper.C : Cal → Option CArm := fun c => match c with
  | _ => none
theorem impl_isUpper.run (a0 : Int) : runF envX (tabC impl_isUpper.C) (tabL 9 0 (fun _ => none)) Tryz.f161 [.t (.int .u8) a0] (viewR1 (.t .bool)) = impl_isUpper.F a0 := by kernel_rfl
theorem impl_isUpper.G (hE : EnvOk Tryz.prog envX) (pv : Nat → Value) : ∀ cal A, impl_isUpper.C cal = some A → ArmOk Tryz.prog envX pv cal A := by
  intro cal A h
  unfold impl_isUpper.C at h
  cases h
theorem impl_isUpper.good (hE : EnvOk Tryz.prog envX) (pv : Nat → Value) (a0 : Int) {y : _} (h : impl_isUpper.F a0 = some y) : Meets Tryz.prog envX pv (.f 161) (tvals [(.int .u8)] (a0, ())) (.t .bool y) :=
  fun_plain hE (impl_isUpper.G hE pv) (f := 161) (fn := Tryz.f161) (by kernel_rfl) rfl (by kernel_rfl) (by kernel_rfl) ((impl_isUpper.run a0).trans h) fun r hr => wk_view1 hr
/-! ### 120 loop.example/g00896/impl.lower -/
def impl_lower.l0 : Nat → (List Int) → Int → Int → Option ((List Int))
  | 0, _, _, _ => none
  | k + 1, x3, x9, x10 => bif (decide (x10 < x9)) then (bif decide (0 ≤ x10) then (bif decide (x10 < (x3.length : Int)) then ((impl_isUpper.F (x3.getD ((x10 : Int).toNat) 0)).bind fun r1 => bif r1 then (bif decide (0 ≤ x10) then (bif decide (x10 < (x3.length : Int)) then (impl_lower.l0 k (x3.set ((x10 : Int).toNat) (IntKind.wrap .u8 ((IntKind.wrap .u8 ((x3.getD ((x10 : Int).toNat) 0) + 97)) - 65))) x9 (IntKind.wrap .i64 (x10 + 1))) else none) else none) else (impl_lower.l0 k x3 x9 (IntKind.wrap .i64 (x10 + 1)))) else none) else none) else (some x3)
def impl_lower.F (k : Nat) (a0 : ByteArray) : Option (ByteArray) := bif Nat.ble a0.size 9223372036854775807 then ((impl_lower.l0 k (bytesL a0) ((bytesL a0).length : Int) 0).bind fun y2 => some (strL y2)) else none
def impl_lower.C (k : Nat) : Cal → Option CArm := fun c => match c with
  | .f 161 => some (.p [(.int .u8)] _ (fun x => impl_isUpper.F x.1) (fun r => (.t .bool r)))
  | _ => none
def impl_lower.sp0 : List Sp := [.own 3 1028 5 (.int .u8) false false, .con 8 (.own 1028), .t 9 (.int .i64), .t 10 (.int .i64)]
def impl_lower.sp0_0 : List Sp := [.own 3 1028 5 (.int .u8) false false]
def impl_lower.A0 : LArm := .one impl_lower.sp0 impl_lower.sp0_0 ((List Int)) (fun k x => impl_lower.l0 k x.1 x.2.2.1 x.2.2.2.1) (.exit 0) (fun y => (y, ())) (fun x => x.1)
def impl_lower.L : Nat → Option LArm := fun b => match b with
  | 0 => some impl_lower.A0
  | _ => none
theorem impl_lower.run (k : Nat) (a0 : ByteArray) : runF envX (tabC (impl_lower.C k)) (tabL 26 k impl_lower.L) Tryz.f120 [.t .str a0] (viewR1 (.t .str)) = impl_lower.F k a0 := by kernel_rfl
theorem impl_lower.step0 (k : Nat) (x3 : List Int) (x9 : Int) (x10 : Int) : runC envX (tabC (impl_lower.C k)) (tabL 26 k impl_lower.L) 0 (loopAt Tryz.f120 0) (stOf 26 impl_lower.sp0 (x3, (), x9, x10, ())) (impl_lower.A0.cont 26 k) = impl_lower.l0 (k + 1) x3 x9 x10 := by kernel_rfl
theorem impl_lower.G (hE : EnvOk Tryz.prog envX) (pv : Nat → Value) (k : Nat) : ∀ cal A, impl_lower.C k cal = some A → ArmOk Tryz.prog envX pv cal A := by
  intro cal A h
  unfold impl_lower.C at h
  split at h
  · cases h; exact fun x y hy => impl_isUpper.good hE pv x.1 hy
  · cases h
theorem impl_lower.good (hE : EnvOk Tryz.prog envX) (pv : Nat → Value) (k : Nat) (a0 : ByteArray) {y : _} (h : impl_lower.F k a0 = some y) : Meets Tryz.prog envX pv (.f 120) (tvals [.str] (a0, ())) (.t .str y) :=
  fun_loops hE (t := impl_lower.C) k (fun k _ => impl_lower.G hE pv k) (f := 120) (fn := Tryz.f120) (by kernel_rfl) rfl (by kernel_rfl) (by kernel_rfl) (lt := impl_lower.L) (by kernel_rfl) (fun b A h => by
    unfold impl_lower.L at h; split at h
    · cases h; exact ⟨by kernel_rfl, by kernel_rfl, fun _ => rfl, fun _ => rfl⟩
    · cases h) (fun b A h => by
    unfold impl_lower.L at h; split at h
    · cases h; exact fun k x => impl_lower.step0 k x.1 x.2.2.1 x.2.2.2.1
    · cases h) ((impl_lower.run k a0).trans h) fun r hr => wk_view1 hr
/-! ### 121 loop.example/g00896/impl.isLower -/
def impl_isLower.F (a0 : Int) : Option (Bool) := bif (decide (a0 ≥ 97)) then (some (decide (a0 ≤ 122))) else (some false)
def impl_isLower.C : Cal → Option CArm := fun c => match c with
  | _ => none
theorem impl_isLower.run (a0 : Int) : runF envX (tabC impl_isLower.C) (tabL 9 0 (fun _ => none)) Tryz.f121 [.t (.int .u8) a0] (viewR1 (.t .bool)) = impl_isLower.F a0 := by kernel_rfl
theorem impl_isLower.G (hE : EnvOk Tryz.prog envX) (pv : Nat → Value) : ∀ cal A, impl_isLower.C cal = some A → ArmOk Tryz.prog envX pv cal A := by
  intro cal A h
  unfold impl_isLower.C at h
  cases h
theorem impl_isLower.good (hE : EnvOk Tryz.prog envX) (pv : Nat → Value) (a0 : Int) {y : _} (h : impl_isLower.F a0 = some y) : Meets Tryz.prog envX pv (.f 121) (tvals [(.int .u8)] (a0, ())) (.t .bool y) :=
  fun_plain hE (impl_isLower.G hE pv) (f := 121) (fn := Tryz.f121) (by kernel_rfl) rfl (by kernel_rfl) (by kernel_rfl) ((impl_isLower.run a0).trans h) fun r hr => wk_view1 hr
/-! ### 122 loop.example/g00896/impl.isDigit -/
def impl_isDigit.F (a0 : Int) : Option (Bool) := bif (decide (a0 ≥ 48)) then (some (decide (a0 ≤ 57))) else (some false)
def impl_isDigit.C : Cal → Option CArm := fun c => match c with
  | _ => none
theorem impl_isDigit.run (a0 : Int) : runF envX (tabC impl_isDigit.C) (tabL 9 0 (fun _ => none)) Tryz.f122 [.t (.int .u8) a0] (viewR1 (.t .bool)) = impl_isDigit.F a0 := by kernel_rfl
theorem impl_isDigit.G (hE : EnvOk Tryz.prog envX) (pv : Nat → Value) : ∀ cal A, impl_isDigit.C cal = some A → ArmOk Tryz.prog envX pv cal A := by
  intro cal A h
  unfold impl_isDigit.C at h
  cases h
theorem impl_isDigit.good (hE : EnvOk Tryz.prog envX) (pv : Nat → Value) (a0 : Int) {y : _} (h : impl_isDigit.F a0 = some y) : Meets Tryz.prog envX pv (.f 122) (tvals [(.int .u8)] (a0, ())) (.t .bool y) :=
  fun_plain hE (impl_isDigit.G hE pv) (f := 122) (fn := Tryz.f122) (by kernel_rfl) rfl (by kernel_rfl) (by kernel_rfl) ((impl_isDigit.run a0).trans h) fun r hr => wk_view1 hr
/-! ### 123 strings.Join -/
def strings_Join.F (a0 : List ByteArray) (a1 : ByteArray) : Option (ByteArray) := xJoin a0 a1
theorem strings_Join.good (hE : EnvOk Tryz.prog envX) (pv : Nat → Value) (a0 : List ByteArray) (a1 : ByteArray) {y : _} (h : strings_Join.F a0 a1 = some y) : Meets Tryz.prog envX pv (.f 123) (tvals [(.sl .str), .str] (a0, a1, ())) (.t .str y) :=
  ext_join (fn := Tryz.f123) (by kernel_rfl) rfl (by kernel_rfl) Tryz.strings_Join_none Tryz.strings_Join h
-- NO 209 slices.IndexFunc[[]string,string]: a parameter's type
-- NO 165 slices.DeleteFunc[[]string,string]: a parameter's type
/-! ### 166 strings.Split -/
def strings_Split.F (a0 : ByteArray) (a1 : ByteArray) : Option (List ByteArray) := xSplit a0 a1
theorem strings_Split.good (hE : EnvOk Tryz.prog envX) (pv : Nat → Value) (a0 : ByteArray) (a1 : ByteArray) {y : _} (h : strings_Split.F a0 a1 = some y) : Meets Tryz.prog envX pv (.f 166) (tvals [.str, .str] (a0, a1, ())) (.fr 9 .str y) :=
  ext_split (fn := Tryz.f166) (by kernel_rfl) rfl (by kernel_rfl) (mx := 0) (by kernel_rfl) Tryz.strings_Split h
/-! ### 167 loop.example/g00896/impl.wordsOf$1 -/
def impl_wordsOf_1.F (a0 : ByteArray) : Option (Bool) := some (beqS a0 (⟨#[]⟩ : ByteArray))
def impl_wordsOf_1.C : Cal → Option CArm := fun c => match c with
  | _ => none
theorem impl_wordsOf_1.run (a0 : ByteArray) : runF envX (tabC impl_wordsOf_1.C) (tabL 5 0 (fun _ => none)) Tryz.f167 [.t .str a0] (viewR1 (.t .bool)) = impl_wordsOf_1.F a0 := by kernel_rfl
theorem impl_wordsOf_1.G (hE : EnvOk Tryz.prog envX) (pv : Nat → Value) : ∀ cal A, impl_wordsOf_1.C cal = some A → ArmOk Tryz.prog envX pv cal A := by
  intro cal A h
  unfold impl_wordsOf_1.C at h
  cases h
theorem impl_wordsOf_1.good (hE : EnvOk Tryz.prog envX) (pv : Nat → Value) (a0 : ByteArray) {y : _} (h : impl_wordsOf_1.F a0 = some y) : Meets Tryz.prog envX pv (.f 167) (tvals [.str] (a0, ())) (.t .bool y) :=
  fun_plain hE (impl_wordsOf_1.G hE pv) (f := 167) (fn := Tryz.f167) (by kernel_rfl) rfl (by kernel_rfl) (by kernel_rfl) ((impl_wordsOf_1.run a0).trans h) fun r hr => wk_view1 hr
/-! ### 209 slices.IndexFunc[[]string,string] at loop.example/g00896/impl.wordsOf$1 -/
def slices_IndexFunc_string_f167.l0 : Nat → (List ByteArray) → Int → Int → Option (Sum Int Unit)
  | 0, _, _, _ => none
  | k + 1, x0, x7, x8 => bif (decide (x8 < x7)) then (bif decide (0 ≤ x8) then (bif decide (x8 < (x0.length : Int)) then ((impl_wordsOf_1.F (x0.getD (x8 : Int).toNat (⟨#[]⟩ : ByteArray))).bind fun r1 => bif r1 then (some (.inl x8)) else (slices_IndexFunc_string_f167.l0 k x0 x7 (IntKind.wrap .i64 (x8 + 1)))) else none) else none) else (some (.inr ()))
def slices_IndexFunc_string_f167.F (k : Nat) (a0 : List ByteArray) : Option (Int) := (slices_IndexFunc_string_f167.l0 k a0 (a0.length : Int) 0).bind fun y2 => match y2 with | .inl z3 => some z3 | .inr z3 => some (-1)
def slices_IndexFunc_string_f167.C (k : Nat) : Cal → Option CArm := fun c => match c with
  | .f 167 => some (.p [.str] _ (fun x => impl_wordsOf_1.F x.1) (fun r => (.t .bool r)))
  | _ => none
def slices_IndexFunc_string_f167.sp0 : List Sp := [.t 0 (.sl .str), .con 1 (.clo 167), .t 7 (.int .i64), .t 8 (.int .i64)]
def slices_IndexFunc_string_f167.sp0_0 : List Sp := [.t 4 (.int .i64)]
def slices_IndexFunc_string_f167.sp0_1 : List Sp := []
def slices_IndexFunc_string_f167.A0 : LArm := .two slices_IndexFunc_string_f167.sp0 slices_IndexFunc_string_f167.sp0_0 slices_IndexFunc_string_f167.sp0_1 (Int) (Unit) (fun k x => slices_IndexFunc_string_f167.l0 k x.1 x.2.2.1 x.2.2.2.1) .ret (.exit 0) (fun y => (y, ())) (fun x => x.1) (fun y => ()) (fun x => ())
def slices_IndexFunc_string_f167.L : Nat → Option LArm := fun b => match b with
  | 0 => some slices_IndexFunc_string_f167.A0
  | _ => none
theorem slices_IndexFunc_string_f167.run (k : Nat) (a0 : List ByteArray) : runF envX (tabC (slices_IndexFunc_string_f167.C k)) (tabL 19 k slices_IndexFunc_string_f167.L) Tryz.f209 [.t (.sl .str) a0, .clo 167 []] (viewR1 (.t (.int .i64))) = slices_IndexFunc_string_f167.F k a0 := by kernel_rfl
theorem slices_IndexFunc_string_f167.step0 (k : Nat) (x0 : List ByteArray) (x7 : Int) (x8 : Int) : runC envX (tabC (slices_IndexFunc_string_f167.C k)) (tabL 19 k slices_IndexFunc_string_f167.L) 0 (loopAt Tryz.f209 0) (stOf 19 slices_IndexFunc_string_f167.sp0 (x0, (), x7, x8, ())) (slices_IndexFunc_string_f167.A0.cont 19 k) = slices_IndexFunc_string_f167.l0 (k + 1) x0 x7 x8 := by kernel_rfl
theorem slices_IndexFunc_string_f167.G (hE : EnvOk Tryz.prog envX) (pv : Nat → Value) (k : Nat) : ∀ cal A, slices_IndexFunc_string_f167.C k cal = some A → ArmOk Tryz.prog envX pv cal A := by
  intro cal A h
  unfold slices_IndexFunc_string_f167.C at h
  split at h
  · cases h; exact fun x y hy => impl_wordsOf_1.good hE pv x.1 hy
  · cases h
theorem slices_IndexFunc_string_f167.good (hE : EnvOk Tryz.prog envX) (pv : Nat → Value) (k : Nat) (a0 : List ByteArray) {y : _} (h : slices_IndexFunc_string_f167.F k a0 = some y) : Meets Tryz.prog envX pv (.f 209) (pvals [.t (.sl .str), .clo 167 []] (a0, (()), ())) (.t (.int .i64) y) :=
  fun_loops hE (t := slices_IndexFunc_string_f167.C) k (fun k _ => slices_IndexFunc_string_f167.G hE pv k) (f := 209) (fn := Tryz.f209) (by kernel_rfl) rfl (by kernel_rfl) (by kernel_rfl) (lt := slices_IndexFunc_string_f167.L) (by kernel_rfl) (fun b A h => by
    unfold slices_IndexFunc_string_f167.L at h; split at h
    · cases h; exact ⟨by kernel_rfl, by kernel_rfl, by kernel_rfl, fun _ => rfl, fun _ => rfl, fun _ => rfl⟩
    · cases h) (fun b A h => by
    unfold slices_IndexFunc_string_f167.L at h; split at h
    · cases h; exact fun k x => slices_IndexFunc_string_f167.step0 k x.1 x.2.2.1 x.2.2.2.1
    · cases h) ((slices_IndexFunc_string_f167.run k a0).trans h) fun r hr => wk_view1 hr
/-! ### 165 slices.DeleteFunc[[]string,string] at loop.example/g00896/impl.wordsOf$1 -/
def slices_DeleteFunc_string_f167.l0 : Nat → (List ByteArray) → Int → Int → Option ((List ByteArray) × Int)
  | 0, _, _, _ => none
  | k + 1, x0, x5, x6 => bif (decide (x6 < (x0.length : Int))) then (bif decide (0 ≤ x6) then (bif decide (x6 < (x0.length : Int)) then ((impl_wordsOf_1.F (x0.getD ((x6 : Int).toNat) (⟨#[]⟩ : ByteArray))).bind fun r2 => bif (!r2) then (bif decide (0 ≤ x5) then (bif decide (x5 < (x0.length : Int)) then (slices_DeleteFunc_string_f167.l0 k (x0.set ((x5 : Int).toNat) (x0.getD ((x6 : Int).toNat) (⟨#[]⟩ : ByteArray))) (IntKind.wrap .i64 (x5 + 1)) (IntKind.wrap .i64 (x6 + 1))) else none) else none) else (slices_DeleteFunc_string_f167.l0 k x0 x5 (IntKind.wrap .i64 (x6 + 1)))) else none) else none) else (some (x0, x5))
def slices_DeleteFunc_string_f167.F (k : Nat) (a0 : List ByteArray) : Option (List ByteArray) := (slices_IndexFunc_string_f167.F k a0).bind fun r1 => bif (r1 == (-1)) then (some a0) else ((slices_DeleteFunc_string_f167.l0 k a0 r1 (IntKind.wrap .i64 (r1 + 1))).bind fun y3 => bif decide (0 ≤ y3.2) then (bif decide (y3.2 ≤ (y3.1.length : Int)) then (bif decide (0 ≤ y3.2) then (bif decide (y3.2 ≤ ((y3.1.take ((y3.2 : Int).toNat) ++ List.replicate (y3.1.length - ((y3.2 : Int).toNat)) (⟨#[]⟩ : ByteArray)).length : Int)) then (some ((y3.1.take ((y3.2 : Int).toNat) ++ List.replicate (y3.1.length - ((y3.2 : Int).toNat)) (⟨#[]⟩ : ByteArray)).take (y3.2 : Int).toNat)) else none) else none) else none) else none)
def slices_DeleteFunc_string_f167.C (k : Nat) : Cal → Option CArm := fun c => match c with
  | .f 209 => some (.q [.t (.sl .str), .clo 167 []] _ (fun x => slices_IndexFunc_string_f167.F k x.1) (fun r => (.t (.int .i64) r)))
  | .f 167 => some (.p [.str] _ (fun x => impl_wordsOf_1.F x.1) (fun r => (.t .bool r)))
  | _ => none
def slices_DeleteFunc_string_f167.sp0 : List Sp := [.own 0 1099511627777 9 .str false true, .con 1 (.clo 167), .t 5 (.int .i64), .t 6 (.int .i64)]
def slices_DeleteFunc_string_f167.sp0_0 : List Sp := [.own 0 1099511627777 9 .str false true, .t 5 (.int .i64)]
def slices_DeleteFunc_string_f167.A0 : LArm := .one slices_DeleteFunc_string_f167.sp0 slices_DeleteFunc_string_f167.sp0_0 ((List ByteArray) × Int) (fun k x => slices_DeleteFunc_string_f167.l0 k x.1 x.2.2.1 x.2.2.2.1) (.exit 0) (fun y => (y.1, y.2, ())) (fun x => (x.1, x.2.1))
def slices_DeleteFunc_string_f167.L : Nat → Option LArm := fun b => match b with
  | 0 => some slices_DeleteFunc_string_f167.A0
  | _ => none
theorem slices_DeleteFunc_string_f167.run (k : Nat) (a0 : List ByteArray) : runM envX (tabC (slices_DeleteFunc_string_f167.C k)) (tabL 42 k slices_DeleteFunc_string_f167.L) Tryz.f165 mmove (.fr 9 .str a0) [.clo 167 []] (viewMov 9 .str) = slices_DeleteFunc_string_f167.F k a0 := by kernel_rfl
theorem slices_DeleteFunc_string_f167.step0 (k : Nat) (x0 : List ByteArray) (x5 : Int) (x6 : Int) : runC envX (tabC (slices_DeleteFunc_string_f167.C k)) (tabL 42 k slices_DeleteFunc_string_f167.L) 0 (loopAt Tryz.f165 0) (stOf 42 slices_DeleteFunc_string_f167.sp0 (x0, (), x5, x6, ())) (slices_DeleteFunc_string_f167.A0.cont 42 k) = slices_DeleteFunc_string_f167.l0 (k + 1) x0 x5 x6 := by kernel_rfl
theorem slices_DeleteFunc_string_f167.G (hE : EnvOk Tryz.prog envX) (pv : Nat → Value) (k : Nat) : ∀ cal A, slices_DeleteFunc_string_f167.C k cal = some A → ArmOk Tryz.prog envX pv cal A := by
  intro cal A h
  unfold slices_DeleteFunc_string_f167.C at h
  split at h
  · cases h; exact fun x y hy => slices_IndexFunc_string_f167.good hE pv k x.1 hy
  · cases h; exact fun x y hy => impl_wordsOf_1.good hE pv x.1 hy
  · cases h
theorem slices_DeleteFunc_string_f167.good (hE : EnvOk Tryz.prog envX) (pv : Nat → Value) (k : Nat) (a0 : List ByteArray) {y : _} (h : slices_DeleteFunc_string_f167.F k a0 = some y) : MeetsM Tryz.prog envX pv 165 (.fr 9 .str a0) (pvals [.clo 167 []] ((()), ())) (.mov 9 .str y) :=
  funM_loops hE (t := slices_DeleteFunc_string_f167.C) k (fun k _ => slices_DeleteFunc_string_f167.G hE pv k) (f := 165) (fn := Tryz.f165) (by kernel_rfl) rfl (by kernel_rfl) (.inr rfl) (by kernel_rfl) (lt := slices_DeleteFunc_string_f167.L) (by kernel_rfl) (fun b A h => by
    unfold slices_DeleteFunc_string_f167.L at h; split at h
    · cases h; exact ⟨by kernel_rfl, by kernel_rfl, fun _ => rfl, fun _ => rfl⟩
    · cases h) (fun b A h => by
    unfold slices_DeleteFunc_string_f167.L at h; split at h
    · cases h; exact fun k x => slices_DeleteFunc_string_f167.step0 k x.1 x.2.2.1 x.2.2.2.1
    · cases h) ((slices_DeleteFunc_string_f167.run k a0).trans h) fun r hr => wk_viewMov hr
/-! ### 124 loop.example/g00896/impl.wordsOf -/
def impl_wordsOf.F (k : Nat) (a0 : ByteArray) : Option (List ByteArray) := (strings_Split.F a0 (⟨#[32]⟩ : ByteArray)).bind fun r1 => (slices_DeleteFunc_string_f167.F k r1).bind fun r2 => some r2
def impl_wordsOf.C (k : Nat) : Cal → Option CArm := fun c => match c with
  | .f 166 => some (.p [.str, .str] _ (fun x => strings_Split.F x.1 x.2.1) (fun r => (.fr 9 .str r)))
  | .f 165 => some (.mq (.fr 9 .str) [.clo 167 []] _ (fun x0 x => slices_DeleteFunc_string_f167.F k x0) (fun r => .mov 9 .str r))
  | _ => none
theorem impl_wordsOf.run (k : Nat) (a0 : ByteArray) : runF envX (tabC (impl_wordsOf.C k)) (tabL 6 0 (fun _ => none)) Tryz.f124 [.t .str a0] (viewR1 (.fr 9 .str)) = impl_wordsOf.F k a0 := by kernel_rfl
theorem impl_wordsOf.G (hE : EnvOk Tryz.prog envX) (pv : Nat → Value) (k : Nat) : ∀ cal A, impl_wordsOf.C k cal = some A → ArmOk Tryz.prog envX pv cal A := by
  intro cal A h
  unfold impl_wordsOf.C at h
  split at h
  · cases h; exact fun x y hy => strings_Split.good hE pv x.1 x.2.1 hy
  · cases h; exact ⟨_, rfl, fun x0 x y hy => slices_DeleteFunc_string_f167.good hE pv k x0 hy⟩
  · cases h
theorem impl_wordsOf.good (hE : EnvOk Tryz.prog envX) (pv : Nat → Value) (k : Nat) (a0 : ByteArray) {y : _} (h : impl_wordsOf.F k a0 = some y) : Meets Tryz.prog envX pv (.f 124) (tvals [.str] (a0, ())) (.fr 9 .str y) :=
  fun_plain hE (impl_wordsOf.G hE pv k) (f := 124) (fn := Tryz.f124) (by kernel_rfl) rfl (by kernel_rfl) (by kernel_rfl) ((impl_wordsOf.run k a0).trans h) fun r hr => wk_view1 hr
/-! ### 86 loop.example/g00896/impl.plainForm -/
def impl_plainForm.l0 : Nat → (List Int) → (List Int) → Int → Int → Option ((List Int))
  | 0, _, _, _, _ => none
  | k + 1, x3, x9, x10, x11 => bif (decide (x11 < x10)) then (bif decide (0 ≤ x11) then (bif decide (x11 < (x9.length : Int)) then ((impl_isLower.F (x9.getD ((x11 : Int).toNat) 0)).bind fun r2 => bif r2 then (bif room (x3.length + ([(x9.getD ((x11 : Int).toNat) 0)] : List Int).length) (.int .u8) then (impl_plainForm.l0 k (x3 ++ ([(x9.getD ((x11 : Int).toNat) 0)] : List Int)) x9 x10 (IntKind.wrap .i64 (x11 + 1))) else none) else ((impl_isDigit.F (x9.getD ((x11 : Int).toNat) 0)).bind fun r3 => bif r3 then (bif room (x3.length + ([(x9.getD ((x11 : Int).toNat) 0)] : List Int).length) (.int .u8) then (impl_plainForm.l0 k (x3 ++ ([(x9.getD ((x11 : Int).toNat) 0)] : List Int)) x9 x10 (IntKind.wrap .i64 (x11 + 1))) else none) else (bif ((x9.getD ((x11 : Int).toNat) 0) == 32) then (bif room (x3.length + ([(x9.getD ((x11 : Int).toNat) 0)] : List Int).length) (.int .u8) then (impl_plainForm.l0 k (x3 ++ ([(x9.getD ((x11 : Int).toNat) 0)] : List Int)) x9 x10 (IntKind.wrap .i64 (x11 + 1))) else none) else (impl_plainForm.l0 k x3 x9 x10 (IntKind.wrap .i64 (x11 + 1)))))) else none) else none) else (some x3)
def impl_plainForm.F (k : Nat) (a0 : ByteArray) : Option (ByteArray) := (impl_lower.F k a0).bind fun r1 => bif Nat.ble r1.size 9223372036854775807 then ((impl_plainForm.l0 k ([] : List Int) (bytesL r1) ((bytesL r1).length : Int) 0).bind fun y4 => (impl_wordsOf.F k (strL y4)).bind fun r5 => (strings_Join.F r5 (⟨#[32]⟩ : ByteArray)).bind fun r6 => some r6) else none
def impl_plainForm.C (k : Nat) : Cal → Option CArm := fun c => match c with
  | .f 120 => some (.p [.str] _ (fun x => impl_lower.F k x.1) (fun r => (.t .str r)))
  | .f 121 => some (.p [(.int .u8)] _ (fun x => impl_isLower.F x.1) (fun r => (.t .bool r)))
  | .f 122 => some (.p [(.int .u8)] _ (fun x => impl_isDigit.F x.1) (fun r => (.t .bool r)))
  | .f 124 => some (.p [.str] _ (fun x => impl_wordsOf.F k x.1) (fun r => (.fr 9 .str r)))
  | .f 123 => some (.p [(.sl .str), .str] _ (fun x => strings_Join.F x.1 x.2.1) (fun r => (.t .str r)))
  | _ => none
def impl_plainForm.sp0 : List Sp := [.own 3 1024 5 (.int .u8) false true, .own 9 2056 5 (.int .u8) false false, .t 10 (.int .i64), .t 11 (.int .i64)]
def impl_plainForm.sp0_0 : List Sp := [.own 3 1024 5 (.int .u8) false true]
def impl_plainForm.A0 : LArm := .one impl_plainForm.sp0 impl_plainForm.sp0_0 ((List Int)) (fun k x => impl_plainForm.l0 k x.1 x.2.1 x.2.2.1 x.2.2.2.1) (.exit 0) (fun y => (y, ())) (fun x => x.1)
def impl_plainForm.L : Nat → Option LArm := fun b => match b with
  | 0 => some impl_plainForm.A0
  | _ => none
theorem impl_plainForm.run (k : Nat) (a0 : ByteArray) : runF envX (tabC (impl_plainForm.C k)) (tabL 34 k impl_plainForm.L) Tryz.f86 [.t .str a0] (viewR1 (.t .str)) = impl_plainForm.F k a0 := by kernel_rfl
theorem impl_plainForm.step0 (k : Nat) (x3 : List Int) (x9 : List Int) (x10 : Int) (x11 : Int) : runC envX (tabC (impl_plainForm.C k)) (tabL 34 k impl_plainForm.L) 0 (loopAt Tryz.f86 0) (stOf 34 impl_plainForm.sp0 (x3, x9, x10, x11, ())) (impl_plainForm.A0.cont 34 k) = impl_plainForm.l0 (k + 1) x3 x9 x10 x11 := by kernel_rfl
theorem impl_plainForm.G (hE : EnvOk Tryz.prog envX) (pv : Nat → Value) (k : Nat) : ∀ cal A, impl_plainForm.C k cal = some A → ArmOk Tryz.prog envX pv cal A := by
  intro cal A h
  unfold impl_plainForm.C at h
  split at h
  · cases h; exact fun x y hy => impl_lower.good hE pv k x.1 hy
  · cases h; exact fun x y hy => impl_isLower.good hE pv x.1 hy
  · cases h; exact fun x y hy => impl_isDigit.good hE pv x.1 hy
  · cases h; exact fun x y hy => impl_wordsOf.good hE pv k x.1 hy
  · cases h; exact fun x y hy => strings_Join.good hE pv x.1 x.2.1 hy
  · cases h
theorem impl_plainForm.good (hE : EnvOk Tryz.prog envX) (pv : Nat → Value) (k : Nat) (a0 : ByteArray) {y : _} (h : impl_plainForm.F k a0 = some y) : Meets Tryz.prog envX pv (.f 86) (tvals [.str] (a0, ())) (.t .str y) :=
  fun_loops hE (t := impl_plainForm.C) k (fun k _ => impl_plainForm.G hE pv k) (f := 86) (fn := Tryz.f86) (by kernel_rfl) rfl (by kernel_rfl) (by kernel_rfl) (lt := impl_plainForm.L) (by kernel_rfl) (fun b A h => by
    unfold impl_plainForm.L at h; split at h
    · cases h; exact ⟨by kernel_rfl, by kernel_rfl, fun _ => rfl, fun _ => rfl⟩
    · cases h) (fun b A h => by
    unfold impl_plainForm.L at h; split at h
    · cases h; exact fun k x => impl_plainForm.step0 k x.1 x.2.1 x.2.2.1 x.2.2.2.1
    · cases h) ((impl_plainForm.run k a0).trans h) fun r hr => wk_view1 hr
/-! ### 51 loop.example/g00896/impl.textDistance -/
def impl_textDistance.l0 : Nat → ByteArray → ByteArray → (List Int) → Int → Int → Option (ByteArray × ByteArray × (List Int))
  | 0, _, _, _, _, _ => none
  | k + 1, x0, x1, x5, x18, x19 => bif (decide (x19 < x18)) then (bif room (x5.length + ([x19] : List Int).length) (.int .i64) then (impl_textDistance.l0 k x0 x1 (x5 ++ ([x19] : List Int)) x18 (IntKind.wrap .i64 (x19 + 1))) else none) else (some (x0, x1, x5))
def impl_textDistance.l4 : Nat → ByteArray → ByteArray → (List Int) → Int → (List Int) → Int → Option (ByteArray × ByteArray × Int × (List Int))
  | 0, _, _, _, _, _, _ => none
  | k + 1, x0, x1, x5, x7, x8, x9 => bif (decide (x9 ≤ (x1.size : Int))) then (bif decide (0 ≤ (IntKind.wrap .i64 (x7 - 1))) then (bif decide ((IntKind.wrap .i64 (x7 - 1)) < (x0.size : Int)) then (bif decide (0 ≤ (IntKind.wrap .i64 (x9 - 1))) then (bif decide ((IntKind.wrap .i64 (x9 - 1)) < (x1.size : Int)) then (bif ((bt x0 ((IntKind.wrap .i64 (x7 - 1)) : Int).toNat) == (bt x1 ((IntKind.wrap .i64 (x9 - 1)) : Int).toNat)) then (bif decide (0 ≤ x9) then (bif decide (x9 < (x5.length : Int)) then (bif decide (0 ≤ (IntKind.wrap .i64 (x9 - 1))) then (bif decide ((IntKind.wrap .i64 (x9 - 1)) < (x8.length : Int)) then (bif decide (0 ≤ (IntKind.wrap .i64 (x9 - 1))) then (bif decide ((IntKind.wrap .i64 (x9 - 1)) < (x5.length : Int)) then (bif room (x8.length + ([(if (IntKind.wrap .i64 ((x5.getD (((IntKind.wrap .i64 (x9 - 1)) : Int).toNat) 0) + 0)) < (if (IntKind.wrap .i64 ((x8.getD (((IntKind.wrap .i64 (x9 - 1)) : Int).toNat) 0) + 1)) < (IntKind.wrap .i64 ((x5.getD ((x9 : Int).toNat) 0) + 1)) then (IntKind.wrap .i64 ((x8.getD (((IntKind.wrap .i64 (x9 - 1)) : Int).toNat) 0) + 1)) else (IntKind.wrap .i64 ((x5.getD ((x9 : Int).toNat) 0) + 1))) then (IntKind.wrap .i64 ((x5.getD (((IntKind.wrap .i64 (x9 - 1)) : Int).toNat) 0) + 0)) else (if (IntKind.wrap .i64 ((x8.getD (((IntKind.wrap .i64 (x9 - 1)) : Int).toNat) 0) + 1)) < (IntKind.wrap .i64 ((x5.getD ((x9 : Int).toNat) 0) + 1)) then (IntKind.wrap .i64 ((x8.getD (((IntKind.wrap .i64 (x9 - 1)) : Int).toNat) 0) + 1)) else (IntKind.wrap .i64 ((x5.getD ((x9 : Int).toNat) 0) + 1))))] : List Int).length) (.int .i64) then (impl_textDistance.l4 k x0 x1 x5 x7 (x8 ++ ([(if (IntKind.wrap .i64 ((x5.getD (((IntKind.wrap .i64 (x9 - 1)) : Int).toNat) 0) + 0)) < (if (IntKind.wrap .i64 ((x8.getD (((IntKind.wrap .i64 (x9 - 1)) : Int).toNat) 0) + 1)) < (IntKind.wrap .i64 ((x5.getD ((x9 : Int).toNat) 0) + 1)) then (IntKind.wrap .i64 ((x8.getD (((IntKind.wrap .i64 (x9 - 1)) : Int).toNat) 0) + 1)) else (IntKind.wrap .i64 ((x5.getD ((x9 : Int).toNat) 0) + 1))) then (IntKind.wrap .i64 ((x5.getD (((IntKind.wrap .i64 (x9 - 1)) : Int).toNat) 0) + 0)) else (if (IntKind.wrap .i64 ((x8.getD (((IntKind.wrap .i64 (x9 - 1)) : Int).toNat) 0) + 1)) < (IntKind.wrap .i64 ((x5.getD ((x9 : Int).toNat) 0) + 1)) then (IntKind.wrap .i64 ((x8.getD (((IntKind.wrap .i64 (x9 - 1)) : Int).toNat) 0) + 1)) else (IntKind.wrap .i64 ((x5.getD ((x9 : Int).toNat) 0) + 1))))] : List Int)) (IntKind.wrap .i64 (x9 + 1))) else none) else none) else none) else none) else none) else none) else none) else (bif decide (0 ≤ x9) then (bif decide (x9 < (x5.length : Int)) then (bif decide (0 ≤ (IntKind.wrap .i64 (x9 - 1))) then (bif decide ((IntKind.wrap .i64 (x9 - 1)) < (x8.length : Int)) then (bif decide (0 ≤ (IntKind.wrap .i64 (x9 - 1))) then (bif decide ((IntKind.wrap .i64 (x9 - 1)) < (x5.length : Int)) then (bif room (x8.length + ([(if (IntKind.wrap .i64 ((x5.getD (((IntKind.wrap .i64 (x9 - 1)) : Int).toNat) 0) + 1)) < (if (IntKind.wrap .i64 ((x8.getD (((IntKind.wrap .i64 (x9 - 1)) : Int).toNat) 0) + 1)) < (IntKind.wrap .i64 ((x5.getD ((x9 : Int).toNat) 0) + 1)) then (IntKind.wrap .i64 ((x8.getD (((IntKind.wrap .i64 (x9 - 1)) : Int).toNat) 0) + 1)) else (IntKind.wrap .i64 ((x5.getD ((x9 : Int).toNat) 0) + 1))) then (IntKind.wrap .i64 ((x5.getD (((IntKind.wrap .i64 (x9 - 1)) : Int).toNat) 0) + 1)) else (if (IntKind.wrap .i64 ((x8.getD (((IntKind.wrap .i64 (x9 - 1)) : Int).toNat) 0) + 1)) < (IntKind.wrap .i64 ((x5.getD ((x9 : Int).toNat) 0) + 1)) then (IntKind.wrap .i64 ((x8.getD (((IntKind.wrap .i64 (x9 - 1)) : Int).toNat) 0) + 1)) else (IntKind.wrap .i64 ((x5.getD ((x9 : Int).toNat) 0) + 1))))] : List Int).length) (.int .i64) then (impl_textDistance.l4 k x0 x1 x5 x7 (x8 ++ ([(if (IntKind.wrap .i64 ((x5.getD (((IntKind.wrap .i64 (x9 - 1)) : Int).toNat) 0) + 1)) < (if (IntKind.wrap .i64 ((x8.getD (((IntKind.wrap .i64 (x9 - 1)) : Int).toNat) 0) + 1)) < (IntKind.wrap .i64 ((x5.getD ((x9 : Int).toNat) 0) + 1)) then (IntKind.wrap .i64 ((x8.getD (((IntKind.wrap .i64 (x9 - 1)) : Int).toNat) 0) + 1)) else (IntKind.wrap .i64 ((x5.getD ((x9 : Int).toNat) 0) + 1))) then (IntKind.wrap .i64 ((x5.getD (((IntKind.wrap .i64 (x9 - 1)) : Int).toNat) 0) + 1)) else (if (IntKind.wrap .i64 ((x8.getD (((IntKind.wrap .i64 (x9 - 1)) : Int).toNat) 0) + 1)) < (IntKind.wrap .i64 ((x5.getD ((x9 : Int).toNat) 0) + 1)) then (IntKind.wrap .i64 ((x8.getD (((IntKind.wrap .i64 (x9 - 1)) : Int).toNat) 0) + 1)) else (IntKind.wrap .i64 ((x5.getD ((x9 : Int).toNat) 0) + 1))))] : List Int)) (IntKind.wrap .i64 (x9 + 1))) else none) else none) else none) else none) else none) else none) else none)) else none) else none) else none) else none) else (some (x0, x1, x7, x8))
def impl_textDistance.l2 : Nat → ByteArray → ByteArray → (List Int) → Int → Option (ByteArray × (List Int))
  | 0, _, _, _, _ => none
  | k + 1, x0, x1, x5, x7 => bif (decide (x7 ≤ (x0.size : Int))) then ((impl_textDistance.l4 k x0 x1 x5 x7 ([x7] : List Int) 1).bind fun y4 => impl_textDistance.l2 k y4.1 y4.2.1 y4.2.2.2 (IntKind.wrap .i64 (y4.2.2.1 + 1))) else (some (x1, x5))
def impl_textDistance.F (k : Nat) (a0 : ByteArray) (a1 : ByteArray) : Option (Int) := (impl_plainForm.F k a0).bind fun r1 => (impl_plainForm.F k a1).bind fun r2 => (impl_textDistance.l0 k r1 r2 ([] : List Int) (IntKind.wrap .i64 ((r2.size : Int) + 1)) 0).bind fun y3 => (impl_textDistance.l2 k y3.1 y3.2.1 y3.2.2 1).bind fun y5 => bif decide (0 ≤ (y5.1.size : Int)) then (bif decide ((y5.1.size : Int) < (y5.2.length : Int)) then (some (y5.2.getD (((y5.1.size : Int) : Int).toNat) 0)) else none) else none
def impl_textDistance.C (k : Nat) : Cal → Option CArm := fun c => match c with
  | .f 86 => some (.p [.str] _ (fun x => impl_plainForm.F k x.1) (fun r => (.t .str r)))
  | _ => none
def impl_textDistance.sp0 : List Sp := [.t 0 .str, .t 1 .str, .own 5 2048 3 (.int .i64) false true, .t 18 (.int .i64), .t 19 (.int .i64)]
def impl_textDistance.sp0_0 : List Sp := [.t 0 .str, .t 1 .str, .own 5 2048 3 (.int .i64) false true]
def impl_textDistance.A0 : LArm := .one impl_textDistance.sp0 impl_textDistance.sp0_0 (ByteArray × ByteArray × (List Int)) (fun k x => impl_textDistance.l0 k x.1 x.2.1 x.2.2.1 x.2.2.2.1 x.2.2.2.2.1) (.exit 0) (fun y => (y.1, y.2.1, y.2.2, ())) (fun x => (x.1, x.2.1, x.2.2.1))
def impl_textDistance.sp4 : List Sp := [.t 0 .str, .t 1 .str, .own 5 2048 3 (.int .i64) false true, .t 7 (.int .i64), .own 8 11268 3 (.int .i64) false true, .t 9 (.int .i64)]
def impl_textDistance.sp4_0 : List Sp := [.t 0 .str, .t 1 .str, .t 7 (.int .i64), .own 8 11268 3 (.int .i64) false true]
def impl_textDistance.A4 : LArm := .one impl_textDistance.sp4 impl_textDistance.sp4_0 (ByteArray × ByteArray × Int × (List Int)) (fun k x => impl_textDistance.l4 k x.1 x.2.1 x.2.2.1 x.2.2.2.1 x.2.2.2.2.1 x.2.2.2.2.2.1) (.exit 4) (fun y => (y.1, y.2.1, y.2.2.1, y.2.2.2, ())) (fun x => (x.1, x.2.1, x.2.2.1, x.2.2.2.1))
def impl_textDistance.sp2 : List Sp := [.t 0 .str, .t 1 .str, .own 5 2048 3 (.int .i64) false true, .t 7 (.int .i64)]
def impl_textDistance.sp2_0 : List Sp := [.t 1 .str, .own 5 2048 3 (.int .i64) false true]
def impl_textDistance.A2 : LArm := .one impl_textDistance.sp2 impl_textDistance.sp2_0 (ByteArray × (List Int)) (fun k x => impl_textDistance.l2 k x.1 x.2.1 x.2.2.1 x.2.2.2.1) (.exit 2) (fun y => (y.1, y.2, ())) (fun x => (x.1, x.2.1))
def impl_textDistance.L : Nat → Option LArm := fun b => match b with
  | 0 => some impl_textDistance.A0
  | 4 => some impl_textDistance.A4
  | 2 => some impl_textDistance.A2
  | _ => none
theorem impl_textDistance.run (k : Nat) (a0 : ByteArray) (a1 : ByteArray) : runF envX (tabC (impl_textDistance.C k)) (tabL 78 k impl_textDistance.L) Tryz.f51 [.t .str a0, .t .str a1] (viewR1 (.t (.int .i64))) = impl_textDistance.F k a0 a1 := by kernel_rfl
theorem impl_textDistance.step0 (k : Nat) (x0 : ByteArray) (x1 : ByteArray) (x5 : List Int) (x18 : Int) (x19 : Int) : runC envX (tabC (impl_textDistance.C k)) (tabL 78 k impl_textDistance.L) 0 (loopAt Tryz.f51 0) (stOf 78 impl_textDistance.sp0 (x0, x1, x5, x18, x19, ())) (impl_textDistance.A0.cont 78 k) = impl_textDistance.l0 (k + 1) x0 x1 x5 x18 x19 := by kernel_rfl
theorem impl_textDistance.step4 (k : Nat) (x0 : ByteArray) (x1 : ByteArray) (x5 : List Int) (x7 : Int) (x8 : List Int) (x9 : Int) : runC envX (tabC (impl_textDistance.C k)) (tabL 78 k impl_textDistance.L) 4 (loopAt Tryz.f51 4) (stOf 78 impl_textDistance.sp4 (x0, x1, x5, x7, x8, x9, ())) (impl_textDistance.A4.cont 78 k) = impl_textDistance.l4 (k + 1) x0 x1 x5 x7 x8 x9 := by kernel_rfl
theorem impl_textDistance.step2 (k : Nat) (x0 : ByteArray) (x1 : ByteArray) (x5 : List Int) (x7 : Int) : runC envX (tabC (impl_textDistance.C k)) (tabL 78 k impl_textDistance.L) 2 (loopAt Tryz.f51 2) (stOf 78 impl_textDistance.sp2 (x0, x1, x5, x7, ())) (impl_textDistance.A2.cont 78 k) = impl_textDistance.l2 (k + 1) x0 x1 x5 x7 := by kernel_rfl
theorem impl_textDistance.G (hE : EnvOk Tryz.prog envX) (pv : Nat → Value) (k : Nat) : ∀ cal A, impl_textDistance.C k cal = some A → ArmOk Tryz.prog envX pv cal A := by
  intro cal A h
  unfold impl_textDistance.C at h
  split at h
  · cases h; exact fun x y hy => impl_plainForm.good hE pv k x.1 hy
  · cases h
theorem impl_textDistance.good (hE : EnvOk Tryz.prog envX) (pv : Nat → Value) (k : Nat) (a0 : ByteArray) (a1 : ByteArray) {y : _} (h : impl_textDistance.F k a0 a1 = some y) : Meets Tryz.prog envX pv (.f 51) (tvals [.str, .str] (a0, a1, ())) (.t (.int .i64) y) :=
  fun_loops hE (t := impl_textDistance.C) k (fun k _ => impl_textDistance.G hE pv k) (f := 51) (fn := Tryz.f51) (by kernel_rfl) rfl (by kernel_rfl) (by kernel_rfl) (lt := impl_textDistance.L) (by kernel_rfl) (fun b A h => by
    unfold impl_textDistance.L at h; split at h
    · cases h; exact ⟨by kernel_rfl, by kernel_rfl, fun _ => rfl, fun _ => rfl⟩
    · cases h; exact ⟨by kernel_rfl, by kernel_rfl, fun _ => rfl, fun _ => rfl⟩
    · cases h; exact ⟨by kernel_rfl, by kernel_rfl, fun _ => rfl, fun _ => rfl⟩
    · cases h) (fun b A h => by
    unfold impl_textDistance.L at h; split at h
    · cases h; exact fun k x => impl_textDistance.step0 k x.1 x.2.1 x.2.2.1 x.2.2.2.1 x.2.2.2.2.1
    · cases h; exact fun k x => impl_textDistance.step4 k x.1 x.2.1 x.2.2.1 x.2.2.2.1 x.2.2.2.2.1 x.2.2.2.2.2.1
    · cases h; exact fun k x => impl_textDistance.step2 k x.1 x.2.1 x.2.2.1 x.2.2.2.1
    · cases h) ((impl_textDistance.run k a0 a1).trans h) fun r hr => wk_view1 hr
/-! ### 19 loop.example/g00896/impl.TextDistance -/
def impl_TextDistance.F (k : Nat) (a0 : ByteArray) (a1 : ByteArray) : Option (Int × Bool) := (impl_isText.F k a0).bind fun r1 => bif (!r1) then (some (0, false)) else ((impl_isText.F k a1).bind fun r2 => bif (!r2) then (some (0, false)) else ((impl_textDistance.F k a0 a1).bind fun r3 => some (r3, true)))
def impl_TextDistance.C (k : Nat) : Cal → Option CArm := fun c => match c with
  | .f 50 => some (.p [.str] _ (fun x => impl_isText.F k x.1) (fun r => (.t .bool r)))
  | .f 51 => some (.p [.str, .str] _ (fun x => impl_textDistance.F k x.1 x.2.1) (fun r => (.t (.int .i64) r)))
  | _ => none
theorem impl_TextDistance.run (k : Nat) (a0 : ByteArray) (a1 : ByteArray) : runF envX (tabC (impl_TextDistance.C k)) (tabL 17 0 (fun _ => none)) Tryz.f19 [.t .str a0, .t .str a1] (viewR2 (.t (.int .i64)) (.t .bool)) = impl_TextDistance.F k a0 a1 := by kernel_rfl
theorem impl_TextDistance.G (hE : EnvOk Tryz.prog envX) (pv : Nat → Value) (k : Nat) : ∀ cal A, impl_TextDistance.C k cal = some A → ArmOk Tryz.prog envX pv cal A := by
  intro cal A h
  unfold impl_TextDistance.C at h
  split at h
  · cases h; exact fun x y hy => impl_isText.good hE pv k x.1 hy
  · cases h; exact fun x y hy => impl_textDistance.good hE pv k x.1 x.2.1 hy
  · cases h
theorem impl_TextDistance.good (hE : EnvOk Tryz.prog envX) (pv : Nat → Value) (k : Nat) (a0 : ByteArray) (a1 : ByteArray) {y : _} (h : impl_TextDistance.F k a0 a1 = some y) : Meets Tryz.prog envX pv (.f 19) (tvals [.str, .str] (a0, a1, ())) (.tup [.t (.int .i64) y.1, .t .bool y.2]) :=
  fun_plain hE (impl_TextDistance.G hE pv k) (f := 19) (fn := Tryz.f19) (by kernel_rfl) rfl (by kernel_rfl) (by kernel_rfl) ((impl_TextDistance.run k a0 a1).trans h) fun r hr => wk_view2 hr
/-! ### 52 loop.example/g00896/spec.l4Text -/
def spec_l4Text.l0 : Nat → ByteArray → Int → Option (Sum Bool ByteArray)
  | 0, _, _ => none
  | k + 1, x0, x3 => bif (decide (x3 < (x0.size : Int))) then (bif decide (0 ≤ x3) then (bif decide (x3 < (x0.size : Int)) then (bif (decide ((bt x0 (x3 : Int).toNat) < 32)) then (some (.inl false)) else (bif decide (0 ≤ x3) then (bif decide (x3 < (x0.size : Int)) then (bif (decide ((bt x0 (x3 : Int).toNat) > 126)) then (some (.inl false)) else (spec_l4Text.l0 k x0 (IntKind.wrap .i64 (x3 + 1)))) else none) else none)) else none) else none) else (some (.inr x0))
def spec_l4Text.F (k : Nat) (a0 : ByteArray) : Option (Bool) := bif (decide ((a0.size : Int) > 40)) then (some false) else ((spec_l4Text.l0 k a0 0).bind fun y1 => match y1 with | .inl z2 => some z2 | .inr z2 => bif (beqS z2 (⟨#[]⟩ : ByteArray)) then (some true) else (bif decide (0 ≤ 0) then (bif decide (0 < (z2.size : Int)) then (bif ((bt z2 (0 : Int).toNat) != 32) then (bif decide (0 ≤ (IntKind.wrap .i64 ((z2.size : Int) - 1))) then (bif decide ((IntKind.wrap .i64 ((z2.size : Int) - 1)) < (z2.size : Int)) then (some ((bt z2 ((IntKind.wrap .i64 ((z2.size : Int) - 1)) : Int).toNat) != 32)) else none) else none) else (some false)) else none) else none))
def spec_l4Text.C (k : Nat) : Cal → Option CArm := fun c => match c with
  | _ => none
def spec_l4Text.sp0 : List Sp := [.t 0 .str, .t 3 (.int .i64)]
def spec_l4Text.sp0_0 : List Sp := [.t 2 .bool]
def spec_l4Text.sp0_1 : List Sp := [.t 0 .str]
def spec_l4Text.A0 : LArm := .two spec_l4Text.sp0 spec_l4Text.sp0_0 spec_l4Text.sp0_1 (Bool) (ByteArray) (fun k x => spec_l4Text.l0 k x.1 x.2.1) .ret (.exit 0) (fun y => (y, ())) (fun x => x.1) (fun y => (y, ())) (fun x => x.1)
def spec_l4Text.L : Nat → Option LArm := fun b => match b with
  | 0 => some spec_l4Text.A0
  | _ => none
theorem spec_l4Text.run (k : Nat) (a0 : ByteArray) : runF envX (tabC (spec_l4Text.C k)) (tabL 38 k spec_l4Text.L) Tryz.f52 [.t .str a0] (viewR1 (.t .bool)) = spec_l4Text.F k a0 := by kernel_rfl
theorem spec_l4Text.step0 (k : Nat) (x0 : ByteArray) (x3 : Int) : runC envX (tabC (spec_l4Text.C k)) (tabL 38 k spec_l4Text.L) 0 (loopAt Tryz.f52 0) (stOf 38 spec_l4Text.sp0 (x0, x3, ())) (spec_l4Text.A0.cont 38 k) = spec_l4Text.l0 (k + 1) x0 x3 := by kernel_rfl
theorem spec_l4Text.G (hE : EnvOk Tryz.prog envX) (pv : Nat → Value) (k : Nat) : ∀ cal A, spec_l4Text.C k cal = some A → ArmOk Tryz.prog envX pv cal A := by
  intro cal A h
  unfold spec_l4Text.C at h
  cases h
theorem spec_l4Text.good (hE : EnvOk Tryz.prog envX) (pv : Nat → Value) (k : Nat) (a0 : ByteArray) {y : _} (h : spec_l4Text.F k a0 = some y) : Meets Tryz.prog envX pv (.f 52) (tvals [.str] (a0, ())) (.t .bool y) :=
  fun_loops hE (t := spec_l4Text.C) k (fun k _ => spec_l4Text.G hE pv k) (f := 52) (fn := Tryz.f52) (by kernel_rfl) rfl (by kernel_rfl) (by kernel_rfl) (lt := spec_l4Text.L) (by kernel_rfl) (fun b A h => by
    unfold spec_l4Text.L at h; split at h
    · cases h; exact ⟨by kernel_rfl, by kernel_rfl, by kernel_rfl, fun _ => rfl, fun _ => rfl, fun _ => rfl⟩
    · cases h) (fun b A h => by
    unfold spec_l4Text.L at h; split at h
    · cases h; exact fun k x => spec_l4Text.step0 k x.1 x.2.1
    · cases h) ((spec_l4Text.run k a0).trans h) fun r hr => wk_view1 hr
/-! ### 125 loop.example/g00896/spec.l1Least -/
def spec_l1Least.F (a0 : Int) (a1 : Int) : Option (Int) := bif (decide (a0 < a1)) then (some a0) else (some a1)
def spec_l1Least.C : Cal → Option CArm := fun c => match c with
  | _ => none
theorem spec_l1Least.run (a0 : Int) (a1 : Int) : runF envX (tabC spec_l1Least.C) (tabL 10 0 (fun _ => none)) Tryz.f125 [.t (.int .i64) a0, .t (.int .i64) a1] (viewR1 (.t (.int .i64))) = spec_l1Least.F a0 a1 := by kernel_rfl
theorem spec_l1Least.G (hE : EnvOk Tryz.prog envX) (pv : Nat → Value) : ∀ cal A, spec_l1Least.C cal = some A → ArmOk Tryz.prog envX pv cal A := by
  intro cal A h
  unfold spec_l1Least.C at h
  cases h
theorem spec_l1Least.good (hE : EnvOk Tryz.prog envX) (pv : Nat → Value) (a0 : Int) (a1 : Int) {y : _} (h : spec_l1Least.F a0 a1 = some y) : Meets Tryz.prog envX pv (.f 125) (tvals [(.int .i64), (.int .i64)] (a0, a1, ())) (.t (.int .i64) y) :=
  fun_plain hE (spec_l1Least.G hE pv) (f := 125) (fn := Tryz.f125) (by kernel_rfl) rfl (by kernel_rfl) (by kernel_rfl) ((spec_l1Least.run a0 a1).trans h) fun r hr => wk_view1 hr
/-! ### 87 loop.example/g00896/spec.l20Edit -/
def spec_l20Edit.l0 : Nat → ByteArray → ByteArray → (List Int) → Int → Option (ByteArray × ByteArray × (List Int))
  | 0, _, _, _, _ => none
  | k + 1, x0, x1, x5, x6 => bif (decide (x6 ≤ (x1.size : Int))) then (bif room (x5.length + ([x6] : List Int).length) (.int .i64) then (spec_l20Edit.l0 k x0 x1 (x5 ++ ([x6] : List Int)) (IntKind.wrap .i64 (x6 + 1))) else none) else (some (x0, x1, x5))
def spec_l20Edit.l4 : Nat → ByteArray → ByteArray → (List Int) → Int → (List Int) → Int → Option (ByteArray × ByteArray × Int × (List Int))
  | 0, _, _, _, _, _, _ => none
  | k + 1, x0, x1, x5, x7, x8, x9 => bif (decide (x9 ≤ (x1.size : Int))) then (bif decide (0 ≤ x9) then (bif decide (x9 < (x5.length : Int)) then (bif decide (0 ≤ (IntKind.wrap .i64 (x9 - 1))) then (bif decide ((IntKind.wrap .i64 (x9 - 1)) < (x8.length : Int)) then ((spec_l1Least.F (x5.getD ((x9 : Int).toNat) 0) (x8.getD (((IntKind.wrap .i64 (x9 - 1)) : Int).toNat) 0)).bind fun r2 => bif decide (0 ≤ (IntKind.wrap .i64 (x7 - 1))) then (bif decide ((IntKind.wrap .i64 (x7 - 1)) < (x0.size : Int)) then (bif decide (0 ≤ (IntKind.wrap .i64 (x9 - 1))) then (bif decide ((IntKind.wrap .i64 (x9 - 1)) < (x1.size : Int)) then (bif ((bt x0 ((IntKind.wrap .i64 (x7 - 1)) : Int).toNat) == (bt x1 ((IntKind.wrap .i64 (x9 - 1)) : Int).toNat)) then (bif decide (0 ≤ (IntKind.wrap .i64 (x9 - 1))) then (bif decide ((IntKind.wrap .i64 (x9 - 1)) < (x5.length : Int)) then ((spec_l1Least.F (IntKind.wrap .i64 (r2 + 1)) (x5.getD (((IntKind.wrap .i64 (x9 - 1)) : Int).toNat) 0)).bind fun r3 => bif room (x8.length + ([r3] : List Int).length) (.int .i64) then (spec_l20Edit.l4 k x0 x1 x5 x7 (x8 ++ ([r3] : List Int)) (IntKind.wrap .i64 (x9 + 1))) else none) else none) else none) else (bif decide (0 ≤ (IntKind.wrap .i64 (x9 - 1))) then (bif decide ((IntKind.wrap .i64 (x9 - 1)) < (x5.length : Int)) then ((spec_l1Least.F (IntKind.wrap .i64 (r2 + 1)) (IntKind.wrap .i64 ((x5.getD (((IntKind.wrap .i64 (x9 - 1)) : Int).toNat) 0) + 1))).bind fun r4 => bif room (x8.length + ([r4] : List Int).length) (.int .i64) then (spec_l20Edit.l4 k x0 x1 x5 x7 (x8 ++ ([r4] : List Int)) (IntKind.wrap .i64 (x9 + 1))) else none) else none) else none)) else none) else none) else none) else none) else none) else none) else none) else none) else (some (x0, x1, x7, x8))
def spec_l20Edit.l2 : Nat → ByteArray → ByteArray → (List Int) → Int → Option (ByteArray × (List Int))
  | 0, _, _, _, _ => none
  | k + 1, x0, x1, x5, x7 => bif (decide (x7 ≤ (x0.size : Int))) then ((spec_l20Edit.l4 k x0 x1 x5 x7 ([x7] : List Int) 1).bind fun y5 => spec_l20Edit.l2 k y5.1 y5.2.1 y5.2.2.2 (IntKind.wrap .i64 (y5.2.2.1 + 1))) else (some (x1, x5))
def spec_l20Edit.F (k : Nat) (a0 : ByteArray) (a1 : ByteArray) : Option (Int) := (spec_l20Edit.l0 k a0 a1 ([] : List Int) 0).bind fun y1 => (spec_l20Edit.l2 k y1.1 y1.2.1 y1.2.2 1).bind fun y6 => bif decide (0 ≤ (y6.1.size : Int)) then (bif decide ((y6.1.size : Int) < (y6.2.length : Int)) then (some (y6.2.getD (((y6.1.size : Int) : Int).toNat) 0)) else none) else none
def spec_l20Edit.C (k : Nat) : Cal → Option CArm := fun c => match c with
  | .f 125 => some (.p [(.int .i64), (.int .i64)] _ (fun x => spec_l1Least.F x.1 x.2.1) (fun r => (.t (.int .i64) r)))
  | _ => none
def spec_l20Edit.sp0 : List Sp := [.t 0 .str, .t 1 .str, .own 5 1024 3 (.int .i64) false true, .t 6 (.int .i64)]
def spec_l20Edit.sp0_0 : List Sp := [.t 0 .str, .t 1 .str, .own 5 1024 3 (.int .i64) false true]
def spec_l20Edit.A0 : LArm := .one spec_l20Edit.sp0 spec_l20Edit.sp0_0 (ByteArray × ByteArray × (List Int)) (fun k x => spec_l20Edit.l0 k x.1 x.2.1 x.2.2.1 x.2.2.2.1) (.exit 0) (fun y => (y.1, y.2.1, y.2.2, ())) (fun x => (x.1, x.2.1, x.2.2.1))
def spec_l20Edit.sp4 : List Sp := [.t 0 .str, .t 1 .str, .own 5 1024 3 (.int .i64) false true, .t 7 (.int .i64), .own 8 9220 3 (.int .i64) false true, .t 9 (.int .i64)]
def spec_l20Edit.sp4_0 : List Sp := [.t 0 .str, .t 1 .str, .t 7 (.int .i64), .own 8 9220 3 (.int .i64) false true]
def spec_l20Edit.A4 : LArm := .one spec_l20Edit.sp4 spec_l20Edit.sp4_0 (ByteArray × ByteArray × Int × (List Int)) (fun k x => spec_l20Edit.l4 k x.1 x.2.1 x.2.2.1 x.2.2.2.1 x.2.2.2.2.1 x.2.2.2.2.2.1) (.exit 4) (fun y => (y.1, y.2.1, y.2.2.1, y.2.2.2, ())) (fun x => (x.1, x.2.1, x.2.2.1, x.2.2.2.1))
def spec_l20Edit.sp2 : List Sp := [.t 0 .str, .t 1 .str, .own 5 1024 3 (.int .i64) false true, .t 7 (.int .i64)]
def spec_l20Edit.sp2_0 : List Sp := [.t 1 .str, .own 5 1024 3 (.int .i64) false true]
def spec_l20Edit.A2 : LArm := .one spec_l20Edit.sp2 spec_l20Edit.sp2_0 (ByteArray × (List Int)) (fun k x => spec_l20Edit.l2 k x.1 x.2.1 x.2.2.1 x.2.2.2.1) (.exit 2) (fun y => (y.1, y.2, ())) (fun x => (x.1, x.2.1))
def spec_l20Edit.L : Nat → Option LArm := fun b => match b with
  | 0 => some spec_l20Edit.A0
  | 4 => some spec_l20Edit.A4
  | 2 => some spec_l20Edit.A2
  | _ => none
theorem spec_l20Edit.run (k : Nat) (a0 : ByteArray) (a1 : ByteArray) : runF envX (tabC (spec_l20Edit.C k)) (tabL 81 k spec_l20Edit.L) Tryz.f87 [.t .str a0, .t .str a1] (viewR1 (.t (.int .i64))) = spec_l20Edit.F k a0 a1 := by kernel_rfl
theorem spec_l20Edit.step0 (k : Nat) (x0 : ByteArray) (x1 : ByteArray) (x5 : List Int) (x6 : Int) : runC envX (tabC (spec_l20Edit.C k)) (tabL 81 k spec_l20Edit.L) 0 (loopAt Tryz.f87 0) (stOf 81 spec_l20Edit.sp0 (x0, x1, x5, x6, ())) (spec_l20Edit.A0.cont 81 k) = spec_l20Edit.l0 (k + 1) x0 x1 x5 x6 := by kernel_rfl
theorem spec_l20Edit.step4 (k : Nat) (x0 : ByteArray) (x1 : ByteArray) (x5 : List Int) (x7 : Int) (x8 : List Int) (x9 : Int) : runC envX (tabC (spec_l20Edit.C k)) (tabL 81 k spec_l20Edit.L) 4 (loopAt Tryz.f87 4) (stOf 81 spec_l20Edit.sp4 (x0, x1, x5, x7, x8, x9, ())) (spec_l20Edit.A4.cont 81 k) = spec_l20Edit.l4 (k + 1) x0 x1 x5 x7 x8 x9 := by kernel_rfl
theorem spec_l20Edit.step2 (k : Nat) (x0 : ByteArray) (x1 : ByteArray) (x5 : List Int) (x7 : Int) : runC envX (tabC (spec_l20Edit.C k)) (tabL 81 k spec_l20Edit.L) 2 (loopAt Tryz.f87 2) (stOf 81 spec_l20Edit.sp2 (x0, x1, x5, x7, ())) (spec_l20Edit.A2.cont 81 k) = spec_l20Edit.l2 (k + 1) x0 x1 x5 x7 := by kernel_rfl
theorem spec_l20Edit.G (hE : EnvOk Tryz.prog envX) (pv : Nat → Value) (k : Nat) : ∀ cal A, spec_l20Edit.C k cal = some A → ArmOk Tryz.prog envX pv cal A := by
  intro cal A h
  unfold spec_l20Edit.C at h
  split at h
  · cases h; exact fun x y hy => spec_l1Least.good hE pv x.1 x.2.1 hy
  · cases h
theorem spec_l20Edit.good (hE : EnvOk Tryz.prog envX) (pv : Nat → Value) (k : Nat) (a0 : ByteArray) (a1 : ByteArray) {y : _} (h : spec_l20Edit.F k a0 a1 = some y) : Meets Tryz.prog envX pv (.f 87) (tvals [.str, .str] (a0, a1, ())) (.t (.int .i64) y) :=
  fun_loops hE (t := spec_l20Edit.C) k (fun k _ => spec_l20Edit.G hE pv k) (f := 87) (fn := Tryz.f87) (by kernel_rfl) rfl (by kernel_rfl) (by kernel_rfl) (lt := spec_l20Edit.L) (by kernel_rfl) (fun b A h => by
    unfold spec_l20Edit.L at h; split at h
    · cases h; exact ⟨by kernel_rfl, by kernel_rfl, fun _ => rfl, fun _ => rfl⟩
    · cases h; exact ⟨by kernel_rfl, by kernel_rfl, fun _ => rfl, fun _ => rfl⟩
    · cases h; exact ⟨by kernel_rfl, by kernel_rfl, fun _ => rfl, fun _ => rfl⟩
    · cases h) (fun b A h => by
    unfold spec_l20Edit.L at h; split at h
    · cases h; exact fun k x => spec_l20Edit.step0 k x.1 x.2.1 x.2.2.1 x.2.2.2.1
    · cases h; exact fun k x => spec_l20Edit.step4 k x.1 x.2.1 x.2.2.1 x.2.2.2.1 x.2.2.2.2.1 x.2.2.2.2.2.1
    · cases h; exact fun k x => spec_l20Edit.step2 k x.1 x.2.1 x.2.2.1 x.2.2.2.1
    · cases h) ((spec_l20Edit.run k a0 a1).trans h) fun r hr => wk_view1 hr
/-! ### 126 loop.example/g00896/spec.l6Join -/
def spec_l6Join.l0 : Nat → (List ByteArray) → ByteArray → Int → Option (ByteArray)
  | 0, _, _, _ => none
  | k + 1, x0, x3, x4 => bif (decide (x4 < (x0.length : Int))) then (bif (decide (x4 > 0)) then (bif Nat.ble (x3.size + (⟨#[32]⟩ : ByteArray).size) 9223372036854775807 then (bif decide (0 ≤ x4) then (bif decide (x4 < (x0.length : Int)) then (bif Nat.ble ((x3 ++ (⟨#[32]⟩ : ByteArray)).size + (x0.getD (x4 : Int).toNat (⟨#[]⟩ : ByteArray)).size) 9223372036854775807 then (spec_l6Join.l0 k x0 ((x3 ++ (⟨#[32]⟩ : ByteArray)) ++ (x0.getD (x4 : Int).toNat (⟨#[]⟩ : ByteArray))) (IntKind.wrap .i64 (x4 + 1))) else none) else none) else none) else none) else (bif decide (0 ≤ x4) then (bif decide (x4 < (x0.length : Int)) then (bif Nat.ble (x3.size + (x0.getD (x4 : Int).toNat (⟨#[]⟩ : ByteArray)).size) 9223372036854775807 then (spec_l6Join.l0 k x0 (x3 ++ (x0.getD (x4 : Int).toNat (⟨#[]⟩ : ByteArray))) (IntKind.wrap .i64 (x4 + 1))) else none) else none) else none)) else (some x3)
def spec_l6Join.F (k : Nat) (a0 : List ByteArray) : Option (ByteArray) := (spec_l6Join.l0 k a0 (⟨#[]⟩ : ByteArray) 0).bind fun y1 => some y1
def spec_l6Join.C (k : Nat) : Cal → Option CArm := fun c => match c with
  | _ => none
def spec_l6Join.sp0 : List Sp := [.t 0 (.sl .str), .t 3 .str, .t 4 (.int .i64)]
def spec_l6Join.sp0_0 : List Sp := [.t 3 .str]
def spec_l6Join.A0 : LArm := .one spec_l6Join.sp0 spec_l6Join.sp0_0 (ByteArray) (fun k x => spec_l6Join.l0 k x.1 x.2.1 x.2.2.1) (.exit 0) (fun y => (y, ())) (fun x => x.1)
def spec_l6Join.L : Nat → Option LArm := fun b => match b with
  | 0 => some spec_l6Join.A0
  | _ => none
theorem spec_l6Join.run (k : Nat) (a0 : List ByteArray) : runF envX (tabC (spec_l6Join.C k)) (tabL 22 k spec_l6Join.L) Tryz.f126 [.t (.sl .str) a0] (viewR1 (.t .str)) = spec_l6Join.F k a0 := by kernel_rfl
theorem spec_l6Join.step0 (k : Nat) (x0 : List ByteArray) (x3 : ByteArray) (x4 : Int) : runC envX (tabC (spec_l6Join.C k)) (tabL 22 k spec_l6Join.L) 0 (loopAt Tryz.f126 0) (stOf 22 spec_l6Join.sp0 (x0, x3, x4, ())) (spec_l6Join.A0.cont 22 k) = spec_l6Join.l0 (k + 1) x0 x3 x4 := by kernel_rfl
theorem spec_l6Join.G (hE : EnvOk Tryz.prog envX) (pv : Nat → Value) (k : Nat) : ∀ cal A, spec_l6Join.C k cal = some A → ArmOk Tryz.prog envX pv cal A := by
  intro cal A h
  unfold spec_l6Join.C at h
  cases h
theorem spec_l6Join.good (hE : EnvOk Tryz.prog envX) (pv : Nat → Value) (k : Nat) (a0 : List ByteArray) {y : _} (h : spec_l6Join.F k a0 = some y) : Meets Tryz.prog envX pv (.f 126) (tvals [(.sl .str)] (a0, ())) (.t .str y) :=
  fun_loops hE (t := spec_l6Join.C) k (fun k _ => spec_l6Join.G hE pv k) (f := 126) (fn := Tryz.f126) (by kernel_rfl) rfl (by kernel_rfl) (by kernel_rfl) (lt := spec_l6Join.L) (by kernel_rfl) (fun b A h => by
    unfold spec_l6Join.L at h; split at h
    · cases h; exact ⟨by kernel_rfl, by kernel_rfl, fun _ => rfl, fun _ => rfl⟩
    · cases h) (fun b A h => by
    unfold spec_l6Join.L at h; split at h
    · cases h; exact fun k x => spec_l6Join.step0 k x.1 x.2.1 x.2.2.1
    · cases h) ((spec_l6Join.run k a0).trans h) fun r hr => wk_view1 hr
/-! ### 132 loop.example/g00896/spec.l6LowerByte -/
def spec_l6LowerByte.F (a0 : Int) : Option (Int) := bif (decide (a0 ≥ 65)) then (bif (decide (a0 ≤ 90)) then (some (IntKind.wrap .u8 (a0 + 32))) else (some a0)) else (some a0)
def spec_l6LowerByte.C : Cal → Option CArm := fun c => match c with
  | _ => none
theorem spec_l6LowerByte.run (a0 : Int) : runF envX (tabC spec_l6LowerByte.C) (tabL 12 0 (fun _ => none)) Tryz.f132 [.t (.int .u8) a0] (viewR1 (.t (.int .u8))) = spec_l6LowerByte.F a0 := by kernel_rfl
theorem spec_l6LowerByte.G (hE : EnvOk Tryz.prog envX) (pv : Nat → Value) : ∀ cal A, spec_l6LowerByte.C cal = some A → ArmOk Tryz.prog envX pv cal A := by
  intro cal A h
  unfold spec_l6LowerByte.C at h
  cases h
theorem spec_l6LowerByte.good (hE : EnvOk Tryz.prog envX) (pv : Nat → Value) (a0 : Int) {y : _} (h : spec_l6LowerByte.F a0 = some y) : Meets Tryz.prog envX pv (.f 132) (tvals [(.int .u8)] (a0, ())) (.t (.int .u8) y) :=
  fun_plain hE (spec_l6LowerByte.G hE pv) (f := 132) (fn := Tryz.f132) (by kernel_rfl) rfl (by kernel_rfl) (by kernel_rfl) ((spec_l6LowerByte.run a0).trans h) fun r hr => wk_view1 hr
/-! ### 168 loop.example/g00896/spec.l6Letter -/
def spec_l6Letter.F (a0 : Int) : Option (Bool) := bif (decide (a0 ≥ 65)) then (bif (decide (a0 ≤ 90)) then (some true) else (bif (decide (a0 ≥ 97)) then (some (decide (a0 ≤ 122))) else (some false))) else (bif (decide (a0 ≥ 97)) then (some (decide (a0 ≤ 122))) else (some false))
def spec_l6Letter.C : Cal → Option CArm := fun c => match c with
  | _ => none
theorem spec_l6Letter.run (a0 : Int) : runF envX (tabC spec_l6Letter.C) (tabL 17 0 (fun _ => none)) Tryz.f168 [.t (.int .u8) a0] (viewR1 (.t .bool)) = spec_l6Letter.F a0 := by kernel_rfl
theorem spec_l6Letter.G (hE : EnvOk Tryz.prog envX) (pv : Nat → Value) : ∀ cal A, spec_l6Letter.C cal = some A → ArmOk Tryz.prog envX pv cal A := by
  intro cal A h
  unfold spec_l6Letter.C at h
  cases h
theorem spec_l6Letter.good (hE : EnvOk Tryz.prog envX) (pv : Nat → Value) (a0 : Int) {y : _} (h : spec_l6Letter.F a0 = some y) : Meets Tryz.prog envX pv (.f 168) (tvals [(.int .u8)] (a0, ())) (.t .bool y) :=
  fun_plain hE (spec_l6Letter.G hE pv) (f := 168) (fn := Tryz.f168) (by kernel_rfl) rfl (by kernel_rfl) (by kernel_rfl) ((spec_l6Letter.run a0).trans h) fun r hr => wk_view1 hr
/-! ### 169 loop.example/g00896/spec.l6Digit -/
def spec_l6Digit.F (a0 : Int) : Option (Bool) := bif (decide (a0 ≥ 48)) then (some (decide (a0 ≤ 57))) else (some false)
def spec_l6Digit.C : Cal → Option CArm := fun c => match c with
  | _ => none
theorem spec_l6Digit.run (a0 : Int) : runF envX (tabC spec_l6Digit.C) (tabL 9 0 (fun _ => none)) Tryz.f169 [.t (.int .u8) a0] (viewR1 (.t .bool)) = spec_l6Digit.F a0 := by kernel_rfl
theorem spec_l6Digit.G (hE : EnvOk Tryz.prog envX) (pv : Nat → Value) : ∀ cal A, spec_l6Digit.C cal = some A → ArmOk Tryz.prog envX pv cal A := by
  intro cal A h
  unfold spec_l6Digit.C at h
  cases h
theorem spec_l6Digit.good (hE : EnvOk Tryz.prog envX) (pv : Nat → Value) (a0 : Int) {y : _} (h : spec_l6Digit.F a0 = some y) : Meets Tryz.prog envX pv (.f 169) (tvals [(.int .u8)] (a0, ())) (.t .bool y) :=
  fun_plain hE (spec_l6Digit.G hE pv) (f := 169) (fn := Tryz.f169) (by kernel_rfl) rfl (by kernel_rfl) (by kernel_rfl) ((spec_l6Digit.run a0).trans h) fun r hr => wk_view1 hr
/-! ### 127 loop.example/g00896/spec.l6Simple -/
def spec_l6Simple.l0 : Nat → ByteArray → (List ByteArray) → (List Int) → Int → Option ((List ByteArray))
  | 0, _, _, _, _ => none
  | k + 1, x0, x3, x4, x5 => bif (decide (x5 ≤ (x0.size : Int))) then (bif (x5 == (x0.size : Int)) then (bif (decide ((x4.length : Int) > 0)) then (bif room (x3.length + ([(strL x4)] : List ByteArray).length) .str then (spec_l6Simple.l0 k x0 (x3 ++ ([(strL x4)] : List ByteArray)) ([] : List Int) (IntKind.wrap .i64 (x5 + 1))) else none) else (spec_l6Simple.l0 k x0 x3 ([] : List Int) (IntKind.wrap .i64 (x5 + 1)))) else (bif decide (0 ≤ x5) then (bif decide (x5 < (x0.size : Int)) then (bif ((bt x0 (x5 : Int).toNat) == 32) then (bif (decide ((x4.length : Int) > 0)) then (bif room (x3.length + ([(strL x4)] : List ByteArray).length) .str then (spec_l6Simple.l0 k x0 (x3 ++ ([(strL x4)] : List ByteArray)) ([] : List Int) (IntKind.wrap .i64 (x5 + 1))) else none) else (spec_l6Simple.l0 k x0 x3 ([] : List Int) (IntKind.wrap .i64 (x5 + 1)))) else (bif decide (0 ≤ x5) then (bif decide (x5 < (x0.size : Int)) then ((spec_l6Letter.F (bt x0 (x5 : Int).toNat)).bind fun r1 => bif r1 then (bif decide (0 ≤ x5) then (bif decide (x5 < (x0.size : Int)) then ((spec_l6LowerByte.F (bt x0 (x5 : Int).toNat)).bind fun r2 => bif room (x4.length + ([r2] : List Int).length) (.int .u8) then (spec_l6Simple.l0 k x0 x3 (x4 ++ ([r2] : List Int)) (IntKind.wrap .i64 (x5 + 1))) else none) else none) else none) else (bif decide (0 ≤ x5) then (bif decide (x5 < (x0.size : Int)) then ((spec_l6Digit.F (bt x0 (x5 : Int).toNat)).bind fun r3 => bif r3 then (bif decide (0 ≤ x5) then (bif decide (x5 < (x0.size : Int)) then ((spec_l6LowerByte.F (bt x0 (x5 : Int).toNat)).bind fun r4 => bif room (x4.length + ([r4] : List Int).length) (.int .u8) then (spec_l6Simple.l0 k x0 x3 (x4 ++ ([r4] : List Int)) (IntKind.wrap .i64 (x5 + 1))) else none) else none) else none) else (spec_l6Simple.l0 k x0 x3 x4 (IntKind.wrap .i64 (x5 + 1)))) else none) else none)) else none) else none)) else none) else none)) else (some x3)
def spec_l6Simple.F (k : Nat) (a0 : ByteArray) : Option (List ByteArray) := (spec_l6Simple.l0 k a0 ([] : List ByteArray) ([] : List Int) 0).bind fun y5 => some y5
def spec_l6Simple.C (k : Nat) : Cal → Option CArm := fun c => match c with
  | .f 168 => some (.p [(.int .u8)] _ (fun x => spec_l6Letter.F x.1) (fun r => (.t .bool r)))
  | .f 132 => some (.p [(.int .u8)] _ (fun x => spec_l6LowerByte.F x.1) (fun r => (.t (.int .u8) r)))
  | .f 169 => some (.p [(.int .u8)] _ (fun x => spec_l6Digit.F x.1) (fun r => (.t .bool r)))
  | _ => none
def spec_l6Simple.sp0 : List Sp := [.t 0 .str, .own 3 1024 9 .str false true, .own 4 2048 5 (.int .u8) false true, .t 5 (.int .i64)]
def spec_l6Simple.sp0_0 : List Sp := [.own 3 1024 9 .str false true]
def spec_l6Simple.A0 : LArm := .one spec_l6Simple.sp0 spec_l6Simple.sp0_0 ((List ByteArray)) (fun k x => spec_l6Simple.l0 k x.1 x.2.1 x.2.2.1 x.2.2.2.1) (.exit 0) (fun y => (y, ())) (fun x => x.1)
def spec_l6Simple.L : Nat → Option LArm := fun b => match b with
  | 0 => some spec_l6Simple.A0
  | _ => none
theorem spec_l6Simple.run (k : Nat) (a0 : ByteArray) : runF envX (tabC (spec_l6Simple.C k)) (tabL 51 k spec_l6Simple.L) Tryz.f127 [.t .str a0] (viewR1 (.fr 9 .str)) = spec_l6Simple.F k a0 := by kernel_rfl
theorem spec_l6Simple.step0 (k : Nat) (x0 : ByteArray) (x3 : List ByteArray) (x4 : List Int) (x5 : Int) : runC envX (tabC (spec_l6Simple.C k)) (tabL 51 k spec_l6Simple.L) 0 (loopAt Tryz.f127 0) (stOf 51 spec_l6Simple.sp0 (x0, x3, x4, x5, ())) (spec_l6Simple.A0.cont 51 k) = spec_l6Simple.l0 (k + 1) x0 x3 x4 x5 := by kernel_rfl
theorem spec_l6Simple.G (hE : EnvOk Tryz.prog envX) (pv : Nat → Value) (k : Nat) : ∀ cal A, spec_l6Simple.C k cal = some A → ArmOk Tryz.prog envX pv cal A := by
  intro cal A h
  unfold spec_l6Simple.C at h
  split at h
  · cases h; exact fun x y hy => spec_l6Letter.good hE pv x.1 hy
  · cases h; exact fun x y hy => spec_l6LowerByte.good hE pv x.1 hy
  · cases h; exact fun x y hy => spec_l6Digit.good hE pv x.1 hy
  · cases h
theorem spec_l6Simple.good (hE : EnvOk Tryz.prog envX) (pv : Nat → Value) (k : Nat) (a0 : ByteArray) {y : _} (h : spec_l6Simple.F k a0 = some y) : Meets Tryz.prog envX pv (.f 127) (tvals [.str] (a0, ())) (.fr 9 .str y) :=
  fun_loops hE (t := spec_l6Simple.C) k (fun k _ => spec_l6Simple.G hE pv k) (f := 127) (fn := Tryz.f127) (by kernel_rfl) rfl (by kernel_rfl) (by kernel_rfl) (lt := spec_l6Simple.L) (by kernel_rfl) (fun b A h => by
    unfold spec_l6Simple.L at h; split at h
    · cases h; exact ⟨by kernel_rfl, by kernel_rfl, fun _ => rfl, fun _ => rfl⟩
    · cases h) (fun b A h => by
    unfold spec_l6Simple.L at h; split at h
    · cases h; exact fun k x => spec_l6Simple.step0 k x.1 x.2.1 x.2.2.1 x.2.2.2.1
    · cases h) ((spec_l6Simple.run k a0).trans h) fun r hr => wk_view1 hr
/-! ### 88 loop.example/g00896/spec.l20Plain -/
def spec_l20Plain.F (k : Nat) (a0 : ByteArray) : Option (ByteArray) := (spec_l6Simple.F k a0).bind fun r1 => (spec_l6Join.F k r1).bind fun r2 => some r2
def spec_l20Plain.C (k : Nat) : Cal → Option CArm := fun c => match c with
  | .f 127 => some (.p [.str] _ (fun x => spec_l6Simple.F k x.1) (fun r => (.fr 9 .str r)))
  | .f 126 => some (.p [(.sl .str)] _ (fun x => spec_l6Join.F k x.1) (fun r => (.t .str r)))
  | _ => none
theorem spec_l20Plain.run (k : Nat) (a0 : ByteArray) : runF envX (tabC (spec_l20Plain.C k)) (tabL 6 0 (fun _ => none)) Tryz.f88 [.t .str a0] (viewR1 (.t .str)) = spec_l20Plain.F k a0 := by kernel_rfl
theorem spec_l20Plain.G (hE : EnvOk Tryz.prog envX) (pv : Nat → Value) (k : Nat) : ∀ cal A, spec_l20Plain.C k cal = some A → ArmOk Tryz.prog envX pv cal A := by
  intro cal A h
  unfold spec_l20Plain.C at h
  split at h
  · cases h; exact fun x y hy => spec_l6Simple.good hE pv k x.1 hy
  · cases h; exact fun x y hy => spec_l6Join.good hE pv k x.1 hy
  · cases h
theorem spec_l20Plain.good (hE : EnvOk Tryz.prog envX) (pv : Nat → Value) (k : Nat) (a0 : ByteArray) {y : _} (h : spec_l20Plain.F k a0 = some y) : Meets Tryz.prog envX pv (.f 88) (tvals [.str] (a0, ())) (.t .str y) :=
  fun_plain hE (spec_l20Plain.G hE pv k) (f := 88) (fn := Tryz.f88) (by kernel_rfl) rfl (by kernel_rfl) (by kernel_rfl) ((spec_l20Plain.run k a0).trans h) fun r hr => wk_view1 hr
/-! ### 53 loop.example/g00896/spec.l20Distance -/
def spec_l20Distance.F (k : Nat) (a0 : ByteArray) (a1 : ByteArray) : Option (Int) := (spec_l20Plain.F k a0).bind fun r1 => (spec_l20Plain.F k a1).bind fun r2 => (spec_l20Edit.F k r1 r2).bind fun r3 => some r3
def spec_l20Distance.C (k : Nat) : Cal → Option CArm := fun c => match c with
  | .f 88 => some (.p [.str] _ (fun x => spec_l20Plain.F k x.1) (fun r => (.t .str r)))
  | .f 87 => some (.p [.str, .str] _ (fun x => spec_l20Edit.F k x.1 x.2.1) (fun r => (.t (.int .i64) r)))
  | _ => none
theorem spec_l20Distance.run (k : Nat) (a0 : ByteArray) (a1 : ByteArray) : runF envX (tabC (spec_l20Distance.C k)) (tabL 10 0 (fun _ => none)) Tryz.f53 [.t .str a0, .t .str a1] (viewR1 (.t (.int .i64))) = spec_l20Distance.F k a0 a1 := by kernel_rfl
theorem spec_l20Distance.G (hE : EnvOk Tryz.prog envX) (pv : Nat → Value) (k : Nat) : ∀ cal A, spec_l20Distance.C k cal = some A → ArmOk Tryz.prog envX pv cal A := by
  intro cal A h
  unfold spec_l20Distance.C at h
  split at h
  · cases h; exact fun x y hy => spec_l20Plain.good hE pv k x.1 hy
  · cases h; exact fun x y hy => spec_l20Edit.good hE pv k x.1 x.2.1 hy
  · cases h
theorem spec_l20Distance.good (hE : EnvOk Tryz.prog envX) (pv : Nat → Value) (k : Nat) (a0 : ByteArray) (a1 : ByteArray) {y : _} (h : spec_l20Distance.F k a0 a1 = some y) : Meets Tryz.prog envX pv (.f 53) (tvals [.str, .str] (a0, a1, ())) (.t (.int .i64) y) :=
  fun_plain hE (spec_l20Distance.G hE pv k) (f := 53) (fn := Tryz.f53) (by kernel_rfl) rfl (by kernel_rfl) (by kernel_rfl) ((spec_l20Distance.run k a0 a1).trans h) fun r hr => wk_view1 hr
/-! ### 20 loop.example/g00896/spec.TextDistance -/
def spec_TextDistance.F (k : Nat) (a0 : ByteArray) (a1 : ByteArray) : Option (Int × Bool) := (spec_l4Text.F k a0).bind fun r1 => bif (!r1) then (some (0, false)) else ((spec_l4Text.F k a1).bind fun r2 => bif (!r2) then (some (0, false)) else ((spec_l20Distance.F k a0 a1).bind fun r3 => some (r3, true)))
def spec_TextDistance.C (k : Nat) : Cal → Option CArm := fun c => match c with
  | .f 52 => some (.p [.str] _ (fun x => spec_l4Text.F k x.1) (fun r => (.t .bool r)))
  | .f 53 => some (.p [.str, .str] _ (fun x => spec_l20Distance.F k x.1 x.2.1) (fun r => (.t (.int .i64) r)))
  | _ => none
theorem spec_TextDistance.run (k : Nat) (a0 : ByteArray) (a1 : ByteArray) : runF envX (tabC (spec_TextDistance.C k)) (tabL 17 0 (fun _ => none)) Tryz.f20 [.t .str a0, .t .str a1] (viewR2 (.t (.int .i64)) (.t .bool)) = spec_TextDistance.F k a0 a1 := by kernel_rfl
theorem spec_TextDistance.G (hE : EnvOk Tryz.prog envX) (pv : Nat → Value) (k : Nat) : ∀ cal A, spec_TextDistance.C k cal = some A → ArmOk Tryz.prog envX pv cal A := by
  intro cal A h
  unfold spec_TextDistance.C at h
  split at h
  · cases h; exact fun x y hy => spec_l4Text.good hE pv k x.1 hy
  · cases h; exact fun x y hy => spec_l20Distance.good hE pv k x.1 x.2.1 hy
  · cases h
theorem spec_TextDistance.good (hE : EnvOk Tryz.prog envX) (pv : Nat → Value) (k : Nat) (a0 : ByteArray) (a1 : ByteArray) {y : _} (h : spec_TextDistance.F k a0 a1 = some y) : Meets Tryz.prog envX pv (.f 20) (tvals [.str, .str] (a0, a1, ())) (.tup [.t (.int .i64) y.1, .t .bool y.2]) :=
  fun_plain hE (spec_TextDistance.G hE pv k) (f := 20) (fn := Tryz.f20) (by kernel_rfl) rfl (by kernel_rfl) (by kernel_rfl) ((spec_TextDistance.run k a0 a1).trans h) fun r hr => wk_view2 hr
/-! ### 56 (*loop.example/g00896/spec.l1Cur).among -/
def spec_l1Cur_among.F (a0 : Cur) (a1 : List Int) : Option (Cur × Int) := (spec_l1Cur_pick.F a0 (a1.length : Int)).bind fun r1 => bif decide (0 ≤ r1.2) then (bif decide (r1.2 < (a1.length : Int)) then (some (r1.1, (a1.getD (r1.2 : Int).toNat 0))) else none) else none
def spec_l1Cur_among.C : Cal → Option CArm := fun c => match c with
  | .f 57 => some (.m (.bx .cur) [(.int .i64)] _ (fun x0 x => spec_l1Cur_pick.F x0 x.1) (fun r => .kep (.bx .cur r.1) (.t (.int .i64) r.2)))
  | _ => none
theorem spec_l1Cur_among.run (a0 : Cur) (a1 : List Int) : runM envX (tabC spec_l1Cur_among.C) (tabL 12 0 (fun _ => none)) Tryz.f56 mbase (.bx .cur a0) [.t (.sl (.int .i64)) a1] (viewK (.bx .cur) (viewR1 (.t (.int .i64)))) = spec_l1Cur_among.F a0 a1 := by kernel_rfl
theorem spec_l1Cur_among.G (hE : EnvOk Tryz.prog envX) (pv : Nat → Value) : ∀ cal A, spec_l1Cur_among.C cal = some A → ArmOk Tryz.prog envX pv cal A := by
  intro cal A h
  unfold spec_l1Cur_among.C at h
  split at h
  · cases h; exact ⟨_, rfl, fun x0 x y hy => spec_l1Cur_pick.good hE pv x0 x.1 hy⟩
  · cases h
theorem spec_l1Cur_among.good (hE : EnvOk Tryz.prog envX) (pv : Nat → Value) (a0 : Cur) (a1 : List Int) {y : _} (h : spec_l1Cur_among.F a0 a1 = some y) : MeetsM Tryz.prog envX pv 56 (.bx .cur a0) (tvals [(.sl (.int .i64))] (a1, ())) (.kep (.bx .cur y.1) (.t (.int .i64) y.2)) :=
  funM_plain hE (spec_l1Cur_among.G hE pv) (f := 56) (fn := Tryz.f56) (by kernel_rfl) rfl (by kernel_rfl) (.inl rfl) (by kernel_rfl) ((spec_l1Cur_among.run a0 a1).trans h) fun r hr => wk_viewK (fun r y h => wk_view1 h) hr
/-! ### 93 (*loop.example/g00896/spec.l1Cur).date -/
def spec_l1Cur_date.F (a0 : Cur) : Option (Cur × Date) := (spec_l1Cur_among.F a0 ([1999, 2000, 1850, 987, 1900, 2024] : List Int)).bind fun r1 => (spec_l1Cur_pick.F r1.1 5).bind fun r2 => bif (r2.2 == 0) then (some (r2.1, (⟨0, 0, 0, false⟩ : Date))) else (bif (r2.2 == 1) then (some (r2.1, (⟨r1.2, 0, 0, true⟩ : Date))) else (bif (r2.2 == 2) then ((spec_l1Cur_pick.F r2.1 12).bind fun r3 => some (r3.1, (⟨r1.2, (IntKind.wrap .i64 (1 + r3.2)), 0, false⟩ : Date))) else (bif (r2.2 == 3) then ((spec_l1Cur_pick.F r2.1 12).bind fun r4 => (spec_l1Cur_pick.F r4.1 28).bind fun r5 => some (r5.1, (⟨r1.2, (IntKind.wrap .i64 (1 + r4.2)), (IntKind.wrap .i64 (1 + r5.2)), false⟩ : Date))) else (some (r2.1, (⟨r1.2, 0, 0, false⟩ : Date))))))
def spec_l1Cur_date.C : Cal → Option CArm := fun c => match c with
  | .f 56 => some (.m (.bx .cur) [(.sl (.int .i64))] _ (fun x0 x => spec_l1Cur_among.F x0 x.1) (fun r => .kep (.bx .cur r.1) (.t (.int .i64) r.2)))
  | .f 57 => some (.m (.bx .cur) [(.int .i64)] _ (fun x0 x => spec_l1Cur_pick.F x0 x.1) (fun r => .kep (.bx .cur r.1) (.t (.int .i64) r.2)))
  | _ => none
theorem spec_l1Cur_date.run (a0 : Cur) : runM envX (tabC spec_l1Cur_date.C) (tabL 33 0 (fun _ => none)) Tryz.f93 mbase (.bx .cur a0) [] (viewK (.bx .cur) (viewR1 (.t .date))) = spec_l1Cur_date.F a0 := by kernel_rfl
theorem spec_l1Cur_date.G (hE : EnvOk Tryz.prog envX) (pv : Nat → Value) : ∀ cal A, spec_l1Cur_date.C cal = some A → ArmOk Tryz.prog envX pv cal A := by
  intro cal A h
  unfold spec_l1Cur_date.C at h
  split at h
  · cases h; exact ⟨_, rfl, fun x0 x y hy => spec_l1Cur_among.good hE pv x0 x.1 hy⟩
  · cases h; exact ⟨_, rfl, fun x0 x y hy => spec_l1Cur_pick.good hE pv x0 x.1 hy⟩
  · cases h
theorem spec_l1Cur_date.good (hE : EnvOk Tryz.prog envX) (pv : Nat → Value) (a0 : Cur) {y : _} (h : spec_l1Cur_date.F a0 = some y) : MeetsM Tryz.prog envX pv 93 (.bx .cur a0) (tvals [] (())) (.kep (.bx .cur y.1) (.t .date y.2)) :=
  funM_plain hE (spec_l1Cur_date.G hE pv) (f := 93) (fn := Tryz.f93) (by kernel_rfl) rfl (by kernel_rfl) (.inl rfl) (by kernel_rfl) ((spec_l1Cur_date.run a0).trans h) fun r hr => wk_viewK (fun r y h => wk_view1 h) hr
/-! ### 64 (*loop.example/g00896/spec.l1Cur).anyDate -/
def spec_l1Cur_anyDate.F (a0 : Cur) : Option (Cur × Date) := (spec_l1Cur_date.F a0).bind fun r1 => (spec_l1Cur_pick.F r1.1 14).bind fun r2 => bif (r2.2 == 0) then ((spec_l1Cur_among.F r2.1 ([0, (-1), 2999, 3000, 1] : List Int)).bind fun r3 => some (r3.1, (⟨r3.2, r1.2.m, r1.2.d, r1.2.c⟩ : Date))) else (bif (r2.2 == 1) then ((spec_l1Cur_among.F r2.1 ([13, (-1), 2] : List Int)).bind fun r4 => some (r4.1, (⟨r1.2.y, r4.2, r1.2.d, r1.2.c⟩ : Date))) else (bif (r2.2 == 2) then ((spec_l1Cur_among.F r2.1 ([29, 30, 31, 32, (-1)] : List Int)).bind fun r5 => some (r5.1, (⟨r1.2.y, r1.2.m, r5.2, r1.2.c⟩ : Date))) else (bif (r2.2 == 3) then (some (r2.1, (⟨r1.2.y, r1.2.m, r1.2.d, (!r1.2.c)⟩ : Date))) else (some (r2.1, r1.2)))))
def spec_l1Cur_anyDate.C : Cal → Option CArm := fun c => match c with
  | .f 93 => some (.m (.bx .cur) [] _ (fun x0 x => spec_l1Cur_date.F x0) (fun r => .kep (.bx .cur r.1) (.t .date r.2)))
  | .f 57 => some (.m (.bx .cur) [(.int .i64)] _ (fun x0 x => spec_l1Cur_pick.F x0 x.1) (fun r => .kep (.bx .cur r.1) (.t (.int .i64) r.2)))
  | .f 56 => some (.m (.bx .cur) [(.sl (.int .i64))] _ (fun x0 x => spec_l1Cur_among.F x0 x.1) (fun r => .kep (.bx .cur r.1) (.t (.int .i64) r.2)))
  | _ => none
theorem spec_l1Cur_anyDate.run (a0 : Cur) : runM envX (tabC spec_l1Cur_anyDate.C) (tabL 33 0 (fun _ => none)) Tryz.f64 mbase (.bx .cur a0) [] (viewK (.bx .cur) (viewR1 (.t .date))) = spec_l1Cur_anyDate.F a0 := by kernel_rfl
theorem spec_l1Cur_anyDate.G (hE : EnvOk Tryz.prog envX) (pv : Nat → Value) : ∀ cal A, spec_l1Cur_anyDate.C cal = some A → ArmOk Tryz.prog envX pv cal A := by
  intro cal A h
  unfold spec_l1Cur_anyDate.C at h
  split at h
  · cases h; exact ⟨_, rfl, fun x0 x y hy => spec_l1Cur_date.good hE pv x0 hy⟩
  · cases h; exact ⟨_, rfl, fun x0 x y hy => spec_l1Cur_pick.good hE pv x0 x.1 hy⟩
  · cases h; exact ⟨_, rfl, fun x0 x y hy => spec_l1Cur_among.good hE pv x0 x.1 hy⟩
  · cases h
theorem spec_l1Cur_anyDate.good (hE : EnvOk Tryz.prog envX) (pv : Nat → Value) (a0 : Cur) {y : _} (h : spec_l1Cur_anyDate.F a0 = some y) : MeetsM Tryz.prog envX pv 64 (.bx .cur a0) (tvals [] (())) (.kep (.bx .cur y.1) (.t .date y.2)) :=
  funM_plain hE (spec_l1Cur_anyDate.G hE pv) (f := 64) (fn := Tryz.f64) (by kernel_rfl) rfl (by kernel_rfl) (.inl rfl) (by kernel_rfl) ((spec_l1Cur_anyDate.run a0).trans h) fun r hr => wk_viewK (fun r y h => wk_view1 h) hr
/-! ### 130 (*loop.example/g00896/spec.l1Cur).name -/
def spec_l1Cur_name.l0 : Nat → Cur → (List ByteArray) → ByteArray → ByteArray → ByteArray → (List ByteArray) → ByteArray → ByteArray → ByteArray → Int → Option (Cur × (List ByteArray) × ByteArray × ByteArray × ByteArray × (List ByteArray) × ByteArray × ByteArray × ByteArray)
  | 0, _, _, _, _, _, _, _, _, _, _ => none
  | k + 1, x0, x2_0, x2_1, x2_2, x2_3, x3_0, x3_1, x3_2, x3_3, x4 => bif (decide (x4 > 0)) then ((spec_l1Cur_of.F x0 ([(⟨#[65, 110, 110, 97]⟩ : ByteArray), (⟨#[65]⟩ : ByteArray), (⟨#[74, 101, 97, 110, 45, 80, 97, 117, 108]⟩ : ByteArray), (⟨#[77, 97, 114, 105, 97]⟩ : ByteArray), (⟨#[66]⟩ : ByteArray), (⟨#[66, 101, 110]⟩ : ByteArray), (⟨#[74, 101, 97, 110, 45, 112, 97, 117, 108]⟩ : ByteArray)] : List ByteArray)).bind fun r3 => bif room (x3_0.length + ([r3.2] : List ByteArray).length) .str then (spec_l1Cur_name.l0 k r3.1 x2_0 x2_1 x2_2 x2_3 (x3_0 ++ ([r3.2] : List ByteArray)) x3_1 x3_2 x3_3 (IntKind.wrap .i64 (x4 - 1))) else none) else (some (x0, x2_0, x2_1, x2_2, x2_3, x3_0, x3_1, x3_2, x3_3))
def spec_l1Cur_name.F (k : Nat) (a0 : Cur) : Option (Cur × Name) := bif decide (0 ≤ 5) then (bif decide (5 ≤ (([(⟨#[66, 101, 114, 103]⟩ : ByteArray), (⟨#[83, 109, 105, 116, 104]⟩ : ByteArray), (⟨#[79, 39, 78, 101, 105, 108, 108]⟩ : ByteArray), (⟨#[76, 101, 101]⟩ : ByteArray), (⟨#[66, 101, 114, 103, 45, 72, 97, 108, 108]⟩ : ByteArray), (⟨#[115, 109, 105, 116, 104, 115, 111, 110]⟩ : ByteArray)] : List ByteArray).length : Int)) then ((spec_l1Cur_of.F a0 (([(⟨#[66, 101, 114, 103]⟩ : ByteArray), (⟨#[83, 109, 105, 116, 104]⟩ : ByteArray), (⟨#[79, 39, 78, 101, 105, 108, 108]⟩ : ByteArray), (⟨#[76, 101, 101]⟩ : ByteArray), (⟨#[66, 101, 114, 103, 45, 72, 97, 108, 108]⟩ : ByteArray), (⟨#[115, 109, 105, 116, 104, 115, 111, 110]⟩ : ByteArray)] : List ByteArray).take (5 : Int).toNat)).bind fun r1 => (spec_l1Cur_pick.F r1.1 3).bind fun r2 => (spec_l1Cur_name.l0 k r2.1 ([] : List ByteArray) (⟨#[]⟩ : ByteArray) (⟨#[]⟩ : ByteArray) (⟨#[]⟩ : ByteArray) ([]) (⟨#[]⟩ : ByteArray) r1.2 (⟨#[]⟩ : ByteArray) r2.2).bind fun y4 => (spec_l1Cur_one.F y4.1 3).bind fun r5 => bif r5.2 then ((spec_l1Cur_of.F r5.1 ([(⟨#[118, 97, 110]⟩ : ByteArray), (⟨#[100, 101]⟩ : ByteArray), (⟨#[118, 97, 110, 32, 100, 101, 114]⟩ : ByteArray)] : List ByteArray)).bind fun r6 => (spec_l1Cur_one.F r6.1 5).bind fun r7 => bif r7.2 then ((spec_l1Cur_of.F r7.1 ([(⟨#[74, 114]⟩ : ByteArray), (⟨#[73, 73, 73]⟩ : ByteArray), (⟨#[106, 114]⟩ : ByteArray)] : List ByteArray)).bind fun r8 => some (r8.1, (⟨y4.2.2.2.2.2.1, r6.2, y4.2.2.2.2.2.2.2.1, r8.2⟩ : Name))) else (some (r7.1, (⟨y4.2.2.2.2.2.1, r6.2, y4.2.2.2.2.2.2.2.1, y4.2.2.2.2.2.2.2.2⟩ : Name)))) else ((spec_l1Cur_one.F r5.1 5).bind fun r9 => bif r9.2 then ((spec_l1Cur_of.F r9.1 ([(⟨#[74, 114]⟩ : ByteArray), (⟨#[73, 73, 73]⟩ : ByteArray), (⟨#[106, 114]⟩ : ByteArray)] : List ByteArray)).bind fun r10 => some (r10.1, (⟨y4.2.2.2.2.2.1, y4.2.2.2.2.2.2.1, y4.2.2.2.2.2.2.2.1, r10.2⟩ : Name))) else (some (r9.1, (⟨y4.2.2.2.2.2.1, y4.2.2.2.2.2.2.1, y4.2.2.2.2.2.2.2.1, y4.2.2.2.2.2.2.2.2⟩ : Name))))) else none) else none
def spec_l1Cur_name.C (k : Nat) : Cal → Option CArm := fun c => match c with
  | .f 84 => some (.m (.bx .cur) [(.sl .str)] _ (fun x0 x => spec_l1Cur_of.F x0 x.1) (fun r => .kep (.bx .cur r.1) (.t .str r.2)))
  | .f 57 => some (.m (.bx .cur) [(.int .i64)] _ (fun x0 x => spec_l1Cur_pick.F x0 x.1) (fun r => .kep (.bx .cur r.1) (.t (.int .i64) r.2)))
  | .f 48 => some (.m (.bx .cur) [(.int .i64)] _ (fun x0 x => spec_l1Cur_one.F x0 x.1) (fun r => .kep (.bx .cur r.1) (.t .bool r.2)))
  | _ => none
def spec_l1Cur_name.sp0 : List Sp := [.boxT 0 1099511627776 .cur, .boxF 2 0 .name [.t (.sl .str), .t .str, .t .str, .t .str], .boxF 3 1044 .name [.own 1099511627827 9 .str false true, .t .str, .t .str, .t .str], .t 4 (.int .i64)]
def spec_l1Cur_name.sp0_0 : List Sp := [.boxT 0 1099511627776 .cur, .boxF 2 0 .name [.t (.sl .str), .t .str, .t .str, .t .str], .boxF 3 1044 .name [.own 1099511627827 9 .str false true, .t .str, .t .str, .t .str]]
def spec_l1Cur_name.A0 : LArm := .one spec_l1Cur_name.sp0 spec_l1Cur_name.sp0_0 (Cur × (List ByteArray) × ByteArray × ByteArray × ByteArray × (List ByteArray) × ByteArray × ByteArray × ByteArray) (fun k x => spec_l1Cur_name.l0 k x.1 x.2.1.1 x.2.1.2.1 x.2.1.2.2.1 x.2.1.2.2.2.1 x.2.2.1.1 x.2.2.1.2.1 x.2.2.1.2.2.1 x.2.2.1.2.2.2.1 x.2.2.2.1) (.exit 0) (fun y => (y.1, (y.2.1, y.2.2.1, y.2.2.2.1, y.2.2.2.2.1, ()), (y.2.2.2.2.2.1, y.2.2.2.2.2.2.1, y.2.2.2.2.2.2.2.1, y.2.2.2.2.2.2.2.2, ()), ())) (fun x => (x.1, x.2.1.1, x.2.1.2.1, x.2.1.2.2.1, x.2.1.2.2.2.1, x.2.2.1.1, x.2.2.1.2.1, x.2.2.1.2.2.1, x.2.2.1.2.2.2.1))
def spec_l1Cur_name.L : Nat → Option LArm := fun b => match b with
  | 0 => some spec_l1Cur_name.A0
  | _ => none
theorem spec_l1Cur_name.run (k : Nat) (a0 : Cur) : runM envX (tabC (spec_l1Cur_name.C k)) (tabL 37 k spec_l1Cur_name.L) Tryz.f130 mbase (.bx .cur a0) [] (viewK (.bx .cur) (viewR1 (.sf .name 9))) = spec_l1Cur_name.F k a0 := by kernel_rfl
theorem spec_l1Cur_name.step0 (k : Nat) (x0 : Cur) (x2_0 : List ByteArray) (x2_1 : ByteArray) (x2_2 : ByteArray) (x2_3 : ByteArray) (x3_0 : List ByteArray) (x3_1 : ByteArray) (x3_2 : ByteArray) (x3_3 : ByteArray) (x4 : Int) : runC envX (tabC (spec_l1Cur_name.C k)) (tabL 37 k spec_l1Cur_name.L) 0 (loopAt Tryz.f130 0) (stOf 37 spec_l1Cur_name.sp0 (x0, (x2_0, x2_1, x2_2, x2_3, ()), (x3_0, x3_1, x3_2, x3_3, ()), x4, ())) (spec_l1Cur_name.A0.cont 37 k) = spec_l1Cur_name.l0 (k + 1) x0 x2_0 x2_1 x2_2 x2_3 x3_0 x3_1 x3_2 x3_3 x4 := by kernel_rfl
theorem spec_l1Cur_name.G (hE : EnvOk Tryz.prog envX) (pv : Nat → Value) (k : Nat) : ∀ cal A, spec_l1Cur_name.C k cal = some A → ArmOk Tryz.prog envX pv cal A := by
  intro cal A h
  unfold spec_l1Cur_name.C at h
  split at h
  · cases h; exact ⟨_, rfl, fun x0 x y hy => spec_l1Cur_of.good hE pv x0 x.1 hy⟩
  · cases h; exact ⟨_, rfl, fun x0 x y hy => spec_l1Cur_pick.good hE pv x0 x.1 hy⟩
  · cases h; exact ⟨_, rfl, fun x0 x y hy => spec_l1Cur_one.good hE pv x0 x.1 hy⟩
  · cases h
theorem spec_l1Cur_name.good (hE : EnvOk Tryz.prog envX) (pv : Nat → Value) (k : Nat) (a0 : Cur) {y : _} (h : spec_l1Cur_name.F k a0 = some y) : MeetsM Tryz.prog envX pv 130 (.bx .cur a0) (tvals [] (())) (.kep (.bx .cur y.1) (sfV 9 .name y.2)) :=
  funM_loops hE (t := spec_l1Cur_name.C) k (fun k _ => spec_l1Cur_name.G hE pv k) (f := 130) (fn := Tryz.f130) (by kernel_rfl) rfl (by kernel_rfl) (.inl rfl) (by kernel_rfl) (lt := spec_l1Cur_name.L) (by kernel_rfl) (fun b A h => by
    unfold spec_l1Cur_name.L at h; split at h
    · cases h; exact ⟨by kernel_rfl, by kernel_rfl, fun _ => rfl, fun _ => rfl⟩
    · cases h) (fun b A h => by
    unfold spec_l1Cur_name.L at h; split at h
    · cases h; exact fun k x => spec_l1Cur_name.step0 k x.1 x.2.1.1 x.2.1.2.1 x.2.1.2.2.1 x.2.1.2.2.2.1 x.2.2.1.1 x.2.2.1.2.1 x.2.2.1.2.2.1 x.2.2.1.2.2.2.1 x.2.2.2.1
    · cases h) ((spec_l1Cur_name.run k a0).trans h) fun r hr => wk_viewK (fun r y h => wk_view1 h) hr
/-! ### 94 (*loop.example/g00896/spec.l1Cur).names -/
def spec_l1Cur_names.l0 : Nat → Cur → (List Name) → Int → Option (Cur × (List Name))
  | 0, _, _, _ => none
  | k + 1, x0, x3, x4 => bif (decide (x4 > 0)) then ((spec_l1Cur_name.F k x0).bind fun r2 => bif room (x3.length + ([(⟨r2.2.given, r2.2.particle, r2.2.family, r2.2.suffix⟩ : Name)] : List Name).length) .name then (spec_l1Cur_names.l0 k r2.1 (x3 ++ ([(⟨r2.2.given, r2.2.particle, r2.2.family, r2.2.suffix⟩ : Name)] : List Name)) (IntKind.wrap .i64 (x4 - 1))) else none) else (some (x0, x3))
def spec_l1Cur_names.F (k : Nat) (a0 : Cur) : Option (Cur × List Name) := (spec_l1Cur_pick.F a0 4).bind fun r1 => (spec_l1Cur_names.l0 k r1.1 ([] : List Name) r1.2).bind fun y3 => some (y3.1, y3.2)
def spec_l1Cur_names.C (k : Nat) : Cal → Option CArm := fun c => match c with
  | .f 57 => some (.m (.bx .cur) [(.int .i64)] _ (fun x0 x => spec_l1Cur_pick.F x0 x.1) (fun r => .kep (.bx .cur r.1) (.t (.int .i64) r.2)))
  | .f 130 => some (.m (.bx .cur) [] _ (fun x0 x => spec_l1Cur_name.F k x0) (fun r => .kep (.bx .cur r.1) (sfV 9 .name r.2)))
  | _ => none
def spec_l1Cur_names.sp0 : List Sp := [.boxT 0 1099511627776 .cur, .own 3 1024 130 .name false true, .t 4 (.int .i64)]
def spec_l1Cur_names.sp0_0 : List Sp := [.boxT 0 1099511627776 .cur, .own 3 1024 130 .name false true]
def spec_l1Cur_names.A0 : LArm := .one spec_l1Cur_names.sp0 spec_l1Cur_names.sp0_0 (Cur × (List Name)) (fun k x => spec_l1Cur_names.l0 k x.1 x.2.1 x.2.2.1) (.exit 0) (fun y => (y.1, y.2, ())) (fun x => (x.1, x.2.1))
def spec_l1Cur_names.L : Nat → Option LArm := fun b => match b with
  | 0 => some spec_l1Cur_names.A0
  | _ => none
theorem spec_l1Cur_names.run (k : Nat) (a0 : Cur) : runM envX (tabC (spec_l1Cur_names.C k)) (tabL 18 k spec_l1Cur_names.L) Tryz.f94 mbase (.bx .cur a0) [] (viewK (.bx .cur) (viewR1 (.fr 130 .name))) = spec_l1Cur_names.F k a0 := by kernel_rfl
theorem spec_l1Cur_names.step0 (k : Nat) (x0 : Cur) (x3 : List Name) (x4 : Int) : runC envX (tabC (spec_l1Cur_names.C k)) (tabL 18 k spec_l1Cur_names.L) 0 (loopAt Tryz.f94 0) (stOf 18 spec_l1Cur_names.sp0 (x0, x3, x4, ())) (spec_l1Cur_names.A0.cont 18 k) = spec_l1Cur_names.l0 (k + 1) x0 x3 x4 := by kernel_rfl
theorem spec_l1Cur_names.G (hE : EnvOk Tryz.prog envX) (pv : Nat → Value) (k : Nat) : ∀ cal A, spec_l1Cur_names.C k cal = some A → ArmOk Tryz.prog envX pv cal A := by
  intro cal A h
  unfold spec_l1Cur_names.C at h
  split at h
  · cases h; exact ⟨_, rfl, fun x0 x y hy => spec_l1Cur_pick.good hE pv x0 x.1 hy⟩
  · cases h; exact ⟨_, rfl, fun x0 x y hy => spec_l1Cur_name.good hE pv k x0 hy⟩
  · cases h
theorem spec_l1Cur_names.good (hE : EnvOk Tryz.prog envX) (pv : Nat → Value) (k : Nat) (a0 : Cur) {y : _} (h : spec_l1Cur_names.F k a0 = some y) : MeetsM Tryz.prog envX pv 94 (.bx .cur a0) (tvals [] (())) (.kep (.bx .cur y.1) (.fr 130 .name y.2)) :=
  funM_loops hE (t := spec_l1Cur_names.C) k (fun k _ => spec_l1Cur_names.G hE pv k) (f := 94) (fn := Tryz.f94) (by kernel_rfl) rfl (by kernel_rfl) (.inl rfl) (by kernel_rfl) (lt := spec_l1Cur_names.L) (by kernel_rfl) (fun b A h => by
    unfold spec_l1Cur_names.L at h; split at h
    · cases h; exact ⟨by kernel_rfl, by kernel_rfl, fun _ => rfl, fun _ => rfl⟩
    · cases h) (fun b A h => by
    unfold spec_l1Cur_names.L at h; split at h
    · cases h; exact fun k x => spec_l1Cur_names.step0 k x.1 x.2.1 x.2.2.1
    · cases h) ((spec_l1Cur_names.run k a0).trans h) fun r hr => wk_viewK (fun r y h => wk_view1 h) hr
/-! ### 128 loop.example/g00896/spec.l4Titles -/
def spec_l4Titles.F : Option (List ByteArray) := some ([(⟨#[79, 110, 32, 114, 105, 118, 101, 114, 115]⟩ : ByteArray), (⟨#[65, 32, 104, 105, 115, 116, 111, 114, 121, 32, 111, 102, 32, 109, 97, 112, 115]⟩ : ByteArray), (⟨#[84, 104, 101, 32, 110, 111, 114, 116, 104]⟩ : ByteArray), (⟨#[79, 108, 100, 32, 114, 111, 97, 100, 115, 58, 32, 97, 32, 103, 117, 105, 100, 101]⟩ : ByteArray), (⟨#[79, 110, 32, 114, 105, 118, 101, 114, 115]⟩ : ByteArray), (⟨#[]⟩ : ByteArray)] : List ByteArray)
def spec_l4Titles.C : Cal → Option CArm := fun c => match c with
  | _ => none
theorem spec_l4Titles.run : runF envX (tabC spec_l4Titles.C) (tabL 2 0 (fun _ => none)) Tryz.f128 [] (viewR1 (.fr 9 .str)) = spec_l4Titles.F := by kernel_rfl
theorem spec_l4Titles.G (hE : EnvOk Tryz.prog envX) (pv : Nat → Value) : ∀ cal A, spec_l4Titles.C cal = some A → ArmOk Tryz.prog envX pv cal A := by
  intro cal A h
  unfold spec_l4Titles.C at h
  cases h
theorem spec_l4Titles.good (hE : EnvOk Tryz.prog envX) (pv : Nat → Value) {y : _} (h : spec_l4Titles.F = some y) : Meets Tryz.prog envX pv (.f 128) (tvals [] (())) (.fr 9 .str y) :=
  fun_plain hE (spec_l4Titles.G hE pv) (f := 128) (fn := Tryz.f128) (by kernel_rfl) rfl (by kernel_rfl) (by kernel_rfl) ((spec_l4Titles.run).trans h) fun r hr => wk_view1 hr
/-! ### 89 (*loop.example/g00896/spec.l1Cur).entry -/
def spec_l1Cur_entry.F (k : Nat) (a0 : Cur) : Option (Cur × Entry) := (spec_l1Cur_of.F a0 ([(⟨#[97, 49]⟩ : ByteArray), (⟨#[98, 50]⟩ : ByteArray), (⟨#[99, 51]⟩ : ByteArray), (⟨#[100, 52]⟩ : ByteArray), (⟨#[101, 53]⟩ : ByteArray), (⟨#[102, 54]⟩ : ByteArray)] : List ByteArray)).bind fun r1 => (spec_l1Cur_pick.F r1.1 4).bind fun r2 => (spec_l1Cur_names.F k r2.1).bind fun r3 => (spec_l4Titles.F).bind fun r4 => (spec_l1Cur_of.F r3.1 r4).bind fun r5 => (spec_l1Cur_date.F r5.1).bind fun r6 => (spec_l1Cur_one.F r6.1 3).bind fun r7 => bif r7.2 then ((spec_l1Cur_names.F k r7.1).bind fun r8 => (spec_l1Cur_one.F r8.1 3).bind fun r9 => bif (!r9.2) then ((spec_l1Cur_of.F r9.1 ([(⟨#[74, 111, 117, 114, 110, 97, 108, 32, 111, 102, 32, 77, 97, 112, 115]⟩ : ByteArray), (⟨#[65, 110, 110, 97, 108, 115]⟩ : ByteArray), (⟨#[69, 115, 115, 97, 121, 115, 32, 111, 110, 32, 108, 97, 110, 100]⟩ : ByteArray)] : List ByteArray)).bind fun r10 => (spec_l1Cur_among.F r10.1 ([0, 1, 7, 12, 9999] : List Int)).bind fun r11 => (spec_l1Cur_of.F r11.1 ([(⟨#[]⟩ : ByteArray), (⟨#[49, 45, 57]⟩ : ByteArray), (⟨#[55, 55]⟩ : ByteArray), (⟨#[49, 50, 48, 45, 49, 51, 53]⟩ : ByteArray)] : List ByteArray)).bind fun r12 => (spec_l1Cur_one.F r12.1 3).bind fun r13 => bif (!r13.2) then ((spec_l1Cur_of.F r13.1 ([(⟨#[78, 111, 114, 116, 104, 32, 80, 114, 101, 115, 115]⟩ : ByteArray), (⟨#[72, 97, 108, 108]⟩ : ByteArray), (⟨#[76, 97, 110, 101, 32, 38, 32, 67, 111]⟩ : ByteArray)] : List ByteArray)).bind fun r14 => (spec_l1Cur_one.F r14.1 4).bind fun r15 => bif r15.2 then ((spec_l1Cur_of.F r15.1 ([(⟨#[97, 48]⟩ : ByteArray), (⟨#[98, 49]⟩ : ByteArray), (⟨#[122, 57]⟩ : ByteArray)] : List ByteArray)).bind fun r16 => some (r16.1, (⟨r1.2, (IntKind.wrap .i64 (1 + r2.2)), r3.2, r8.2, r5.2, r10.2, r14.2, r6.2, r11.2, r12.2, r16.2⟩ : Entry))) else (some (r15.1, (⟨r1.2, (IntKind.wrap .i64 (1 + r2.2)), r3.2, r8.2, r5.2, r10.2, r14.2, r6.2, r11.2, r12.2, (⟨#[]⟩ : ByteArray)⟩ : Entry)))) else ((spec_l1Cur_one.F r13.1 4).bind fun r17 => bif r17.2 then ((spec_l1Cur_of.F r17.1 ([(⟨#[97, 48]⟩ : ByteArray), (⟨#[98, 49]⟩ : ByteArray), (⟨#[122, 57]⟩ : ByteArray)] : List ByteArray)).bind fun r18 => some (r18.1, (⟨r1.2, (IntKind.wrap .i64 (1 + r2.2)), r3.2, r8.2, r5.2, r10.2, (⟨#[]⟩ : ByteArray), r6.2, r11.2, r12.2, r18.2⟩ : Entry))) else (some (r17.1, (⟨r1.2, (IntKind.wrap .i64 (1 + r2.2)), r3.2, r8.2, r5.2, r10.2, (⟨#[]⟩ : ByteArray), r6.2, r11.2, r12.2, (⟨#[]⟩ : ByteArray)⟩ : Entry))))) else ((spec_l1Cur_one.F r9.1 3).bind fun r19 => bif (!r19.2) then ((spec_l1Cur_of.F r19.1 ([(⟨#[78, 111, 114, 116, 104, 32, 80, 114, 101, 115, 115]⟩ : ByteArray), (⟨#[72, 97, 108, 108]⟩ : ByteArray), (⟨#[76, 97, 110, 101, 32, 38, 32, 67, 111]⟩ : ByteArray)] : List ByteArray)).bind fun r20 => (spec_l1Cur_one.F r20.1 4).bind fun r21 => bif r21.2 then ((spec_l1Cur_of.F r21.1 ([(⟨#[97, 48]⟩ : ByteArray), (⟨#[98, 49]⟩ : ByteArray), (⟨#[122, 57]⟩ : ByteArray)] : List ByteArray)).bind fun r22 => some (r22.1, (⟨r1.2, (IntKind.wrap .i64 (1 + r2.2)), r3.2, r8.2, r5.2, (⟨#[]⟩ : ByteArray), r20.2, r6.2, 0, (⟨#[]⟩ : ByteArray), r22.2⟩ : Entry))) else (some (r21.1, (⟨r1.2, (IntKind.wrap .i64 (1 + r2.2)), r3.2, r8.2, r5.2, (⟨#[]⟩ : ByteArray), r20.2, r6.2, 0, (⟨#[]⟩ : ByteArray), (⟨#[]⟩ : ByteArray)⟩ : Entry)))) else ((spec_l1Cur_one.F r19.1 4).bind fun r23 => bif r23.2 then ((spec_l1Cur_of.F r23.1 ([(⟨#[97, 48]⟩ : ByteArray), (⟨#[98, 49]⟩ : ByteArray), (⟨#[122, 57]⟩ : ByteArray)] : List ByteArray)).bind fun r24 => some (r24.1, (⟨r1.2, (IntKind.wrap .i64 (1 + r2.2)), r3.2, r8.2, r5.2, (⟨#[]⟩ : ByteArray), (⟨#[]⟩ : ByteArray), r6.2, 0, (⟨#[]⟩ : ByteArray), r24.2⟩ : Entry))) else (some (r23.1, (⟨r1.2, (IntKind.wrap .i64 (1 + r2.2)), r3.2, r8.2, r5.2, (⟨#[]⟩ : ByteArray), (⟨#[]⟩ : ByteArray), r6.2, 0, (⟨#[]⟩ : ByteArray), (⟨#[]⟩ : ByteArray)⟩ : Entry)))))) else ((spec_l1Cur_one.F r7.1 3).bind fun r25 => bif (!r25.2) then ((spec_l1Cur_of.F r25.1 ([(⟨#[74, 111, 117, 114, 110, 97, 108, 32, 111, 102, 32, 77, 97, 112, 115]⟩ : ByteArray), (⟨#[65, 110, 110, 97, 108, 115]⟩ : ByteArray), (⟨#[69, 115, 115, 97, 121, 115, 32, 111, 110, 32, 108, 97, 110, 100]⟩ : ByteArray)] : List ByteArray)).bind fun r26 => (spec_l1Cur_among.F r26.1 ([0, 1, 7, 12, 9999] : List Int)).bind fun r27 => (spec_l1Cur_of.F r27.1 ([(⟨#[]⟩ : ByteArray), (⟨#[49, 45, 57]⟩ : ByteArray), (⟨#[55, 55]⟩ : ByteArray), (⟨#[49, 50, 48, 45, 49, 51, 53]⟩ : ByteArray)] : List ByteArray)).bind fun r28 => (spec_l1Cur_one.F r28.1 3).bind fun r29 => bif (!r29.2) then ((spec_l1Cur_of.F r29.1 ([(⟨#[78, 111, 114, 116, 104, 32, 80, 114, 101, 115, 115]⟩ : ByteArray), (⟨#[72, 97, 108, 108]⟩ : ByteArray), (⟨#[76, 97, 110, 101, 32, 38, 32, 67, 111]⟩ : ByteArray)] : List ByteArray)).bind fun r30 => (spec_l1Cur_one.F r30.1 4).bind fun r31 => bif r31.2 then ((spec_l1Cur_of.F r31.1 ([(⟨#[97, 48]⟩ : ByteArray), (⟨#[98, 49]⟩ : ByteArray), (⟨#[122, 57]⟩ : ByteArray)] : List ByteArray)).bind fun r32 => some (r32.1, (⟨r1.2, (IntKind.wrap .i64 (1 + r2.2)), r3.2, ([] : List Name), r5.2, r26.2, r30.2, r6.2, r27.2, r28.2, r32.2⟩ : Entry))) else (some (r31.1, (⟨r1.2, (IntKind.wrap .i64 (1 + r2.2)), r3.2, ([] : List Name), r5.2, r26.2, r30.2, r6.2, r27.2, r28.2, (⟨#[]⟩ : ByteArray)⟩ : Entry)))) else ((spec_l1Cur_one.F r29.1 4).bind fun r33 => bif r33.2 then ((spec_l1Cur_of.F r33.1 ([(⟨#[97, 48]⟩ : ByteArray), (⟨#[98, 49]⟩ : ByteArray), (⟨#[122, 57]⟩ : ByteArray)] : List ByteArray)).bind fun r34 => some (r34.1, (⟨r1.2, (IntKind.wrap .i64 (1 + r2.2)), r3.2, ([] : List Name), r5.2, r26.2, (⟨#[]⟩ : ByteArray), r6.2, r27.2, r28.2, r34.2⟩ : Entry))) else (some (r33.1, (⟨r1.2, (IntKind.wrap .i64 (1 + r2.2)), r3.2, ([] : List Name), r5.2, r26.2, (⟨#[]⟩ : ByteArray), r6.2, r27.2, r28.2, (⟨#[]⟩ : ByteArray)⟩ : Entry))))) else ((spec_l1Cur_one.F r25.1 3).bind fun r35 => bif (!r35.2) then ((spec_l1Cur_of.F r35.1 ([(⟨#[78, 111, 114, 116, 104, 32, 80, 114, 101, 115, 115]⟩ : ByteArray), (⟨#[72, 97, 108, 108]⟩ : ByteArray), (⟨#[76, 97, 110, 101, 32, 38, 32, 67, 111]⟩ : ByteArray)] : List ByteArray)).bind fun r36 => (spec_l1Cur_one.F r36.1 4).bind fun r37 => bif r37.2 then ((spec_l1Cur_of.F r37.1 ([(⟨#[97, 48]⟩ : ByteArray), (⟨#[98, 49]⟩ : ByteArray), (⟨#[122, 57]⟩ : ByteArray)] : List ByteArray)).bind fun r38 => some (r38.1, (⟨r1.2, (IntKind.wrap .i64 (1 + r2.2)), r3.2, ([] : List Name), r5.2, (⟨#[]⟩ : ByteArray), r36.2, r6.2, 0, (⟨#[]⟩ : ByteArray), r38.2⟩ : Entry))) else (some (r37.1, (⟨r1.2, (IntKind.wrap .i64 (1 + r2.2)), r3.2, ([] : List Name), r5.2, (⟨#[]⟩ : ByteArray), r36.2, r6.2, 0, (⟨#[]⟩ : ByteArray), (⟨#[]⟩ : ByteArray)⟩ : Entry)))) else ((spec_l1Cur_one.F r35.1 4).bind fun r39 => bif r39.2 then ((spec_l1Cur_of.F r39.1 ([(⟨#[97, 48]⟩ : ByteArray), (⟨#[98, 49]⟩ : ByteArray), (⟨#[122, 57]⟩ : ByteArray)] : List ByteArray)).bind fun r40 => some (r40.1, (⟨r1.2, (IntKind.wrap .i64 (1 + r2.2)), r3.2, ([] : List Name), r5.2, (⟨#[]⟩ : ByteArray), (⟨#[]⟩ : ByteArray), r6.2, 0, (⟨#[]⟩ : ByteArray), r40.2⟩ : Entry))) else (some (r39.1, (⟨r1.2, (IntKind.wrap .i64 (1 + r2.2)), r3.2, ([] : List Name), r5.2, (⟨#[]⟩ : ByteArray), (⟨#[]⟩ : ByteArray), r6.2, 0, (⟨#[]⟩ : ByteArray), (⟨#[]⟩ : ByteArray)⟩ : Entry))))))
def spec_l1Cur_entry.C (k : Nat) : Cal → Option CArm := fun c => match c with
  | .f 84 => some (.m (.bx .cur) [(.sl .str)] _ (fun x0 x => spec_l1Cur_of.F x0 x.1) (fun r => .kep (.bx .cur r.1) (.t .str r.2)))
  | .f 57 => some (.m (.bx .cur) [(.int .i64)] _ (fun x0 x => spec_l1Cur_pick.F x0 x.1) (fun r => .kep (.bx .cur r.1) (.t (.int .i64) r.2)))
  | .f 94 => some (.m (.bx .cur) [] _ (fun x0 x => spec_l1Cur_names.F k x0) (fun r => .kep (.bx .cur r.1) (.fr 130 .name r.2)))
  | .f 128 => some (.p [] _ (fun x => spec_l4Titles.F) (fun r => (.fr 9 .str r)))
  | .f 93 => some (.m (.bx .cur) [] _ (fun x0 x => spec_l1Cur_date.F x0) (fun r => .kep (.bx .cur r.1) (.t .date r.2)))
  | .f 48 => some (.m (.bx .cur) [(.int .i64)] _ (fun x0 x => spec_l1Cur_one.F x0 x.1) (fun r => .kep (.bx .cur r.1) (.t .bool r.2)))
  | .f 56 => some (.m (.bx .cur) [(.sl (.int .i64))] _ (fun x0 x => spec_l1Cur_among.F x0 x.1) (fun r => .kep (.bx .cur r.1) (.t (.int .i64) r.2)))
  | _ => none
theorem spec_l1Cur_entry.run (k : Nat) (a0 : Cur) : runM envX (tabC (spec_l1Cur_entry.C k)) (tabL 52 0 (fun _ => none)) Tryz.f89 mbase (.bx .cur a0) [] (viewK (.bx .cur) (viewR1 (.t .entry))) = spec_l1Cur_entry.F k a0 := by kernel_rfl
theorem spec_l1Cur_entry.G (hE : EnvOk Tryz.prog envX) (pv : Nat → Value) (k : Nat) : ∀ cal A, spec_l1Cur_entry.C k cal = some A → ArmOk Tryz.prog envX pv cal A := by
  intro cal A h
  unfold spec_l1Cur_entry.C at h
  split at h
  · cases h; exact ⟨_, rfl, fun x0 x y hy => spec_l1Cur_of.good hE pv x0 x.1 hy⟩
  · cases h; exact ⟨_, rfl, fun x0 x y hy => spec_l1Cur_pick.good hE pv x0 x.1 hy⟩
  · cases h; exact ⟨_, rfl, fun x0 x y hy => spec_l1Cur_names.good hE pv k x0 hy⟩
  · cases h; exact fun x y hy => spec_l4Titles.good hE pv hy
  · cases h; exact ⟨_, rfl, fun x0 x y hy => spec_l1Cur_date.good hE pv x0 hy⟩
  · cases h; exact ⟨_, rfl, fun x0 x y hy => spec_l1Cur_one.good hE pv x0 x.1 hy⟩
  · cases h; exact ⟨_, rfl, fun x0 x y hy => spec_l1Cur_among.good hE pv x0 x.1 hy⟩
  · cases h
theorem spec_l1Cur_entry.good (hE : EnvOk Tryz.prog envX) (pv : Nat → Value) (k : Nat) (a0 : Cur) {y : _} (h : spec_l1Cur_entry.F k a0 = some y) : MeetsM Tryz.prog envX pv 89 (.bx .cur a0) (tvals [] (())) (.kep (.bx .cur y.1) (.t .entry y.2)) :=
  funM_plain hE (spec_l1Cur_entry.G hE pv k) (f := 89) (fn := Tryz.f89) (by kernel_rfl) rfl (by kernel_rfl) (.inl rfl) (by kernel_rfl) ((spec_l1Cur_entry.run k a0).trans h) fun r hr => wk_viewK (fun r y h => wk_view1 h) hr
/-! ### 129 (*loop.example/g00896/spec.l1Cur).anyName -/
def spec_l1Cur_anyName.F (k : Nat) (a0 : Cur) : Option (Cur × Name) := (spec_l1Cur_name.F k a0).bind fun r1 => (spec_l1Cur_pick.F r1.1 16).bind fun r2 => bif (r2.2 == 0) then ((spec_l1Cur_of.F r2.1 ([(⟨#[]⟩ : ByteArray), (⟨#[98, 101, 114, 103]⟩ : ByteArray), (⟨#[66, 45]⟩ : ByteArray), (⟨#[66, 45, 45, 99]⟩ : ByteArray), (⟨#[65, 98, 99, 100, 101, 102, 103, 104, 105, 106, 107, 108]⟩ : ByteArray), (⟨#[65, 98, 99, 100, 101, 102, 103, 104, 105, 106, 107, 108, 109]⟩ : ByteArray), (⟨#[66, 57]⟩ : ByteArray)] : List ByteArray)).bind fun r3 => some (r3.1, (⟨r1.2.given, r1.2.particle, r3.2, r1.2.suffix⟩ : Name))) else (bif (r2.2 == 1) then ((spec_l1Cur_of.F r2.1 ([(⟨#[86, 97, 110]⟩ : ByteArray), (⟨#[118, 97, 110, 32, 100, 101, 114, 32, 100, 101]⟩ : ByteArray), (⟨#[118, 97, 110, 32]⟩ : ByteArray), (⟨#[100, 39]⟩ : ByteArray), (⟨#[100, 39, 97]⟩ : ByteArray), (⟨#[118, 97, 110, 32, 32, 100, 101, 114]⟩ : ByteArray)] : List ByteArray)).bind fun r4 => some (r4.1, (⟨r1.2.given, r4.2, r1.2.family, r1.2.suffix⟩ : Name))) else (bif (r2.2 == 2) then ((spec_l1Cur_of.F r2.1 ([(⟨#[45]⟩ : ByteArray), (⟨#[74, 32, 114]⟩ : ByteArray), (⟨#[120]⟩ : ByteArray)] : List ByteArray)).bind fun r5 => some (r5.1, (⟨r1.2.given, r1.2.particle, r1.2.family, r5.2⟩ : Name))) else (bif (r2.2 == 3) then ((spec_l1Cur_of.F r2.1 ([(⟨#[97, 110, 110, 97]⟩ : ByteArray), (⟨#[]⟩ : ByteArray), (⟨#[67]⟩ : ByteArray), (⟨#[68, 32, 101]⟩ : ByteArray)] : List ByteArray)).bind fun r6 => bif room (r1.2.given.length + ([r6.2, (⟨#[69, 118, 101]⟩ : ByteArray)] : List ByteArray).length) .str then (some (r6.1, (⟨(r1.2.given ++ ([r6.2, (⟨#[69, 118, 101]⟩ : ByteArray)] : List ByteArray)), r1.2.particle, r1.2.family, r1.2.suffix⟩ : Name))) else none) else (some (r2.1, (⟨r1.2.given, r1.2.particle, r1.2.family, r1.2.suffix⟩ : Name))))))
def spec_l1Cur_anyName.C (k : Nat) : Cal → Option CArm := fun c => match c with
  | .f 130 => some (.m (.bx .cur) [] _ (fun x0 x => spec_l1Cur_name.F k x0) (fun r => .kep (.bx .cur r.1) (sfV 9 .name r.2)))
  | .f 57 => some (.m (.bx .cur) [(.int .i64)] _ (fun x0 x => spec_l1Cur_pick.F x0 x.1) (fun r => .kep (.bx .cur r.1) (.t (.int .i64) r.2)))
  | .f 84 => some (.m (.bx .cur) [(.sl .str)] _ (fun x0 x => spec_l1Cur_of.F x0 x.1) (fun r => .kep (.bx .cur r.1) (.t .str r.2)))
  | _ => none
theorem spec_l1Cur_anyName.run (k : Nat) (a0 : Cur) : runM envX (tabC (spec_l1Cur_anyName.C k)) (tabL 37 0 (fun _ => none)) Tryz.f129 mbase (.bx .cur a0) [] (viewK (.bx .cur) (viewR1 (.sf .name 9))) = spec_l1Cur_anyName.F k a0 := by kernel_rfl
theorem spec_l1Cur_anyName.G (hE : EnvOk Tryz.prog envX) (pv : Nat → Value) (k : Nat) : ∀ cal A, spec_l1Cur_anyName.C k cal = some A → ArmOk Tryz.prog envX pv cal A := by
  intro cal A h
  unfold spec_l1Cur_anyName.C at h
  split at h
  · cases h; exact ⟨_, rfl, fun x0 x y hy => spec_l1Cur_name.good hE pv k x0 hy⟩
  · cases h; exact ⟨_, rfl, fun x0 x y hy => spec_l1Cur_pick.good hE pv x0 x.1 hy⟩
  · cases h; exact ⟨_, rfl, fun x0 x y hy => spec_l1Cur_of.good hE pv x0 x.1 hy⟩
  · cases h
theorem spec_l1Cur_anyName.good (hE : EnvOk Tryz.prog envX) (pv : Nat → Value) (k : Nat) (a0 : Cur) {y : _} (h : spec_l1Cur_anyName.F k a0 = some y) : MeetsM Tryz.prog envX pv 129 (.bx .cur a0) (tvals [] (())) (.kep (.bx .cur y.1) (sfV 9 .name y.2)) :=
  funM_plain hE (spec_l1Cur_anyName.G hE pv k) (f := 129) (fn := Tryz.f129) (by kernel_rfl) rfl (by kernel_rfl) (.inl rfl) (by kernel_rfl) ((spec_l1Cur_anyName.run k a0).trans h) fun r hr => wk_viewK (fun r y h => wk_view1 h) hr
/-! ### 90 (*loop.example/g00896/spec.l1Cur).anyNames -/
def spec_l1Cur_anyNames.l1 : Nat → Cur → (List Name) → Option (Cur × (List Name))
  | 0, _, _ => none
  | k + 1, x0, x3 => (spec_l1Cur_pick.F x0 2).bind fun r4 => bif (decide ((x3.length : Int) < (IntKind.wrap .i64 (4 + r4.2)))) then ((spec_l1Cur_name.F k r4.1).bind fun r5 => bif room (x3.length + ([(⟨r5.2.given, r5.2.particle, r5.2.family, r5.2.suffix⟩ : Name)] : List Name).length) .name then (spec_l1Cur_anyNames.l1 k r5.1 (x3 ++ ([(⟨r5.2.given, r5.2.particle, r5.2.family, r5.2.suffix⟩ : Name)] : List Name))) else none) else (some (r4.1, x3))
def spec_l1Cur_anyNames.F (k : Nat) (a0 : Cur) : Option (Cur × List Name) := (spec_l1Cur_names.F k a0).bind fun r1 => (spec_l1Cur_pick.F r1.1 12).bind fun r2 => bif (r2.2 == 0) then ((spec_l1Cur_anyName.F k r2.1).bind fun r3 => bif room (r1.2.length + ([(⟨r3.2.given, r3.2.particle, r3.2.family, r3.2.suffix⟩ : Name)] : List Name).length) .name then (some (r3.1, (r1.2 ++ ([(⟨r3.2.given, r3.2.particle, r3.2.family, r3.2.suffix⟩ : Name)] : List Name)))) else none) else (bif (r2.2 == 1) then ((spec_l1Cur_anyNames.l1 k r2.1 r1.2).bind fun y6 => some (y6.1, y6.2)) else (some (r2.1, r1.2)))
def spec_l1Cur_anyNames.C (k : Nat) : Cal → Option CArm := fun c => match c with
  | .f 94 => some (.m (.bx .cur) [] _ (fun x0 x => spec_l1Cur_names.F k x0) (fun r => .kep (.bx .cur r.1) (.fr 130 .name r.2)))
  | .f 57 => some (.m (.bx .cur) [(.int .i64)] _ (fun x0 x => spec_l1Cur_pick.F x0 x.1) (fun r => .kep (.bx .cur r.1) (.t (.int .i64) r.2)))
  | .f 129 => some (.m (.bx .cur) [] _ (fun x0 x => spec_l1Cur_anyName.F k x0) (fun r => .kep (.bx .cur r.1) (sfV 9 .name r.2)))
  | .f 130 => some (.m (.bx .cur) [] _ (fun x0 x => spec_l1Cur_name.F k x0) (fun r => .kep (.bx .cur r.1) (sfV 9 .name r.2)))
  | _ => none
def spec_l1Cur_anyNames.sp1 : List Sp := [.boxT 0 1099511627776 .cur, .own 3 1028 130 .name false true]
def spec_l1Cur_anyNames.sp1_0 : List Sp := [.boxT 0 1099511627776 .cur, .own 3 1028 130 .name false true]
def spec_l1Cur_anyNames.A1 : LArm := .one spec_l1Cur_anyNames.sp1 spec_l1Cur_anyNames.sp1_0 (Cur × (List Name)) (fun k x => spec_l1Cur_anyNames.l1 k x.1 x.2.1) (.exit 1) (fun y => (y.1, y.2, ())) (fun x => (x.1, x.2.1))
def spec_l1Cur_anyNames.L : Nat → Option LArm := fun b => match b with
  | 1 => some spec_l1Cur_anyNames.A1
  | _ => none
theorem spec_l1Cur_anyNames.run (k : Nat) (a0 : Cur) : runM envX (tabC (spec_l1Cur_anyNames.C k)) (tabL 29 k spec_l1Cur_anyNames.L) Tryz.f90 mbase (.bx .cur a0) [] (viewK (.bx .cur) (viewR1 (.fr 130 .name))) = spec_l1Cur_anyNames.F k a0 := by kernel_rfl
theorem spec_l1Cur_anyNames.step1 (k : Nat) (x0 : Cur) (x3 : List Name) : runC envX (tabC (spec_l1Cur_anyNames.C k)) (tabL 29 k spec_l1Cur_anyNames.L) 1 (loopAt Tryz.f90 1) (stOf 29 spec_l1Cur_anyNames.sp1 (x0, x3, ())) (spec_l1Cur_anyNames.A1.cont 29 k) = spec_l1Cur_anyNames.l1 (k + 1) x0 x3 := by kernel_rfl
theorem spec_l1Cur_anyNames.G (hE : EnvOk Tryz.prog envX) (pv : Nat → Value) (k : Nat) : ∀ cal A, spec_l1Cur_anyNames.C k cal = some A → ArmOk Tryz.prog envX pv cal A := by
  intro cal A h
  unfold spec_l1Cur_anyNames.C at h
  split at h
  · cases h; exact ⟨_, rfl, fun x0 x y hy => spec_l1Cur_names.good hE pv k x0 hy⟩
  · cases h; exact ⟨_, rfl, fun x0 x y hy => spec_l1Cur_pick.good hE pv x0 x.1 hy⟩
  · cases h; exact ⟨_, rfl, fun x0 x y hy => spec_l1Cur_anyName.good hE pv k x0 hy⟩
  · cases h; exact ⟨_, rfl, fun x0 x y hy => spec_l1Cur_name.good hE pv k x0 hy⟩
  · cases h
theorem spec_l1Cur_anyNames.good (hE : EnvOk Tryz.prog envX) (pv : Nat → Value) (k : Nat) (a0 : Cur) {y : _} (h : spec_l1Cur_anyNames.F k a0 = some y) : MeetsM Tryz.prog envX pv 90 (.bx .cur a0) (tvals [] (())) (.kep (.bx .cur y.1) (.fr 130 .name y.2)) :=
  funM_loops hE (t := spec_l1Cur_anyNames.C) k (fun k _ => spec_l1Cur_anyNames.G hE pv k) (f := 90) (fn := Tryz.f90) (by kernel_rfl) rfl (by kernel_rfl) (.inl rfl) (by kernel_rfl) (lt := spec_l1Cur_anyNames.L) (by kernel_rfl) (fun b A h => by
    unfold spec_l1Cur_anyNames.L at h; split at h
    · cases h; exact ⟨by kernel_rfl, by kernel_rfl, fun _ => rfl, fun _ => rfl⟩
    · cases h) (fun b A h => by
    unfold spec_l1Cur_anyNames.L at h; split at h
    · cases h; exact fun k x => spec_l1Cur_anyNames.step1 k x.1 x.2.1
    · cases h) ((spec_l1Cur_anyNames.run k a0).trans h) fun r hr => wk_viewK (fun r y h => wk_view1 h) hr
/-! ### 54 (*loop.example/g00896/spec.l1Cur).anyEntry -/
def spec_l1Cur_anyEntry.F (k : Nat) (a0 : Cur) : Option (Cur × Entry) := (spec_l1Cur_entry.F k a0).bind fun r1 => (spec_l1Cur_pick.F r1.1 24).bind fun r2 => bif (r2.2 == 0) then ((spec_l1Cur_of.F r2.1 ([(⟨#[]⟩ : ByteArray), (⟨#[65]⟩ : ByteArray), (⟨#[49, 97]⟩ : ByteArray), (⟨#[97, 98, 99, 100, 101, 102, 103, 104, 105, 106]⟩ : ByteArray), (⟨#[97, 98, 99, 100, 101, 102, 103, 104, 105, 106, 107]⟩ : ByteArray)] : List ByteArray)).bind fun r3 => some (r3.1, (⟨r3.2, r1.2.kind, r1.2.authors, r1.2.editors, r1.2.title, r1.2.container, r1.2.publisher, r1.2.date, r1.2.volume, r1.2.pages, r1.2.cross⟩ : Entry))) else (bif (r2.2 == 1) then ((spec_l1Cur_pick.F r2.1 6).bind fun r4 => some (r4.1, (⟨r1.2.key, r4.2, r1.2.authors, r1.2.editors, r1.2.title, r1.2.container, r1.2.publisher, r1.2.date, r1.2.volume, r1.2.pages, r1.2.cross⟩ : Entry))) else (bif (r2.2 == 2) then ((spec_l1Cur_anyNames.F k r2.1).bind fun r5 => some (r5.1, (⟨r1.2.key, r1.2.kind, r5.2, r1.2.editors, r1.2.title, r1.2.container, r1.2.publisher, r1.2.date, r1.2.volume, r1.2.pages, r1.2.cross⟩ : Entry))) else (bif (r2.2 == 3) then ((spec_l1Cur_of.F r2.1 ([(⟨#[32, 120]⟩ : ByteArray), (⟨#[120, 32]⟩ : ByteArray), (⟨#[97, 9, 98]⟩ : ByteArray), (⟨#[48, 49, 50, 51, 52, 53, 54, 55, 56, 57, 48, 49, 50, 51, 52, 53, 54, 55, 56, 57, 48, 49, 50, 51, 52, 53, 54, 55, 56, 57, 48, 49, 50, 51, 52, 53, 54, 55, 56, 57]⟩ : ByteArray), (⟨#[48, 49, 50, 51, 52, 53, 54, 55, 56, 57, 48, 49, 50, 51, 52, 53, 54, 55, 56, 57, 48, 49, 50, 51, 52, 53, 54, 55, 56, 57, 48, 49, 50, 51, 52, 53, 54, 55, 56, 57, 48]⟩ : ByteArray)] : List ByteArray)).bind fun r6 => some (r6.1, (⟨r1.2.key, r1.2.kind, r1.2.authors, r1.2.editors, r6.2, r1.2.container, r1.2.publisher, r1.2.date, r1.2.volume, r1.2.pages, r1.2.cross⟩ : Entry))) else (bif (r2.2 == 4) then ((spec_l1Cur_anyDate.F r2.1).bind fun r7 => some (r7.1, (⟨r1.2.key, r1.2.kind, r1.2.authors, r1.2.editors, r1.2.title, r1.2.container, r1.2.publisher, r7.2, r1.2.volume, r1.2.pages, r1.2.cross⟩ : Entry))) else (bif (r2.2 == 5) then ((spec_l1Cur_among.F r2.1 ([(-1), 10000] : List Int)).bind fun r8 => some (r8.1, (⟨r1.2.key, r1.2.kind, r1.2.authors, r1.2.editors, r1.2.title, r1.2.container, r1.2.publisher, r1.2.date, r8.2, r1.2.pages, r1.2.cross⟩ : Entry))) else (bif (r2.2 == 6) then ((spec_l1Cur_of.F r2.1 ([r1.2.key, (⟨#[65]⟩ : ByteArray), (⟨#[98, 50]⟩ : ByteArray)] : List ByteArray)).bind fun r9 => some (r9.1, (⟨r1.2.key, r1.2.kind, r1.2.authors, r1.2.editors, r1.2.title, r1.2.container, r1.2.publisher, r1.2.date, r1.2.volume, r1.2.pages, r9.2⟩ : Entry))) else (bif (r2.2 == 7) then ((spec_l1Cur_anyNames.F k r2.1).bind fun r10 => some (r10.1, (⟨r1.2.key, r1.2.kind, r1.2.authors, r10.2, r1.2.title, r1.2.container, r1.2.publisher, r1.2.date, r1.2.volume, r1.2.pages, r1.2.cross⟩ : Entry))) else (some (r2.1, r1.2)))))))))
def spec_l1Cur_anyEntry.C (k : Nat) : Cal → Option CArm := fun c => match c with
  | .f 89 => some (.m (.bx .cur) [] _ (fun x0 x => spec_l1Cur_entry.F k x0) (fun r => .kep (.bx .cur r.1) (.t .entry r.2)))
  | .f 57 => some (.m (.bx .cur) [(.int .i64)] _ (fun x0 x => spec_l1Cur_pick.F x0 x.1) (fun r => .kep (.bx .cur r.1) (.t (.int .i64) r.2)))
  | .f 84 => some (.m (.bx .cur) [(.sl .str)] _ (fun x0 x => spec_l1Cur_of.F x0 x.1) (fun r => .kep (.bx .cur r.1) (.t .str r.2)))
  | .f 90 => some (.m (.bx .cur) [] _ (fun x0 x => spec_l1Cur_anyNames.F k x0) (fun r => .kep (.bx .cur r.1) (.fr 130 .name r.2)))
  | .f 64 => some (.m (.bx .cur) [] _ (fun x0 x => spec_l1Cur_anyDate.F x0) (fun r => .kep (.bx .cur r.1) (.t .date r.2)))
  | .f 56 => some (.m (.bx .cur) [(.sl (.int .i64))] _ (fun x0 x => spec_l1Cur_among.F x0 x.1) (fun r => .kep (.bx .cur r.1) (.t (.int .i64) r.2)))
  | _ => none
theorem spec_l1Cur_anyEntry.run (k : Nat) (a0 : Cur) : runM envX (tabC (spec_l1Cur_anyEntry.C k)) (tabL 55 0 (fun _ => none)) Tryz.f54 mbase (.bx .cur a0) [] (viewK (.bx .cur) (viewR1 (.t .entry))) = spec_l1Cur_anyEntry.F k a0 := by kernel_rfl
theorem spec_l1Cur_anyEntry.G (hE : EnvOk Tryz.prog envX) (pv : Nat → Value) (k : Nat) : ∀ cal A, spec_l1Cur_anyEntry.C k cal = some A → ArmOk Tryz.prog envX pv cal A := by
  intro cal A h
  unfold spec_l1Cur_anyEntry.C at h
  split at h
  · cases h; exact ⟨_, rfl, fun x0 x y hy => spec_l1Cur_entry.good hE pv k x0 hy⟩
  · cases h; exact ⟨_, rfl, fun x0 x y hy => spec_l1Cur_pick.good hE pv x0 x.1 hy⟩
  · cases h; exact ⟨_, rfl, fun x0 x y hy => spec_l1Cur_of.good hE pv x0 x.1 hy⟩
  · cases h; exact ⟨_, rfl, fun x0 x y hy => spec_l1Cur_anyNames.good hE pv k x0 hy⟩
  · cases h; exact ⟨_, rfl, fun x0 x y hy => spec_l1Cur_anyDate.good hE pv x0 hy⟩
  · cases h; exact ⟨_, rfl, fun x0 x y hy => spec_l1Cur_among.good hE pv x0 x.1 hy⟩
  · cases h
theorem spec_l1Cur_anyEntry.good (hE : EnvOk Tryz.prog envX) (pv : Nat → Value) (k : Nat) (a0 : Cur) {y : _} (h : spec_l1Cur_anyEntry.F k a0 = some y) : MeetsM Tryz.prog envX pv 54 (.bx .cur a0) (tvals [] (())) (.kep (.bx .cur y.1) (.t .entry y.2)) :=
  funM_plain hE (spec_l1Cur_anyEntry.G hE pv k) (f := 54) (fn := Tryz.f54) (by kernel_rfl) rfl (by kernel_rfl) (.inl rfl) (by kernel_rfl) ((spec_l1Cur_anyEntry.run k a0).trans h) fun r hr => wk_viewK (fun r y h => wk_view1 h) hr
/-! ### 131 loop.example/g00896/spec.l2Own -/
def spec_l2Own.l0 : Nat → (List Name) → (List Name) → Int → Option ((List Name))
  | 0, _, _, _ => none
  | k + 1, x0, x3, x4 => bif (decide (x4 < (x0.length : Int))) then (bif decide (0 ≤ x4) then (bif decide (x4 < (x0.length : Int)) then (bif room (([] : List ByteArray).length + ((x0.getD (x4 : Int).toNat (dflt .name)).given).length) .str then (bif room (x3.length + ([(⟨(([] : List ByteArray) ++ ((x0.getD (x4 : Int).toNat (dflt .name)).given)), (x0.getD (x4 : Int).toNat (dflt .name)).particle, (x0.getD (x4 : Int).toNat (dflt .name)).family, (x0.getD (x4 : Int).toNat (dflt .name)).suffix⟩ : Name)] : List Name).length) .name then (spec_l2Own.l0 k x0 (x3 ++ ([(⟨(([] : List ByteArray) ++ ((x0.getD (x4 : Int).toNat (dflt .name)).given)), (x0.getD (x4 : Int).toNat (dflt .name)).particle, (x0.getD (x4 : Int).toNat (dflt .name)).family, (x0.getD (x4 : Int).toNat (dflt .name)).suffix⟩ : Name)] : List Name)) (IntKind.wrap .i64 (x4 + 1))) else none) else none) else none) else none) else (some x3)
def spec_l2Own.F (k : Nat) (a0 : List Name) : Option (List Name) := (spec_l2Own.l0 k a0 ([] : List Name) 0).bind fun y1 => some y1
def spec_l2Own.C (k : Nat) : Cal → Option CArm := fun c => match c with
  | _ => none
def spec_l2Own.sp0 : List Sp := [.t 0 (.sl .name), .own 3 1024 130 .name false true, .t 4 (.int .i64)]
def spec_l2Own.sp0_0 : List Sp := [.own 3 1024 130 .name false true]
def spec_l2Own.A0 : LArm := .one spec_l2Own.sp0 spec_l2Own.sp0_0 ((List Name)) (fun k x => spec_l2Own.l0 k x.1 x.2.1 x.2.2.1) (.exit 0) (fun y => (y, ())) (fun x => x.1)
def spec_l2Own.L : Nat → Option LArm := fun b => match b with
  | 0 => some spec_l2Own.A0
  | _ => none
theorem spec_l2Own.run (k : Nat) (a0 : List Name) : runF envX (tabC (spec_l2Own.C k)) (tabL 27 k spec_l2Own.L) Tryz.f131 [.t (.sl .name) a0] (viewR1 (.fr 130 .name)) = spec_l2Own.F k a0 := by kernel_rfl
theorem spec_l2Own.step0 (k : Nat) (x0 : List Name) (x3 : List Name) (x4 : Int) : runC envX (tabC (spec_l2Own.C k)) (tabL 27 k spec_l2Own.L) 0 (loopAt Tryz.f131 0) (stOf 27 spec_l2Own.sp0 (x0, x3, x4, ())) (spec_l2Own.A0.cont 27 k) = spec_l2Own.l0 (k + 1) x0 x3 x4 := by kernel_rfl
theorem spec_l2Own.G (hE : EnvOk Tryz.prog envX) (pv : Nat → Value) (k : Nat) : ∀ cal A, spec_l2Own.C k cal = some A → ArmOk Tryz.prog envX pv cal A := by
  intro cal A h
  unfold spec_l2Own.C at h
  cases h
theorem spec_l2Own.good (hE : EnvOk Tryz.prog envX) (pv : Nat → Value) (k : Nat) (a0 : List Name) {y : _} (h : spec_l2Own.F k a0 = some y) : Meets Tryz.prog envX pv (.f 131) (tvals [(.sl .name)] (a0, ())) (.fr 130 .name y) :=
  fun_loops hE (t := spec_l2Own.C) k (fun k _ => spec_l2Own.G hE pv k) (f := 131) (fn := Tryz.f131) (by kernel_rfl) rfl (by kernel_rfl) (by kernel_rfl) (lt := spec_l2Own.L) (by kernel_rfl) (fun b A h => by
    unfold spec_l2Own.L at h; split at h
    · cases h; exact ⟨by kernel_rfl, by kernel_rfl, fun _ => rfl, fun _ => rfl⟩
    · cases h) (fun b A h => by
    unfold spec_l2Own.L at h; split at h
    · cases h; exact fun k x => spec_l2Own.step0 k x.1 x.2.1 x.2.2.1
    · cases h) ((spec_l2Own.run k a0).trans h) fun r hr => wk_view1 hr
/-! ### 91 loop.example/g00896/spec.l4Copy -/
def spec_l4Copy.F (k : Nat) (a0 : Entry) : Option (Entry) := (spec_l2Own.F k a0.authors).bind fun r1 => (spec_l2Own.F k a0.editors).bind fun r2 => some (⟨a0.key, a0.kind, r1, r2, a0.title, a0.container, a0.publisher, a0.date, a0.volume, a0.pages, a0.cross⟩ : Entry)
def spec_l4Copy.C (k : Nat) : Cal → Option CArm := fun c => match c with
  | .f 131 => some (.p [(.sl .name)] _ (fun x => spec_l2Own.F k x.1) (fun r => (.fr 130 .name r)))
  | _ => none
theorem spec_l4Copy.run (k : Nat) (a0 : Entry) : runF envX (tabC (spec_l4Copy.C k)) (tabL 12 0 (fun _ => none)) Tryz.f91 [.t .entry a0] (viewR1 (.t .entry)) = spec_l4Copy.F k a0 := by kernel_rfl
theorem spec_l4Copy.G (hE : EnvOk Tryz.prog envX) (pv : Nat → Value) (k : Nat) : ∀ cal A, spec_l4Copy.C k cal = some A → ArmOk Tryz.prog envX pv cal A := by
  intro cal A h
  unfold spec_l4Copy.C at h
  split at h
  · cases h; exact fun x y hy => spec_l2Own.good hE pv k x.1 hy
  · cases h
theorem spec_l4Copy.good (hE : EnvOk Tryz.prog envX) (pv : Nat → Value) (k : Nat) (a0 : Entry) {y : _} (h : spec_l4Copy.F k a0 = some y) : Meets Tryz.prog envX pv (.f 91) (tvals [.entry] (a0, ())) (.t .entry y) :=
  fun_plain hE (spec_l4Copy.G hE pv k) (f := 91) (fn := Tryz.f91) (by kernel_rfl) rfl (by kernel_rfl) (by kernel_rfl) ((spec_l4Copy.run k a0).trans h) fun r hr => wk_view1 hr
/-! ### 92 loop.example/g00896/spec.l6Lower -/
def spec_l6Lower.l0 : Nat → ByteArray → (List Int) → Int → Option ((List Int))
  | 0, _, _, _ => none
  | k + 1, x0, x3, x4 => bif (decide (x4 < (x0.size : Int))) then (bif decide (0 ≤ x4) then (bif decide (x4 < (x0.size : Int)) then ((spec_l6LowerByte.F (bt x0 (x4 : Int).toNat)).bind fun r1 => bif room (x3.length + ([r1] : List Int).length) (.int .u8) then (spec_l6Lower.l0 k x0 (x3 ++ ([r1] : List Int)) (IntKind.wrap .i64 (x4 + 1))) else none) else none) else none) else (some x3)
def spec_l6Lower.F (k : Nat) (a0 : ByteArray) : Option (ByteArray) := (spec_l6Lower.l0 k a0 ([] : List Int) 0).bind fun y2 => some (strL y2)
def spec_l6Lower.C (k : Nat) : Cal → Option CArm := fun c => match c with
  | .f 132 => some (.p [(.int .u8)] _ (fun x => spec_l6LowerByte.F x.1) (fun r => (.t (.int .u8) r)))
  | _ => none
def spec_l6Lower.sp0 : List Sp := [.t 0 .str, .own 3 1024 5 (.int .u8) false true, .t 4 (.int .i64)]
def spec_l6Lower.sp0_0 : List Sp := [.own 3 1024 5 (.int .u8) false true]
def spec_l6Lower.A0 : LArm := .one spec_l6Lower.sp0 spec_l6Lower.sp0_0 ((List Int)) (fun k x => spec_l6Lower.l0 k x.1 x.2.1 x.2.2.1) (.exit 0) (fun y => (y, ())) (fun x => x.1)
def spec_l6Lower.L : Nat → Option LArm := fun b => match b with
  | 0 => some spec_l6Lower.A0
  | _ => none
theorem spec_l6Lower.run (k : Nat) (a0 : ByteArray) : runF envX (tabC (spec_l6Lower.C k)) (tabL 21 k spec_l6Lower.L) Tryz.f92 [.t .str a0] (viewR1 (.t .str)) = spec_l6Lower.F k a0 := by kernel_rfl
theorem spec_l6Lower.step0 (k : Nat) (x0 : ByteArray) (x3 : List Int) (x4 : Int) : runC envX (tabC (spec_l6Lower.C k)) (tabL 21 k spec_l6Lower.L) 0 (loopAt Tryz.f92 0) (stOf 21 spec_l6Lower.sp0 (x0, x3, x4, ())) (spec_l6Lower.A0.cont 21 k) = spec_l6Lower.l0 (k + 1) x0 x3 x4 := by kernel_rfl
theorem spec_l6Lower.G (hE : EnvOk Tryz.prog envX) (pv : Nat → Value) (k : Nat) : ∀ cal A, spec_l6Lower.C k cal = some A → ArmOk Tryz.prog envX pv cal A := by
  intro cal A h
  unfold spec_l6Lower.C at h
  split at h
  · cases h; exact fun x y hy => spec_l6LowerByte.good hE pv x.1 hy
  · cases h
theorem spec_l6Lower.good (hE : EnvOk Tryz.prog envX) (pv : Nat → Value) (k : Nat) (a0 : ByteArray) {y : _} (h : spec_l6Lower.F k a0 = some y) : Meets Tryz.prog envX pv (.f 92) (tvals [.str] (a0, ())) (.t .str y) :=
  fun_loops hE (t := spec_l6Lower.C) k (fun k _ => spec_l6Lower.G hE pv k) (f := 92) (fn := Tryz.f92) (by kernel_rfl) rfl (by kernel_rfl) (by kernel_rfl) (lt := spec_l6Lower.L) (by kernel_rfl) (fun b A h => by
    unfold spec_l6Lower.L at h; split at h
    · cases h; exact ⟨by kernel_rfl, by kernel_rfl, fun _ => rfl, fun _ => rfl⟩
    · cases h) (fun b A h => by
    unfold spec_l6Lower.L at h; split at h
    · cases h; exact fun k x => spec_l6Lower.step0 k x.1 x.2.1 x.2.2.1
    · cases h) ((spec_l6Lower.run k a0).trans h) fun r hr => wk_view1 hr
/-! ### 55 (*loop.example/g00896/spec.l1Cur).near20 -/
def spec_l1Cur_near20.F (k : Nat) (a0 : Cur) (a1 : Entry) : Option (Cur × Entry) := (spec_l4Copy.F k a1).bind fun r1 => (spec_l1Cur_pick.F a0 8).bind fun r2 => bif (r2.2 == 0) then ((spec_l1Cur_spoilt.F r2.1 a1.title (⟨#[97, 66, 32, 45]⟩ : ByteArray)).bind fun r3 => some (r3.1, (⟨r1.key, r1.kind, r1.authors, r1.editors, r3.2, r1.container, r1.publisher, r1.date, r1.volume, r1.pages, r1.cross⟩ : Entry))) else (bif (r2.2 == 1) then ((spec_l6Lower.F k a1.title).bind fun r4 => some (r2.1, (⟨r1.key, r1.kind, r1.authors, r1.editors, r4, r1.container, r1.publisher, r1.date, r1.volume, r1.pages, r1.cross⟩ : Entry))) else (bif (r2.2 == 2) then ((spec_l1Cur_date.F r2.1).bind fun r5 => some (r5.1, (⟨r1.key, r1.kind, r1.authors, r1.editors, r1.title, r1.container, r1.publisher, r5.2, r1.volume, r1.pages, r1.cross⟩ : Entry))) else (bif (r2.2 == 3) then ((spec_l1Cur_names.F k r2.1).bind fun r6 => some (r6.1, (⟨r1.key, r1.kind, r6.2, r1.editors, r1.title, r1.container, r1.publisher, r1.date, r1.volume, r1.pages, r1.cross⟩ : Entry))) else (bif (r2.2 == 4) then ((spec_l1Cur_anyEntry.F k r2.1).bind fun r7 => some (r7.1, r7.2)) else (bif (r2.2 == 5) then (some (r2.1, (⟨r1.key, r1.kind, r1.authors, r1.editors, r1.title, r1.container, (⟨#[]⟩ : ByteArray), r1.date, 0, r1.pages, r1.cross⟩ : Entry))) else (some (r2.1, r1)))))))
def spec_l1Cur_near20.C (k : Nat) : Cal → Option CArm := fun c => match c with
  | .f 91 => some (.p [.entry] _ (fun x => spec_l4Copy.F k x.1) (fun r => (.t .entry r)))
  | .f 57 => some (.m (.bx .cur) [(.int .i64)] _ (fun x0 x => spec_l1Cur_pick.F x0 x.1) (fun r => .kep (.bx .cur r.1) (.t (.int .i64) r.2)))
  | .f 49 => some (.m (.bx .cur) [.str, .str] _ (fun x0 x => spec_l1Cur_spoilt.F x0 x.1 x.2.1) (fun r => .kep (.bx .cur r.1) (.t .str r.2)))
  | .f 92 => some (.p [.str] _ (fun x => spec_l6Lower.F k x.1) (fun r => (.t .str r)))
  | .f 93 => some (.m (.bx .cur) [] _ (fun x0 x => spec_l1Cur_date.F x0) (fun r => .kep (.bx .cur r.1) (.t .date r.2)))
  | .f 94 => some (.m (.bx .cur) [] _ (fun x0 x => spec_l1Cur_names.F k x0) (fun r => .kep (.bx .cur r.1) (.fr 130 .name r.2)))
  | .f 54 => some (.m (.bx .cur) [] _ (fun x0 x => spec_l1Cur_anyEntry.F k x0) (fun r => .kep (.bx .cur r.1) (.t .entry r.2)))
  | _ => none
theorem spec_l1Cur_near20.run (k : Nat) (a0 : Cur) (a1 : Entry) : runM envX (tabC (spec_l1Cur_near20.C k)) (tabL 42 0 (fun _ => none)) Tryz.f55 mbase (.bx .cur a0) [.t .entry a1] (viewK (.bx .cur) (viewR1 (.t .entry))) = spec_l1Cur_near20.F k a0 a1 := by kernel_rfl
theorem spec_l1Cur_near20.G (hE : EnvOk Tryz.prog envX) (pv : Nat → Value) (k : Nat) : ∀ cal A, spec_l1Cur_near20.C k cal = some A → ArmOk Tryz.prog envX pv cal A := by
  intro cal A h
  unfold spec_l1Cur_near20.C at h
  split at h
  · cases h; exact fun x y hy => spec_l4Copy.good hE pv k x.1 hy
  · cases h; exact ⟨_, rfl, fun x0 x y hy => spec_l1Cur_pick.good hE pv x0 x.1 hy⟩
  · cases h; exact ⟨_, rfl, fun x0 x y hy => spec_l1Cur_spoilt.good hE pv x0 x.1 x.2.1 hy⟩
  · cases h; exact fun x y hy => spec_l6Lower.good hE pv k x.1 hy
  · cases h; exact ⟨_, rfl, fun x0 x y hy => spec_l1Cur_date.good hE pv x0 hy⟩
  · cases h; exact ⟨_, rfl, fun x0 x y hy => spec_l1Cur_names.good hE pv k x0 hy⟩
  · cases h; exact ⟨_, rfl, fun x0 x y hy => spec_l1Cur_anyEntry.good hE pv k x0 hy⟩
  · cases h
theorem spec_l1Cur_near20.good (hE : EnvOk Tryz.prog envX) (pv : Nat → Value) (k : Nat) (a0 : Cur) (a1 : Entry) {y : _} (h : spec_l1Cur_near20.F k a0 a1 = some y) : MeetsM Tryz.prog envX pv 55 (.bx .cur a0) (tvals [.entry] (a1, ())) (.kep (.bx .cur y.1) (.t .entry y.2)) :=
  funM_plain hE (spec_l1Cur_near20.G hE pv k) (f := 55) (fn := Tryz.f55) (by kernel_rfl) rfl (by kernel_rfl) (.inl rfl) (by kernel_rfl) ((spec_l1Cur_near20.run k a0 a1).trans h) fun r hr => wk_viewK (fun r y h => wk_view1 h) hr
/-! ### 21 loop.example/g00896/spec.DrawAreAlike -/
def spec_DrawAreAlike.F (k : Nat) (a0 : List Int) : Option (Entry × Entry × Int) := (spec_l1Cur_anyEntry.F k (⟨a0, 0, 0⟩ : Cur)).bind fun r1 => (spec_l1Cur_near20.F k r1.1 r1.2).bind fun r2 => (spec_l1Cur_pick.F r2.1 24).bind fun r3 => bif (11 == 0) then (none) else (bif decide (0 ≤ (IntKind.wrap .i64 (5 + (IntKind.wrap .i64 (Int.tdiv r3.2 11))))) then (bif decide ((IntKind.wrap .i64 (5 + (IntKind.wrap .i64 (Int.tdiv r3.2 11)))) ≤ (([0, 1, 2, 5, 40, (-1), 41] : List Int).length : Int)) then ((spec_l1Cur_among.F r3.1 (([0, 1, 2, 5, 40, (-1), 41] : List Int).take ((IntKind.wrap .i64 (5 + (IntKind.wrap .i64 (Int.tdiv r3.2 11)))) : Int).toNat)).bind fun r4 => some (r1.2, r2.2, r4.2)) else none) else none)
def spec_DrawAreAlike.C (k : Nat) : Cal → Option CArm := fun c => match c with
  | .f 54 => some (.m (.bx .cur) [] _ (fun x0 x => spec_l1Cur_anyEntry.F k x0) (fun r => .kep (.bx .cur r.1) (.t .entry r.2)))
  | .f 55 => some (.m (.bx .cur) [.entry] _ (fun x0 x => spec_l1Cur_near20.F k x0 x.1) (fun r => .kep (.bx .cur r.1) (.t .entry r.2)))
  | .f 57 => some (.m (.bx .cur) [(.int .i64)] _ (fun x0 x => spec_l1Cur_pick.F x0 x.1) (fun r => .kep (.bx .cur r.1) (.t (.int .i64) r.2)))
  | .f 56 => some (.m (.bx .cur) [(.sl (.int .i64))] _ (fun x0 x => spec_l1Cur_among.F x0 x.1) (fun r => .kep (.bx .cur r.1) (.t (.int .i64) r.2)))
  | _ => none
theorem spec_DrawAreAlike.run (k : Nat) (a0 : List Int) : runF envX (tabC (spec_DrawAreAlike.C k)) (tabL 24 0 (fun _ => none)) Tryz.f21 [.t (.sl (.int .u8)) a0] (viewR3 (.t .entry) (.t .entry) (.t (.int .i64))) = spec_DrawAreAlike.F k a0 := by kernel_rfl
theorem spec_DrawAreAlike.G (hE : EnvOk Tryz.prog envX) (pv : Nat → Value) (k : Nat) : ∀ cal A, spec_DrawAreAlike.C k cal = some A → ArmOk Tryz.prog envX pv cal A := by
  intro cal A h
  unfold spec_DrawAreAlike.C at h
  split at h
  · cases h; exact ⟨_, rfl, fun x0 x y hy => spec_l1Cur_anyEntry.good hE pv k x0 hy⟩
  · cases h; exact ⟨_, rfl, fun x0 x y hy => spec_l1Cur_near20.good hE pv k x0 x.1 hy⟩
  · cases h; exact ⟨_, rfl, fun x0 x y hy => spec_l1Cur_pick.good hE pv x0 x.1 hy⟩
  · cases h; exact ⟨_, rfl, fun x0 x y hy => spec_l1Cur_among.good hE pv x0 x.1 hy⟩
  · cases h
theorem spec_DrawAreAlike.good (hE : EnvOk Tryz.prog envX) (pv : Nat → Value) (k : Nat) (a0 : List Int) {y : _} (h : spec_DrawAreAlike.F k a0 = some y) : Meets Tryz.prog envX pv (.f 21) (tvals [(.sl (.int .u8))] (a0, ())) (.tup [.t .entry y.1, .t .entry y.2.1, .t (.int .i64) y.2.2]) :=
  fun_plain hE (spec_DrawAreAlike.G hE pv k) (f := 21) (fn := Tryz.f21) (by kernel_rfl) rfl (by kernel_rfl) (by kernel_rfl) ((spec_DrawAreAlike.run k a0).trans h) fun r hr => wk_view3 hr
/-! ### 59 loop.example/g00896/impl.inside -/
def impl_inside.F (a0 : Int) (a1 : Int) (a2 : Int) : Option (Bool) := bif (decide (a0 ≥ a1)) then (some (decide (a0 ≤ a2))) else (some false)
def impl_inside.C : Cal → Option CArm := fun c => match c with
  | _ => none
theorem impl_inside.run (a0 : Int) (a1 : Int) (a2 : Int) : runF envX (tabC impl_inside.C) (tabL 15 0 (fun _ => none)) Tryz.f59 [.t (.int .i64) a0, .t (.int .i64) a1, .t (.int .i64) a2] (viewR1 (.t .bool)) = impl_inside.F a0 a1 a2 := by kernel_rfl
theorem impl_inside.G (hE : EnvOk Tryz.prog envX) (pv : Nat → Value) : ∀ cal A, impl_inside.C cal = some A → ArmOk Tryz.prog envX pv cal A := by
  intro cal A h
  unfold impl_inside.C at h
  cases h
theorem impl_inside.good (hE : EnvOk Tryz.prog envX) (pv : Nat → Value) (a0 : Int) (a1 : Int) (a2 : Int) {y : _} (h : impl_inside.F a0 a1 a2 = some y) : Meets Tryz.prog envX pv (.f 59) (tvals [(.int .i64), (.int .i64), (.int .i64)] (a0, a1, a2, ())) (.t .bool y) :=
  fun_plain hE (impl_inside.G hE pv) (f := 59) (fn := Tryz.f59) (by kernel_rfl) rfl (by kernel_rfl) (by kernel_rfl) ((impl_inside.run a0 a1 a2).trans h) fun r hr => wk_view1 hr
/-! ### 103 loop.example/g00896/impl.daysInMonth -/
def impl_daysInMonth.F (a0 : Int) (a1 : Int) : Option (Int) := bif (a1 == 2) then (bif (4 == 0) then (none) else (bif ((Int.tmod a0 4) == 0) then (bif (100 == 0) then (none) else (bif ((Int.tmod a0 100) != 0) then (some 29) else (bif (400 == 0) then (none) else (bif ((Int.tmod a0 400) == 0) then (some 29) else (some 28))))) else (some 28))) else (bif (a1 == 4) then (bif (a1 == 4) then (some 30) else (some 31)) else (bif (a1 == 6) then (bif (a1 == 6) then (some 30) else (some 31)) else (bif (a1 == 9) then (bif (a1 == 9) then (some 30) else (some 31)) else (bif (a1 == 11) then (some 30) else (some 31)))))
def impl_daysInMonth.C : Cal → Option CArm := fun c => match c with
  | _ => none
theorem impl_daysInMonth.run (a0 : Int) (a1 : Int) : runF envX (tabC impl_daysInMonth.C) (tabL 26 0 (fun _ => none)) Tryz.f103 [.t (.int .i64) a0, .t (.int .i64) a1] (viewR1 (.t (.int .i64))) = impl_daysInMonth.F a0 a1 := by kernel_rfl
theorem impl_daysInMonth.G (hE : EnvOk Tryz.prog envX) (pv : Nat → Value) : ∀ cal A, impl_daysInMonth.C cal = some A → ArmOk Tryz.prog envX pv cal A := by
  intro cal A h
  unfold impl_daysInMonth.C at h
  cases h
theorem impl_daysInMonth.good (hE : EnvOk Tryz.prog envX) (pv : Nat → Value) (a0 : Int) (a1 : Int) {y : _} (h : impl_daysInMonth.F a0 a1 = some y) : Meets Tryz.prog envX pv (.f 103) (tvals [(.int .i64), (.int .i64)] (a0, a1, ())) (.t (.int .i64) y) :=
  fun_plain hE (impl_daysInMonth.G hE pv) (f := 103) (fn := Tryz.f103) (by kernel_rfl) rfl (by kernel_rfl) (by kernel_rfl) ((impl_daysInMonth.run a0 a1).trans h) fun r hr => wk_view1 hr
/-! ### 65 loop.example/g00896/impl.IsValidDate -/
def impl_IsValidDate.F (a0 : Date) : Option (Bool) := bif ((a0.y == 0 && (a0.m == 0 && (a0.d == 0 && a0.c == false)))) then (some true) else ((impl_inside.F a0.y 1 2999).bind fun r1 => bif (!r1) then (some false) else ((impl_inside.F a0.m 0 12).bind fun r2 => bif (!r2) then (some false) else (bif a0.c then (bif (a0.m != 0) then (some false) else (bif (a0.m == 0) then (some (a0.d == 0)) else ((impl_daysInMonth.F a0.y a0.m).bind fun r3 => (impl_inside.F a0.d 0 r3).bind fun r4 => some r4))) else (bif (a0.m == 0) then (some (a0.d == 0)) else ((impl_daysInMonth.F a0.y a0.m).bind fun r5 => (impl_inside.F a0.d 0 r5).bind fun r6 => some r6)))))
def impl_IsValidDate.C : Cal → Option CArm := fun c => match c with
  | .f 59 => some (.p [(.int .i64), (.int .i64), (.int .i64)] _ (fun x => impl_inside.F x.1 x.2.1 x.2.2.1) (fun r => (.t .bool r)))
  | .f 103 => some (.p [(.int .i64), (.int .i64)] _ (fun x => impl_daysInMonth.F x.1 x.2.1) (fun r => (.t (.int .i64) r)))
  | _ => none
theorem impl_IsValidDate.run (a0 : Date) : runF envX (tabC impl_IsValidDate.C) (tabL 39 0 (fun _ => none)) Tryz.f65 [.t .date a0] (viewR1 (.t .bool)) = impl_IsValidDate.F a0 := by kernel_rfl
theorem impl_IsValidDate.G (hE : EnvOk Tryz.prog envX) (pv : Nat → Value) : ∀ cal A, impl_IsValidDate.C cal = some A → ArmOk Tryz.prog envX pv cal A := by
  intro cal A h
  unfold impl_IsValidDate.C at h
  split at h
  · cases h; exact fun x y hy => impl_inside.good hE pv x.1 x.2.1 x.2.2.1 hy
  · cases h; exact fun x y hy => impl_daysInMonth.good hE pv x.1 x.2.1 hy
  · cases h
theorem impl_IsValidDate.good (hE : EnvOk Tryz.prog envX) (pv : Nat → Value) (a0 : Date) {y : _} (h : impl_IsValidDate.F a0 = some y) : Meets Tryz.prog envX pv (.f 65) (tvals [.date] (a0, ())) (.t .bool y) :=
  fun_plain hE (impl_IsValidDate.G hE pv) (f := 65) (fn := Tryz.f65) (by kernel_rfl) rfl (by kernel_rfl) (by kernel_rfl) ((impl_IsValidDate.run a0).trans h) fun r hr => wk_view1 hr
/-! ### 96 loop.example/g00896/impl.isKey -/
def impl_isKey.l0 : Nat → ByteArray → Int → Option (Sum Bool Unit)
  | 0, _, _ => none
  | k + 1, x0, x3 => bif (decide (x3 < (x0.size : Int))) then (bif decide (0 ≤ x3) then (bif decide (x3 < (x0.size : Int)) then ((impl_isLower.F (bt x0 (x3 : Int).toNat)).bind fun r3 => bif (!r3) then (bif decide (0 ≤ x3) then (bif decide (x3 < (x0.size : Int)) then ((impl_isDigit.F (bt x0 (x3 : Int).toNat)).bind fun r4 => bif (!r4) then (some (.inl false)) else (impl_isKey.l0 k x0 (IntKind.wrap .i64 (x3 + 1)))) else none) else none) else (impl_isKey.l0 k x0 (IntKind.wrap .i64 (x3 + 1)))) else none) else none) else (some (.inr ()))
def impl_isKey.F (k : Nat) (a0 : ByteArray) : Option (Bool) := (impl_inside.F (a0.size : Int) 1 10).bind fun r1 => bif (!r1) then (some false) else (bif decide (0 ≤ 0) then (bif decide (0 < (a0.size : Int)) then ((impl_isLower.F (bt a0 (0 : Int).toNat)).bind fun r2 => bif (!r2) then (some false) else ((impl_isKey.l0 k a0 0).bind fun y5 => match y5 with | .inl z6 => some z6 | .inr z6 => some true)) else none) else none)
def impl_isKey.C (k : Nat) : Cal → Option CArm := fun c => match c with
  | .f 59 => some (.p [(.int .i64), (.int .i64), (.int .i64)] _ (fun x => impl_inside.F x.1 x.2.1 x.2.2.1) (fun r => (.t .bool r)))
  | .f 121 => some (.p [(.int .u8)] _ (fun x => impl_isLower.F x.1) (fun r => (.t .bool r)))
  | .f 122 => some (.p [(.int .u8)] _ (fun x => impl_isDigit.F x.1) (fun r => (.t .bool r)))
  | _ => none
def impl_isKey.sp0 : List Sp := [.t 0 .str, .t 3 (.int .i64)]
def impl_isKey.sp0_0 : List Sp := [.t 2 .bool]
def impl_isKey.sp0_1 : List Sp := []
def impl_isKey.A0 : LArm := .two impl_isKey.sp0 impl_isKey.sp0_0 impl_isKey.sp0_1 (Bool) (Unit) (fun k x => impl_isKey.l0 k x.1 x.2.1) .ret (.exit 0) (fun y => (y, ())) (fun x => x.1) (fun y => ()) (fun x => ())
def impl_isKey.L : Nat → Option LArm := fun b => match b with
  | 0 => some impl_isKey.A0
  | _ => none
theorem impl_isKey.run (k : Nat) (a0 : ByteArray) : runF envX (tabC (impl_isKey.C k)) (tabL 32 k impl_isKey.L) Tryz.f96 [.t .str a0] (viewR1 (.t .bool)) = impl_isKey.F k a0 := by kernel_rfl
theorem impl_isKey.step0 (k : Nat) (x0 : ByteArray) (x3 : Int) : runC envX (tabC (impl_isKey.C k)) (tabL 32 k impl_isKey.L) 0 (loopAt Tryz.f96 0) (stOf 32 impl_isKey.sp0 (x0, x3, ())) (impl_isKey.A0.cont 32 k) = impl_isKey.l0 (k + 1) x0 x3 := by kernel_rfl
theorem impl_isKey.G (hE : EnvOk Tryz.prog envX) (pv : Nat → Value) (k : Nat) : ∀ cal A, impl_isKey.C k cal = some A → ArmOk Tryz.prog envX pv cal A := by
  intro cal A h
  unfold impl_isKey.C at h
  split at h
  · cases h; exact fun x y hy => impl_inside.good hE pv x.1 x.2.1 x.2.2.1 hy
  · cases h; exact fun x y hy => impl_isLower.good hE pv x.1 hy
  · cases h; exact fun x y hy => impl_isDigit.good hE pv x.1 hy
  · cases h
theorem impl_isKey.good (hE : EnvOk Tryz.prog envX) (pv : Nat → Value) (k : Nat) (a0 : ByteArray) {y : _} (h : impl_isKey.F k a0 = some y) : Meets Tryz.prog envX pv (.f 96) (tvals [.str] (a0, ())) (.t .bool y) :=
  fun_loops hE (t := impl_isKey.C) k (fun k _ => impl_isKey.G hE pv k) (f := 96) (fn := Tryz.f96) (by kernel_rfl) rfl (by kernel_rfl) (by kernel_rfl) (lt := impl_isKey.L) (by kernel_rfl) (fun b A h => by
    unfold impl_isKey.L at h; split at h
    · cases h; exact ⟨by kernel_rfl, by kernel_rfl, by kernel_rfl, fun _ => rfl, fun _ => rfl, fun _ => rfl⟩
    · cases h) (fun b A h => by
    unfold impl_isKey.L at h; split at h
    · cases h; exact fun k x => impl_isKey.step0 k x.1 x.2.1
    · cases h) ((impl_isKey.run k a0).trans h) fun r hr => wk_view1 hr
/-! ### 97 loop.example/g00896/impl.isKind -/
def impl_isKind.F (a0 : Int) : Option (Bool) := (impl_inside.F a0 1 4).bind fun r1 => some r1
def impl_isKind.C : Cal → Option CArm := fun c => match c with
  | .f 59 => some (.p [(.int .i64), (.int .i64), (.int .i64)] _ (fun x => impl_inside.F x.1 x.2.1 x.2.2.1) (fun r => (.t .bool r)))
  | _ => none
theorem impl_isKind.run (a0 : Int) : runF envX (tabC impl_isKind.C) (tabL 5 0 (fun _ => none)) Tryz.f97 [.t (.int .i64) a0] (viewR1 (.t .bool)) = impl_isKind.F a0 := by kernel_rfl
theorem impl_isKind.G (hE : EnvOk Tryz.prog envX) (pv : Nat → Value) : ∀ cal A, impl_isKind.C cal = some A → ArmOk Tryz.prog envX pv cal A := by
  intro cal A h
  unfold impl_isKind.C at h
  split at h
  · cases h; exact fun x y hy => impl_inside.good hE pv x.1 x.2.1 x.2.2.1 hy
  · cases h
theorem impl_isKind.good (hE : EnvOk Tryz.prog envX) (pv : Nat → Value) (a0 : Int) {y : _} (h : impl_isKind.F a0 = some y) : Meets Tryz.prog envX pv (.f 97) (tvals [(.int .i64)] (a0, ())) (.t .bool y) :=
  fun_plain hE (impl_isKind.G hE pv) (f := 97) (fn := Tryz.f97) (by kernel_rfl) rfl (by kernel_rfl) (by kernel_rfl) ((impl_isKind.run a0).trans h) fun r hr => wk_view1 hr
-- NO 170 slices.IndexFunc[[]loop.example/g00896/impl.Name,loop.example/g00896/impl.Name]: a parameter's type
-- NO 133 slices.ContainsFunc[[]loop.example/g00896/impl.Name,loop.example/g00896/impl.Name]: a parameter's type
-- NO 171 slices.ContainsFunc[[]string,string]: a parameter's type
/-! ### 211 loop.example/g00896/impl.isLetter -/
def impl_isLetter.F (a0 : Int) : Option (Bool) := (impl_isUpper.F a0).bind fun r1 => bif r1 then (some true) else ((impl_isLower.F a0).bind fun r2 => some r2)
def impl_isLetter.C : Cal → Option CArm := fun c => match c with
  | .f 161 => some (.p [(.int .u8)] _ (fun x => impl_isUpper.F x.1) (fun r => (.t .bool r)))
  | .f 121 => some (.p [(.int .u8)] _ (fun x => impl_isLower.F x.1) (fun r => (.t .bool r)))
  | _ => none
theorem impl_isLetter.run (a0 : Int) : runF envX (tabC impl_isLetter.C) (tabL 9 0 (fun _ => none)) Tryz.f211 [.t (.int .u8) a0] (viewR1 (.t .bool)) = impl_isLetter.F a0 := by kernel_rfl
theorem impl_isLetter.G (hE : EnvOk Tryz.prog envX) (pv : Nat → Value) : ∀ cal A, impl_isLetter.C cal = some A → ArmOk Tryz.prog envX pv cal A := by
  intro cal A h
  unfold impl_isLetter.C at h
  split at h
  · cases h; exact fun x y hy => impl_isUpper.good hE pv x.1 hy
  · cases h; exact fun x y hy => impl_isLower.good hE pv x.1 hy
  · cases h
theorem impl_isLetter.good (hE : EnvOk Tryz.prog envX) (pv : Nat → Value) (a0 : Int) {y : _} (h : impl_isLetter.F a0 = some y) : Meets Tryz.prog envX pv (.f 211) (tvals [(.int .u8)] (a0, ())) (.t .bool y) :=
  fun_plain hE (impl_isLetter.G hE pv) (f := 211) (fn := Tryz.f211) (by kernel_rfl) rfl (by kernel_rfl) (by kernel_rfl) ((impl_isLetter.run a0).trans h) fun r hr => wk_view1 hr
/-! ### 175 loop.example/g00896/impl.isNameWord -/
def impl_isNameWord.l0 : Nat → ByteArray → Int → Option (Sum Bool Unit)
  | 0, _, _ => none
  | k + 1, x0, x3 => bif (decide (x3 < (x0.size : Int))) then (bif decide (0 ≤ x3) then (bif decide (x3 < (x0.size : Int)) then ((impl_isLetter.F (bt x0 (x3 : Int).toNat)).bind fun r4 => bif (!r4) then (bif decide (0 ≤ x3) then (bif decide (x3 < (x0.size : Int)) then (bif ((bt x0 (x3 : Int).toNat) != 45) then (bif decide (0 ≤ x3) then (bif decide (x3 < (x0.size : Int)) then (bif ((bt x0 (x3 : Int).toNat) != 39) then (some (.inl false)) else (bif decide (0 ≤ (IntKind.wrap .i64 (x3 - 1))) then (bif decide ((IntKind.wrap .i64 (x3 - 1)) < (x0.size : Int)) then ((impl_isLetter.F (bt x0 ((IntKind.wrap .i64 (x3 - 1)) : Int).toNat)).bind fun r5 => bif (!r5) then (some (.inl false)) else (impl_isNameWord.l0 k x0 (IntKind.wrap .i64 (x3 + 1)))) else none) else none)) else none) else none) else (bif decide (0 ≤ (IntKind.wrap .i64 (x3 - 1))) then (bif decide ((IntKind.wrap .i64 (x3 - 1)) < (x0.size : Int)) then ((impl_isLetter.F (bt x0 ((IntKind.wrap .i64 (x3 - 1)) : Int).toNat)).bind fun r6 => bif (!r6) then (some (.inl false)) else (impl_isNameWord.l0 k x0 (IntKind.wrap .i64 (x3 + 1)))) else none) else none)) else none) else none) else (impl_isNameWord.l0 k x0 (IntKind.wrap .i64 (x3 + 1)))) else none) else none) else (some (.inr ()))
def impl_isNameWord.F (k : Nat) (a0 : ByteArray) : Option (Bool) := (impl_inside.F (a0.size : Int) 1 12).bind fun r1 => bif (!r1) then (some false) else (bif decide (0 ≤ (IntKind.wrap .i64 ((a0.size : Int) - 1))) then (bif decide ((IntKind.wrap .i64 ((a0.size : Int) - 1)) < (a0.size : Int)) then ((impl_isLetter.F (bt a0 ((IntKind.wrap .i64 ((a0.size : Int) - 1)) : Int).toNat)).bind fun r2 => bif (!r2) then (some false) else (bif decide (0 ≤ 0) then (bif decide (0 < (a0.size : Int)) then ((impl_isLetter.F (bt a0 (0 : Int).toNat)).bind fun r3 => bif (!r3) then (some false) else ((impl_isNameWord.l0 k a0 0).bind fun y7 => match y7 with | .inl z8 => some z8 | .inr z8 => some true)) else none) else none)) else none) else none)
def impl_isNameWord.C (k : Nat) : Cal → Option CArm := fun c => match c with
  | .f 59 => some (.p [(.int .i64), (.int .i64), (.int .i64)] _ (fun x => impl_inside.F x.1 x.2.1 x.2.2.1) (fun r => (.t .bool r)))
  | .f 211 => some (.p [(.int .u8)] _ (fun x => impl_isLetter.F x.1) (fun r => (.t .bool r)))
  | _ => none
def impl_isNameWord.sp0 : List Sp := [.t 0 .str, .t 3 (.int .i64)]
def impl_isNameWord.sp0_0 : List Sp := [.t 2 .bool]
def impl_isNameWord.sp0_1 : List Sp := []
def impl_isNameWord.A0 : LArm := .two impl_isNameWord.sp0 impl_isNameWord.sp0_0 impl_isNameWord.sp0_1 (Bool) (Unit) (fun k x => impl_isNameWord.l0 k x.1 x.2.1) .ret (.exit 0) (fun y => (y, ())) (fun x => x.1) (fun y => ()) (fun x => ())
def impl_isNameWord.L : Nat → Option LArm := fun b => match b with
  | 0 => some impl_isNameWord.A0
  | _ => none
theorem impl_isNameWord.run (k : Nat) (a0 : ByteArray) : runF envX (tabC (impl_isNameWord.C k)) (tabL 54 k impl_isNameWord.L) Tryz.f175 [.t .str a0] (viewR1 (.t .bool)) = impl_isNameWord.F k a0 := by kernel_rfl
theorem impl_isNameWord.step0 (k : Nat) (x0 : ByteArray) (x3 : Int) : runC envX (tabC (impl_isNameWord.C k)) (tabL 54 k impl_isNameWord.L) 0 (loopAt Tryz.f175 0) (stOf 54 impl_isNameWord.sp0 (x0, x3, ())) (impl_isNameWord.A0.cont 54 k) = impl_isNameWord.l0 (k + 1) x0 x3 := by kernel_rfl
theorem impl_isNameWord.G (hE : EnvOk Tryz.prog envX) (pv : Nat → Value) (k : Nat) : ∀ cal A, impl_isNameWord.C k cal = some A → ArmOk Tryz.prog envX pv cal A := by
  intro cal A h
  unfold impl_isNameWord.C at h
  split at h
  · cases h; exact fun x y hy => impl_inside.good hE pv x.1 x.2.1 x.2.2.1 hy
  · cases h; exact fun x y hy => impl_isLetter.good hE pv x.1 hy
  · cases h
theorem impl_isNameWord.good (hE : EnvOk Tryz.prog envX) (pv : Nat → Value) (k : Nat) (a0 : ByteArray) {y : _} (h : impl_isNameWord.F k a0 = some y) : Meets Tryz.prog envX pv (.f 175) (tvals [.str] (a0, ())) (.t .bool y) :=
  fun_loops hE (t := impl_isNameWord.C) k (fun k _ => impl_isNameWord.G hE pv k) (f := 175) (fn := Tryz.f175) (by kernel_rfl) rfl (by kernel_rfl) (by kernel_rfl) (lt := impl_isNameWord.L) (by kernel_rfl) (fun b A h => by
    unfold impl_isNameWord.L at h; split at h
    · cases h; exact ⟨by kernel_rfl, by kernel_rfl, by kernel_rfl, fun _ => rfl, fun _ => rfl, fun _ => rfl⟩
    · cases h) (fun b A h => by
    unfold impl_isNameWord.L at h; split at h
    · cases h; exact fun k x => impl_isNameWord.step0 k x.1 x.2.1
    · cases h) ((impl_isNameWord.run k a0).trans h) fun r hr => wk_view1 hr
/-! ### 173 loop.example/g00896/impl.isGreatWord -/
def impl_isGreatWord.F (k : Nat) (a0 : ByteArray) : Option (Bool) := (impl_isNameWord.F k a0).bind fun r1 => bif r1 then (bif decide (0 ≤ 0) then (bif decide (0 < (a0.size : Int)) then ((impl_isUpper.F (bt a0 (0 : Int).toNat)).bind fun r2 => some r2) else none) else none) else (some false)
def impl_isGreatWord.C (k : Nat) : Cal → Option CArm := fun c => match c with
  | .f 175 => some (.p [.str] _ (fun x => impl_isNameWord.F k x.1) (fun r => (.t .bool r)))
  | .f 161 => some (.p [(.int .u8)] _ (fun x => impl_isUpper.F x.1) (fun r => (.t .bool r)))
  | _ => none
theorem impl_isGreatWord.run (k : Nat) (a0 : ByteArray) : runF envX (tabC (impl_isGreatWord.C k)) (tabL 10 0 (fun _ => none)) Tryz.f173 [.t .str a0] (viewR1 (.t .bool)) = impl_isGreatWord.F k a0 := by kernel_rfl
theorem impl_isGreatWord.G (hE : EnvOk Tryz.prog envX) (pv : Nat → Value) (k : Nat) : ∀ cal A, impl_isGreatWord.C k cal = some A → ArmOk Tryz.prog envX pv cal A := by
  intro cal A h
  unfold impl_isGreatWord.C at h
  split at h
  · cases h; exact fun x y hy => impl_isNameWord.good hE pv k x.1 hy
  · cases h; exact fun x y hy => impl_isUpper.good hE pv x.1 hy
  · cases h
theorem impl_isGreatWord.good (hE : EnvOk Tryz.prog envX) (pv : Nat → Value) (k : Nat) (a0 : ByteArray) {y : _} (h : impl_isGreatWord.F k a0 = some y) : Meets Tryz.prog envX pv (.f 173) (tvals [.str] (a0, ())) (.t .bool y) :=
  fun_plain hE (impl_isGreatWord.G hE pv k) (f := 173) (fn := Tryz.f173) (by kernel_rfl) rfl (by kernel_rfl) (by kernel_rfl) ((impl_isGreatWord.run k a0).trans h) fun r hr => wk_view1 hr
/-! ### 172 loop.example/g00896/impl.IsValidName$1 -/
def impl_IsValidName_1.F (k : Nat) (a0 : ByteArray) : Option (Bool) := (impl_isGreatWord.F k a0).bind fun r1 => some (!r1)
def impl_IsValidName_1.C (k : Nat) : Cal → Option CArm := fun c => match c with
  | .f 173 => some (.p [.str] _ (fun x => impl_isGreatWord.F k x.1) (fun r => (.t .bool r)))
  | _ => none
theorem impl_IsValidName_1.run (k : Nat) (a0 : ByteArray) : runF envX (tabC (impl_IsValidName_1.C k)) (tabL 6 0 (fun _ => none)) Tryz.f172 [.t .str a0] (viewR1 (.t .bool)) = impl_IsValidName_1.F k a0 := by kernel_rfl
theorem impl_IsValidName_1.G (hE : EnvOk Tryz.prog envX) (pv : Nat → Value) (k : Nat) : ∀ cal A, impl_IsValidName_1.C k cal = some A → ArmOk Tryz.prog envX pv cal A := by
  intro cal A h
  unfold impl_IsValidName_1.C at h
  split at h
  · cases h; exact fun x y hy => impl_isGreatWord.good hE pv k x.1 hy
  · cases h
theorem impl_IsValidName_1.good (hE : EnvOk Tryz.prog envX) (pv : Nat → Value) (k : Nat) (a0 : ByteArray) {y : _} (h : impl_IsValidName_1.F k a0 = some y) : Meets Tryz.prog envX pv (.f 172) (tvals [.str] (a0, ())) (.t .bool y) :=
  fun_plain hE (impl_IsValidName_1.G hE pv k) (f := 172) (fn := Tryz.f172) (by kernel_rfl) rfl (by kernel_rfl) (by kernel_rfl) ((impl_IsValidName_1.run k a0).trans h) fun r hr => wk_view1 hr
/-! ### 174 loop.example/g00896/impl.isParticle -/
def impl_isParticle.l2 : Nat → (List ByteArray) → ByteArray → Int → Int → Int → Option (Sum Bool ((List ByteArray) × Int × Int))
  | 0, _, _, _, _, _ => none
  | k + 1, x3, x5, x6, x12, x13 => bif (decide (x6 < (x5.size : Int))) then (bif decide (0 ≤ x6) then (bif decide (x6 < (x5.size : Int)) then ((impl_isLower.F (bt x5 (x6 : Int).toNat)).bind fun r3 => bif (!r3) then (some (.inl false)) else (impl_isParticle.l2 k x3 x5 (IntKind.wrap .i64 (x6 + 1)) x12 x13)) else none) else none) else (some (.inr (x3, x12, x13)))
def impl_isParticle.l0 : Nat → (List ByteArray) → Int → Int → Option (Sum Bool (List ByteArray))
  | 0, _, _, _ => none
  | k + 1, x3, x12, x13 => bif (decide (x13 < x12)) then (bif decide (0 ≤ x13) then (bif decide (x13 < (x3.length : Int)) then ((impl_inside.F ((x3.getD ((x13 : Int).toNat) (⟨#[]⟩ : ByteArray)).size : Int) 1 12).bind fun r2 => bif (!r2) then (some (.inl false)) else ((impl_isParticle.l2 k x3 (x3.getD ((x13 : Int).toNat) (⟨#[]⟩ : ByteArray)) 0 x12 x13).bind fun y4 => match y4 with | .inl z5 => some (.inl z5) | .inr z5 => impl_isParticle.l0 k z5.1 z5.2.1 (IntKind.wrap .i64 (z5.2.2 + 1)))) else none) else none) else (some (.inr x3))
def impl_isParticle.F (k : Nat) (a0 : ByteArray) : Option (Bool) := bif (beqS a0 (⟨#[]⟩ : ByteArray)) then (some true) else ((strings_Split.F a0 (⟨#[32]⟩ : ByteArray)).bind fun r1 => (impl_isParticle.l0 k r1 (r1.length : Int) 0).bind fun y6 => match y6 with | .inl z7 => some z7 | .inr z7 => some (decide ((z7.length : Int) ≤ 2)))
def impl_isParticle.C (k : Nat) : Cal → Option CArm := fun c => match c with
  | .f 166 => some (.p [.str, .str] _ (fun x => strings_Split.F x.1 x.2.1) (fun r => (.fr 9 .str r)))
  | .f 59 => some (.p [(.int .i64), (.int .i64), (.int .i64)] _ (fun x => impl_inside.F x.1 x.2.1 x.2.2.1) (fun r => (.t .bool r)))
  | .f 121 => some (.p [(.int .u8)] _ (fun x => impl_isLower.F x.1) (fun r => (.t .bool r)))
  | _ => none
def impl_isParticle.sp2 : List Sp := [.own 3 3076 9 .str false true, .t 5 .str, .t 6 (.int .i64), .con 11 (.own 3076), .t 12 (.int .i64), .t 13 (.int .i64)]
def impl_isParticle.sp2_0 : List Sp := [.t 2 .bool]
def impl_isParticle.sp2_1 : List Sp := [.own 3 3076 9 .str false true, .con 11 (.own 3076), .t 12 (.int .i64), .t 13 (.int .i64)]
def impl_isParticle.A2 : LArm := .two impl_isParticle.sp2 impl_isParticle.sp2_0 impl_isParticle.sp2_1 (Bool) ((List ByteArray) × Int × Int) (fun k x => impl_isParticle.l2 k x.1 x.2.1 x.2.2.1 x.2.2.2.2.1 x.2.2.2.2.2.1) .ret (.exit 2) (fun y => (y, ())) (fun x => x.1) (fun y => (y.1, (), y.2.1, y.2.2, ())) (fun x => (x.1, x.2.2.1, x.2.2.2.1))
def impl_isParticle.sp0 : List Sp := [.own 3 3076 9 .str false true, .con 11 (.own 3076), .t 12 (.int .i64), .t 13 (.int .i64)]
def impl_isParticle.sp0_0 : List Sp := [.t 2 .bool]
def impl_isParticle.sp0_1 : List Sp := [.own 3 3076 9 .str false true]
def impl_isParticle.A0 : LArm := .two impl_isParticle.sp0 impl_isParticle.sp0_0 impl_isParticle.sp0_1 (Bool) ((List ByteArray)) (fun k x => impl_isParticle.l0 k x.1 x.2.2.1 x.2.2.2.1) .ret (.exit 0) (fun y => (y, ())) (fun x => x.1) (fun y => (y, ())) (fun x => x.1)
def impl_isParticle.L : Nat → Option LArm := fun b => match b with
  | 2 => some impl_isParticle.A2
  | 0 => some impl_isParticle.A0
  | _ => none
theorem impl_isParticle.run (k : Nat) (a0 : ByteArray) : runF envX (tabC (impl_isParticle.C k)) (tabL 36 k impl_isParticle.L) Tryz.f174 [.t .str a0] (viewR1 (.t .bool)) = impl_isParticle.F k a0 := by kernel_rfl
theorem impl_isParticle.step2 (k : Nat) (x3 : List ByteArray) (x5 : ByteArray) (x6 : Int) (x12 : Int) (x13 : Int) : runC envX (tabC (impl_isParticle.C k)) (tabL 36 k impl_isParticle.L) 2 (loopAt Tryz.f174 2) (stOf 36 impl_isParticle.sp2 (x3, x5, x6, (), x12, x13, ())) (impl_isParticle.A2.cont 36 k) = impl_isParticle.l2 (k + 1) x3 x5 x6 x12 x13 := by kernel_rfl
theorem impl_isParticle.step0 (k : Nat) (x3 : List ByteArray) (x12 : Int) (x13 : Int) : runC envX (tabC (impl_isParticle.C k)) (tabL 36 k impl_isParticle.L) 0 (loopAt Tryz.f174 0) (stOf 36 impl_isParticle.sp0 (x3, (), x12, x13, ())) (impl_isParticle.A0.cont 36 k) = impl_isParticle.l0 (k + 1) x3 x12 x13 := by kernel_rfl
theorem impl_isParticle.G (hE : EnvOk Tryz.prog envX) (pv : Nat → Value) (k : Nat) : ∀ cal A, impl_isParticle.C k cal = some A → ArmOk Tryz.prog envX pv cal A := by
  intro cal A h
  unfold impl_isParticle.C at h
  split at h
  · cases h; exact fun x y hy => strings_Split.good hE pv x.1 x.2.1 hy
  · cases h; exact fun x y hy => impl_inside.good hE pv x.1 x.2.1 x.2.2.1 hy
  · cases h; exact fun x y hy => impl_isLower.good hE pv x.1 hy
  · cases h
theorem impl_isParticle.good (hE : EnvOk Tryz.prog envX) (pv : Nat → Value) (k : Nat) (a0 : ByteArray) {y : _} (h : impl_isParticle.F k a0 = some y) : Meets Tryz.prog envX pv (.f 174) (tvals [.str] (a0, ())) (.t .bool y) :=
  fun_loops hE (t := impl_isParticle.C) k (fun k _ => impl_isParticle.G hE pv k) (f := 174) (fn := Tryz.f174) (by kernel_rfl) rfl (by kernel_rfl) (by kernel_rfl) (lt := impl_isParticle.L) (by kernel_rfl) (fun b A h => by
    unfold impl_isParticle.L at h; split at h
    · cases h; exact ⟨by kernel_rfl, by kernel_rfl, by kernel_rfl, fun _ => rfl, fun _ => rfl, fun _ => rfl⟩
    · cases h; exact ⟨by kernel_rfl, by kernel_rfl, by kernel_rfl, fun _ => rfl, fun _ => rfl, fun _ => rfl⟩
    · cases h) (fun b A h => by
    unfold impl_isParticle.L at h; split at h
    · cases h; exact fun k x => impl_isParticle.step2 k x.1 x.2.1 x.2.2.1 x.2.2.2.2.1 x.2.2.2.2.2.1
    · cases h; exact fun k x => impl_isParticle.step0 k x.1 x.2.2.1 x.2.2.2.1
    · cases h) ((impl_isParticle.run k a0).trans h) fun r hr => wk_view1 hr
/-! ### 209 slices.IndexFunc[[]string,string] at loop.example/g00896/impl.IsValidName$1 -/
def slices_IndexFunc_string_f172.l0 : Nat → (List ByteArray) → Int → Int → Option (Sum Int Unit)
  | 0, _, _, _ => none
  | k + 1, x0, x7, x8 => bif (decide (x8 < x7)) then (bif decide (0 ≤ x8) then (bif decide (x8 < (x0.length : Int)) then ((impl_IsValidName_1.F k (x0.getD (x8 : Int).toNat (⟨#[]⟩ : ByteArray))).bind fun r1 => bif r1 then (some (.inl x8)) else (slices_IndexFunc_string_f172.l0 k x0 x7 (IntKind.wrap .i64 (x8 + 1)))) else none) else none) else (some (.inr ()))
def slices_IndexFunc_string_f172.F (k : Nat) (a0 : List ByteArray) : Option (Int) := (slices_IndexFunc_string_f172.l0 k a0 (a0.length : Int) 0).bind fun y2 => match y2 with | .inl z3 => some z3 | .inr z3 => some (-1)
def slices_IndexFunc_string_f172.C (k : Nat) : Cal → Option CArm := fun c => match c with
  | .f 172 => some (.p [.str] _ (fun x => impl_IsValidName_1.F k x.1) (fun r => (.t .bool r)))
  | _ => none
def slices_IndexFunc_string_f172.sp0 : List Sp := [.t 0 (.sl .str), .con 1 (.clo 172), .t 7 (.int .i64), .t 8 (.int .i64)]
def slices_IndexFunc_string_f172.sp0_0 : List Sp := [.t 4 (.int .i64)]
def slices_IndexFunc_string_f172.sp0_1 : List Sp := []
def slices_IndexFunc_string_f172.A0 : LArm := .two slices_IndexFunc_string_f172.sp0 slices_IndexFunc_string_f172.sp0_0 slices_IndexFunc_string_f172.sp0_1 (Int) (Unit) (fun k x => slices_IndexFunc_string_f172.l0 k x.1 x.2.2.1 x.2.2.2.1) .ret (.exit 0) (fun y => (y, ())) (fun x => x.1) (fun y => ()) (fun x => ())
def slices_IndexFunc_string_f172.L : Nat → Option LArm := fun b => match b with
  | 0 => some slices_IndexFunc_string_f172.A0
  | _ => none
theorem slices_IndexFunc_string_f172.run (k : Nat) (a0 : List ByteArray) : runF envX (tabC (slices_IndexFunc_string_f172.C k)) (tabL 19 k slices_IndexFunc_string_f172.L) Tryz.f209 [.t (.sl .str) a0, .clo 172 []] (viewR1 (.t (.int .i64))) = slices_IndexFunc_string_f172.F k a0 := by kernel_rfl
theorem slices_IndexFunc_string_f172.step0 (k : Nat) (x0 : List ByteArray) (x7 : Int) (x8 : Int) : runC envX (tabC (slices_IndexFunc_string_f172.C k)) (tabL 19 k slices_IndexFunc_string_f172.L) 0 (loopAt Tryz.f209 0) (stOf 19 slices_IndexFunc_string_f172.sp0 (x0, (), x7, x8, ())) (slices_IndexFunc_string_f172.A0.cont 19 k) = slices_IndexFunc_string_f172.l0 (k + 1) x0 x7 x8 := by kernel_rfl
theorem slices_IndexFunc_string_f172.G (hE : EnvOk Tryz.prog envX) (pv : Nat → Value) (k : Nat) : ∀ cal A, slices_IndexFunc_string_f172.C k cal = some A → ArmOk Tryz.prog envX pv cal A := by
  intro cal A h
  unfold slices_IndexFunc_string_f172.C at h
  split at h
  · cases h; exact fun x y hy => impl_IsValidName_1.good hE pv k x.1 hy
  · cases h
theorem slices_IndexFunc_string_f172.good (hE : EnvOk Tryz.prog envX) (pv : Nat → Value) (k : Nat) (a0 : List ByteArray) {y : _} (h : slices_IndexFunc_string_f172.F k a0 = some y) : Meets Tryz.prog envX pv (.f 209) (pvals [.t (.sl .str), .clo 172 []] (a0, (()), ())) (.t (.int .i64) y) :=
  fun_loops hE (t := slices_IndexFunc_string_f172.C) k (fun k _ => slices_IndexFunc_string_f172.G hE pv k) (f := 209) (fn := Tryz.f209) (by kernel_rfl) rfl (by kernel_rfl) (by kernel_rfl) (lt := slices_IndexFunc_string_f172.L) (by kernel_rfl) (fun b A h => by
    unfold slices_IndexFunc_string_f172.L at h; split at h
    · cases h; exact ⟨by kernel_rfl, by kernel_rfl, by kernel_rfl, fun _ => rfl, fun _ => rfl, fun _ => rfl⟩
    · cases h) (fun b A h => by
    unfold slices_IndexFunc_string_f172.L at h; split at h
    · cases h; exact fun k x => slices_IndexFunc_string_f172.step0 k x.1 x.2.2.1 x.2.2.2.1
    · cases h) ((slices_IndexFunc_string_f172.run k a0).trans h) fun r hr => wk_view1 hr
/-! ### 171 slices.ContainsFunc[[]string,string] at loop.example/g00896/impl.IsValidName$1 -/
def slices_ContainsFunc_string_f172.F (k : Nat) (a0 : List ByteArray) : Option (Bool) := (slices_IndexFunc_string_f172.F k a0).bind fun r1 => some (decide (r1 ≥ 0))
def slices_ContainsFunc_string_f172.C (k : Nat) : Cal → Option CArm := fun c => match c with
  | .f 209 => some (.q [.t (.sl .str), .clo 172 []] _ (fun x => slices_IndexFunc_string_f172.F k x.1) (fun r => (.t (.int .i64) r)))
  | _ => none
theorem slices_ContainsFunc_string_f172.run (k : Nat) (a0 : List ByteArray) : runF envX (tabC (slices_ContainsFunc_string_f172.C k)) (tabL 9 0 (fun _ => none)) Tryz.f171 [.t (.sl .str) a0, .clo 172 []] (viewR1 (.t .bool)) = slices_ContainsFunc_string_f172.F k a0 := by kernel_rfl
theorem slices_ContainsFunc_string_f172.G (hE : EnvOk Tryz.prog envX) (pv : Nat → Value) (k : Nat) : ∀ cal A, slices_ContainsFunc_string_f172.C k cal = some A → ArmOk Tryz.prog envX pv cal A := by
  intro cal A h
  unfold slices_ContainsFunc_string_f172.C at h
  split at h
  · cases h; exact fun x y hy => slices_IndexFunc_string_f172.good hE pv k x.1 hy
  · cases h
theorem slices_ContainsFunc_string_f172.good (hE : EnvOk Tryz.prog envX) (pv : Nat → Value) (k : Nat) (a0 : List ByteArray) {y : _} (h : slices_ContainsFunc_string_f172.F k a0 = some y) : Meets Tryz.prog envX pv (.f 171) (pvals [.t (.sl .str), .clo 172 []] (a0, (()), ())) (.t .bool y) :=
  fun_plain hE (slices_ContainsFunc_string_f172.G hE pv k) (f := 171) (fn := Tryz.f171) (by kernel_rfl) rfl (by kernel_rfl) (by kernel_rfl) ((slices_ContainsFunc_string_f172.run k a0).trans h) fun r hr => wk_view1 hr
/-! ### 135 loop.example/g00896/impl.IsValidName -/
def impl_IsValidName.F (k : Nat) (a0 : Name) : Option (Bool) := bif (decide ((a0.given.length : Int) > 3)) then (some false) else ((slices_ContainsFunc_string_f172.F k a0.given).bind fun r1 => bif r1 then (some false) else ((impl_isParticle.F k a0.particle).bind fun r2 => bif r2 then ((impl_isGreatWord.F k a0.family).bind fun r3 => bif r3 then (bif (beqS a0.suffix (⟨#[]⟩ : ByteArray)) then (some true) else ((impl_isNameWord.F k a0.suffix).bind fun r4 => some r4)) else (some false)) else (some false)))
def impl_IsValidName.C (k : Nat) : Cal → Option CArm := fun c => match c with
  | .f 171 => some (.q [.t (.sl .str), .clo 172 []] _ (fun x => slices_ContainsFunc_string_f172.F k x.1) (fun r => (.t .bool r)))
  | .f 174 => some (.p [.str] _ (fun x => impl_isParticle.F k x.1) (fun r => (.t .bool r)))
  | .f 173 => some (.p [.str] _ (fun x => impl_isGreatWord.F k x.1) (fun r => (.t .bool r)))
  | .f 175 => some (.p [.str] _ (fun x => impl_isNameWord.F k x.1) (fun r => (.t .bool r)))
  | _ => none
theorem impl_IsValidName.run (k : Nat) (a0 : Name) : runF envX (tabC (impl_IsValidName.C k)) (tabL 30 0 (fun _ => none)) Tryz.f135 [.t .name a0] (viewR1 (.t .bool)) = impl_IsValidName.F k a0 := by kernel_rfl
theorem impl_IsValidName.G (hE : EnvOk Tryz.prog envX) (pv : Nat → Value) (k : Nat) : ∀ cal A, impl_IsValidName.C k cal = some A → ArmOk Tryz.prog envX pv cal A := by
  intro cal A h
  unfold impl_IsValidName.C at h
  split at h
  · cases h; exact fun x y hy => slices_ContainsFunc_string_f172.good hE pv k x.1 hy
  · cases h; exact fun x y hy => impl_isParticle.good hE pv k x.1 hy
  · cases h; exact fun x y hy => impl_isGreatWord.good hE pv k x.1 hy
  · cases h; exact fun x y hy => impl_isNameWord.good hE pv k x.1 hy
  · cases h
theorem impl_IsValidName.good (hE : EnvOk Tryz.prog envX) (pv : Nat → Value) (k : Nat) (a0 : Name) {y : _} (h : impl_IsValidName.F k a0 = some y) : Meets Tryz.prog envX pv (.f 135) (tvals [.name] (a0, ())) (.t .bool y) :=
  fun_plain hE (impl_IsValidName.G hE pv k) (f := 135) (fn := Tryz.f135) (by kernel_rfl) rfl (by kernel_rfl) (by kernel_rfl) ((impl_IsValidName.run k a0).trans h) fun r hr => wk_view1 hr
/-! ### 134 loop.example/g00896/impl.areNames$1 -/
def impl_areNames_1.F (k : Nat) (a0 : Name) : Option (Bool) := (impl_IsValidName.F k a0).bind fun r1 => some (!r1)
def impl_areNames_1.C (k : Nat) : Cal → Option CArm := fun c => match c with
  | .f 135 => some (.p [.name] _ (fun x => impl_IsValidName.F k x.1) (fun r => (.t .bool r)))
  | _ => none
theorem impl_areNames_1.run (k : Nat) (a0 : Name) : runF envX (tabC (impl_areNames_1.C k)) (tabL 6 0 (fun _ => none)) Tryz.f134 [.t .name a0] (viewR1 (.t .bool)) = impl_areNames_1.F k a0 := by kernel_rfl
theorem impl_areNames_1.G (hE : EnvOk Tryz.prog envX) (pv : Nat → Value) (k : Nat) : ∀ cal A, impl_areNames_1.C k cal = some A → ArmOk Tryz.prog envX pv cal A := by
  intro cal A h
  unfold impl_areNames_1.C at h
  split at h
  · cases h; exact fun x y hy => impl_IsValidName.good hE pv k x.1 hy
  · cases h
theorem impl_areNames_1.good (hE : EnvOk Tryz.prog envX) (pv : Nat → Value) (k : Nat) (a0 : Name) {y : _} (h : impl_areNames_1.F k a0 = some y) : Meets Tryz.prog envX pv (.f 134) (tvals [.name] (a0, ())) (.t .bool y) :=
  fun_plain hE (impl_areNames_1.G hE pv k) (f := 134) (fn := Tryz.f134) (by kernel_rfl) rfl (by kernel_rfl) (by kernel_rfl) ((impl_areNames_1.run k a0).trans h) fun r hr => wk_view1 hr
/-! ### 170 slices.IndexFunc[[]loop.example/g00896/impl.Name,loop.example/g00896/impl.Name] at loop.example/g00896/impl.areNames$1 -/
def slices_IndexFunc_Name_f134.l0 : Nat → (List Name) → Int → Int → Option (Sum Int Unit)
  | 0, _, _, _ => none
  | k + 1, x0, x7, x8 => bif (decide (x8 < x7)) then (bif decide (0 ≤ x8) then (bif decide (x8 < (x0.length : Int)) then ((impl_areNames_1.F k (x0.getD (x8 : Int).toNat (dflt .name))).bind fun r1 => bif r1 then (some (.inl x8)) else (slices_IndexFunc_Name_f134.l0 k x0 x7 (IntKind.wrap .i64 (x8 + 1)))) else none) else none) else (some (.inr ()))
def slices_IndexFunc_Name_f134.F (k : Nat) (a0 : List Name) : Option (Int) := (slices_IndexFunc_Name_f134.l0 k a0 (a0.length : Int) 0).bind fun y2 => match y2 with | .inl z3 => some z3 | .inr z3 => some (-1)
def slices_IndexFunc_Name_f134.C (k : Nat) : Cal → Option CArm := fun c => match c with
  | .f 134 => some (.p [.name] _ (fun x => impl_areNames_1.F k x.1) (fun r => (.t .bool r)))
  | _ => none
def slices_IndexFunc_Name_f134.sp0 : List Sp := [.t 0 (.sl .name), .con 1 (.clo 134), .t 7 (.int .i64), .t 8 (.int .i64)]
def slices_IndexFunc_Name_f134.sp0_0 : List Sp := [.t 4 (.int .i64)]
def slices_IndexFunc_Name_f134.sp0_1 : List Sp := []
def slices_IndexFunc_Name_f134.A0 : LArm := .two slices_IndexFunc_Name_f134.sp0 slices_IndexFunc_Name_f134.sp0_0 slices_IndexFunc_Name_f134.sp0_1 (Int) (Unit) (fun k x => slices_IndexFunc_Name_f134.l0 k x.1 x.2.2.1 x.2.2.2.1) .ret (.exit 0) (fun y => (y, ())) (fun x => x.1) (fun y => ()) (fun x => ())
def slices_IndexFunc_Name_f134.L : Nat → Option LArm := fun b => match b with
  | 0 => some slices_IndexFunc_Name_f134.A0
  | _ => none
theorem slices_IndexFunc_Name_f134.run (k : Nat) (a0 : List Name) : runF envX (tabC (slices_IndexFunc_Name_f134.C k)) (tabL 19 k slices_IndexFunc_Name_f134.L) Tryz.f170 [.t (.sl .name) a0, .clo 134 []] (viewR1 (.t (.int .i64))) = slices_IndexFunc_Name_f134.F k a0 := by kernel_rfl
theorem slices_IndexFunc_Name_f134.step0 (k : Nat) (x0 : List Name) (x7 : Int) (x8 : Int) : runC envX (tabC (slices_IndexFunc_Name_f134.C k)) (tabL 19 k slices_IndexFunc_Name_f134.L) 0 (loopAt Tryz.f170 0) (stOf 19 slices_IndexFunc_Name_f134.sp0 (x0, (), x7, x8, ())) (slices_IndexFunc_Name_f134.A0.cont 19 k) = slices_IndexFunc_Name_f134.l0 (k + 1) x0 x7 x8 := by kernel_rfl
theorem slices_IndexFunc_Name_f134.G (hE : EnvOk Tryz.prog envX) (pv : Nat → Value) (k : Nat) : ∀ cal A, slices_IndexFunc_Name_f134.C k cal = some A → ArmOk Tryz.prog envX pv cal A := by
  intro cal A h
  unfold slices_IndexFunc_Name_f134.C at h
  split at h
  · cases h; exact fun x y hy => impl_areNames_1.good hE pv k x.1 hy
  · cases h
theorem slices_IndexFunc_Name_f134.good (hE : EnvOk Tryz.prog envX) (pv : Nat → Value) (k : Nat) (a0 : List Name) {y : _} (h : slices_IndexFunc_Name_f134.F k a0 = some y) : Meets Tryz.prog envX pv (.f 170) (pvals [.t (.sl .name), .clo 134 []] (a0, (()), ())) (.t (.int .i64) y) :=
  fun_loops hE (t := slices_IndexFunc_Name_f134.C) k (fun k _ => slices_IndexFunc_Name_f134.G hE pv k) (f := 170) (fn := Tryz.f170) (by kernel_rfl) rfl (by kernel_rfl) (by kernel_rfl) (lt := slices_IndexFunc_Name_f134.L) (by kernel_rfl) (fun b A h => by
    unfold slices_IndexFunc_Name_f134.L at h; split at h
    · cases h; exact ⟨by kernel_rfl, by kernel_rfl, by kernel_rfl, fun _ => rfl, fun _ => rfl, fun _ => rfl⟩
    · cases h) (fun b A h => by
    unfold slices_IndexFunc_Name_f134.L at h; split at h
    · cases h; exact fun k x => slices_IndexFunc_Name_f134.step0 k x.1 x.2.2.1 x.2.2.2.1
    · cases h) ((slices_IndexFunc_Name_f134.run k a0).trans h) fun r hr => wk_view1 hr
/-! ### 133 slices.ContainsFunc[[]loop.example/g00896/impl.Name,loop.example/g00896/impl.Name] at loop.example/g00896/impl.areNames$1 -/
def slices_ContainsFunc_Name_f134.F (k : Nat) (a0 : List Name) : Option (Bool) := (slices_IndexFunc_Name_f134.F k a0).bind fun r1 => some (decide (r1 ≥ 0))
def slices_ContainsFunc_Name_f134.C (k : Nat) : Cal → Option CArm := fun c => match c with
  | .f 170 => some (.q [.t (.sl .name), .clo 134 []] _ (fun x => slices_IndexFunc_Name_f134.F k x.1) (fun r => (.t (.int .i64) r)))
  | _ => none
theorem slices_ContainsFunc_Name_f134.run (k : Nat) (a0 : List Name) : runF envX (tabC (slices_ContainsFunc_Name_f134.C k)) (tabL 9 0 (fun _ => none)) Tryz.f133 [.t (.sl .name) a0, .clo 134 []] (viewR1 (.t .bool)) = slices_ContainsFunc_Name_f134.F k a0 := by kernel_rfl
theorem slices_ContainsFunc_Name_f134.G (hE : EnvOk Tryz.prog envX) (pv : Nat → Value) (k : Nat) : ∀ cal A, slices_ContainsFunc_Name_f134.C k cal = some A → ArmOk Tryz.prog envX pv cal A := by
  intro cal A h
  unfold slices_ContainsFunc_Name_f134.C at h
  split at h
  · cases h; exact fun x y hy => slices_IndexFunc_Name_f134.good hE pv k x.1 hy
  · cases h
theorem slices_ContainsFunc_Name_f134.good (hE : EnvOk Tryz.prog envX) (pv : Nat → Value) (k : Nat) (a0 : List Name) {y : _} (h : slices_ContainsFunc_Name_f134.F k a0 = some y) : Meets Tryz.prog envX pv (.f 133) (pvals [.t (.sl .name), .clo 134 []] (a0, (()), ())) (.t .bool y) :=
  fun_plain hE (slices_ContainsFunc_Name_f134.G hE pv k) (f := 133) (fn := Tryz.f133) (by kernel_rfl) rfl (by kernel_rfl) (by kernel_rfl) ((slices_ContainsFunc_Name_f134.run k a0).trans h) fun r hr => wk_view1 hr
/-! ### 98 loop.example/g00896/impl.areNames -/
def impl_areNames.F (k : Nat) (a0 : List Name) : Option (Bool) := bif (decide ((a0.length : Int) ≤ 4)) then ((slices_ContainsFunc_Name_f134.F k a0).bind fun r1 => some (!r1)) else (some false)
def impl_areNames.C (k : Nat) : Cal → Option CArm := fun c => match c with
  | .f 133 => some (.q [.t (.sl .name), .clo 134 []] _ (fun x => slices_ContainsFunc_Name_f134.F k x.1) (fun r => (.t .bool r)))
  | _ => none
theorem impl_areNames.run (k : Nat) (a0 : List Name) : runF envX (tabC (impl_areNames.C k)) (tabL 11 0 (fun _ => none)) Tryz.f98 [.t (.sl .name) a0] (viewR1 (.t .bool)) = impl_areNames.F k a0 := by kernel_rfl
theorem impl_areNames.G (hE : EnvOk Tryz.prog envX) (pv : Nat → Value) (k : Nat) : ∀ cal A, impl_areNames.C k cal = some A → ArmOk Tryz.prog envX pv cal A := by
  intro cal A h
  unfold impl_areNames.C at h
  split at h
  · cases h; exact fun x y hy => slices_ContainsFunc_Name_f134.good hE pv k x.1 hy
  · cases h
theorem impl_areNames.good (hE : EnvOk Tryz.prog envX) (pv : Nat → Value) (k : Nat) (a0 : List Name) {y : _} (h : impl_areNames.F k a0 = some y) : Meets Tryz.prog envX pv (.f 98) (tvals [(.sl .name)] (a0, ())) (.t .bool y) :=
  fun_plain hE (impl_areNames.G hE pv k) (f := 98) (fn := Tryz.f98) (by kernel_rfl) rfl (by kernel_rfl) (by kernel_rfl) ((impl_areNames.run k a0).trans h) fun r hr => wk_view1 hr
/-! ### 58 loop.example/g00896/impl.IsValidEntry -/
def impl_IsValidEntry.F (k : Nat) (a0 : Entry) : Option (Bool) := (impl_isKey.F k a0.key).bind fun r1 => bif (!r1) then (some false) else ((impl_isKind.F a0.kind).bind fun r2 => bif (!r2) then (some false) else ((impl_areNames.F k a0.authors).bind fun r3 => bif (!r3) then (some false) else ((impl_areNames.F k a0.editors).bind fun r4 => bif (!r4) then (some false) else ((impl_IsValidDate.F a0.date).bind fun r5 => bif (!r5) then (some false) else ((impl_inside.F a0.volume 0 9999).bind fun r6 => bif (!r6) then (some false) else ((impl_isText.F k a0.title).bind fun r7 => bif r7 then ((impl_isText.F k a0.container).bind fun r8 => bif r8 then ((impl_isText.F k a0.publisher).bind fun r9 => bif r9 then ((impl_isText.F k a0.pages).bind fun r10 => bif r10 then (bif (beqS a0.cross (⟨#[]⟩ : ByteArray)) then (some true) else ((impl_isKey.F k a0.cross).bind fun r11 => bif r11 then (some (!beqS a0.cross a0.key)) else (some false))) else (some false)) else (some false)) else (some false)) else (some false)))))))
def impl_IsValidEntry.C (k : Nat) : Cal → Option CArm := fun c => match c with
  | .f 96 => some (.p [.str] _ (fun x => impl_isKey.F k x.1) (fun r => (.t .bool r)))
  | .f 97 => some (.p [(.int .i64)] _ (fun x => impl_isKind.F x.1) (fun r => (.t .bool r)))
  | .f 98 => some (.p [(.sl .name)] _ (fun x => impl_areNames.F k x.1) (fun r => (.t .bool r)))
  | .f 65 => some (.p [.date] _ (fun x => impl_IsValidDate.F x.1) (fun r => (.t .bool r)))
  | .f 59 => some (.p [(.int .i64), (.int .i64), (.int .i64)] _ (fun x => impl_inside.F x.1 x.2.1 x.2.2.1) (fun r => (.t .bool r)))
  | .f 50 => some (.p [.str] _ (fun x => impl_isText.F k x.1) (fun r => (.t .bool r)))
  | _ => none
theorem impl_IsValidEntry.run (k : Nat) (a0 : Entry) : runF envX (tabC (impl_IsValidEntry.C k)) (tabL 72 0 (fun _ => none)) Tryz.f58 [.t .entry a0] (viewR1 (.t .bool)) = impl_IsValidEntry.F k a0 := by kernel_rfl
theorem impl_IsValidEntry.G (hE : EnvOk Tryz.prog envX) (pv : Nat → Value) (k : Nat) : ∀ cal A, impl_IsValidEntry.C k cal = some A → ArmOk Tryz.prog envX pv cal A := by
  intro cal A h
  unfold impl_IsValidEntry.C at h
  split at h
  · cases h; exact fun x y hy => impl_isKey.good hE pv k x.1 hy
  · cases h; exact fun x y hy => impl_isKind.good hE pv x.1 hy
  · cases h; exact fun x y hy => impl_areNames.good hE pv k x.1 hy
  · cases h; exact fun x y hy => impl_IsValidDate.good hE pv x.1 hy
  · cases h; exact fun x y hy => impl_inside.good hE pv x.1 x.2.1 x.2.2.1 hy
  · cases h; exact fun x y hy => impl_isText.good hE pv k x.1 hy
  · cases h
theorem impl_IsValidEntry.good (hE : EnvOk Tryz.prog envX) (pv : Nat → Value) (k : Nat) (a0 : Entry) {y : _} (h : impl_IsValidEntry.F k a0 = some y) : Meets Tryz.prog envX pv (.f 58) (tvals [.entry] (a0, ())) (.t .bool y) :=
  fun_plain hE (impl_IsValidEntry.G hE pv k) (f := 58) (fn := Tryz.f58) (by kernel_rfl) rfl (by kernel_rfl) (by kernel_rfl) ((impl_IsValidEntry.run k a0).trans h) fun r hr => wk_view1 hr
/-! ### 66 loop.example/g00896/impl.datesAgree -/
def impl_datesAgree.F (a0 : Date) (a1 : Date) : Option (Bool) := bif (a0.y == 0) then (some true) else (bif (a1.y == 0) then (some true) else (bif (a0.y != a1.y) then (some false) else (bif (a0.m == 0) then (some true) else (bif (a1.m == 0) then (some true) else (bif (a0.m == a1.m) then (bif (a0.d == a1.d) then (some true) else (bif (a0.d == 0) then (some true) else (some (a1.d == 0)))) else (some false))))))
def impl_datesAgree.C : Cal → Option CArm := fun c => match c with
  | _ => none
theorem impl_datesAgree.run (a0 : Date) (a1 : Date) : runF envX (tabC impl_datesAgree.C) (tabL 48 0 (fun _ => none)) Tryz.f66 [.t .date a0, .t .date a1] (viewR1 (.t .bool)) = impl_datesAgree.F a0 a1 := by kernel_rfl
theorem impl_datesAgree.G (hE : EnvOk Tryz.prog envX) (pv : Nat → Value) : ∀ cal A, impl_datesAgree.C cal = some A → ArmOk Tryz.prog envX pv cal A := by
  intro cal A h
  unfold impl_datesAgree.C at h
  cases h
theorem impl_datesAgree.good (hE : EnvOk Tryz.prog envX) (pv : Nat → Value) (a0 : Date) (a1 : Date) {y : _} (h : impl_datesAgree.F a0 a1 = some y) : Meets Tryz.prog envX pv (.f 66) (tvals [.date, .date] (a0, a1, ())) (.t .bool y) :=
  fun_plain hE (impl_datesAgree.G hE pv) (f := 66) (fn := Tryz.f66) (by kernel_rfl) rfl (by kernel_rfl) (by kernel_rfl) ((impl_datesAgree.run a0 a1).trans h) fun r hr => wk_view1 hr
/-! ### 212 internal/stringslite.HasPrefix -/
def stringslite_HasPrefix.F (a0 : ByteArray) (a1 : ByteArray) : Option (Bool) := bif (decide ((a0.size : Int) ≥ (a1.size : Int))) then (bif decide (0 ≤ (a1.size : Int)) then (bif decide ((a1.size : Int) ≤ (a0.size : Int)) then (some (beqS (a0.extract 0 ((a1.size : Int) : Int).toNat) a1)) else none) else none) else (some false)
def stringslite_HasPrefix.C : Cal → Option CArm := fun c => match c with
  | _ => none
theorem stringslite_HasPrefix.run (a0 : ByteArray) (a1 : ByteArray) : runF envX (tabC stringslite_HasPrefix.C) (tabL 18 0 (fun _ => none)) Tryz.f212 [.t .str a0, .t .str a1] (viewR1 (.t .bool)) = stringslite_HasPrefix.F a0 a1 := by kernel_rfl
theorem stringslite_HasPrefix.G (hE : EnvOk Tryz.prog envX) (pv : Nat → Value) : ∀ cal A, stringslite_HasPrefix.C cal = some A → ArmOk Tryz.prog envX pv cal A := by
  intro cal A h
  unfold stringslite_HasPrefix.C at h
  cases h
theorem stringslite_HasPrefix.good (hE : EnvOk Tryz.prog envX) (pv : Nat → Value) (a0 : ByteArray) (a1 : ByteArray) {y : _} (h : stringslite_HasPrefix.F a0 a1 = some y) : Meets Tryz.prog envX pv (.f 212) (tvals [.str, .str] (a0, a1, ())) (.t .bool y) :=
  fun_plain hE (stringslite_HasPrefix.G hE pv) (f := 212) (fn := Tryz.f212) (by kernel_rfl) rfl (by kernel_rfl) (by kernel_rfl) ((stringslite_HasPrefix.run a0 a1).trans h) fun r hr => wk_view1 hr
/-! ### 176 strings.HasPrefix -/
def strings_HasPrefix.F (a0 : ByteArray) (a1 : ByteArray) : Option (Bool) := (stringslite_HasPrefix.F a0 a1).bind fun r1 => some r1
def strings_HasPrefix.C : Cal → Option CArm := fun c => match c with
  | .f 212 => some (.p [.str, .str] _ (fun x => stringslite_HasPrefix.F x.1 x.2.1) (fun r => (.t .bool r)))
  | _ => none
theorem strings_HasPrefix.run (a0 : ByteArray) (a1 : ByteArray) : runF envX (tabC strings_HasPrefix.C) (tabL 8 0 (fun _ => none)) Tryz.f176 [.t .str a0, .t .str a1] (viewR1 (.t .bool)) = strings_HasPrefix.F a0 a1 := by kernel_rfl
theorem strings_HasPrefix.G (hE : EnvOk Tryz.prog envX) (pv : Nat → Value) : ∀ cal A, strings_HasPrefix.C cal = some A → ArmOk Tryz.prog envX pv cal A := by
  intro cal A h
  unfold strings_HasPrefix.C at h
  split at h
  · cases h; exact fun x y hy => stringslite_HasPrefix.good hE pv x.1 x.2.1 hy
  · cases h
theorem strings_HasPrefix.good (hE : EnvOk Tryz.prog envX) (pv : Nat → Value) (a0 : ByteArray) (a1 : ByteArray) {y : _} (h : strings_HasPrefix.F a0 a1 = some y) : Meets Tryz.prog envX pv (.f 176) (tvals [.str, .str] (a0, a1, ())) (.t .bool y) :=
  fun_plain hE (strings_HasPrefix.G hE pv) (f := 176) (fn := Tryz.f176) (by kernel_rfl) rfl (by kernel_rfl) (by kernel_rfl) ((strings_HasPrefix.run a0 a1).trans h) fun r hr => wk_view1 hr
/-! ### 136 loop.example/g00896/impl.mayBeSame -/
def impl_mayBeSame.l0 : Nat → Name → Name → Int → Option (Sum Bool Unit)
  | 0, _, _, _ => none
  | k + 1, x2, x3, x5 => bif (decide (x5 < (if (x3.given.length : Int) < (x2.given.length : Int) then (x3.given.length : Int) else (x2.given.length : Int)))) then (bif decide (0 ≤ x5) then (bif decide (x5 < (x2.given.length : Int)) then (bif decide (0 ≤ x5) then (bif decide (x5 < (x3.given.length : Int)) then (bif (!beqS (x2.given.getD (x5 : Int).toNat (⟨#[]⟩ : ByteArray)) (x3.given.getD (x5 : Int).toNat (⟨#[]⟩ : ByteArray))) then (bif (((x2.given.getD (x5 : Int).toNat (⟨#[]⟩ : ByteArray)).size : Int) == 1) then ((strings_HasPrefix.F (x3.given.getD (x5 : Int).toNat (⟨#[]⟩ : ByteArray)) (x2.given.getD (x5 : Int).toNat (⟨#[]⟩ : ByteArray))).bind fun r1 => bif (!r1) then (bif (((x3.given.getD (x5 : Int).toNat (⟨#[]⟩ : ByteArray)).size : Int) == 1) then ((strings_HasPrefix.F (x2.given.getD (x5 : Int).toNat (⟨#[]⟩ : ByteArray)) (x3.given.getD (x5 : Int).toNat (⟨#[]⟩ : ByteArray))).bind fun r2 => bif (!r2) then (some (.inl false)) else (impl_mayBeSame.l0 k x2 x3 (IntKind.wrap .i64 (x5 + 1)))) else (some (.inl false))) else (impl_mayBeSame.l0 k x2 x3 (IntKind.wrap .i64 (x5 + 1)))) else (bif (((x3.given.getD (x5 : Int).toNat (⟨#[]⟩ : ByteArray)).size : Int) == 1) then ((strings_HasPrefix.F (x2.given.getD (x5 : Int).toNat (⟨#[]⟩ : ByteArray)) (x3.given.getD (x5 : Int).toNat (⟨#[]⟩ : ByteArray))).bind fun r3 => bif (!r3) then (some (.inl false)) else (impl_mayBeSame.l0 k x2 x3 (IntKind.wrap .i64 (x5 + 1)))) else (some (.inl false)))) else (impl_mayBeSame.l0 k x2 x3 (IntKind.wrap .i64 (x5 + 1)))) else none) else none) else none) else none) else (some (.inr ()))
def impl_mayBeSame.F (k : Nat) (a0 : Name) (a1 : Name) : Option (Bool) := bif (!beqS a0.particle a1.particle) then (some false) else (bif (!beqS a0.family a1.family) then (some false) else (bif (!beqS a0.suffix a1.suffix) then (some false) else ((impl_mayBeSame.l0 k a0 a1 0).bind fun y4 => match y4 with | .inl z5 => some z5 | .inr z5 => some true)))
def impl_mayBeSame.C (k : Nat) : Cal → Option CArm := fun c => match c with
  | .f 176 => some (.p [.str, .str] _ (fun x => strings_HasPrefix.F x.1 x.2.1) (fun r => (.t .bool r)))
  | _ => none
def impl_mayBeSame.sp0 : List Sp := [.boxT 2 0 .name, .boxT 3 4 .name, .t 5 (.int .i64)]
def impl_mayBeSame.sp0_0 : List Sp := [.t 4 .bool]
def impl_mayBeSame.sp0_1 : List Sp := []
def impl_mayBeSame.A0 : LArm := .two impl_mayBeSame.sp0 impl_mayBeSame.sp0_0 impl_mayBeSame.sp0_1 (Bool) (Unit) (fun k x => impl_mayBeSame.l0 k x.1 x.2.1 x.2.2.1) .ret (.exit 0) (fun y => (y, ())) (fun x => x.1) (fun y => ()) (fun x => ())
def impl_mayBeSame.L : Nat → Option LArm := fun b => match b with
  | 0 => some impl_mayBeSame.A0
  | _ => none
theorem impl_mayBeSame.run (k : Nat) (a0 : Name) (a1 : Name) : runF envX (tabC (impl_mayBeSame.C k)) (tabL 73 k impl_mayBeSame.L) Tryz.f136 [.t .name a0, .t .name a1] (viewR1 (.t .bool)) = impl_mayBeSame.F k a0 a1 := by kernel_rfl
theorem impl_mayBeSame.step0 (k : Nat) (x2 : Name) (x3 : Name) (x5 : Int) : runC envX (tabC (impl_mayBeSame.C k)) (tabL 73 k impl_mayBeSame.L) 0 (loopAt Tryz.f136 0) (stOf 73 impl_mayBeSame.sp0 (x2, x3, x5, ())) (impl_mayBeSame.A0.cont 73 k) = impl_mayBeSame.l0 (k + 1) x2 x3 x5 := by kernel_rfl
theorem impl_mayBeSame.G (hE : EnvOk Tryz.prog envX) (pv : Nat → Value) (k : Nat) : ∀ cal A, impl_mayBeSame.C k cal = some A → ArmOk Tryz.prog envX pv cal A := by
  intro cal A h
  unfold impl_mayBeSame.C at h
  split at h
  · cases h; exact fun x y hy => strings_HasPrefix.good hE pv x.1 x.2.1 hy
  · cases h
theorem impl_mayBeSame.good (hE : EnvOk Tryz.prog envX) (pv : Nat → Value) (k : Nat) (a0 : Name) (a1 : Name) {y : _} (h : impl_mayBeSame.F k a0 a1 = some y) : Meets Tryz.prog envX pv (.f 136) (tvals [.name, .name] (a0, a1, ())) (.t .bool y) :=
  fun_loops hE (t := impl_mayBeSame.C) k (fun k _ => impl_mayBeSame.G hE pv k) (f := 136) (fn := Tryz.f136) (by kernel_rfl) rfl (by kernel_rfl) (by kernel_rfl) (lt := impl_mayBeSame.L) (by kernel_rfl) (fun b A h => by
    unfold impl_mayBeSame.L at h; split at h
    · cases h; exact ⟨by kernel_rfl, by kernel_rfl, by kernel_rfl, fun _ => rfl, fun _ => rfl, fun _ => rfl⟩
    · cases h) (fun b A h => by
    unfold impl_mayBeSame.L at h; split at h
    · cases h; exact fun k x => impl_mayBeSame.step0 k x.1 x.2.1 x.2.2.1
    · cases h) ((impl_mayBeSame.run k a0 a1).trans h) fun r hr => wk_view1 hr
/-! ### 99 loop.example/g00896/impl.samePeople -/
def impl_samePeople.l0 : Nat → (List Name) → (List Name) → Int → Int → Option (Sum Bool ((List Name) × (List Name)))
  | 0, _, _, _, _ => none
  | k + 1, x0, x1, x7, x8 => bif (decide (x8 < x7)) then (bif ((x1.length : Int) != (x0.length : Int)) then (some (.inl false)) else (bif decide (0 ≤ x8) then (bif decide (x8 < (x0.length : Int)) then (bif decide (0 ≤ x8) then (bif decide (x8 < (x1.length : Int)) then ((impl_mayBeSame.F k (x0.getD (x8 : Int).toNat (dflt .name)) (x1.getD (x8 : Int).toNat (dflt .name))).bind fun r1 => bif (!r1) then (some (.inl false)) else (impl_samePeople.l0 k x0 x1 x7 (IntKind.wrap .i64 (x8 + 1)))) else none) else none) else none) else none)) else (some (.inr (x0, x1)))
def impl_samePeople.F (k : Nat) (a0 : List Name) (a1 : List Name) : Option (Bool) := (impl_samePeople.l0 k a0 a1 (a0.length : Int) 0).bind fun y2 => match y2 with | .inl z3 => some z3 | .inr z3 => some ((z3.1.length : Int) == (z3.2.length : Int))
def impl_samePeople.C (k : Nat) : Cal → Option CArm := fun c => match c with
  | .f 136 => some (.p [.name, .name] _ (fun x => impl_mayBeSame.F k x.1 x.2.1) (fun r => (.t .bool r)))
  | _ => none
def impl_samePeople.sp0 : List Sp := [.t 0 (.sl .name), .t 1 (.sl .name), .t 7 (.int .i64), .t 8 (.int .i64)]
def impl_samePeople.sp0_0 : List Sp := [.t 4 .bool]
def impl_samePeople.sp0_1 : List Sp := [.t 0 (.sl .name), .t 1 (.sl .name)]
def impl_samePeople.A0 : LArm := .two impl_samePeople.sp0 impl_samePeople.sp0_0 impl_samePeople.sp0_1 (Bool) ((List Name) × (List Name)) (fun k x => impl_samePeople.l0 k x.1 x.2.1 x.2.2.1 x.2.2.2.1) .ret (.exit 0) (fun y => (y, ())) (fun x => x.1) (fun y => (y.1, y.2, ())) (fun x => (x.1, x.2.1))
def impl_samePeople.L : Nat → Option LArm := fun b => match b with
  | 0 => some impl_samePeople.A0
  | _ => none
theorem impl_samePeople.run (k : Nat) (a0 : List Name) (a1 : List Name) : runF envX (tabC (impl_samePeople.C k)) (tabL 34 k impl_samePeople.L) Tryz.f99 [.t (.sl .name) a0, .t (.sl .name) a1] (viewR1 (.t .bool)) = impl_samePeople.F k a0 a1 := by kernel_rfl
theorem impl_samePeople.step0 (k : Nat) (x0 : List Name) (x1 : List Name) (x7 : Int) (x8 : Int) : runC envX (tabC (impl_samePeople.C k)) (tabL 34 k impl_samePeople.L) 0 (loopAt Tryz.f99 0) (stOf 34 impl_samePeople.sp0 (x0, x1, x7, x8, ())) (impl_samePeople.A0.cont 34 k) = impl_samePeople.l0 (k + 1) x0 x1 x7 x8 := by kernel_rfl
theorem impl_samePeople.G (hE : EnvOk Tryz.prog envX) (pv : Nat → Value) (k : Nat) : ∀ cal A, impl_samePeople.C k cal = some A → ArmOk Tryz.prog envX pv cal A := by
  intro cal A h
  unfold impl_samePeople.C at h
  split at h
  · cases h; exact fun x y hy => impl_mayBeSame.good hE pv k x.1 x.2.1 hy
  · cases h
theorem impl_samePeople.good (hE : EnvOk Tryz.prog envX) (pv : Nat → Value) (k : Nat) (a0 : List Name) (a1 : List Name) {y : _} (h : impl_samePeople.F k a0 a1 = some y) : Meets Tryz.prog envX pv (.f 99) (tvals [(.sl .name), (.sl .name)] (a0, a1, ())) (.t .bool y) :=
  fun_loops hE (t := impl_samePeople.C) k (fun k _ => impl_samePeople.G hE pv k) (f := 99) (fn := Tryz.f99) (by kernel_rfl) rfl (by kernel_rfl) (by kernel_rfl) (lt := impl_samePeople.L) (by kernel_rfl) (fun b A h => by
    unfold impl_samePeople.L at h; split at h
    · cases h; exact ⟨by kernel_rfl, by kernel_rfl, by kernel_rfl, fun _ => rfl, fun _ => rfl, fun _ => rfl⟩
    · cases h) (fun b A h => by
    unfold impl_samePeople.L at h; split at h
    · cases h; exact fun k x => impl_samePeople.step0 k x.1 x.2.1 x.2.2.1 x.2.2.2.1
    · cases h) ((impl_samePeople.run k a0 a1).trans h) fun r hr => wk_view1 hr
/-! ### 60 loop.example/g00896/impl.areAlike -/
def impl_areAlike.F (k : Nat) (a0 : Entry) (a1 : Entry) (a2 : Int) : Option (Bool) := bif (a0.kind == a1.kind) then ((impl_samePeople.F k a0.authors a1.authors).bind fun r1 => bif r1 then ((impl_datesAgree.F a0.date a1.date).bind fun r2 => bif r2 then ((impl_textDistance.F k a0.title a1.title).bind fun r3 => some (decide (r3 ≤ a2))) else (some false)) else (some false)) else (some false)
def impl_areAlike.C (k : Nat) : Cal → Option CArm := fun c => match c with
  | .f 99 => some (.p [(.sl .name), (.sl .name)] _ (fun x => impl_samePeople.F k x.1 x.2.1) (fun r => (.t .bool r)))
  | .f 66 => some (.p [.date, .date] _ (fun x => impl_datesAgree.F x.1 x.2.1) (fun r => (.t .bool r)))
  | .f 51 => some (.p [.str, .str] _ (fun x => impl_textDistance.F k x.1 x.2.1) (fun r => (.t (.int .i64) r)))
  | _ => none
theorem impl_areAlike.run (k : Nat) (a0 : Entry) (a1 : Entry) (a2 : Int) : runF envX (tabC (impl_areAlike.C k)) (tabL 35 0 (fun _ => none)) Tryz.f60 [.t .entry a0, .t .entry a1, .t (.int .i64) a2] (viewR1 (.t .bool)) = impl_areAlike.F k a0 a1 a2 := by kernel_rfl
theorem impl_areAlike.G (hE : EnvOk Tryz.prog envX) (pv : Nat → Value) (k : Nat) : ∀ cal A, impl_areAlike.C k cal = some A → ArmOk Tryz.prog envX pv cal A := by
  intro cal A h
  unfold impl_areAlike.C at h
  split at h
  · cases h; exact fun x y hy => impl_samePeople.good hE pv k x.1 x.2.1 hy
  · cases h; exact fun x y hy => impl_datesAgree.good hE pv x.1 x.2.1 hy
  · cases h; exact fun x y hy => impl_textDistance.good hE pv k x.1 x.2.1 hy
  · cases h
theorem impl_areAlike.good (hE : EnvOk Tryz.prog envX) (pv : Nat → Value) (k : Nat) (a0 : Entry) (a1 : Entry) (a2 : Int) {y : _} (h : impl_areAlike.F k a0 a1 a2 = some y) : Meets Tryz.prog envX pv (.f 60) (tvals [.entry, .entry, (.int .i64)] (a0, a1, a2, ())) (.t .bool y) :=
  fun_plain hE (impl_areAlike.G hE pv k) (f := 60) (fn := Tryz.f60) (by kernel_rfl) rfl (by kernel_rfl) (by kernel_rfl) ((impl_areAlike.run k a0 a1 a2).trans h) fun r hr => wk_view1 hr
/-! ### 22 loop.example/g00896/impl.AreAlike -/
def impl_AreAlike.F (k : Nat) (a0 : Entry) (a1 : Entry) (a2 : Int) : Option (Bool × Bool) := (impl_IsValidEntry.F k a0).bind fun r1 => bif (!r1) then (some (false, false)) else ((impl_IsValidEntry.F k a1).bind fun r2 => bif (!r2) then (some (false, false)) else ((impl_inside.F a2 0 40).bind fun r3 => bif (!r3) then (some (false, false)) else ((impl_areAlike.F k a0 a1 a2).bind fun r4 => some (r4, true))))
def impl_AreAlike.C (k : Nat) : Cal → Option CArm := fun c => match c with
  | .f 58 => some (.p [.entry] _ (fun x => impl_IsValidEntry.F k x.1) (fun r => (.t .bool r)))
  | .f 59 => some (.p [(.int .i64), (.int .i64), (.int .i64)] _ (fun x => impl_inside.F x.1 x.2.1 x.2.2.1) (fun r => (.t .bool r)))
  | .f 60 => some (.p [.entry, .entry, (.int .i64)] _ (fun x => impl_areAlike.F k x.1 x.2.1 x.2.2.1) (fun r => (.t .bool r)))
  | _ => none
theorem impl_AreAlike.run (k : Nat) (a0 : Entry) (a1 : Entry) (a2 : Int) : runF envX (tabC (impl_AreAlike.C k)) (tabL 25 0 (fun _ => none)) Tryz.f22 [.t .entry a0, .t .entry a1, .t (.int .i64) a2] (viewR2 (.t .bool) (.t .bool)) = impl_AreAlike.F k a0 a1 a2 := by kernel_rfl
theorem impl_AreAlike.G (hE : EnvOk Tryz.prog envX) (pv : Nat → Value) (k : Nat) : ∀ cal A, impl_AreAlike.C k cal = some A → ArmOk Tryz.prog envX pv cal A := by
  intro cal A h
  unfold impl_AreAlike.C at h
  split at h
  · cases h; exact fun x y hy => impl_IsValidEntry.good hE pv k x.1 hy
  · cases h; exact fun x y hy => impl_inside.good hE pv x.1 x.2.1 x.2.2.1 hy
  · cases h; exact fun x y hy => impl_areAlike.good hE pv k x.1 x.2.1 x.2.2.1 hy
  · cases h
theorem impl_AreAlike.good (hE : EnvOk Tryz.prog envX) (pv : Nat → Value) (k : Nat) (a0 : Entry) (a1 : Entry) (a2 : Int) {y : _} (h : impl_AreAlike.F k a0 a1 a2 = some y) : Meets Tryz.prog envX pv (.f 22) (tvals [.entry, .entry, (.int .i64)] (a0, a1, a2, ())) (.tup [.t .bool y.1, .t .bool y.2]) :=
  fun_plain hE (impl_AreAlike.G hE pv k) (f := 22) (fn := Tryz.f22) (by kernel_rfl) rfl (by kernel_rfl) (by kernel_rfl) ((impl_AreAlike.run k a0 a1 a2).trans h) fun r hr => wk_view2 hr
/-! ### 62 loop.example/g00896/spec.l1In -/
def spec_l1In.F (a0 : Int) (a1 : Int) (a2 : Int) : Option (Bool) := bif (decide (a0 ≥ a1)) then (some (decide (a0 ≤ a2))) else (some false)
def spec_l1In.C : Cal → Option CArm := fun c => match c with
  | _ => none
theorem spec_l1In.run (a0 : Int) (a1 : Int) (a2 : Int) : runF envX (tabC spec_l1In.C) (tabL 15 0 (fun _ => none)) Tryz.f62 [.t (.int .i64) a0, .t (.int .i64) a1, .t (.int .i64) a2] (viewR1 (.t .bool)) = spec_l1In.F a0 a1 a2 := by kernel_rfl
theorem spec_l1In.G (hE : EnvOk Tryz.prog envX) (pv : Nat → Value) : ∀ cal A, spec_l1In.C cal = some A → ArmOk Tryz.prog envX pv cal A := by
  intro cal A h
  unfold spec_l1In.C at h
  cases h
theorem spec_l1In.good (hE : EnvOk Tryz.prog envX) (pv : Nat → Value) (a0 : Int) (a1 : Int) (a2 : Int) {y : _} (h : spec_l1In.F a0 a1 a2 = some y) : Meets Tryz.prog envX pv (.f 62) (tvals [(.int .i64), (.int .i64), (.int .i64)] (a0, a1, a2, ())) (.t .bool y) :=
  fun_plain hE (spec_l1In.G hE pv) (f := 62) (fn := Tryz.f62) (by kernel_rfl) rfl (by kernel_rfl) (by kernel_rfl) ((spec_l1In.run a0 a1 a2).trans h) fun r hr => wk_view1 hr
/-! ### 104 loop.example/g00896/spec.l3Days -/
def spec_l3Days.F (a0 : Int) (a1 : Int) : Option (Int) := bif (a1 == 2) then (bif (4 == 0) then (none) else (bif ((Int.tmod a0 4) == 0) then (bif (100 == 0) then (none) else (bif ((Int.tmod a0 100) != 0) then (some 29) else (bif (400 == 0) then (none) else (bif ((Int.tmod a0 400) == 0) then (some 29) else (some 28))))) else (bif (400 == 0) then (none) else (bif ((Int.tmod a0 400) == 0) then (some 29) else (some 28))))) else (bif (a1 == 4) then (some 30) else (bif (a1 == 6) then (some 30) else (bif (a1 == 9) then (some 30) else (bif (a1 == 11) then (some 30) else (some 31)))))
def spec_l3Days.C : Cal → Option CArm := fun c => match c with
  | _ => none
theorem spec_l3Days.run (a0 : Int) (a1 : Int) : runF envX (tabC spec_l3Days.C) (tabL 34 0 (fun _ => none)) Tryz.f104 [.t (.int .i64) a0, .t (.int .i64) a1] (viewR1 (.t (.int .i64))) = spec_l3Days.F a0 a1 := by kernel_rfl
theorem spec_l3Days.G (hE : EnvOk Tryz.prog envX) (pv : Nat → Value) : ∀ cal A, spec_l3Days.C cal = some A → ArmOk Tryz.prog envX pv cal A := by
  intro cal A h
  unfold spec_l3Days.C at h
  cases h
theorem spec_l3Days.good (hE : EnvOk Tryz.prog envX) (pv : Nat → Value) (a0 : Int) (a1 : Int) {y : _} (h : spec_l3Days.F a0 a1 = some y) : Meets Tryz.prog envX pv (.f 104) (tvals [(.int .i64), (.int .i64)] (a0, a1, ())) (.t (.int .i64) y) :=
  fun_plain hE (spec_l3Days.G hE pv) (f := 104) (fn := Tryz.f104) (by kernel_rfl) rfl (by kernel_rfl) (by kernel_rfl) ((spec_l3Days.run a0 a1).trans h) fun r hr => wk_view1 hr
/-! ### 67 loop.example/g00896/spec.l3Good -/
def spec_l3Good.F (a0 : Date) : Option (Bool) := bif ((a0.y == 0 && (a0.m == 0 && (a0.d == 0 && a0.c == false)))) then (some true) else ((spec_l1In.F a0.y 1 2999).bind fun r1 => bif (!r1) then (some false) else ((spec_l1In.F a0.m 0 12).bind fun r2 => bif (!r2) then (some false) else (bif a0.c then (bif (a0.m == 0) then (some (a0.d == 0)) else (some false)) else (bif (a0.m == 0) then (some (a0.d == 0)) else ((spec_l3Days.F a0.y a0.m).bind fun r3 => (spec_l1In.F a0.d 0 r3).bind fun r4 => some r4)))))
def spec_l3Good.C : Cal → Option CArm := fun c => match c with
  | .f 62 => some (.p [(.int .i64), (.int .i64), (.int .i64)] _ (fun x => spec_l1In.F x.1 x.2.1 x.2.2.1) (fun r => (.t .bool r)))
  | .f 104 => some (.p [(.int .i64), (.int .i64)] _ (fun x => spec_l3Days.F x.1 x.2.1) (fun r => (.t (.int .i64) r)))
  | _ => none
theorem spec_l3Good.run (a0 : Date) : runF envX (tabC spec_l3Good.C) (tabL 44 0 (fun _ => none)) Tryz.f67 [.t .date a0] (viewR1 (.t .bool)) = spec_l3Good.F a0 := by kernel_rfl
theorem spec_l3Good.G (hE : EnvOk Tryz.prog envX) (pv : Nat → Value) : ∀ cal A, spec_l3Good.C cal = some A → ArmOk Tryz.prog envX pv cal A := by
  intro cal A h
  unfold spec_l3Good.C at h
  split at h
  · cases h; exact fun x y hy => spec_l1In.good hE pv x.1 x.2.1 x.2.2.1 hy
  · cases h; exact fun x y hy => spec_l3Days.good hE pv x.1 x.2.1 hy
  · cases h
theorem spec_l3Good.good (hE : EnvOk Tryz.prog envX) (pv : Nat → Value) (a0 : Date) {y : _} (h : spec_l3Good.F a0 = some y) : Meets Tryz.prog envX pv (.f 67) (tvals [.date] (a0, ())) (.t .bool y) :=
  fun_plain hE (spec_l3Good.G hE pv) (f := 67) (fn := Tryz.f67) (by kernel_rfl) rfl (by kernel_rfl) (by kernel_rfl) ((spec_l3Good.run a0).trans h) fun r hr => wk_view1 hr
/-! ### 137 loop.example/g00896/spec.l2Lower -/
def spec_l2Lower.F (a0 : Int) : Option (Bool) := bif (decide (a0 ≥ 97)) then (some (decide (a0 ≤ 122))) else (some false)
def spec_l2Lower.C : Cal → Option CArm := fun c => match c with
  | _ => none
theorem spec_l2Lower.run (a0 : Int) : runF envX (tabC spec_l2Lower.C) (tabL 9 0 (fun _ => none)) Tryz.f137 [.t (.int .u8) a0] (viewR1 (.t .bool)) = spec_l2Lower.F a0 := by kernel_rfl
theorem spec_l2Lower.G (hE : EnvOk Tryz.prog envX) (pv : Nat → Value) : ∀ cal A, spec_l2Lower.C cal = some A → ArmOk Tryz.prog envX pv cal A := by
  intro cal A h
  unfold spec_l2Lower.C at h
  cases h
theorem spec_l2Lower.good (hE : EnvOk Tryz.prog envX) (pv : Nat → Value) (a0 : Int) {y : _} (h : spec_l2Lower.F a0 = some y) : Meets Tryz.prog envX pv (.f 137) (tvals [(.int .u8)] (a0, ())) (.t .bool y) :=
  fun_plain hE (spec_l2Lower.G hE pv) (f := 137) (fn := Tryz.f137) (by kernel_rfl) rfl (by kernel_rfl) (by kernel_rfl) ((spec_l2Lower.run a0).trans h) fun r hr => wk_view1 hr
/-! ### 100 loop.example/g00896/spec.l4Key -/
def spec_l4Key.l0 : Nat → ByteArray → Int → Option (Sum Bool Unit)
  | 0, _, _ => none
  | k + 1, x0, x3 => bif (decide (x3 < (x0.size : Int))) then (bif decide (0 ≤ x3) then (bif decide (x3 < (x0.size : Int)) then ((spec_l2Lower.F (bt x0 (x3 : Int).toNat)).bind fun r3 => bif (!r3) then (bif decide (0 ≤ x3) then (bif decide (x3 < (x0.size : Int)) then (bif (decide ((bt x0 (x3 : Int).toNat) < 48)) then (some (.inl false)) else (bif decide (0 ≤ x3) then (bif decide (x3 < (x0.size : Int)) then (bif (decide ((bt x0 (x3 : Int).toNat) > 57)) then (some (.inl false)) else (spec_l4Key.l0 k x0 (IntKind.wrap .i64 (x3 + 1)))) else none) else none)) else none) else none) else (spec_l4Key.l0 k x0 (IntKind.wrap .i64 (x3 + 1)))) else none) else none) else (some (.inr ()))
def spec_l4Key.F (k : Nat) (a0 : ByteArray) : Option (Bool) := (spec_l1In.F (a0.size : Int) 1 10).bind fun r1 => bif (!r1) then (some false) else (bif decide (0 ≤ 0) then (bif decide (0 < (a0.size : Int)) then ((spec_l2Lower.F (bt a0 (0 : Int).toNat)).bind fun r2 => bif (!r2) then (some false) else ((spec_l4Key.l0 k a0 0).bind fun y4 => match y4 with | .inl z5 => some z5 | .inr z5 => some true)) else none) else none)
def spec_l4Key.C (k : Nat) : Cal → Option CArm := fun c => match c with
  | .f 62 => some (.p [(.int .i64), (.int .i64), (.int .i64)] _ (fun x => spec_l1In.F x.1 x.2.1 x.2.2.1) (fun r => (.t .bool r)))
  | .f 137 => some (.p [(.int .u8)] _ (fun x => spec_l2Lower.F x.1) (fun r => (.t .bool r)))
  | _ => none
def spec_l4Key.sp0 : List Sp := [.t 0 .str, .t 3 (.int .i64)]
def spec_l4Key.sp0_0 : List Sp := [.t 2 .bool]
def spec_l4Key.sp0_1 : List Sp := []
def spec_l4Key.A0 : LArm := .two spec_l4Key.sp0 spec_l4Key.sp0_0 spec_l4Key.sp0_1 (Bool) (Unit) (fun k x => spec_l4Key.l0 k x.1 x.2.1) .ret (.exit 0) (fun y => (y, ())) (fun x => x.1) (fun y => ()) (fun x => ())
def spec_l4Key.L : Nat → Option LArm := fun b => match b with
  | 0 => some spec_l4Key.A0
  | _ => none
theorem spec_l4Key.run (k : Nat) (a0 : ByteArray) : runF envX (tabC (spec_l4Key.C k)) (tabL 37 k spec_l4Key.L) Tryz.f100 [.t .str a0] (viewR1 (.t .bool)) = spec_l4Key.F k a0 := by kernel_rfl
theorem spec_l4Key.step0 (k : Nat) (x0 : ByteArray) (x3 : Int) : runC envX (tabC (spec_l4Key.C k)) (tabL 37 k spec_l4Key.L) 0 (loopAt Tryz.f100 0) (stOf 37 spec_l4Key.sp0 (x0, x3, ())) (spec_l4Key.A0.cont 37 k) = spec_l4Key.l0 (k + 1) x0 x3 := by kernel_rfl
theorem spec_l4Key.G (hE : EnvOk Tryz.prog envX) (pv : Nat → Value) (k : Nat) : ∀ cal A, spec_l4Key.C k cal = some A → ArmOk Tryz.prog envX pv cal A := by
  intro cal A h
  unfold spec_l4Key.C at h
  split at h
  · cases h; exact fun x y hy => spec_l1In.good hE pv x.1 x.2.1 x.2.2.1 hy
  · cases h; exact fun x y hy => spec_l2Lower.good hE pv x.1 hy
  · cases h
theorem spec_l4Key.good (hE : EnvOk Tryz.prog envX) (pv : Nat → Value) (k : Nat) (a0 : ByteArray) {y : _} (h : spec_l4Key.F k a0 = some y) : Meets Tryz.prog envX pv (.f 100) (tvals [.str] (a0, ())) (.t .bool y) :=
  fun_loops hE (t := spec_l4Key.C) k (fun k _ => spec_l4Key.G hE pv k) (f := 100) (fn := Tryz.f100) (by kernel_rfl) rfl (by kernel_rfl) (by kernel_rfl) (lt := spec_l4Key.L) (by kernel_rfl) (fun b A h => by
    unfold spec_l4Key.L at h; split at h
    · cases h; exact ⟨by kernel_rfl, by kernel_rfl, by kernel_rfl, fun _ => rfl, fun _ => rfl, fun _ => rfl⟩
    · cases h) (fun b A h => by
    unfold spec_l4Key.L at h; split at h
    · cases h; exact fun k x => spec_l4Key.step0 k x.1 x.2.1
    · cases h) ((spec_l4Key.run k a0).trans h) fun r hr => wk_view1 hr
/-! ### 178 loop.example/g00896/spec.l2Upper -/
def spec_l2Upper.F (a0 : Int) : Option (Bool) := bif (decide (a0 ≥ 65)) then (some (decide (a0 ≤ 90))) else (some false)
def spec_l2Upper.C : Cal → Option CArm := fun c => match c with
  | _ => none
theorem spec_l2Upper.run (a0 : Int) : runF envX (tabC spec_l2Upper.C) (tabL 9 0 (fun _ => none)) Tryz.f178 [.t (.int .u8) a0] (viewR1 (.t .bool)) = spec_l2Upper.F a0 := by kernel_rfl
theorem spec_l2Upper.G (hE : EnvOk Tryz.prog envX) (pv : Nat → Value) : ∀ cal A, spec_l2Upper.C cal = some A → ArmOk Tryz.prog envX pv cal A := by
  intro cal A h
  unfold spec_l2Upper.C at h
  cases h
theorem spec_l2Upper.good (hE : EnvOk Tryz.prog envX) (pv : Nat → Value) (a0 : Int) {y : _} (h : spec_l2Upper.F a0 = some y) : Meets Tryz.prog envX pv (.f 178) (tvals [(.int .u8)] (a0, ())) (.t .bool y) :=
  fun_plain hE (spec_l2Upper.G hE pv) (f := 178) (fn := Tryz.f178) (by kernel_rfl) rfl (by kernel_rfl) (by kernel_rfl) ((spec_l2Upper.run a0).trans h) fun r hr => wk_view1 hr
/-! ### 213 loop.example/g00896/spec.l2Letter -/
def spec_l2Letter.F (a0 : Int) : Option (Bool) := (spec_l2Upper.F a0).bind fun r1 => bif r1 then (some true) else ((spec_l2Lower.F a0).bind fun r2 => some r2)
def spec_l2Letter.C : Cal → Option CArm := fun c => match c with
  | .f 178 => some (.p [(.int .u8)] _ (fun x => spec_l2Upper.F x.1) (fun r => (.t .bool r)))
  | .f 137 => some (.p [(.int .u8)] _ (fun x => spec_l2Lower.F x.1) (fun r => (.t .bool r)))
  | _ => none
theorem spec_l2Letter.run (a0 : Int) : runF envX (tabC spec_l2Letter.C) (tabL 9 0 (fun _ => none)) Tryz.f213 [.t (.int .u8) a0] (viewR1 (.t .bool)) = spec_l2Letter.F a0 := by kernel_rfl
theorem spec_l2Letter.G (hE : EnvOk Tryz.prog envX) (pv : Nat → Value) : ∀ cal A, spec_l2Letter.C cal = some A → ArmOk Tryz.prog envX pv cal A := by
  intro cal A h
  unfold spec_l2Letter.C at h
  split at h
  · cases h; exact fun x y hy => spec_l2Upper.good hE pv x.1 hy
  · cases h; exact fun x y hy => spec_l2Lower.good hE pv x.1 hy
  · cases h
theorem spec_l2Letter.good (hE : EnvOk Tryz.prog envX) (pv : Nat → Value) (a0 : Int) {y : _} (h : spec_l2Letter.F a0 = some y) : Meets Tryz.prog envX pv (.f 213) (tvals [(.int .u8)] (a0, ())) (.t .bool y) :=
  fun_plain hE (spec_l2Letter.G hE pv) (f := 213) (fn := Tryz.f213) (by kernel_rfl) rfl (by kernel_rfl) (by kernel_rfl) ((spec_l2Letter.run a0).trans h) fun r hr => wk_view1 hr
/-! ### 177 loop.example/g00896/spec.l2Word -/
def spec_l2Word.l0 : Nat → ByteArray → Int → Option (Sum Bool Unit)
  | 0, _, _ => none
  | k + 1, x0, x3 => bif (decide (x3 < (x0.size : Int))) then (bif decide (0 ≤ x3) then (bif decide (x3 < (x0.size : Int)) then ((spec_l2Letter.F (bt x0 (x3 : Int).toNat)).bind fun r4 => bif (!r4) then (bif decide (0 ≤ x3) then (bif decide (x3 < (x0.size : Int)) then (bif ((bt x0 (x3 : Int).toNat) != 45) then (bif decide (0 ≤ x3) then (bif decide (x3 < (x0.size : Int)) then (bif ((bt x0 (x3 : Int).toNat) != 39) then (some (.inl false)) else (bif decide (0 ≤ (IntKind.wrap .i64 (x3 - 1))) then (bif decide ((IntKind.wrap .i64 (x3 - 1)) < (x0.size : Int)) then ((spec_l2Letter.F (bt x0 ((IntKind.wrap .i64 (x3 - 1)) : Int).toNat)).bind fun r5 => bif (!r5) then (some (.inl false)) else (spec_l2Word.l0 k x0 (IntKind.wrap .i64 (x3 + 1)))) else none) else none)) else none) else none) else (bif decide (0 ≤ (IntKind.wrap .i64 (x3 - 1))) then (bif decide ((IntKind.wrap .i64 (x3 - 1)) < (x0.size : Int)) then ((spec_l2Letter.F (bt x0 ((IntKind.wrap .i64 (x3 - 1)) : Int).toNat)).bind fun r6 => bif (!r6) then (some (.inl false)) else (spec_l2Word.l0 k x0 (IntKind.wrap .i64 (x3 + 1)))) else none) else none)) else none) else none) else (spec_l2Word.l0 k x0 (IntKind.wrap .i64 (x3 + 1)))) else none) else none) else (some (.inr ()))
def spec_l2Word.F (k : Nat) (a0 : ByteArray) : Option (Bool) := (spec_l1In.F (a0.size : Int) 1 12).bind fun r1 => bif (!r1) then (some false) else (bif decide (0 ≤ 0) then (bif decide (0 < (a0.size : Int)) then ((spec_l2Letter.F (bt a0 (0 : Int).toNat)).bind fun r2 => bif (!r2) then (some false) else (bif decide (0 ≤ (IntKind.wrap .i64 ((a0.size : Int) - 1))) then (bif decide ((IntKind.wrap .i64 ((a0.size : Int) - 1)) < (a0.size : Int)) then ((spec_l2Letter.F (bt a0 ((IntKind.wrap .i64 ((a0.size : Int) - 1)) : Int).toNat)).bind fun r3 => bif (!r3) then (some false) else ((spec_l2Word.l0 k a0 1).bind fun y7 => match y7 with | .inl z8 => some z8 | .inr z8 => some true)) else none) else none)) else none) else none)
def spec_l2Word.C (k : Nat) : Cal → Option CArm := fun c => match c with
  | .f 62 => some (.p [(.int .i64), (.int .i64), (.int .i64)] _ (fun x => spec_l1In.F x.1 x.2.1 x.2.2.1) (fun r => (.t .bool r)))
  | .f 213 => some (.p [(.int .u8)] _ (fun x => spec_l2Letter.F x.1) (fun r => (.t .bool r)))
  | _ => none
def spec_l2Word.sp0 : List Sp := [.t 0 .str, .t 3 (.int .i64)]
def spec_l2Word.sp0_0 : List Sp := [.t 2 .bool]
def spec_l2Word.sp0_1 : List Sp := []
def spec_l2Word.A0 : LArm := .two spec_l2Word.sp0 spec_l2Word.sp0_0 spec_l2Word.sp0_1 (Bool) (Unit) (fun k x => spec_l2Word.l0 k x.1 x.2.1) .ret (.exit 0) (fun y => (y, ())) (fun x => x.1) (fun y => ()) (fun x => ())
def spec_l2Word.L : Nat → Option LArm := fun b => match b with
  | 0 => some spec_l2Word.A0
  | _ => none
theorem spec_l2Word.run (k : Nat) (a0 : ByteArray) : runF envX (tabC (spec_l2Word.C k)) (tabL 54 k spec_l2Word.L) Tryz.f177 [.t .str a0] (viewR1 (.t .bool)) = spec_l2Word.F k a0 := by kernel_rfl
theorem spec_l2Word.step0 (k : Nat) (x0 : ByteArray) (x3 : Int) : runC envX (tabC (spec_l2Word.C k)) (tabL 54 k spec_l2Word.L) 0 (loopAt Tryz.f177 0) (stOf 54 spec_l2Word.sp0 (x0, x3, ())) (spec_l2Word.A0.cont 54 k) = spec_l2Word.l0 (k + 1) x0 x3 := by kernel_rfl
theorem spec_l2Word.G (hE : EnvOk Tryz.prog envX) (pv : Nat → Value) (k : Nat) : ∀ cal A, spec_l2Word.C k cal = some A → ArmOk Tryz.prog envX pv cal A := by
  intro cal A h
  unfold spec_l2Word.C at h
  split at h
  · cases h; exact fun x y hy => spec_l1In.good hE pv x.1 x.2.1 x.2.2.1 hy
  · cases h; exact fun x y hy => spec_l2Letter.good hE pv x.1 hy
  · cases h
theorem spec_l2Word.good (hE : EnvOk Tryz.prog envX) (pv : Nat → Value) (k : Nat) (a0 : ByteArray) {y : _} (h : spec_l2Word.F k a0 = some y) : Meets Tryz.prog envX pv (.f 177) (tvals [.str] (a0, ())) (.t .bool y) :=
  fun_loops hE (t := spec_l2Word.C) k (fun k _ => spec_l2Word.G hE pv k) (f := 177) (fn := Tryz.f177) (by kernel_rfl) rfl (by kernel_rfl) (by kernel_rfl) (lt := spec_l2Word.L) (by kernel_rfl) (fun b A h => by
    unfold spec_l2Word.L at h; split at h
    · cases h; exact ⟨by kernel_rfl, by kernel_rfl, by kernel_rfl, fun _ => rfl, fun _ => rfl, fun _ => rfl⟩
    · cases h) (fun b A h => by
    unfold spec_l2Word.L at h; split at h
    · cases h; exact fun k x => spec_l2Word.step0 k x.1 x.2.1
    · cases h) ((spec_l2Word.run k a0).trans h) fun r hr => wk_view1 hr
/-! ### 214 loop.example/g00896/spec.l1Split -/
def spec_l1Split.l0 : Nat → ByteArray → Int → (List ByteArray) → Int → Int → Option (ByteArray × (List ByteArray) × Int)
  | 0, _, _, _, _, _ => none
  | k + 1, x0, x1, x5, x6, x7 => bif (decide (x7 < (x0.size : Int))) then (bif decide (0 ≤ x7) then (bif decide (x7 < (x0.size : Int)) then (bif ((bt x0 (x7 : Int).toNat) == x1) then (bif decide (0 ≤ x7) then (bif decide (x7 ≤ (x0.size : Int)) then (bif decide (0 ≤ x6) then (bif decide (x6 ≤ x7) then (bif room (x5.length + ([(x0.extract (x6 : Int).toNat (x7 : Int).toNat)] : List ByteArray).length) .str then (spec_l1Split.l0 k x0 x1 (x5 ++ ([(x0.extract (x6 : Int).toNat (x7 : Int).toNat)] : List ByteArray)) (IntKind.wrap .i64 (x7 + 1)) (IntKind.wrap .i64 (x7 + 1))) else none) else none) else none) else none) else none) else (spec_l1Split.l0 k x0 x1 x5 x6 (IntKind.wrap .i64 (x7 + 1)))) else none) else none) else (some (x0, x5, x6))
def spec_l1Split.F (k : Nat) (a0 : ByteArray) (a1 : Int) : Option (List ByteArray) := (spec_l1Split.l0 k a0 a1 ([] : List ByteArray) 0 0).bind fun y1 => bif decide (0 ≤ y1.2.2) then (bif decide (y1.2.2 ≤ (y1.1.size : Int)) then (bif room (y1.2.1.length + ([(y1.1.extract (y1.2.2 : Int).toNat y1.1.size)] : List ByteArray).length) .str then (some (y1.2.1 ++ ([(y1.1.extract (y1.2.2 : Int).toNat y1.1.size)] : List ByteArray))) else none) else none) else none
def spec_l1Split.C (k : Nat) : Cal → Option CArm := fun c => match c with
  | _ => none
def spec_l1Split.sp0 : List Sp := [.t 0 .str, .t 1 (.int .u8), .own 5 1024 9 .str false true, .t 6 (.int .i64), .t 7 (.int .i64)]
def spec_l1Split.sp0_0 : List Sp := [.t 0 .str, .own 5 1024 9 .str false true, .t 6 (.int .i64)]
def spec_l1Split.A0 : LArm := .one spec_l1Split.sp0 spec_l1Split.sp0_0 (ByteArray × (List ByteArray) × Int) (fun k x => spec_l1Split.l0 k x.1 x.2.1 x.2.2.1 x.2.2.2.1 x.2.2.2.2.1) (.exit 0) (fun y => (y.1, y.2.1, y.2.2, ())) (fun x => (x.1, x.2.1, x.2.2.1))
def spec_l1Split.L : Nat → Option LArm := fun b => match b with
  | 0 => some spec_l1Split.A0
  | _ => none
theorem spec_l1Split.run (k : Nat) (a0 : ByteArray) (a1 : Int) : runF envX (tabC (spec_l1Split.C k)) (tabL 35 k spec_l1Split.L) Tryz.f214 [.t .str a0, .t (.int .u8) a1] (viewR1 (.fr 9 .str)) = spec_l1Split.F k a0 a1 := by kernel_rfl
theorem spec_l1Split.step0 (k : Nat) (x0 : ByteArray) (x1 : Int) (x5 : List ByteArray) (x6 : Int) (x7 : Int) : runC envX (tabC (spec_l1Split.C k)) (tabL 35 k spec_l1Split.L) 0 (loopAt Tryz.f214 0) (stOf 35 spec_l1Split.sp0 (x0, x1, x5, x6, x7, ())) (spec_l1Split.A0.cont 35 k) = spec_l1Split.l0 (k + 1) x0 x1 x5 x6 x7 := by kernel_rfl
theorem spec_l1Split.G (hE : EnvOk Tryz.prog envX) (pv : Nat → Value) (k : Nat) : ∀ cal A, spec_l1Split.C k cal = some A → ArmOk Tryz.prog envX pv cal A := by
  intro cal A h
  unfold spec_l1Split.C at h
  cases h
theorem spec_l1Split.good (hE : EnvOk Tryz.prog envX) (pv : Nat → Value) (k : Nat) (a0 : ByteArray) (a1 : Int) {y : _} (h : spec_l1Split.F k a0 a1 = some y) : Meets Tryz.prog envX pv (.f 214) (tvals [.str, (.int .u8)] (a0, a1, ())) (.fr 9 .str y) :=
  fun_loops hE (t := spec_l1Split.C) k (fun k _ => spec_l1Split.G hE pv k) (f := 214) (fn := Tryz.f214) (by kernel_rfl) rfl (by kernel_rfl) (by kernel_rfl) (lt := spec_l1Split.L) (by kernel_rfl) (fun b A h => by
    unfold spec_l1Split.L at h; split at h
    · cases h; exact ⟨by kernel_rfl, by kernel_rfl, fun _ => rfl, fun _ => rfl⟩
    · cases h) (fun b A h => by
    unfold spec_l1Split.L at h; split at h
    · cases h; exact fun k x => spec_l1Split.step0 k x.1 x.2.1 x.2.2.1 x.2.2.2.1 x.2.2.2.2.1
    · cases h) ((spec_l1Split.run k a0 a1).trans h) fun r hr => wk_view1 hr
/-! ### 179 loop.example/g00896/spec.l2Particle -/
def spec_l2Particle.l2 : Nat → (List ByteArray) → Int → Int → Option (Sum Bool ((List ByteArray) × Int))
  | 0, _, _, _ => none
  | k + 1, x3, x4, x5 => bif decide (0 ≤ x4) then (bif decide (x4 < (x3.length : Int)) then (bif (decide (x5 < ((x3.getD ((x4 : Int).toNat) (⟨#[]⟩ : ByteArray)).size : Int))) then (bif decide (0 ≤ x4) then (bif decide (x4 < (x3.length : Int)) then (bif decide (0 ≤ x5) then (bif decide (x5 < ((x3.getD ((x4 : Int).toNat) (⟨#[]⟩ : ByteArray)).size : Int)) then ((spec_l2Lower.F (bt (x3.getD ((x4 : Int).toNat) (⟨#[]⟩ : ByteArray)) (x5 : Int).toNat)).bind fun r3 => bif (!r3) then (some (.inl false)) else (spec_l2Particle.l2 k x3 x4 (IntKind.wrap .i64 (x5 + 1)))) else none) else none) else none) else none) else (some (.inr (x3, x4)))) else none) else none
def spec_l2Particle.l0 : Nat → (List ByteArray) → Int → Option (Sum Bool (List ByteArray))
  | 0, _, _ => none
  | k + 1, x3, x4 => bif (decide (x4 < (x3.length : Int))) then (bif decide (0 ≤ x4) then (bif decide (x4 < (x3.length : Int)) then ((spec_l2Word.F k (x3.getD ((x4 : Int).toNat) (⟨#[]⟩ : ByteArray))).bind fun r2 => bif (!r2) then (some (.inl false)) else ((spec_l2Particle.l2 k x3 x4 0).bind fun y4 => match y4 with | .inl z5 => some (.inl z5) | .inr z5 => spec_l2Particle.l0 k z5.1 (IntKind.wrap .i64 (z5.2 + 1)))) else none) else none) else (some (.inr x3))
def spec_l2Particle.F (k : Nat) (a0 : ByteArray) : Option (Bool) := bif (beqS a0 (⟨#[]⟩ : ByteArray)) then (some true) else ((spec_l1Split.F k a0 32).bind fun r1 => (spec_l2Particle.l0 k r1 0).bind fun y6 => match y6 with | .inl z7 => some z7 | .inr z7 => some (decide ((z7.length : Int) ≤ 2)))
def spec_l2Particle.C (k : Nat) : Cal → Option CArm := fun c => match c with
  | .f 214 => some (.p [.str, (.int .u8)] _ (fun x => spec_l1Split.F k x.1 x.2.1) (fun r => (.fr 9 .str r)))
  | .f 177 => some (.p [.str] _ (fun x => spec_l2Word.F k x.1) (fun r => (.t .bool r)))
  | .f 137 => some (.p [(.int .u8)] _ (fun x => spec_l2Lower.F x.1) (fun r => (.t .bool r)))
  | _ => none
def spec_l2Particle.sp2 : List Sp := [.own 3 3076 9 .str false true, .t 4 (.int .i64), .t 5 (.int .i64)]
def spec_l2Particle.sp2_0 : List Sp := [.t 2 .bool]
def spec_l2Particle.sp2_1 : List Sp := [.own 3 3076 9 .str false true, .t 4 (.int .i64)]
def spec_l2Particle.A2 : LArm := .two spec_l2Particle.sp2 spec_l2Particle.sp2_0 spec_l2Particle.sp2_1 (Bool) ((List ByteArray) × Int) (fun k x => spec_l2Particle.l2 k x.1 x.2.1 x.2.2.1) .ret (.exit 2) (fun y => (y, ())) (fun x => x.1) (fun y => (y.1, y.2, ())) (fun x => (x.1, x.2.1))
def spec_l2Particle.sp0 : List Sp := [.own 3 3076 9 .str false true, .t 4 (.int .i64)]
def spec_l2Particle.sp0_0 : List Sp := [.t 2 .bool]
def spec_l2Particle.sp0_1 : List Sp := [.own 3 3076 9 .str false true]
def spec_l2Particle.A0 : LArm := .two spec_l2Particle.sp0 spec_l2Particle.sp0_0 spec_l2Particle.sp0_1 (Bool) ((List ByteArray)) (fun k x => spec_l2Particle.l0 k x.1 x.2.1) .ret (.exit 0) (fun y => (y, ())) (fun x => x.1) (fun y => (y, ())) (fun x => x.1)
def spec_l2Particle.L : Nat → Option LArm := fun b => match b with
  | 2 => some spec_l2Particle.A2
  | 0 => some spec_l2Particle.A0
  | _ => none
theorem spec_l2Particle.run (k : Nat) (a0 : ByteArray) : runF envX (tabC (spec_l2Particle.C k)) (tabL 42 k spec_l2Particle.L) Tryz.f179 [.t .str a0] (viewR1 (.t .bool)) = spec_l2Particle.F k a0 := by kernel_rfl
theorem spec_l2Particle.step2 (k : Nat) (x3 : List ByteArray) (x4 : Int) (x5 : Int) : runC envX (tabC (spec_l2Particle.C k)) (tabL 42 k spec_l2Particle.L) 2 (loopAt Tryz.f179 2) (stOf 42 spec_l2Particle.sp2 (x3, x4, x5, ())) (spec_l2Particle.A2.cont 42 k) = spec_l2Particle.l2 (k + 1) x3 x4 x5 := by kernel_rfl
theorem spec_l2Particle.step0 (k : Nat) (x3 : List ByteArray) (x4 : Int) : runC envX (tabC (spec_l2Particle.C k)) (tabL 42 k spec_l2Particle.L) 0 (loopAt Tryz.f179 0) (stOf 42 spec_l2Particle.sp0 (x3, x4, ())) (spec_l2Particle.A0.cont 42 k) = spec_l2Particle.l0 (k + 1) x3 x4 := by kernel_rfl
theorem spec_l2Particle.G (hE : EnvOk Tryz.prog envX) (pv : Nat → Value) (k : Nat) : ∀ cal A, spec_l2Particle.C k cal = some A → ArmOk Tryz.prog envX pv cal A := by
  intro cal A h
  unfold spec_l2Particle.C at h
  split at h
  · cases h; exact fun x y hy => spec_l1Split.good hE pv k x.1 x.2.1 hy
  · cases h; exact fun x y hy => spec_l2Word.good hE pv k x.1 hy
  · cases h; exact fun x y hy => spec_l2Lower.good hE pv x.1 hy
  · cases h
theorem spec_l2Particle.good (hE : EnvOk Tryz.prog envX) (pv : Nat → Value) (k : Nat) (a0 : ByteArray) {y : _} (h : spec_l2Particle.F k a0 = some y) : Meets Tryz.prog envX pv (.f 179) (tvals [.str] (a0, ())) (.t .bool y) :=
  fun_loops hE (t := spec_l2Particle.C) k (fun k _ => spec_l2Particle.G hE pv k) (f := 179) (fn := Tryz.f179) (by kernel_rfl) rfl (by kernel_rfl) (by kernel_rfl) (lt := spec_l2Particle.L) (by kernel_rfl) (fun b A h => by
    unfold spec_l2Particle.L at h; split at h
    · cases h; exact ⟨by kernel_rfl, by kernel_rfl, by kernel_rfl, fun _ => rfl, fun _ => rfl, fun _ => rfl⟩
    · cases h; exact ⟨by kernel_rfl, by kernel_rfl, by kernel_rfl, fun _ => rfl, fun _ => rfl, fun _ => rfl⟩
    · cases h) (fun b A h => by
    unfold spec_l2Particle.L at h; split at h
    · cases h; exact fun k x => spec_l2Particle.step2 k x.1 x.2.1 x.2.2.1
    · cases h; exact fun k x => spec_l2Particle.step0 k x.1 x.2.1
    · cases h) ((spec_l2Particle.run k a0).trans h) fun r hr => wk_view1 hr
/-! ### 138 loop.example/g00896/spec.l2Good -/
def spec_l2Good.l0 : Nat → Name → Int → Option (Sum Bool Name)
  | 0, _, _ => none
  | k + 1, x1, x3 => bif (decide (x3 < (x1.given.length : Int))) then (bif decide (0 ≤ x3) then (bif decide (x3 < (x1.given.length : Int)) then ((spec_l2Word.F k (x1.given.getD (x3 : Int).toNat (⟨#[]⟩ : ByteArray))).bind fun r1 => bif (!r1) then (some (.inl false)) else (bif decide (0 ≤ x3) then (bif decide (x3 < (x1.given.length : Int)) then (bif decide (0 ≤ 0) then (bif decide (0 < ((x1.given.getD (x3 : Int).toNat (⟨#[]⟩ : ByteArray)).size : Int)) then ((spec_l2Upper.F (bt (x1.given.getD (x3 : Int).toNat (⟨#[]⟩ : ByteArray)) (0 : Int).toNat)).bind fun r2 => bif (!r2) then (some (.inl false)) else (spec_l2Good.l0 k x1 (IntKind.wrap .i64 (x3 + 1)))) else none) else none) else none) else none)) else none) else none) else (some (.inr x1))
def spec_l2Good.F (k : Nat) (a0 : Name) : Option (Bool) := (spec_l2Good.l0 k a0 0).bind fun y3 => match y3 with | .inl z4 => some z4 | .inr z4 => bif (decide ((z4.given.length : Int) ≤ 3)) then ((spec_l2Particle.F k z4.particle).bind fun r5 => bif r5 then ((spec_l2Word.F k z4.family).bind fun r6 => bif r6 then (bif decide (0 ≤ 0) then (bif decide (0 < (z4.family.size : Int)) then ((spec_l2Upper.F (bt z4.family (0 : Int).toNat)).bind fun r7 => bif r7 then (bif (beqS z4.suffix (⟨#[]⟩ : ByteArray)) then (some true) else ((spec_l2Word.F k z4.suffix).bind fun r8 => some r8)) else (some false)) else none) else none) else (some false)) else (some false)) else (some false)
def spec_l2Good.C (k : Nat) : Cal → Option CArm := fun c => match c with
  | .f 177 => some (.p [.str] _ (fun x => spec_l2Word.F k x.1) (fun r => (.t .bool r)))
  | .f 178 => some (.p [(.int .u8)] _ (fun x => spec_l2Upper.F x.1) (fun r => (.t .bool r)))
  | .f 179 => some (.p [.str] _ (fun x => spec_l2Particle.F k x.1) (fun r => (.t .bool r)))
  | _ => none
def spec_l2Good.sp0 : List Sp := [.boxT 1 0 .name, .t 3 (.int .i64)]
def spec_l2Good.sp0_0 : List Sp := [.t 2 .bool]
def spec_l2Good.sp0_1 : List Sp := [.boxT 1 0 .name]
def spec_l2Good.A0 : LArm := .two spec_l2Good.sp0 spec_l2Good.sp0_0 spec_l2Good.sp0_1 (Bool) (Name) (fun k x => spec_l2Good.l0 k x.1 x.2.1) .ret (.exit 0) (fun y => (y, ())) (fun x => x.1) (fun y => (y, ())) (fun x => x.1)
def spec_l2Good.L : Nat → Option LArm := fun b => match b with
  | 0 => some spec_l2Good.A0
  | _ => none
theorem spec_l2Good.run (k : Nat) (a0 : Name) : runF envX (tabC (spec_l2Good.C k)) (tabL 58 k spec_l2Good.L) Tryz.f138 [.t .name a0] (viewR1 (.t .bool)) = spec_l2Good.F k a0 := by kernel_rfl
theorem spec_l2Good.step0 (k : Nat) (x1 : Name) (x3 : Int) : runC envX (tabC (spec_l2Good.C k)) (tabL 58 k spec_l2Good.L) 0 (loopAt Tryz.f138 0) (stOf 58 spec_l2Good.sp0 (x1, x3, ())) (spec_l2Good.A0.cont 58 k) = spec_l2Good.l0 (k + 1) x1 x3 := by kernel_rfl
theorem spec_l2Good.G (hE : EnvOk Tryz.prog envX) (pv : Nat → Value) (k : Nat) : ∀ cal A, spec_l2Good.C k cal = some A → ArmOk Tryz.prog envX pv cal A := by
  intro cal A h
  unfold spec_l2Good.C at h
  split at h
  · cases h; exact fun x y hy => spec_l2Word.good hE pv k x.1 hy
  · cases h; exact fun x y hy => spec_l2Upper.good hE pv x.1 hy
  · cases h; exact fun x y hy => spec_l2Particle.good hE pv k x.1 hy
  · cases h
theorem spec_l2Good.good (hE : EnvOk Tryz.prog envX) (pv : Nat → Value) (k : Nat) (a0 : Name) {y : _} (h : spec_l2Good.F k a0 = some y) : Meets Tryz.prog envX pv (.f 138) (tvals [.name] (a0, ())) (.t .bool y) :=
  fun_loops hE (t := spec_l2Good.C) k (fun k _ => spec_l2Good.G hE pv k) (f := 138) (fn := Tryz.f138) (by kernel_rfl) rfl (by kernel_rfl) (by kernel_rfl) (lt := spec_l2Good.L) (by kernel_rfl) (fun b A h => by
    unfold spec_l2Good.L at h; split at h
    · cases h; exact ⟨by kernel_rfl, by kernel_rfl, by kernel_rfl, fun _ => rfl, fun _ => rfl, fun _ => rfl⟩
    · cases h) (fun b A h => by
    unfold spec_l2Good.L at h; split at h
    · cases h; exact fun k x => spec_l2Good.step0 k x.1 x.2.1
    · cases h) ((spec_l2Good.run k a0).trans h) fun r hr => wk_view1 hr
/-! ### 101 loop.example/g00896/spec.l2List -/
def spec_l2List.l0 : Nat → (List Name) → Int → Option (Sum Bool (List Name))
  | 0, _, _ => none
  | k + 1, x0, x3 => bif (decide (x3 < (x0.length : Int))) then (bif (decide (x3 ≤ 4)) then (bif decide (0 ≤ x3) then (bif decide (x3 < (x0.length : Int)) then ((spec_l2Good.F k (x0.getD (x3 : Int).toNat (dflt .name))).bind fun r1 => bif (!r1) then (some (.inl false)) else (spec_l2List.l0 k x0 (IntKind.wrap .i64 (x3 + 1)))) else none) else none) else (some (.inr x0))) else (some (.inr x0))
def spec_l2List.F (k : Nat) (a0 : List Name) : Option (Bool) := (spec_l2List.l0 k a0 0).bind fun y2 => match y2 with | .inl z3 => some z3 | .inr z3 => some (decide ((z3.length : Int) ≤ 4))
def spec_l2List.C (k : Nat) : Cal → Option CArm := fun c => match c with
  | .f 138 => some (.p [.name] _ (fun x => spec_l2Good.F k x.1) (fun r => (.t .bool r)))
  | _ => none
def spec_l2List.sp0 : List Sp := [.t 0 (.sl .name), .t 3 (.int .i64)]
def spec_l2List.sp0_0 : List Sp := [.t 2 .bool]
def spec_l2List.sp0_1 : List Sp := [.t 0 (.sl .name)]
def spec_l2List.A0 : LArm := .two spec_l2List.sp0 spec_l2List.sp0_0 spec_l2List.sp0_1 (Bool) ((List Name)) (fun k x => spec_l2List.l0 k x.1 x.2.1) .ret (.exit 0) (fun y => (y, ())) (fun x => x.1) (fun y => (y, ())) (fun x => x.1)
def spec_l2List.L : Nat → Option LArm := fun b => match b with
  | 0 => some spec_l2List.A0
  | _ => none
theorem spec_l2List.run (k : Nat) (a0 : List Name) : runF envX (tabC (spec_l2List.C k)) (tabL 23 k spec_l2List.L) Tryz.f101 [.t (.sl .name) a0] (viewR1 (.t .bool)) = spec_l2List.F k a0 := by kernel_rfl
theorem spec_l2List.step0 (k : Nat) (x0 : List Name) (x3 : Int) : runC envX (tabC (spec_l2List.C k)) (tabL 23 k spec_l2List.L) 0 (loopAt Tryz.f101 0) (stOf 23 spec_l2List.sp0 (x0, x3, ())) (spec_l2List.A0.cont 23 k) = spec_l2List.l0 (k + 1) x0 x3 := by kernel_rfl
theorem spec_l2List.G (hE : EnvOk Tryz.prog envX) (pv : Nat → Value) (k : Nat) : ∀ cal A, spec_l2List.C k cal = some A → ArmOk Tryz.prog envX pv cal A := by
  intro cal A h
  unfold spec_l2List.C at h
  split at h
  · cases h; exact fun x y hy => spec_l2Good.good hE pv k x.1 hy
  · cases h
theorem spec_l2List.good (hE : EnvOk Tryz.prog envX) (pv : Nat → Value) (k : Nat) (a0 : List Name) {y : _} (h : spec_l2List.F k a0 = some y) : Meets Tryz.prog envX pv (.f 101) (tvals [(.sl .name)] (a0, ())) (.t .bool y) :=
  fun_loops hE (t := spec_l2List.C) k (fun k _ => spec_l2List.G hE pv k) (f := 101) (fn := Tryz.f101) (by kernel_rfl) rfl (by kernel_rfl) (by kernel_rfl) (lt := spec_l2List.L) (by kernel_rfl) (fun b A h => by
    unfold spec_l2List.L at h; split at h
    · cases h; exact ⟨by kernel_rfl, by kernel_rfl, by kernel_rfl, fun _ => rfl, fun _ => rfl, fun _ => rfl⟩
    · cases h) (fun b A h => by
    unfold spec_l2List.L at h; split at h
    · cases h; exact fun k x => spec_l2List.step0 k x.1 x.2.1
    · cases h) ((spec_l2List.run k a0).trans h) fun r hr => wk_view1 hr
/-! ### 61 loop.example/g00896/spec.l4Entry -/
def spec_l4Entry.F (k : Nat) (a0 : Entry) : Option (Bool) := (spec_l4Key.F k a0.key).bind fun r1 => bif (!r1) then (some false) else ((spec_l1In.F a0.kind 1 4).bind fun r2 => bif (!r2) then (some false) else ((spec_l2List.F k a0.authors).bind fun r3 => bif (!r3) then (some false) else ((spec_l2List.F k a0.editors).bind fun r4 => bif (!r4) then (some false) else ((spec_l4Text.F k a0.title).bind fun r5 => bif (!r5) then (some false) else ((spec_l4Text.F k a0.container).bind fun r6 => bif (!r6) then (some false) else ((spec_l4Text.F k a0.publisher).bind fun r7 => bif (!r7) then (some false) else ((spec_l4Text.F k a0.pages).bind fun r8 => bif (!r8) then (some false) else ((spec_l3Good.F a0.date).bind fun r9 => bif r9 then ((spec_l1In.F a0.volume 0 9999).bind fun r10 => bif r10 then (bif (beqS a0.cross (⟨#[]⟩ : ByteArray)) then (some true) else ((spec_l4Key.F k a0.cross).bind fun r11 => bif r11 then (some (!beqS a0.cross a0.key)) else (some false))) else (some false)) else (some false)))))))))
def spec_l4Entry.C (k : Nat) : Cal → Option CArm := fun c => match c with
  | .f 100 => some (.p [.str] _ (fun x => spec_l4Key.F k x.1) (fun r => (.t .bool r)))
  | .f 62 => some (.p [(.int .i64), (.int .i64), (.int .i64)] _ (fun x => spec_l1In.F x.1 x.2.1 x.2.2.1) (fun r => (.t .bool r)))
  | .f 101 => some (.p [(.sl .name)] _ (fun x => spec_l2List.F k x.1) (fun r => (.t .bool r)))
  | .f 52 => some (.p [.str] _ (fun x => spec_l4Text.F k x.1) (fun r => (.t .bool r)))
  | .f 67 => some (.p [.date] _ (fun x => spec_l3Good.F x.1) (fun r => (.t .bool r)))
  | _ => none
theorem spec_l4Entry.run (k : Nat) (a0 : Entry) : runF envX (tabC (spec_l4Entry.C k)) (tabL 72 0 (fun _ => none)) Tryz.f61 [.t .entry a0] (viewR1 (.t .bool)) = spec_l4Entry.F k a0 := by kernel_rfl
theorem spec_l4Entry.G (hE : EnvOk Tryz.prog envX) (pv : Nat → Value) (k : Nat) : ∀ cal A, spec_l4Entry.C k cal = some A → ArmOk Tryz.prog envX pv cal A := by
  intro cal A h
  unfold spec_l4Entry.C at h
  split at h
  · cases h; exact fun x y hy => spec_l4Key.good hE pv k x.1 hy
  · cases h; exact fun x y hy => spec_l1In.good hE pv x.1 x.2.1 x.2.2.1 hy
  · cases h; exact fun x y hy => spec_l2List.good hE pv k x.1 hy
  · cases h; exact fun x y hy => spec_l4Text.good hE pv k x.1 hy
  · cases h; exact fun x y hy => spec_l3Good.good hE pv x.1 hy
  · cases h
theorem spec_l4Entry.good (hE : EnvOk Tryz.prog envX) (pv : Nat → Value) (k : Nat) (a0 : Entry) {y : _} (h : spec_l4Entry.F k a0 = some y) : Meets Tryz.prog envX pv (.f 61) (tvals [.entry] (a0, ())) (.t .bool y) :=
  fun_plain hE (spec_l4Entry.G hE pv k) (f := 61) (fn := Tryz.f61) (by kernel_rfl) rfl (by kernel_rfl) (by kernel_rfl) ((spec_l4Entry.run k a0).trans h) fun r hr => wk_view1 hr
/-! ### 105 loop.example/g00896/spec.l20Near -/
def spec_l20Near.F (a0 : Int) (a1 : Int) : Option (Bool) := bif (a0 == a1) then (some true) else (bif (a0 == 0) then (some true) else (some (a1 == 0)))
def spec_l20Near.C : Cal → Option CArm := fun c => match c with
  | _ => none
theorem spec_l20Near.run (a0 : Int) (a1 : Int) : runF envX (tabC spec_l20Near.C) (tabL 16 0 (fun _ => none)) Tryz.f105 [.t (.int .i64) a0, .t (.int .i64) a1] (viewR1 (.t .bool)) = spec_l20Near.F a0 a1 := by kernel_rfl
theorem spec_l20Near.G (hE : EnvOk Tryz.prog envX) (pv : Nat → Value) : ∀ cal A, spec_l20Near.C cal = some A → ArmOk Tryz.prog envX pv cal A := by
  intro cal A h
  unfold spec_l20Near.C at h
  cases h
theorem spec_l20Near.good (hE : EnvOk Tryz.prog envX) (pv : Nat → Value) (a0 : Int) (a1 : Int) {y : _} (h : spec_l20Near.F a0 a1 = some y) : Meets Tryz.prog envX pv (.f 105) (tvals [(.int .i64), (.int .i64)] (a0, a1, ())) (.t .bool y) :=
  fun_plain hE (spec_l20Near.G hE pv) (f := 105) (fn := Tryz.f105) (by kernel_rfl) rfl (by kernel_rfl) (by kernel_rfl) ((spec_l20Near.run a0 a1).trans h) fun r hr => wk_view1 hr
/-! ### 68 loop.example/g00896/spec.l20Agree -/
def spec_l20Agree.F (a0 : Date) (a1 : Date) : Option (Bool) := bif (a0.y == 0) then (some true) else (bif (a1.y == 0) then (some true) else (bif (a0.y == a1.y) then ((spec_l20Near.F a0.m a1.m).bind fun r1 => bif r1 then (bif (a0.m == 0) then (some true) else (bif (a1.m == 0) then (some true) else ((spec_l20Near.F a0.d a1.d).bind fun r2 => some r2))) else (some false)) else (some false)))
def spec_l20Agree.C : Cal → Option CArm := fun c => match c with
  | .f 105 => some (.p [(.int .i64), (.int .i64)] _ (fun x => spec_l20Near.F x.1 x.2.1) (fun r => (.t .bool r)))
  | _ => none
theorem spec_l20Agree.run (a0 : Date) (a1 : Date) : runF envX (tabC spec_l20Agree.C) (tabL 42 0 (fun _ => none)) Tryz.f68 [.t .date a0, .t .date a1] (viewR1 (.t .bool)) = spec_l20Agree.F a0 a1 := by kernel_rfl
theorem spec_l20Agree.G (hE : EnvOk Tryz.prog envX) (pv : Nat → Value) : ∀ cal A, spec_l20Agree.C cal = some A → ArmOk Tryz.prog envX pv cal A := by
  intro cal A h
  unfold spec_l20Agree.C at h
  split at h
  · cases h; exact fun x y hy => spec_l20Near.good hE pv x.1 x.2.1 hy
  · cases h
theorem spec_l20Agree.good (hE : EnvOk Tryz.prog envX) (pv : Nat → Value) (a0 : Date) (a1 : Date) {y : _} (h : spec_l20Agree.F a0 a1 = some y) : Meets Tryz.prog envX pv (.f 68) (tvals [.date, .date] (a0, a1, ())) (.t .bool y) :=
  fun_plain hE (spec_l20Agree.G hE pv) (f := 68) (fn := Tryz.f68) (by kernel_rfl) rfl (by kernel_rfl) (by kernel_rfl) ((spec_l20Agree.run a0 a1).trans h) fun r hr => wk_view1 hr
/-! ### 180 loop.example/g00896/spec.l2Fits -/
def spec_l2Fits.F (a0 : ByteArray) (a1 : ByteArray) : Option (Bool) := bif (beqS a0 a1) then (some true) else (bif ((a0.size : Int) == 1) then (bif decide (0 ≤ 0) then (bif decide (0 < (a0.size : Int)) then (bif decide (0 ≤ 0) then (bif decide (0 < (a1.size : Int)) then (bif ((bt a0 (0 : Int).toNat) == (bt a1 (0 : Int).toNat)) then (some true) else (bif ((a1.size : Int) == 1) then (bif decide (0 ≤ 0) then (bif decide (0 < (a0.size : Int)) then (bif decide (0 ≤ 0) then (bif decide (0 < (a1.size : Int)) then (some ((bt a0 (0 : Int).toNat) == (bt a1 (0 : Int).toNat))) else none) else none) else none) else none) else (some false))) else none) else none) else none) else none) else (bif ((a1.size : Int) == 1) then (bif decide (0 ≤ 0) then (bif decide (0 < (a0.size : Int)) then (bif decide (0 ≤ 0) then (bif decide (0 < (a1.size : Int)) then (some ((bt a0 (0 : Int).toNat) == (bt a1 (0 : Int).toNat))) else none) else none) else none) else none) else (some false)))
def spec_l2Fits.C : Cal → Option CArm := fun c => match c with
  | _ => none
theorem spec_l2Fits.run (a0 : ByteArray) (a1 : ByteArray) : runF envX (tabC spec_l2Fits.C) (tabL 32 0 (fun _ => none)) Tryz.f180 [.t .str a0, .t .str a1] (viewR1 (.t .bool)) = spec_l2Fits.F a0 a1 := by kernel_rfl
theorem spec_l2Fits.G (hE : EnvOk Tryz.prog envX) (pv : Nat → Value) : ∀ cal A, spec_l2Fits.C cal = some A → ArmOk Tryz.prog envX pv cal A := by
  intro cal A h
  unfold spec_l2Fits.C at h
  cases h
theorem spec_l2Fits.good (hE : EnvOk Tryz.prog envX) (pv : Nat → Value) (a0 : ByteArray) (a1 : ByteArray) {y : _} (h : spec_l2Fits.F a0 a1 = some y) : Meets Tryz.prog envX pv (.f 180) (tvals [.str, .str] (a0, a1, ())) (.t .bool y) :=
  fun_plain hE (spec_l2Fits.G hE pv) (f := 180) (fn := Tryz.f180) (by kernel_rfl) rfl (by kernel_rfl) (by kernel_rfl) ((spec_l2Fits.run a0 a1).trans h) fun r hr => wk_view1 hr
/-! ### 139 loop.example/g00896/spec.l2May -/
def spec_l2May.l0 : Nat → Name → Name → Int → Option (Sum Bool (Name × Name))
  | 0, _, _, _ => none
  | k + 1, x2, x3, x5 => bif (decide (x5 < (x2.given.length : Int))) then (bif (decide (x5 < (x3.given.length : Int))) then (bif decide (0 ≤ x5) then (bif decide (x5 < (x2.given.length : Int)) then (bif decide (0 ≤ x5) then (bif decide (x5 < (x3.given.length : Int)) then ((spec_l2Fits.F (x2.given.getD (x5 : Int).toNat (⟨#[]⟩ : ByteArray)) (x3.given.getD (x5 : Int).toNat (⟨#[]⟩ : ByteArray))).bind fun r1 => bif (!r1) then (some (.inl false)) else (spec_l2May.l0 k x2 x3 (IntKind.wrap .i64 (x5 + 1)))) else none) else none) else none) else none) else (some (.inr (x2, x3)))) else (some (.inr (x2, x3)))
def spec_l2May.F (k : Nat) (a0 : Name) (a1 : Name) : Option (Bool) := (spec_l2May.l0 k a0 a1 0).bind fun y2 => match y2 with | .inl z3 => some z3 | .inr z3 => bif (beqS z3.1.particle z3.2.particle) then (bif (beqS z3.1.family z3.2.family) then (some (beqS z3.1.suffix z3.2.suffix)) else (some false)) else (some false)
def spec_l2May.C (k : Nat) : Cal → Option CArm := fun c => match c with
  | .f 180 => some (.p [.str, .str] _ (fun x => spec_l2Fits.F x.1 x.2.1) (fun r => (.t .bool r)))
  | _ => none
def spec_l2May.sp0 : List Sp := [.boxT 2 0 .name, .boxT 3 4 .name, .t 5 (.int .i64)]
def spec_l2May.sp0_0 : List Sp := [.t 4 .bool]
def spec_l2May.sp0_1 : List Sp := [.boxT 2 0 .name, .boxT 3 4 .name]
def spec_l2May.A0 : LArm := .two spec_l2May.sp0 spec_l2May.sp0_0 spec_l2May.sp0_1 (Bool) (Name × Name) (fun k x => spec_l2May.l0 k x.1 x.2.1 x.2.2.1) .ret (.exit 0) (fun y => (y, ())) (fun x => x.1) (fun y => (y.1, y.2, ())) (fun x => (x.1, x.2.1))
def spec_l2May.L : Nat → Option LArm := fun b => match b with
  | 0 => some spec_l2May.A0
  | _ => none
theorem spec_l2May.run (k : Nat) (a0 : Name) (a1 : Name) : runF envX (tabC (spec_l2May.C k)) (tabL 51 k spec_l2May.L) Tryz.f139 [.t .name a0, .t .name a1] (viewR1 (.t .bool)) = spec_l2May.F k a0 a1 := by kernel_rfl
theorem spec_l2May.step0 (k : Nat) (x2 : Name) (x3 : Name) (x5 : Int) : runC envX (tabC (spec_l2May.C k)) (tabL 51 k spec_l2May.L) 0 (loopAt Tryz.f139 0) (stOf 51 spec_l2May.sp0 (x2, x3, x5, ())) (spec_l2May.A0.cont 51 k) = spec_l2May.l0 (k + 1) x2 x3 x5 := by kernel_rfl
theorem spec_l2May.G (hE : EnvOk Tryz.prog envX) (pv : Nat → Value) (k : Nat) : ∀ cal A, spec_l2May.C k cal = some A → ArmOk Tryz.prog envX pv cal A := by
  intro cal A h
  unfold spec_l2May.C at h
  split at h
  · cases h; exact fun x y hy => spec_l2Fits.good hE pv x.1 x.2.1 hy
  · cases h
theorem spec_l2May.good (hE : EnvOk Tryz.prog envX) (pv : Nat → Value) (k : Nat) (a0 : Name) (a1 : Name) {y : _} (h : spec_l2May.F k a0 a1 = some y) : Meets Tryz.prog envX pv (.f 139) (tvals [.name, .name] (a0, a1, ())) (.t .bool y) :=
  fun_loops hE (t := spec_l2May.C) k (fun k _ => spec_l2May.G hE pv k) (f := 139) (fn := Tryz.f139) (by kernel_rfl) rfl (by kernel_rfl) (by kernel_rfl) (lt := spec_l2May.L) (by kernel_rfl) (fun b A h => by
    unfold spec_l2May.L at h; split at h
    · cases h; exact ⟨by kernel_rfl, by kernel_rfl, by kernel_rfl, fun _ => rfl, fun _ => rfl, fun _ => rfl⟩
    · cases h) (fun b A h => by
    unfold spec_l2May.L at h; split at h
    · cases h; exact fun k x => spec_l2May.step0 k x.1 x.2.1 x.2.2.1
    · cases h) ((spec_l2May.run k a0 a1).trans h) fun r hr => wk_view1 hr
/-! ### 102 loop.example/g00896/spec.l2People -/
def spec_l2People.l0 : Nat → (List Name) → (List Name) → Int → Option (Sum Bool ((List Name) × (List Name)))
  | 0, _, _, _ => none
  | k + 1, x0, x1, x5 => bif (decide (x5 < (x0.length : Int))) then (bif (decide (x5 < (x1.length : Int))) then (bif decide (0 ≤ x5) then (bif decide (x5 < (x0.length : Int)) then (bif decide (0 ≤ x5) then (bif decide (x5 < (x1.length : Int)) then ((spec_l2May.F k (x0.getD (x5 : Int).toNat (dflt .name)) (x1.getD (x5 : Int).toNat (dflt .name))).bind fun r1 => bif (!r1) then (some (.inl false)) else (spec_l2People.l0 k x0 x1 (IntKind.wrap .i64 (x5 + 1)))) else none) else none) else none) else none) else (some (.inr (x0, x1)))) else (some (.inr (x0, x1)))
def spec_l2People.F (k : Nat) (a0 : List Name) (a1 : List Name) : Option (Bool) := (spec_l2People.l0 k a0 a1 0).bind fun y2 => match y2 with | .inl z3 => some z3 | .inr z3 => some ((z3.1.length : Int) == (z3.2.length : Int))
def spec_l2People.C (k : Nat) : Cal → Option CArm := fun c => match c with
  | .f 139 => some (.p [.name, .name] _ (fun x => spec_l2May.F k x.1 x.2.1) (fun r => (.t .bool r)))
  | _ => none
def spec_l2People.sp0 : List Sp := [.t 0 (.sl .name), .t 1 (.sl .name), .t 5 (.int .i64)]
def spec_l2People.sp0_0 : List Sp := [.t 4 .bool]
def spec_l2People.sp0_1 : List Sp := [.t 0 (.sl .name), .t 1 (.sl .name)]
def spec_l2People.A0 : LArm := .two spec_l2People.sp0 spec_l2People.sp0_0 spec_l2People.sp0_1 (Bool) ((List Name) × (List Name)) (fun k x => spec_l2People.l0 k x.1 x.2.1 x.2.2.1) .ret (.exit 0) (fun y => (y, ())) (fun x => x.1) (fun y => (y.1, y.2, ())) (fun x => (x.1, x.2.1))
def spec_l2People.L : Nat → Option LArm := fun b => match b with
  | 0 => some spec_l2People.A0
  | _ => none
theorem spec_l2People.run (k : Nat) (a0 : List Name) (a1 : List Name) : runF envX (tabC (spec_l2People.C k)) (tabL 33 k spec_l2People.L) Tryz.f102 [.t (.sl .name) a0, .t (.sl .name) a1] (viewR1 (.t .bool)) = spec_l2People.F k a0 a1 := by kernel_rfl
theorem spec_l2People.step0 (k : Nat) (x0 : List Name) (x1 : List Name) (x5 : Int) : runC envX (tabC (spec_l2People.C k)) (tabL 33 k spec_l2People.L) 0 (loopAt Tryz.f102 0) (stOf 33 spec_l2People.sp0 (x0, x1, x5, ())) (spec_l2People.A0.cont 33 k) = spec_l2People.l0 (k + 1) x0 x1 x5 := by kernel_rfl
theorem spec_l2People.G (hE : EnvOk Tryz.prog envX) (pv : Nat → Value) (k : Nat) : ∀ cal A, spec_l2People.C k cal = some A → ArmOk Tryz.prog envX pv cal A := by
  intro cal A h
  unfold spec_l2People.C at h
  split at h
  · cases h; exact fun x y hy => spec_l2May.good hE pv k x.1 x.2.1 hy
  · cases h
theorem spec_l2People.good (hE : EnvOk Tryz.prog envX) (pv : Nat → Value) (k : Nat) (a0 : List Name) (a1 : List Name) {y : _} (h : spec_l2People.F k a0 a1 = some y) : Meets Tryz.prog envX pv (.f 102) (tvals [(.sl .name), (.sl .name)] (a0, a1, ())) (.t .bool y) :=
  fun_loops hE (t := spec_l2People.C) k (fun k _ => spec_l2People.G hE pv k) (f := 102) (fn := Tryz.f102) (by kernel_rfl) rfl (by kernel_rfl) (by kernel_rfl) (lt := spec_l2People.L) (by kernel_rfl) (fun b A h => by
    unfold spec_l2People.L at h; split at h
    · cases h; exact ⟨by kernel_rfl, by kernel_rfl, by kernel_rfl, fun _ => rfl, fun _ => rfl, fun _ => rfl⟩
    · cases h) (fun b A h => by
    unfold spec_l2People.L at h; split at h
    · cases h; exact fun k x => spec_l2People.step0 k x.1 x.2.1 x.2.2.1
    · cases h) ((spec_l2People.run k a0 a1).trans h) fun r hr => wk_view1 hr
/-! ### 63 loop.example/g00896/spec.l20Alike -/
def spec_l20Alike.F (k : Nat) (a0 : Entry) (a1 : Entry) (a2 : Int) : Option (Bool) := bif (a0.kind == a1.kind) then ((spec_l2People.F k a0.authors a1.authors).bind fun r1 => bif r1 then ((spec_l20Agree.F a0.date a1.date).bind fun r2 => bif r2 then ((spec_l20Distance.F k a0.title a1.title).bind fun r3 => some (decide (r3 ≤ a2))) else (some false)) else (some false)) else (some false)
def spec_l20Alike.C (k : Nat) : Cal → Option CArm := fun c => match c with
  | .f 102 => some (.p [(.sl .name), (.sl .name)] _ (fun x => spec_l2People.F k x.1 x.2.1) (fun r => (.t .bool r)))
  | .f 68 => some (.p [.date, .date] _ (fun x => spec_l20Agree.F x.1 x.2.1) (fun r => (.t .bool r)))
  | .f 53 => some (.p [.str, .str] _ (fun x => spec_l20Distance.F k x.1 x.2.1) (fun r => (.t (.int .i64) r)))
  | _ => none
theorem spec_l20Alike.run (k : Nat) (a0 : Entry) (a1 : Entry) (a2 : Int) : runF envX (tabC (spec_l20Alike.C k)) (tabL 35 0 (fun _ => none)) Tryz.f63 [.t .entry a0, .t .entry a1, .t (.int .i64) a2] (viewR1 (.t .bool)) = spec_l20Alike.F k a0 a1 a2 := by kernel_rfl
theorem spec_l20Alike.G (hE : EnvOk Tryz.prog envX) (pv : Nat → Value) (k : Nat) : ∀ cal A, spec_l20Alike.C k cal = some A → ArmOk Tryz.prog envX pv cal A := by
  intro cal A h
  unfold spec_l20Alike.C at h
  split at h
  · cases h; exact fun x y hy => spec_l2People.good hE pv k x.1 x.2.1 hy
  · cases h; exact fun x y hy => spec_l20Agree.good hE pv x.1 x.2.1 hy
  · cases h; exact fun x y hy => spec_l20Distance.good hE pv k x.1 x.2.1 hy
  · cases h
theorem spec_l20Alike.good (hE : EnvOk Tryz.prog envX) (pv : Nat → Value) (k : Nat) (a0 : Entry) (a1 : Entry) (a2 : Int) {y : _} (h : spec_l20Alike.F k a0 a1 a2 = some y) : Meets Tryz.prog envX pv (.f 63) (tvals [.entry, .entry, (.int .i64)] (a0, a1, a2, ())) (.t .bool y) :=
  fun_plain hE (spec_l20Alike.G hE pv k) (f := 63) (fn := Tryz.f63) (by kernel_rfl) rfl (by kernel_rfl) (by kernel_rfl) ((spec_l20Alike.run k a0 a1 a2).trans h) fun r hr => wk_view1 hr
/-! ### 23 loop.example/g00896/spec.AreAlike -/
def spec_AreAlike.F (k : Nat) (a0 : Entry) (a1 : Entry) (a2 : Int) : Option (Bool × Bool) := (spec_l4Entry.F k a0).bind fun r1 => bif (!r1) then (some (false, false)) else ((spec_l4Entry.F k a1).bind fun r2 => bif (!r2) then (some (false, false)) else ((spec_l1In.F a2 0 40).bind fun r3 => bif (!r3) then (some (false, false)) else ((spec_l20Alike.F k a0 a1 a2).bind fun r4 => some (r4, true))))
def spec_AreAlike.C (k : Nat) : Cal → Option CArm := fun c => match c with
  | .f 61 => some (.p [.entry] _ (fun x => spec_l4Entry.F k x.1) (fun r => (.t .bool r)))
  | .f 62 => some (.p [(.int .i64), (.int .i64), (.int .i64)] _ (fun x => spec_l1In.F x.1 x.2.1 x.2.2.1) (fun r => (.t .bool r)))
  | .f 63 => some (.p [.entry, .entry, (.int .i64)] _ (fun x => spec_l20Alike.F k x.1 x.2.1 x.2.2.1) (fun r => (.t .bool r)))
  | _ => none
theorem spec_AreAlike.run (k : Nat) (a0 : Entry) (a1 : Entry) (a2 : Int) : runF envX (tabC (spec_AreAlike.C k)) (tabL 25 0 (fun _ => none)) Tryz.f23 [.t .entry a0, .t .entry a1, .t (.int .i64) a2] (viewR2 (.t .bool) (.t .bool)) = spec_AreAlike.F k a0 a1 a2 := by kernel_rfl
theorem spec_AreAlike.G (hE : EnvOk Tryz.prog envX) (pv : Nat → Value) (k : Nat) : ∀ cal A, spec_AreAlike.C k cal = some A → ArmOk Tryz.prog envX pv cal A := by
  intro cal A h
  unfold spec_AreAlike.C at h
  split at h
  · cases h; exact fun x y hy => spec_l4Entry.good hE pv k x.1 hy
  · cases h; exact fun x y hy => spec_l1In.good hE pv x.1 x.2.1 x.2.2.1 hy
  · cases h; exact fun x y hy => spec_l20Alike.good hE pv k x.1 x.2.1 x.2.2.1 hy
  · cases h
theorem spec_AreAlike.good (hE : EnvOk Tryz.prog envX) (pv : Nat → Value) (k : Nat) (a0 : Entry) (a1 : Entry) (a2 : Int) {y : _} (h : spec_AreAlike.F k a0 a1 a2 = some y) : Meets Tryz.prog envX pv (.f 23) (tvals [.entry, .entry, (.int .i64)] (a0, a1, a2, ())) (.tup [.t .bool y.1, .t .bool y.2]) :=
  fun_plain hE (spec_AreAlike.G hE pv k) (f := 23) (fn := Tryz.f23) (by kernel_rfl) rfl (by kernel_rfl) (by kernel_rfl) ((spec_AreAlike.run k a0 a1 a2).trans h) fun r hr => wk_view2 hr
/-! ### 24 loop.example/g00896/spec.DrawDatesAgree -/
def spec_DrawDatesAgree.F (a0 : List Int) : Option (Date × Date) := (spec_l1Cur_anyDate.F (⟨a0, 0, 0⟩ : Cur)).bind fun r1 => (spec_l1Cur_pick.F r1.1 5).bind fun r2 => bif (r2.2 == 0) then (some (r1.2, (⟨r1.2.y, r1.2.m, 0, r1.2.c⟩ : Date))) else (bif (r2.2 == 1) then (some (r1.2, (⟨r1.2.y, 0, 0, r1.2.c⟩ : Date))) else (bif (r2.2 == 2) then ((spec_l1Cur_anyDate.F r2.1).bind fun r3 => some (r1.2, r3.2)) else (bif (r2.2 == 3) then (some (r1.2, (⟨r1.2.y, r1.2.m, r1.2.d, (!r1.2.c)⟩ : Date))) else (some (r1.2, r1.2)))))
def spec_DrawDatesAgree.C : Cal → Option CArm := fun c => match c with
  | .f 64 => some (.m (.bx .cur) [] _ (fun x0 x => spec_l1Cur_anyDate.F x0) (fun r => .kep (.bx .cur r.1) (.t .date r.2)))
  | .f 57 => some (.m (.bx .cur) [(.int .i64)] _ (fun x0 x => spec_l1Cur_pick.F x0 x.1) (fun r => .kep (.bx .cur r.1) (.t (.int .i64) r.2)))
  | _ => none
theorem spec_DrawDatesAgree.run (a0 : List Int) : runF envX (tabC spec_DrawDatesAgree.C) (tabL 34 0 (fun _ => none)) Tryz.f24 [.t (.sl (.int .u8)) a0] (viewR2 (.t .date) (.t .date)) = spec_DrawDatesAgree.F a0 := by kernel_rfl
theorem spec_DrawDatesAgree.G (hE : EnvOk Tryz.prog envX) (pv : Nat → Value) : ∀ cal A, spec_DrawDatesAgree.C cal = some A → ArmOk Tryz.prog envX pv cal A := by
  intro cal A h
  unfold spec_DrawDatesAgree.C at h
  split at h
  · cases h; exact ⟨_, rfl, fun x0 x y hy => spec_l1Cur_anyDate.good hE pv x0 hy⟩
  · cases h; exact ⟨_, rfl, fun x0 x y hy => spec_l1Cur_pick.good hE pv x0 x.1 hy⟩
  · cases h
theorem spec_DrawDatesAgree.good (hE : EnvOk Tryz.prog envX) (pv : Nat → Value) (a0 : List Int) {y : _} (h : spec_DrawDatesAgree.F a0 = some y) : Meets Tryz.prog envX pv (.f 24) (tvals [(.sl (.int .u8))] (a0, ())) (.tup [.t .date y.1, .t .date y.2]) :=
  fun_plain hE (spec_DrawDatesAgree.G hE pv) (f := 24) (fn := Tryz.f24) (by kernel_rfl) rfl (by kernel_rfl) (by kernel_rfl) ((spec_DrawDatesAgree.run a0).trans h) fun r hr => wk_view2 hr
/-! ### 25 loop.example/g00896/impl.DatesAgree -/
def impl_DatesAgree.F (a0 : Date) (a1 : Date) : Option (Bool × Bool) := (impl_IsValidDate.F a0).bind fun r1 => bif (!r1) then (some (false, false)) else ((impl_IsValidDate.F a1).bind fun r2 => bif (!r2) then (some (false, false)) else ((impl_datesAgree.F a0 a1).bind fun r3 => some (r3, true)))
def impl_DatesAgree.C : Cal → Option CArm := fun c => match c with
  | .f 65 => some (.p [.date] _ (fun x => impl_IsValidDate.F x.1) (fun r => (.t .bool r)))
  | .f 66 => some (.p [.date, .date] _ (fun x => impl_datesAgree.F x.1 x.2.1) (fun r => (.t .bool r)))
  | _ => none
theorem impl_DatesAgree.run (a0 : Date) (a1 : Date) : runF envX (tabC impl_DatesAgree.C) (tabL 17 0 (fun _ => none)) Tryz.f25 [.t .date a0, .t .date a1] (viewR2 (.t .bool) (.t .bool)) = impl_DatesAgree.F a0 a1 := by kernel_rfl
theorem impl_DatesAgree.G (hE : EnvOk Tryz.prog envX) (pv : Nat → Value) : ∀ cal A, impl_DatesAgree.C cal = some A → ArmOk Tryz.prog envX pv cal A := by
  intro cal A h
  unfold impl_DatesAgree.C at h
  split at h
  · cases h; exact fun x y hy => impl_IsValidDate.good hE pv x.1 hy
  · cases h; exact fun x y hy => impl_datesAgree.good hE pv x.1 x.2.1 hy
  · cases h
theorem impl_DatesAgree.good (hE : EnvOk Tryz.prog envX) (pv : Nat → Value) (a0 : Date) (a1 : Date) {y : _} (h : impl_DatesAgree.F a0 a1 = some y) : Meets Tryz.prog envX pv (.f 25) (tvals [.date, .date] (a0, a1, ())) (.tup [.t .bool y.1, .t .bool y.2]) :=
  fun_plain hE (impl_DatesAgree.G hE pv) (f := 25) (fn := Tryz.f25) (by kernel_rfl) rfl (by kernel_rfl) (by kernel_rfl) ((impl_DatesAgree.run a0 a1).trans h) fun r hr => wk_view2 hr
/-! ### 26 loop.example/g00896/spec.DatesAgree -/
def spec_DatesAgree.F (a0 : Date) (a1 : Date) : Option (Bool × Bool) := (spec_l3Good.F a0).bind fun r1 => bif (!r1) then (some (false, false)) else ((spec_l3Good.F a1).bind fun r2 => bif (!r2) then (some (false, false)) else ((spec_l20Agree.F a0 a1).bind fun r3 => some (r3, true)))
def spec_DatesAgree.C : Cal → Option CArm := fun c => match c with
  | .f 67 => some (.p [.date] _ (fun x => spec_l3Good.F x.1) (fun r => (.t .bool r)))
  | .f 68 => some (.p [.date, .date] _ (fun x => spec_l20Agree.F x.1 x.2.1) (fun r => (.t .bool r)))
  | _ => none
theorem spec_DatesAgree.run (a0 : Date) (a1 : Date) : runF envX (tabC spec_DatesAgree.C) (tabL 17 0 (fun _ => none)) Tryz.f26 [.t .date a0, .t .date a1] (viewR2 (.t .bool) (.t .bool)) = spec_DatesAgree.F a0 a1 := by kernel_rfl
theorem spec_DatesAgree.G (hE : EnvOk Tryz.prog envX) (pv : Nat → Value) : ∀ cal A, spec_DatesAgree.C cal = some A → ArmOk Tryz.prog envX pv cal A := by
  intro cal A h
  unfold spec_DatesAgree.C at h
  split at h
  · cases h; exact fun x y hy => spec_l3Good.good hE pv x.1 hy
  · cases h; exact fun x y hy => spec_l20Agree.good hE pv x.1 x.2.1 hy
  · cases h
theorem spec_DatesAgree.good (hE : EnvOk Tryz.prog envX) (pv : Nat → Value) (a0 : Date) (a1 : Date) {y : _} (h : spec_DatesAgree.F a0 a1 = some y) : Meets Tryz.prog envX pv (.f 26) (tvals [.date, .date] (a0, a1, ())) (.tup [.t .bool y.1, .t .bool y.2]) :=
  fun_plain hE (spec_DatesAgree.G hE pv) (f := 26) (fn := Tryz.f26) (by kernel_rfl) rfl (by kernel_rfl) (by kernel_rfl) ((spec_DatesAgree.run a0 a1).trans h) fun r hr => wk_view2 hr
/-! ### 4 loop.example/g00896/laws.FnDistances -/
def laws_FnDistances.F (k : Nat) (a0 : List Int) : Option (Bool) := (laws_rBig.F a0).bind fun r1 => bif r1 then (some true) else ((spec_DrawTextDistance.F k a0).bind fun r2 => (impl_TextDistance.F k r2.1 r2.2).bind fun r3 => (impl_TextDistance.F k r2.2 r2.1).bind fun r4 => (spec_TextDistance.F k r2.1 r2.2).bind fun r5 => bif (r3.1 != r5.1) then (some false) else (bif (!(r3.2 == r5.2)) then (some false) else (bif (!(r4.2 == r5.2)) then (some false) else (bif (r3.1 != r4.1) then (some false) else (bif r3.2 then ((impl_TextDistance.F k r2.1 (⟨#[120]⟩ : ByteArray)).bind fun r6 => (impl_TextDistance.F k (⟨#[120]⟩ : ByteArray) r2.2).bind fun r7 => (impl_TextDistance.F k r2.1 r2.1).bind fun r8 => bif (!r6.2) then (some false) else (bif (!r7.2) then (some false) else (bif (!r8.2) then (some false) else (bif (decide (r3.1 > (IntKind.wrap .i64 (r6.1 + r7.1)))) then (some false) else (bif (r8.1 != 0) then (some false) else ((spec_DrawAreAlike.F k a0).bind fun r9 => (impl_AreAlike.F k r9.1 r9.2.1 r9.2.2).bind fun r10 => (spec_AreAlike.F k r9.1 r9.2.1 r9.2.2).bind fun r11 => bif (!(r10.1 == r11.1)) then (some false) else (bif (!(r10.2 == r11.2)) then (some false) else (bif r10.2 then ((impl_AreAlike.F k r9.1 r9.1 0).bind fun r12 => (impl_AreAlike.F k r9.2.1 r9.1 r9.2.2).bind fun r13 => bif (!r12.1) then (some false) else (bif (!r12.2) then (some false) else (bif (!r13.2) then (some false) else (bif (!(r13.1 == r10.1)) then (some false) else ((spec_DrawDatesAgree.F a0).bind fun r14 => (impl_DatesAgree.F r14.1 r14.2).bind fun r15 => (spec_DatesAgree.F r14.1 r14.2).bind fun r16 => bif (r15.1 == r16.1) then (some (r15.2 == r16.2)) else (some false)))))) else ((spec_DrawDatesAgree.F a0).bind fun r17 => (impl_DatesAgree.F r17.1 r17.2).bind fun r18 => (spec_DatesAgree.F r17.1 r17.2).bind fun r19 => bif (r18.1 == r19.1) then (some (r18.2 == r19.2)) else (some false)))))))))) else ((spec_DrawAreAlike.F k a0).bind fun r20 => (impl_AreAlike.F k r20.1 r20.2.1 r20.2.2).bind fun r21 => (spec_AreAlike.F k r20.1 r20.2.1 r20.2.2).bind fun r22 => bif (!(r21.1 == r22.1)) then (some false) else (bif (!(r21.2 == r22.2)) then (some false) else (bif r21.2 then ((impl_AreAlike.F k r20.1 r20.1 0).bind fun r23 => (impl_AreAlike.F k r20.2.1 r20.1 r20.2.2).bind fun r24 => bif (!r23.1) then (some false) else (bif (!r23.2) then (some false) else (bif (!r24.2) then (some false) else (bif (!(r24.1 == r21.1)) then (some false) else ((spec_DrawDatesAgree.F a0).bind fun r25 => (impl_DatesAgree.F r25.1 r25.2).bind fun r26 => (spec_DatesAgree.F r25.1 r25.2).bind fun r27 => bif (r26.1 == r27.1) then (some (r26.2 == r27.2)) else (some false)))))) else ((spec_DrawDatesAgree.F a0).bind fun r28 => (impl_DatesAgree.F r28.1 r28.2).bind fun r29 => (spec_DatesAgree.F r28.1 r28.2).bind fun r30 => bif (r29.1 == r30.1) then (some (r29.2 == r30.2)) else (some false))))))))))
def laws_FnDistances.C (k : Nat) : Cal → Option CArm := fun c => match c with
  | .f 6 => some (.p [(.sl (.int .u8))] _ (fun x => laws_rBig.F x.1) (fun r => (.t .bool r)))
  | .f 18 => some (.p [(.sl (.int .u8))] _ (fun x => spec_DrawTextDistance.F k x.1) (fun r => (.tup [.t .str r.1, .t .str r.2])))
  | .f 19 => some (.p [.str, .str] _ (fun x => impl_TextDistance.F k x.1 x.2.1) (fun r => (.tup [.t (.int .i64) r.1, .t .bool r.2])))
  | .f 20 => some (.p [.str, .str] _ (fun x => spec_TextDistance.F k x.1 x.2.1) (fun r => (.tup [.t (.int .i64) r.1, .t .bool r.2])))
  | .f 21 => some (.p [(.sl (.int .u8))] _ (fun x => spec_DrawAreAlike.F k x.1) (fun r => (.tup [.t .entry r.1, .t .entry r.2.1, .t (.int .i64) r.2.2])))
  | .f 22 => some (.p [.entry, .entry, (.int .i64)] _ (fun x => impl_AreAlike.F k x.1 x.2.1 x.2.2.1) (fun r => (.tup [.t .bool r.1, .t .bool r.2])))
  | .f 23 => some (.p [.entry, .entry, (.int .i64)] _ (fun x => spec_AreAlike.F k x.1 x.2.1 x.2.2.1) (fun r => (.tup [.t .bool r.1, .t .bool r.2])))
  | .f 24 => some (.p [(.sl (.int .u8))] _ (fun x => spec_DrawDatesAgree.F x.1) (fun r => (.tup [.t .date r.1, .t .date r.2])))
  | .f 25 => some (.p [.date, .date] _ (fun x => impl_DatesAgree.F x.1 x.2.1) (fun r => (.tup [.t .bool r.1, .t .bool r.2])))
  | .f 26 => some (.p [.date, .date] _ (fun x => spec_DatesAgree.F x.1 x.2.1) (fun r => (.tup [.t .bool r.1, .t .bool r.2])))
  | _ => none
theorem laws_FnDistances.run (k : Nat) (a0 : List Int) : runF envX (tabC (laws_FnDistances.C k)) (tabL 197 0 (fun _ => none)) Tryz.f4 [.t (.sl (.int .u8)) a0] (viewR1 (.t .bool)) = laws_FnDistances.F k a0 := by kernel_rfl
theorem laws_FnDistances.G (hE : EnvOk Tryz.prog envX) (pv : Nat → Value) (k : Nat) : ∀ cal A, laws_FnDistances.C k cal = some A → ArmOk Tryz.prog envX pv cal A := by
  intro cal A h
  unfold laws_FnDistances.C at h
  split at h
  · cases h; exact fun x y hy => laws_rBig.good hE pv x.1 hy
  · cases h; exact fun x y hy => spec_DrawTextDistance.good hE pv k x.1 hy
  · cases h; exact fun x y hy => impl_TextDistance.good hE pv k x.1 x.2.1 hy
  · cases h; exact fun x y hy => spec_TextDistance.good hE pv k x.1 x.2.1 hy
  · cases h; exact fun x y hy => spec_DrawAreAlike.good hE pv k x.1 hy
  · cases h; exact fun x y hy => impl_AreAlike.good hE pv k x.1 x.2.1 x.2.2.1 hy
  · cases h; exact fun x y hy => spec_AreAlike.good hE pv k x.1 x.2.1 x.2.2.1 hy
  · cases h; exact fun x y hy => spec_DrawDatesAgree.good hE pv x.1 hy
  · cases h; exact fun x y hy => impl_DatesAgree.good hE pv x.1 x.2.1 hy
  · cases h; exact fun x y hy => spec_DatesAgree.good hE pv x.1 x.2.1 hy
  · cases h
theorem laws_FnDistances.good (hE : EnvOk Tryz.prog envX) (pv : Nat → Value) (k : Nat) (a0 : List Int) {y : _} (h : laws_FnDistances.F k a0 = some y) : Meets Tryz.prog envX pv (.f 4) (tvals [(.sl (.int .u8))] (a0, ())) (.t .bool y) :=
  fun_plain hE (laws_FnDistances.G hE pv k) (f := 4) (fn := Tryz.f4) (by kernel_rfl) rfl (by kernel_rfl) (by kernel_rfl) ((laws_FnDistances.run k a0).trans h) fun r hr => wk_view1 hr
end Go.Proofs.YtckcichnmiifkaaGreatDoor
end
