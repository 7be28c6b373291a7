/- Library functions: their contracts, proved once for any program, as what a callee keeps to. By an AI agent's session. -/
import Derived.Test.YtgihehbpbjejlaaGreatDoorMif3
import Derived.Shelf.Vars
import Derived.Below
import Derived.Lib.IndexMore
import Derived.Lib.Split
import Derived.Lib.SplitLaws
import Derived.Lib.Repeat
import Derived.Deep.Draws
import Derived.Lib.Join
import Derived.Lib.SlTrimSet
import Derived.Lib.IndexAny
import Derived.Lib.TrimByte
import Derived.Laws.AppendOwn
import Derived.Lib.ItoaNum
import Derived.Sort.Grow
import Derived.Test.YtgihehbpbjejlaaGreatDoorMif4
import Derived.Test.YtgihehbpbjejlaaGreatDoorProg
import Derived.KernelRfl
section
namespace Go.Gx
open Go.RowKit Go.Lib
set_option linter.unusedVariables false
theorem ext_goes {P : Program} {f : FuncId} {fn : Func} {c : Code} (hf : P.funcs[f]? = some fn) (hb : fn.body = some c) (hname : (fn.name == "runtime.NumGoroutine") = false) {args : Array Value} {w : World} {R : Value → World → Prop}
    (h : Calls P f args w fun e w' => ∃ v, e = .returned v ∧ R v w') : Goes P f args w R := by
  have hcall : (callFunc f args).run P w = .ok (.enter f args) w := by
    have hn' : fn.name ≠ "runtime.NumGoroutine" := by simpa using hname
    simp [callFunc, hf, hn', hb]
  unfold Goes
  rw [hcall]
  exact h
theorem args_nil {S : Nat → Prop} {w : World} {pv : Nat → Value} {vs : List Value} (h : ArgsOk S w pv [] vs) : vs = [] := List.eq_nil_of_length_eq_zero h.1
theorem args_cons {S : Nat → Prop} {w : World} {pv : Nat → Value} {a : AV} {al : List AV} {vs : List Value} (h : ArgsOk S w pv (a :: al) vs) : ∃ cs vs', AR S w (fun _ => none) (fun _ => none) pv a cs ∧ vs = valOf a cs :: vs' ∧ ArgsOk S w pv al vs' := by
  match vs, h with
  | [], h => cases h.1
  | v :: vs', ⟨h1, h2⟩ =>
    obtain ⟨cs, hc, rfl⟩ := h2 0 a v rfl rfl
    exact ⟨cs, vs', hc, rfl, by simpa using h1, fun i b u hb hu => h2 (i + 1) b u (by simpa using hb) (by simpa using hu)⟩
theorem args_str {S : Nat → Prop} {w : World} {pv : Nat → Value} {s : ByteArray} {al : List AV} {vs : List Value} (h : ArgsOk S w pv (.t .str s :: al) vs) : ∃ vs', vs = .string s :: vs' ∧ ArgsOk S w pv al vs' := by
  obtain ⟨cs, vs', hc, rfl, h'⟩ := args_cons h
  cases hc with | t _ _ _ hc => cases hc; exact ⟨vs', rfl, h'⟩
theorem args_int {S : Nat → Prop} {w : World} {pv : Nat → Value} {k : IntKind} {n : Int} {al : List AV} {vs : List Value} (h : ArgsOk S w pv (.t (.int k) n :: al) vs) : ∃ vs', vs = .int k n :: vs' ∧ ArgsOk S w pv al vs' := by
  obtain ⟨cs, vs', hc, rfl, h'⟩ := args_cons h
  cases hc with | t _ _ _ hc => cases hc; exact ⟨vs', rfl, h'⟩
section
variable {P : Program} {E : Env} {pv : Nat → Value} {f : FuncId} {fn : Func} {c : Code}
/-- An answer that leads nowhere. -/
theorem ext_flat (hf : P.funcs[f]? = some fn) (hb : fn.body = some c) (hname : (fn.name == "runtime.NumGoroutine") = false) {args : List AV} {τ : Ty} {y : den τ} {v : Value} (hy : ∀ S w, ∃ cs, CR S w τ y cs ∧ v = valOf (.t τ y) cs)
    (h : ∀ S w vs, (∀ b, S b → b < w.heap.size) → GlOk E pv S w → ArgsOk S w pv args vs → Calls P f vs.toArray w fun e w' => e = .returned v ∧ Below w.heap.size w w') : Meets P E pv (.f f) args (.t τ y) := by
  intro S w vs hS hgl hargs
  refine ext_goes hf hb hname ((h S w vs hS hgl hargs).mono fun e w' ⟨he, hbl⟩ => ⟨v, he, hbl, S, fun b hb => hb, fun b hb => .inl hb, ?_⟩)
  obtain ⟨cs, hc, rfl⟩ := hy S w'
  exact ⟨none, .plain _ _ (.t _ _ _ hc)⟩
/-- New texts in a block of their own. -/
theorem ext_strs (hf : P.funcs[f]? = some fn) (hb : fn.body = some c) (hname : (fn.name == "runtime.NumGoroutine") = false) {args : List AV} {te : Nat} {xs : List ByteArray} (hx : xs.length ≤ maxLen)
    (h : ∀ S w vs, (∀ b, S b → b < w.heap.size) → GlOk E pv S w → ArgsOk S w pv args vs → Calls P f vs.toArray w fun e w' => e = .returned (.slice (some ⟨w.heap.size, 0, none⟩) xs.length xs.length) ∧ w' = w.alloc (.cells (xs.map Value.string).toArray te)) : Meets P E pv (.f f) args (.fr te .str xs) := by
  intro S w vs hS hgl hargs
  refine ext_goes hf hb hname ((h S w vs hS hgl hargs).mono fun e w' ⟨he, hw⟩ => ⟨_, he, ?_⟩)
  subst hw
  refine ⟨(Below.refl _ w).alloc (Nat.le_refl _) _, S, fun b hb => hb, fun b hb => .inl hb, some w.heap.size, .fr te .str xs w.heap.size xs.length (Nat.le_refl _) (fun hs => absurd (hS _ hs) (Nat.lt_irrefl _)) ⟨(xs.map Value.string).toArray, (0, 0), ?_, ?_, Nat.le_refl _, hx, fun _ => rfl, .inl (Nat.le_refl _), by decide, fun i hi => ⟨[.string xs[i]], .str _, fun j v hj => ?_⟩⟩⟩
  · show (w.heap.push _)[w.heap.size]? = _
    simp
  · simp [nc]
  · cases j with
    | zero =>
      simp only [List.getElem?_cons_zero, Option.some.injEq] at hj
      subst hj
      simp [nc, hi]
    | succ j => simp at hj
end
/-! ### The functions -/
def xContains (s sub : ByteArray) : Option Bool := bif Nat.ble s.size 4294967280 then some (Lib.contains s.data.toList sub.data.toList) else none
theorem ext_contains {P : Program} {E : Env} {pv : Nat → Value} {f : FuncId} {fn : Func} {c : Code} (hf : P.funcs[f]? = some fn) (hb : fn.body = some c) (hname : (fn.name == "runtime.NumGoroutine") = false) {mx : Nat} (hmx : E.gi mx = true)
    (hc : ∀ (s sub : ByteArray) (m : Int) (w : World), s.size < 4294967281 → w.cell? ⟨mx, 0, none⟩ = some (.int .i64 m) → Calls P f #[.string s, .string sub] w fun e w' => e = .returned (.bool (Lib.contains s.data.toList sub.data.toList)) ∧ w' = w)
    {s sub : ByteArray} {y : Bool} (h : xContains s sub = some y) : Meets P E pv (.f f) (tvals [.str, .str] (s, sub, ())) (.t .bool y) := by
  unfold xContains at h
  cases hs : Nat.ble s.size 4294967280 with
  | false => rw [hs] at h; cases h
  | true =>
    rw [hs] at h
    cases h
    refine ext_flat hf hb hname (v := .bool _) (fun S w => ⟨_, .bool _, rfl⟩) fun S w vs hS hgl ha => ?_
    obtain ⟨_, rfl, ha1⟩ := args_str ha
    obtain ⟨_, rfl, ha2⟩ := args_str ha1
    obtain rfl := args_nil ha2
    obtain ⟨_, m, hm⟩ := hgl.2.1 mx hmx
    refine (hc s sub m w (Nat.lt_succ_of_le (Nat.le_of_ble_eq_true hs)) hm).mono fun e w' ⟨he, hw⟩ => ⟨he, ?_⟩
    subst hw
    exact Below.refl _ _
def xSplit (s sep : ByteArray) : Option (List ByteArray) := bif Nat.ble s.size 4294967280 && Nat.ble 1 sep.size then some (Lib.splitB sep 0 (Lib.countB s sep) s) else none
theorem ext_split {P : Program} {E : Env} {pv : Nat → Value} {f : FuncId} {fn : Func} {c : Code} (hf : P.funcs[f]? = some fn) (hb : fn.body = some c) (hname : (fn.name == "runtime.NumGoroutine") = false) {mx : Nat} (hmx : E.gi mx = true) {te : Nat}
    (hc : ∀ (s sep : ByteArray) (m : Int) (w : World), s.size < 4294967281 → w.cell? ⟨mx, 0, none⟩ = some (.int .i64 m) → 1 ≤ sep.size → Calls P f #[.string s, .string sep] w fun e w' =>
      e = .returned (.slice (some ⟨w.heap.size, 0, none⟩) (Lib.countB s sep + 1) (Lib.countB s sep + 1)) ∧ w' = w.alloc (.cells ((Lib.splitB sep 0 (Lib.countB s sep) s).map Value.string).toArray te))
    {s sep : ByteArray} {y : List ByteArray} (h : xSplit s sep = some y) : Meets P E pv (.f f) (tvals [.str, .str] (s, sep, ())) (.fr te .str y) := by
  unfold xSplit at h
  cases hs : Nat.ble s.size 4294967280 && Nat.ble 1 sep.size with
  | false => rw [hs] at h; cases h
  | true =>
    rw [hs] at h
    cases h
    rw [Bool.and_eq_true] at hs
    have h1 := Nat.le_of_ble_eq_true hs.1
    have h2 := Nat.le_of_ble_eq_true hs.2
    have hl := Lib.splitB_all sep h2 0 _ s rfl
    have hle := Lib.countB_le sep h2 s.size s (Nat.le_refl _)
    have hm : maxLen = 9223372036854775807 := by decide
    refine ext_strs hf hb hname (by rw [hl, hm]; omega) fun S w vs hS hgl ha => ?_
    obtain ⟨_, rfl, ha1⟩ := args_str ha
    obtain ⟨_, rfl, ha2⟩ := args_str ha1
    obtain rfl := args_nil ha2
    obtain ⟨_, m, hm⟩ := hgl.2.1 mx hmx
    rw [hl]
    exact hc s sep m w (by omega) hm h2
def xRepeat (s : ByteArray) (n : Int) : Option ByteArray := bif decide (0 ≤ n) && (decide (n ≤ 9223372036854775807) && Nat.ble (s.size * n.toNat) 140737488355328) then some ⟨(Lib.repeatL s.data.toList n.toNat).toArray⟩ else none
theorem ext_repeat {P : Program} {E : Env} {pv : Nat → Value} {f : FuncId} {fn : Func} {c : Code} (hf : P.funcs[f]? = some fn) (hb : fn.body = some c) (hname : (fn.name == "runtime.NumGoroutine") = false)
    (hc : ∀ (s : ByteArray) (c : Nat) (w : World), c ≤ 9223372036854775807 → s.size * c ≤ 140737488355328 → Calls P f #[.string s, .int .i64 c] w fun e w' => e = .returned (.string ⟨(Lib.repeatL s.data.toList c).toArray⟩) ∧ Below w.heap.size w w')
    {s : ByteArray} {n : Int} {y : ByteArray} (h : xRepeat s n = some y) : Meets P E pv (.f f) (tvals [.str, .int .i64] (s, n, ())) (.t .str y) := by
  unfold xRepeat at h
  cases hs : decide (0 ≤ n) && (decide (n ≤ 9223372036854775807) && Nat.ble (s.size * n.toNat) 140737488355328) with
  | false => rw [hs] at h; cases h
  | true =>
    rw [hs] at h
    cases h
    simp only [Bool.and_eq_true, decide_eq_true_eq] at hs
    refine ext_flat hf hb hname (v := .string _) (fun S w => ⟨_, .str _, rfl⟩) fun S w vs hS hgl ha => ?_
    obtain ⟨_, rfl, ha1⟩ := args_str ha
    obtain ⟨_, rfl, ha2⟩ := args_int ha1
    obtain rfl := args_nil ha2
    have e : n = (n.toNat : Int) := by omega
    have := hc s n.toNat w (by omega) (Nat.le_of_ble_eq_true hs.2.2)
    rw [← e] at this
    exact this
def ascii (s : ByteArray) : Bool := s.data.toList.all fun b => decide (b.toNat < 128)
theorem ascii_at {s : ByteArray} (h : ascii s = true) : ∀ (j : Nat) b, s.data.toList[j]? = some b → b.toNat < 128 := fun j b hj => by
  unfold ascii at h
  rw [List.all_eq_true] at h
  exact of_decide_eq_true (h b (List.mem_of_getElem? hj))
def xTrim (s cs : ByteArray) : Option ByteArray := bif Nat.ble s.size 9223372036854775807 && (Nat.ble cs.size 4294967280 && ascii cs) then some ⟨(Lib.trimS s.data.toList cs.data.toList).toArray⟩ else none
theorem ext_trim {P : Program} {E : Env} {pv : Nat → Value} {f : FuncId} {fn : Func} {c : Code} (hf : P.funcs[f]? = some fn) (hb : fn.body = some c) (hname : (fn.name == "runtime.NumGoroutine") = false)
    (hc : ∀ (s cs : ByteArray) (w : World), s.size ≤ 9223372036854775807 → cs.size < 4294967281 → (∀ (j : Nat) b, cs.data.toList[j]? = some b → b.toNat < 128) → Calls P f #[.string s, .string cs] w fun e w' => e = .returned (.string ⟨(Lib.trimS s.data.toList cs.data.toList).toArray⟩) ∧ Below w.heap.size w w')
    {s cs : ByteArray} {y : ByteArray} (h : xTrim s cs = some y) : Meets P E pv (.f f) (tvals [.str, .str] (s, cs, ())) (.t .str y) := by
  unfold xTrim at h
  cases hs : Nat.ble s.size 9223372036854775807 && (Nat.ble cs.size 4294967280 && ascii cs) with
  | false => rw [hs] at h; cases h
  | true =>
    rw [hs] at h
    cases h
    simp only [Bool.and_eq_true] at hs
    refine ext_flat hf hb hname (v := .string _) (fun S w => ⟨_, .str _, rfl⟩) fun S w vs hS hgl ha => ?_
    obtain ⟨_, rfl, ha1⟩ := args_str ha
    obtain ⟨_, rfl, ha2⟩ := args_str ha1
    obtain rfl := args_nil ha2
    exact hc s cs w (Nat.le_of_ble_eq_true hs.1) (Nat.lt_succ_of_le (Nat.le_of_ble_eq_true hs.2.1)) (ascii_at hs.2.2)
def xIndexAny (s cs : ByteArray) : Option Int := bif Nat.ble s.size 4294967280 && (Nat.ble cs.size 4294967280 && (ascii s && ascii cs)) then some (Lib.indexAny s.data.toList cs.data.toList) else none
theorem ext_indexAny {P : Program} {E : Env} {pv : Nat → Value} {f : FuncId} {fn : Func} {c : Code} (hf : P.funcs[f]? = some fn) (hb : fn.body = some c) (hname : (fn.name == "runtime.NumGoroutine") = false)
    (hc : ∀ (s cs : ByteArray) (w : World), s.size < 4294967281 → cs.size < 4294967281 → (∀ (j : Nat) b, s.data.toList[j]? = some b → b.toNat < 128) → (∀ (j : Nat) b, cs.data.toList[j]? = some b → b.toNat < 128) → Calls P f #[.string s, .string cs] w fun e w' => e = .returned (.int .i64 (Lib.indexAny s.data.toList cs.data.toList)) ∧ Below w.heap.size w w')
    {s cs : ByteArray} {y : Int} (h : xIndexAny s cs = some y) : Meets P E pv (.f f) (tvals [.str, .str] (s, cs, ())) (.t (.int .i64) y) := by
  unfold xIndexAny at h
  cases hs : Nat.ble s.size 4294967280 && (Nat.ble cs.size 4294967280 && (ascii s && ascii cs)) with
  | false => rw [hs] at h; cases h
  | true =>
    rw [hs] at h
    cases h
    simp only [Bool.and_eq_true] at hs
    refine ext_flat hf hb hname (v := .int .i64 _) (fun S w => ⟨_, .int _ _, rfl⟩) fun S w vs hS hgl ha => ?_
    obtain ⟨_, rfl, ha1⟩ := args_str ha
    obtain ⟨_, rfl, ha2⟩ := args_str ha1
    obtain rfl := args_nil ha2
    exact hc s cs w (Nat.lt_succ_of_le (Nat.le_of_ble_eq_true hs.1)) (Nat.lt_succ_of_le (Nat.le_of_ble_eq_true hs.2.1)) (ascii_at hs.2.2.1) (ascii_at hs.2.2.2)
/-- The pieces before and behind, and whether there is one. -/
def xCut (s sep : ByteArray) : Option (ByteArray × ByteArray × Bool) := bif Nat.ble s.size 4294967280 then some (⟨(Lib.cut s.data.toList sep.data.toList).1.toArray⟩, ⟨(Lib.cut s.data.toList sep.data.toList).2.1.toArray⟩, (Lib.cut s.data.toList sep.data.toList).2.2) else none
theorem drewN_below (w : World) (n : Nat) : Below w.heap.size w (w.drewN n) := ⟨rfl, rfl, rfl, Nat.le_refl _, fun _ _ => rfl⟩
theorem ext_cut {P : Program} {E : Env} {pv : Nat → Value} {f : FuncId} {fn : Func} {c : Code} (hf : P.funcs[f]? = some fn) (hb : fn.body = some c) (hname : (fn.name == "runtime.NumGoroutine") = false) {mx : Nat} (hmx : E.gi mx = true)
    (hc : ∀ (s sep : ByteArray) (m : Int) (w : World), s.size < 4294967281 → w.cell? ⟨mx, 0, none⟩ = some (.int .i64 m) → Calls P f #[.string s, .string sep] w fun e w' =>
      e = .returned (.tuple #[.string ⟨(Lib.cut s.data.toList sep.data.toList).1.toArray⟩, .string ⟨(Lib.cut s.data.toList sep.data.toList).2.1.toArray⟩, .bool (Lib.cut s.data.toList sep.data.toList).2.2]) ∧ ∃ n, w' = w.drewN n)
    {s sep : ByteArray} {y : ByteArray × ByteArray × Bool} (h : xCut s sep = some y) : Meets P E pv (.f f) (tvals [.str, .str] (s, sep, ())) (.tup [.t .str y.1, .t .str y.2.1, .t .bool y.2.2]) := by
  unfold xCut at h
  cases hs : Nat.ble s.size 4294967280 with
  | false => rw [hs] at h; cases h
  | true =>
    rw [hs] at h
    cases h
    intro S w vs hS hgl ha
    obtain ⟨_, rfl, ha1⟩ := args_str ha
    obtain ⟨_, rfl, ha2⟩ := args_str ha1
    obtain rfl := args_nil ha2
    obtain ⟨_, m, hm⟩ := hgl.2.1 mx hmx
    refine ext_goes hf hb hname ((hc s sep m w (Nat.lt_succ_of_le (Nat.le_of_ble_eq_true hs)) hm).mono fun e w' ⟨he, n, hw⟩ => ⟨_, he, hw ▸ drewN_below w n, S, fun b hb => hb, fun b hb => .inl hb, ?_⟩)
    refine ⟨[.string _, .string _, .bool _], [none, none, none], rfl, rfl, rfl, fun i r v g h1 h2 h3 => ?_, fun i j g hne h1 => ?_⟩
    · match i, h1, h2, h3 with
      | 0, h1, h2, h3 => cases h1; cases h2; cases h3; exact .plain _ _ (.t _ _ _ (.str _))
      | 1, h1, h2, h3 => cases h1; cases h2; cases h3; exact .plain _ _ (.t _ _ _ (.str _))
      | 2, h1, h2, h3 => cases h1; cases h2; cases h3; exact .plain _ _ (.t _ _ _ (.bool _))
      | n + 3, h1, _, _ => simp at h1
    · match i, h1 with
      | 0, h1 => cases h1
      | 1, h1 => cases h1
      | 2, h1 => cases h1
      | n + 3, h1 => simp at h1
def xJoin (xs : List ByteArray) (sep : ByteArray) : Option ByteArray := bif Nat.ble xs.length 140737488355328 && Nat.ble (Lib.join (xs.map (·.data.toList)) sep.data.toList).length 140737488355328 then some ⟨(Lib.join (xs.map (·.data.toList)) sep.data.toList).toArray⟩ else none
theorem ext_join {P : Program} {E : Env} {pv : Nat → Value} {f : FuncId} {fn : Func} {c : Code} (hf : P.funcs[f]? = some fn) (hb : fn.body = some c) (hname : (fn.name == "runtime.NumGoroutine") = false)
    (hc0 : ∀ (a : Option Addr) (c : Nat) (sep : ByteArray) (w : World), Calls P f #[.slice a 0 c, .string sep] w fun e w' => e = .returned (.string ⟨#[]⟩) ∧ w' = w)
    (hc : ∀ (bk o c : Nat) (xs : List ByteArray) (sep : ByteArray) (w : World), (∀ (j : Nat) x, xs[j]? = some x → w.cell? ⟨bk, o + j, none⟩ = some (.string x)) → bk < w.heap.size → xs.length ≤ 140737488355328 → xs.length ≤ c →
      (Lib.join (xs.map (·.data.toList)) sep.data.toList).length ≤ 140737488355328 → Calls P f #[.slice (some ⟨bk, o, none⟩) xs.length c, .string sep] w fun e w' => e = .returned (.string ⟨(Lib.join (xs.map (·.data.toList)) sep.data.toList).toArray⟩) ∧ Below w.heap.size w w')
    {xs : List ByteArray} {sep : ByteArray} {y : ByteArray} (h : xJoin xs sep = some y) : Meets P E pv (.f f) (tvals [.sl .str, .str] (xs, sep, ())) (.t .str y) := by
  unfold xJoin at h
  cases hs : Nat.ble xs.length 140737488355328 && Nat.ble (Lib.join (xs.map (·.data.toList)) sep.data.toList).length 140737488355328 with
  | false => rw [hs] at h; cases h
  | true =>
    rw [hs] at h
    cases h
    rw [Bool.and_eq_true] at hs
    refine ext_flat hf hb hname (v := .string _) (fun S w => ⟨_, .str _, rfl⟩) fun S w vs hS hgl ha => ?_
    obtain ⟨cs, _, hcr, rfl, ha1⟩ := args_cons ha
    obtain ⟨_, rfl, ha2⟩ := args_str ha1
    obtain rfl := args_nil ha2
    cases hcr with
    | t _ _ _ hcr =>
      cases hcr with
      | sl e xs A c cv hle hm h1 h2 =>
        match xs, A, hle, h1, h2, hs with
        | [], A, _, _, _, _ => exact (hc0 A c sep w).mono fun e w' ⟨he, hw⟩ => ⟨he, hw ▸ Below.refl _ _⟩
        | x :: l, A, hle, h1, h2, hs =>
          obtain ⟨g, o, rfl, hg, _⟩ := h2 0 (Nat.succ_pos _)
          refine hc g o c (x :: l) sep w (fun j z hj => ?_) (hS g hg) (Nat.le_of_ble_eq_true hs.1) hle (Nat.le_of_ble_eq_true hs.2)
          obtain ⟨hj', hz⟩ := List.getElem?_eq_some_iff.1 hj
          obtain ⟨g', o', e', _, hcell⟩ := h2 j hj'
          cases e'
          have hcv := h1 j hj'
          rw [hz] at hcv
          have hq : ∀ q, CR S w .str z q → q[0]? = some (.string z) := fun q hq => by cases hq; rfl
          have := hcell 0 (.string z) (hq _ hcv)
          simpa [nc] using this
def xTrim1 (s cs : ByteArray) : Option ByteArray := match cs with
  | ⟨⟨[c]⟩⟩ => bif Nat.ble s.size 9223372036854775807 && Nat.blt c.toNat 128 then some ⟨(Lib.trimB s.data.toList c).toArray⟩ else none
  | _ => none
theorem ext_trim1 {P : Program} {E : Env} {pv : Nat → Value} {f : FuncId} {fn : Func} {c : Code} (hf : P.funcs[f]? = some fn) (hb : fn.body = some c) (hname : (fn.name == "runtime.NumGoroutine") = false)
    (hc : ∀ (s : ByteArray) (c : UInt8), c.toNat < 128 → ∀ (w : World), s.size ≤ 9223372036854775807 → Calls P f #[.string s, .string ⟨#[c]⟩] w fun e w' => e = .returned (.string ⟨(Lib.trimB s.data.toList c).toArray⟩) ∧ (w' = w ∨ w' = w.drew))
    {s cs : ByteArray} {y : ByteArray} (h : xTrim1 s cs = some y) : Meets P E pv (.f f) (tvals [.str, .str] (s, cs, ())) (.t .str y) := by
  unfold xTrim1 at h
  split at h
  · rename_i c0
    cases hs : Nat.ble s.size 9223372036854775807 && Nat.blt c0.toNat 128 with
    | false => rw [hs] at h; cases h
    | true =>
      rw [hs] at h
      cases h
      rw [Bool.and_eq_true] at hs
      refine ext_flat hf hb hname (v := .string _) (fun S w => ⟨_, .str _, rfl⟩) fun S w vs hS hgl ha => ?_
      obtain ⟨_, rfl, ha1⟩ := args_str ha
      obtain ⟨_, rfl, ha2⟩ := args_str ha1
      obtain rfl := args_nil ha2
      refine (hc s c0 (Nat.le_of_ble_eq_true hs.2) w (Nat.le_of_ble_eq_true hs.1)).mono fun e w' ⟨he, hw⟩ => ⟨he, ?_⟩
      rcases hw with rfl | rfl
      · exact Below.refl _ _
      · exact (Below.refl _ _).drew
  · cases h
def xClone (xs : List ByteArray) : Option (List ByteArray) := bif Nat.ble (xs.length * 16) 140737488355328 then some xs else none
theorem ext_clone {P : Program} {E : Env} {pv : Nat → Value} {f : FuncId} {fn : Func} {c : Code} (hf : P.funcs[f]? = some fn) (hb : fn.body = some c) (hname : (fn.name == "runtime.NumGoroutine") = false) {te : Nat}
    (hc : ∀ (b off n c : Nat) (zs : List ByteArray) (w : World), n ≤ zs.length → n * 16 ≤ 140737488355328 → (∀ j, j < zs.length → w.cell? ⟨b, off + j, none⟩ = some (.string (zs.getD j ByteArray.empty))) →
      Calls P f #[.slice (some ⟨b, off, none⟩) n c] w fun e w' => ∃ v', e = .returned v' ∧ w'.ownsRow w.heap.size te 1 v' n ((zs.take n).map Value.string) ∧ v' ≠ .slice none 0 0 ∧ Below w.heap.size w w')
    (hcn : ∀ (n c : Nat) (w : World), Calls P f #[.slice none n c] w fun e w' => e = .returned (.slice none 0 0) ∧ w' = w)
    (hcz : ∀ (a : Addr) (c : Nat) (w : World), Calls P f #[.slice (some a) 0 c] w fun e w' => ∃ v', e = .returned v' ∧ w'.ownsRow w.heap.size te 1 v' 0 [] ∧ v' ≠ .slice none 0 0 ∧ Below w.heap.size w w')
    {xs : List ByteArray} {y : List ByteArray} (h : xClone xs = some y) : Meets P E pv (.f f) (tvals [.sl .str] (xs, ())) (.fr te .str y) := by
  have hc0 : ∀ (A : Option Addr) (c : Nat) (w : World), Calls P f #[.slice A 0 c] w fun e w' => ∃ v', e = .returned v' ∧ w'.ownsRow w.heap.size te 1 v' 0 [] ∧ Below w.heap.size w w' := fun A c w => by
    cases A with
    | none => exact (hcn 0 c w).mono fun e w' ⟨he, hw⟩ => ⟨_, he, ⟨rfl, .inl ⟨rfl, rfl⟩⟩, hw ▸ Below.refl _ _⟩
    | some a => exact (hcz a c w).mono fun e w' ⟨v, he, ho, _, hb⟩ => ⟨v, he, ho, hb⟩
  unfold xClone at h
  cases hs : Nat.ble (xs.length * 16) 140737488355328 with
  | false => rw [hs] at h; cases h
  | true =>
    rw [hs] at h
    cases h
    have hs := Nat.le_of_ble_eq_true hs
    intro S w vs hS hgl ha
    have fin : ∀ (v' : Value) (w' : World), w'.ownsRow w.heap.size te 1 v' xs.length (xs.map Value.string) → Below w.heap.size w w' → Below w.heap.size w w' ∧ ∃ S' : Nat → Prop, (∀ b, S b → S' b) ∧ (∀ b, S' b → S b ∨ (w.heap.size ≤ b ∧ b < w'.heap.size)) ∧ RR S' w' w.heap.size pv (.fr te .str xs) v' := fun v' w' ho hbl => by
      refine ⟨hbl, S, fun b hb => hb, fun b hb => .inl hb, ?_⟩
      obtain ⟨h1, ⟨rfl, h2⟩ | ⟨g, cap, cur, rfl, h3, h4, h5, h6, h7, h8⟩⟩ := ho
      · obtain rfl : xs = [] := List.eq_nil_of_length_eq_zero h2
        exact ⟨none, .frNil te .str (by decide)⟩
      · refine ⟨some g, .fr te .str xs g cap h3 (fun hs => absurd (hS _ hs) (by omega)) ⟨cur, (0, 0), h4, h7, h5, h6, fun _ => rfl, .inl (Nat.le_refl _), by decide, fun i hi => ⟨[.string xs[i]], .str _, fun j v hj => ?_⟩⟩⟩
        cases j with
        | zero =>
          simp only [List.getElem?_cons_zero, Option.some.injEq] at hj
          subst hj
          have h9 := congrArg (·[i]?) h8
          simp only [Nat.mul_one, List.getElem?_take, if_pos hi, List.getElem?_map, List.getElem?_eq_getElem hi, Option.map_some] at h9
          simpa [nc] using h9
        | succ j => simp at hj
    obtain ⟨cs, _, hcr, rfl, ha1⟩ := args_cons ha
    obtain rfl := args_nil ha1
    cases hcr with
    | t _ _ _ hcr =>
      cases hcr with
      | sl e xs A c cv hle hm h1 h2 =>
        match xs, A, hle, h1, h2, hs, fin with
        | [], A, _, _, _, _, fin => exact ext_goes hf hb hname ((hc0 A c w).mono fun e w' ⟨v', he, ho, hbl⟩ => ⟨v', he, fin _ _ ho hbl⟩)
        | x :: l, A, hle, h1, h2, hs, fin =>
          obtain ⟨g, o, rfl, hg, _⟩ := h2 0 (Nat.succ_pos _)
          refine ext_goes hf hb hname ((hc g o (x :: l).length c (x :: l) w (Nat.le_refl _) hs fun j hj => ?_).mono fun e w' ⟨v', he, ho, _, hbl⟩ => ⟨v', he, fin _ _ (by rw [List.take_length] at ho; exact ho) hbl⟩)
          obtain ⟨g', o', e', _, hcell⟩ := h2 j hj
          cases e'
          have hcv := h1 j hj
          have hq : ∀ z q, CR S w .str z q → q[0]? = some (.string z) := fun z q hq => by cases hq; rfl
          have := hcell 0 _ (hq _ _ hcv)
          rw [List.getD_eq_getElem?_getD, List.getElem?_eq_getElem hj, Option.getD_some]
          simpa [nc] using this
end Go.Gx
end
section
/- A library function by its contract: strconv.Itoa. -/
namespace Go.Gx
set_option linter.unusedVariables false
set_option linter.unusedSimpArgs false

def xItoa (n : Int) : Option ByteArray := bif decide (0 ≤ n) && decide (n < 100) then some ⟨(Lib.decDigits n.toNat).toArray⟩ else none
theorem ext_itoa {P : Program} {E : Env} {pv : Nat → Value} {f : FuncId} {fn : Func} {c : Code} (hf : P.funcs[f]? = some fn) (hb : fn.body = some c) (hname : (fn.name == "runtime.NumGoroutine") = false)
    (hc : ∀ (i : Nat) (hi : i < 100) (w : World), Calls P f #[.int .i64 i] w fun e w' => e = .returned (.string ⟨(Lib.decDigits i).toArray⟩) ∧ w' = w)
    {n : Int} {y : ByteArray} (h : xItoa n = some y) : Meets P E pv (.f f) (tvals [.int .i64] (n, ())) (.t .str y) := by
  unfold xItoa at h
  cases hs : decide (0 ≤ n) && decide (n < 100) with
  | false => rw [hs] at h; cases h
  | true =>
    rw [hs] at h
    cases h
    simp only [Bool.and_eq_true, decide_eq_true_eq] at hs
    refine ext_flat hf hb hname (v := .string _) (fun S w => ⟨_, .str _, rfl⟩) fun S w vs hS hgl ha => ?_
    obtain ⟨_, rfl, ha1⟩ := args_int ha
    obtain rfl := args_nil ha1
    have e : n = (n.toNat : Int) := by omega
    have := hc n.toNat (by omega) w
    rw [← e] at this
    exact this.mono fun e w' ⟨he, hw⟩ => ⟨he, hw ▸ RowKit.Below.refl _ _⟩
/-- Every int's numeral, the table of powers being as it is laid. -/
def xItoaN (n : Int) : Option ByteArray := bif decide (-9223372036854775808 ≤ n) && decide (n ≤ 9223372036854775807) then some ⟨(Lib.itoa n).toArray⟩ else none
theorem ext_itoaN {P : Program} {E : Env} {pv : Nat → Value} {f : FuncId} {fn : Func} {c : Code} (hf : P.funcs[f]? = some fn) (hb : fn.body = some c) (hname : (fn.name == "runtime.NumGoroutine") = false)
    {g : Nat} (hE : E.gl g = some (.t (.arr 20 (.int .u64)) Lib.pow10Tab)) (hg : P.globalNamed "internal/strconv.uint64pow10" = some g)
    (hc : ∀ (n : Int), -9223372036854775808 ≤ n → n ≤ 9223372036854775807 → ∀ w : World, Lib.TabIs P w "internal/strconv.uint64pow10" .u64 Lib.pow10Tab → Calls P f #[.int .i64 n] w fun e w' => e = .returned (.string ⟨(Lib.itoa n).toArray⟩) ∧ ∃ k os, w' = Go.Sort.grow (w.drewN k) os)
    {n : Int} {y : ByteArray} (h : xItoaN n = some y) : Meets P E pv (.f f) (tvals [.int .i64] (n, ())) (.t .str y) := by
  unfold xItoaN at h
  cases hs : decide (-9223372036854775808 ≤ n) && decide (n ≤ 9223372036854775807) with
  | false => rw [hs] at h; cases h
  | true =>
    rw [hs] at h
    cases h
    simp only [Bool.and_eq_true, decide_eq_true_eq] at hs
    refine ext_flat hf hb hname (v := .string _) (fun S w => ⟨_, .str _, rfl⟩) fun S w vs hS hgl ha => ?_
    obtain ⟨_, rfl, ha1⟩ := args_int ha
    obtain rfl := args_nil ha1
    refine (hc n hs.1 hs.2 w (gl_tab hgl hE hg)).mono fun e w' ⟨he, k, os, hw⟩ => ⟨he, ?_⟩
    subst hw
    refine ⟨rfl, rfl, rfl, by simp [Go.Sort.grow, World.drewN], fun b hb => ?_⟩
    simp only [Go.Sort.grow]
    rw [Array.getElem?_append_left (by exact hb)]
    rfl
end Go.Gx
end
section
namespace Go.Proofs.YtgihehbpbjejlaaGreatDoor
open Go.Gx
set_option linter.unusedVariables false
set_option maxRecDepth 100000
def tyT (t : Nat) : Option Ty := match t with
  | 2 => some (.int .i64)
  | 3 => some (.int .i64)
  | 4 => some .bool
  | 5 => some (.int .u8)
  | 6 => some (.int .u8)
  | 9 => some .str
  | 10 => some .str
  | 11 => some .str
  | 21 => some (.int .i32)
  | 22 => some (.sl .entry)
  | 24 => some .lib
  | 26 => some (.sl .str)
  | 29 => some (.sl .entry)
  | 31 => some .lib
  | 38 => some (.sl .name)
  | 40 => some .date
  | 42 => some .entry
  | 50 => some (.sl (.sl .str))
  | 73 => some (.sl (.int .i64))
  | 84 => some (.sl .name)
  | 85 => some .date
  | 87 => some .entry
  | 91 => some (.sl (.int .u8))
  | 96 => some .name
  | 120 => some .name
  | 140 => some (.arr 24 (.int .u8))
  | 141 => some (.int .u64)
  | 155 => some (.arr 20 (.int .u64))
  | 156 => some (.int .u32)
  | 157 => some (.arr 65 (.int .u8))
  | 158 => some (.int .u64)
  | 163 => some (.arr 256 .bool)
  | 174 => some (.arr 32 (.int .u8))
  | 175 => some (.arr 64 (.int .u8))
  | 181 => some (.arr 256 (.int .u8))
  | 195 => some (.int .u8)
  | _ => none
def elT (t : Nat) : Nat := match t with
  | 22 => 87
  | 26 => 9
  | 29 => 42
  | 38 => 96
  | 50 => 26
  | 73 => 3
  | 84 => 120
  | 91 => 5
  | _ => 0
def mdT (f : Nat) : Bool := match f with
  | 15 => true
  | 28 => true
  | 39 => true
  | 48 => true
  | 89 => true
  | 118 => true
  | 136 => true
  | 154 => true
  | _ => false
def glT (g : Nat) : Option AV := match g with
  | 0 => some (.t (.arr 20 (.int .u64)) Lib.pow10Tab)
  | _ => none
def giT (g : Nat) : Bool := match g with
  | 1 => true
  | _ => false
def dmT (f : Nat) : Bool := match f with
  | 14 => true
  | 15 => true
  | 20 => true
  | 28 => true
  | 39 => true
  | 48 => true
  | _ => false
def pmT (f : Nat) : Bool := match f with
  | 10 => true
  | 67 => true
  | 117 => true
  | _ => false
def envX : Env := { ty := tyT, el := elT, gl := glT, md := mdT, gi := giT, dm := dmT, pm := pmT }
def envP : Env := { ty := tyT, el := elT, gl := glT, md := mdT, gi := giT, on := true }
theorem env_ty : ∀ T τ, envX.ty T = some τ → TyOk Tryz.prog envX T τ := fun T τ h => by
  dsimp only [envX, tyT] at h
  split at h <;> first
    | (cases h; done)
    | (cases h; exact tyOk_of (by kernel_rfl) (by kernel_rfl))
theorem envOk : EnvOk Tryz.prog envX := ⟨env_ty, by kernel_rfl, fun T h => by
  dsimp only [envX, tyT] at h
  split at h <;> first
    | (cases h; done)
    | exact date_eq env_ty rfl (by kernel_rfl) (by kernel_rfl) (by kernel_rfl), fun T h => by
  dsimp only [envX, tyT] at h
  split at h <;> first
    | (cases h; done)
    | exact abbr_eq env_ty rfl (by kernel_rfl) (by kernel_rfl) (by kernel_rfl)⟩
theorem env_tyP : ∀ T τ, envP.ty T = some τ → TyOk Tryz.prog envP T τ := fun T τ h => by
  dsimp only [envP, tyT] at h
  split at h <;> first
    | (cases h; done)
    | (cases h; exact tyOk_of (by kernel_rfl) (by kernel_rfl))
theorem envOkP : EnvOk Tryz.prog envP := ⟨env_tyP, by kernel_rfl, fun T h => by
  dsimp only [envP, tyT] at h
  split at h <;> first
    | (cases h; done)
    | exact date_eq env_tyP rfl (by kernel_rfl) (by kernel_rfl) (by kernel_rfl), fun T h => by
  dsimp only [envP, tyT] at h
  split at h <;> first
    | (cases h; done)
    | exact abbr_eq env_tyP rfl (by kernel_rfl) (by kernel_rfl) (by kernel_rfl)⟩
/-! ### 134 loop.example/g00896/laws.szStringS -/
def laws_szStringS.l0 : Nat → (List ByteArray) → Int → Int → Option (Sum Int Int)
  | 0, _, _, _ => none
  | k + 1, x0, x1, x5 => bif (decide (x5 < (x0.length : Int))) then (bif decide (0 ≤ x5) then (bif decide (x5 < (x0.length : Int)) then (bif (decide ((IntKind.wrap .i64 (x1 - ((x0.getD (x5 : Int).toNat (⟨#[]⟩ : ByteArray)).size : Int))) < 0)) then (some (.inl (-1))) else (laws_szStringS.l0 k x0 (IntKind.wrap .i64 (x1 - ((x0.getD (x5 : Int).toNat (⟨#[]⟩ : ByteArray)).size : Int))) (IntKind.wrap .i64 (x5 + 1)))) else none) else none) else (some (.inr x1))
def laws_szStringS.F (k : Nat) (a0 : List ByteArray) (a1 : Int) : Option (Int) := bif (decide ((IntKind.wrap .i64 (a1 - (a0.length : Int))) < 0)) then (some (-1)) else ((laws_szStringS.l0 k a0 (IntKind.wrap .i64 (a1 - (a0.length : Int))) 0).bind fun y1 => match y1 with | .inl z2 => some z2 | .inr z2 => some z2)
def laws_szStringS.C (k : Nat) : Cal → Option CArm := fun c => match c with
  | _ => none
def laws_szStringS.sp0 : List Sp := [.t 0 (.sl .str), .t 1 (.int .i64), .t 5 (.int .i64)]
def laws_szStringS.sp0_0 : List Sp := [.t 4 (.int .i64)]
def laws_szStringS.sp0_1 : List Sp := [.t 1 (.int .i64)]
def laws_szStringS.A0 : LArm := .two laws_szStringS.sp0 laws_szStringS.sp0_0 laws_szStringS.sp0_1 (Int) (Int) (fun k x => laws_szStringS.l0 k x.1 x.2.1 x.2.2.1) .ret (.exit 0) (fun y => (y, ())) (fun x => x.1) (fun y => (y, ())) (fun x => x.1)
def laws_szStringS.L : Nat → Option LArm := fun b => match b with
  | 0 => some laws_szStringS.A0
  | _ => none
theorem laws_szStringS.run (k : Nat) (a0 : List ByteArray) (a1 : Int) : runF envX (tabC (laws_szStringS.C k)) (tabL 28 k laws_szStringS.L) Tryz.f134 [.t (.sl .str) a0, .t (.int .i64) a1] (viewR1 (.t (.int .i64))) = laws_szStringS.F k a0 a1 := by kernel_rfl
theorem laws_szStringS.step0 (k : Nat) (x0 : List ByteArray) (x1 : Int) (x5 : Int) : runC envX (tabC (laws_szStringS.C k)) (tabL 28 k laws_szStringS.L) 0 (loopAt Tryz.f134 0) (stOf 28 laws_szStringS.sp0 (x0, x1, x5, ())) (laws_szStringS.A0.cont 28 k) = laws_szStringS.l0 (k + 1) x0 x1 x5 := by kernel_rfl
theorem laws_szStringS.G (hE : EnvOk Tryz.prog envX) (pv : Nat → Value) (k : Nat) : ∀ cal A, laws_szStringS.C k cal = some A → ArmOk Tryz.prog envX pv cal A := by
  intro cal A h
  unfold laws_szStringS.C at h
  cases h
theorem laws_szStringS.good (hE : EnvOk Tryz.prog envX) (pv : Nat → Value) (k : Nat) (a0 : List ByteArray) (a1 : Int) {y : _} (h : laws_szStringS.F k a0 a1 = some y) : Meets Tryz.prog envX pv (.f 134) (tvals [(.sl .str), (.int .i64)] (a0, a1, ())) (.t (.int .i64) y) :=
  fun_loops hE (t := laws_szStringS.C) k (fun k _ => laws_szStringS.G hE pv k) (f := 134) (fn := Tryz.f134) (by kernel_rfl) rfl (by kernel_rfl) (by kernel_rfl) (lt := laws_szStringS.L) (by kernel_rfl) (fun b A h => by
    unfold laws_szStringS.L at h; split at h
    · cases h; exact ⟨by kernel_rfl, by kernel_rfl, by kernel_rfl, fun _ => rfl, fun _ => rfl, fun _ => rfl⟩
    · cases h) (fun b A h => by
    unfold laws_szStringS.L at h; split at h
    · cases h; exact fun k x => laws_szStringS.step0 k x.1 x.2.1 x.2.2.1
    · cases h) ((laws_szStringS.run k a0 a1).trans h) fun r hr => wk_view1 hr
/-! ### 114 loop.example/g00896/laws.szName -/
def laws_szName.F (k : Nat) (a0 : Name) (a1 : Int) : Option (Int) := (laws_szStringS.F k a0.given a1).bind fun r1 => bif (decide (r1 < 0)) then (some (-1)) else (bif (decide ((IntKind.wrap .i64 (r1 - (a0.particle.size : Int))) < 0)) then (some (-1)) else (bif (decide ((IntKind.wrap .i64 ((IntKind.wrap .i64 (r1 - (a0.particle.size : Int))) - (a0.family.size : Int))) < 0)) then (some (-1)) else (bif (decide ((IntKind.wrap .i64 ((IntKind.wrap .i64 ((IntKind.wrap .i64 (r1 - (a0.particle.size : Int))) - (a0.family.size : Int))) - (a0.suffix.size : Int))) < 0)) then (some (-1)) else (some (IntKind.wrap .i64 ((IntKind.wrap .i64 ((IntKind.wrap .i64 (r1 - (a0.particle.size : Int))) - (a0.family.size : Int))) - (a0.suffix.size : Int)))))))
def laws_szName.C (k : Nat) : Cal → Option CArm := fun c => match c with
  | .f 134 => some (.p [(.sl .str), (.int .i64)] _ (fun x => laws_szStringS.F k x.1 x.2.1) (fun r => (.t (.int .i64) r)))
  | _ => none
theorem laws_szName.run (k : Nat) (a0 : Name) (a1 : Int) : runF envX (tabC (laws_szName.C k)) (tabL 33 0 (fun _ => none)) Tryz.f114 [.t .name a0, .t (.int .i64) a1] (viewR1 (.t (.int .i64))) = laws_szName.F k a0 a1 := by kernel_rfl
theorem laws_szName.G (hE : EnvOk Tryz.prog envX) (pv : Nat → Value) (k : Nat) : ∀ cal A, laws_szName.C k cal = some A → ArmOk Tryz.prog envX pv cal A := by
  intro cal A h
  unfold laws_szName.C at h
  split at h
  · cases h; exact fun x y hy => laws_szStringS.good hE pv k x.1 x.2.1 hy
  · cases h
theorem laws_szName.good (hE : EnvOk Tryz.prog envX) (pv : Nat → Value) (k : Nat) (a0 : Name) (a1 : Int) {y : _} (h : laws_szName.F k a0 a1 = some y) : Meets Tryz.prog envX pv (.f 114) (tvals [.name, (.int .i64)] (a0, a1, ())) (.t (.int .i64) y) :=
  fun_plain hE (laws_szName.G hE pv k) (f := 114) (fn := Tryz.f114) (by kernel_rfl) rfl (by kernel_rfl) (by kernel_rfl) ((laws_szName.run k a0 a1).trans h) fun r hr => wk_view1 hr
/-! ### 90 loop.example/g00896/laws.szNameS -/
def laws_szNameS.l0 : Nat → (List Name) → Int → Int → Option (Sum Int Int)
  | 0, _, _, _ => none
  | k + 1, x0, x1, x5 => bif (decide (x5 < (x0.length : Int))) then (bif decide (0 ≤ x5) then (bif decide (x5 < (x0.length : Int)) then ((laws_szName.F k (x0.getD (x5 : Int).toNat (dflt .name)) x1).bind fun r1 => bif (decide (r1 < 0)) then (some (.inl (-1))) else (laws_szNameS.l0 k x0 r1 (IntKind.wrap .i64 (x5 + 1)))) else none) else none) else (some (.inr x1))
def laws_szNameS.F (k : Nat) (a0 : List Name) (a1 : Int) : Option (Int) := bif (decide ((IntKind.wrap .i64 (a1 - (a0.length : Int))) < 0)) then (some (-1)) else ((laws_szNameS.l0 k a0 (IntKind.wrap .i64 (a1 - (a0.length : Int))) 0).bind fun y2 => match y2 with | .inl z3 => some z3 | .inr z3 => some z3)
def laws_szNameS.C (k : Nat) : Cal → Option CArm := fun c => match c with
  | .f 114 => some (.p [.name, (.int .i64)] _ (fun x => laws_szName.F k x.1 x.2.1) (fun r => (.t (.int .i64) r)))
  | _ => none
def laws_szNameS.sp0 : List Sp := [.t 0 (.sl .name), .t 1 (.int .i64), .t 5 (.int .i64)]
def laws_szNameS.sp0_0 : List Sp := [.t 4 (.int .i64)]
def laws_szNameS.sp0_1 : List Sp := [.t 1 (.int .i64)]
def laws_szNameS.A0 : LArm := .two laws_szNameS.sp0 laws_szNameS.sp0_0 laws_szNameS.sp0_1 (Int) (Int) (fun k x => laws_szNameS.l0 k x.1 x.2.1 x.2.2.1) .ret (.exit 0) (fun y => (y, ())) (fun x => x.1) (fun y => (y, ())) (fun x => x.1)
def laws_szNameS.L : Nat → Option LArm := fun b => match b with
  | 0 => some laws_szNameS.A0
  | _ => none
theorem laws_szNameS.run (k : Nat) (a0 : List Name) (a1 : Int) : runF envX (tabC (laws_szNameS.C k)) (tabL 27 k laws_szNameS.L) Tryz.f90 [.t (.sl .name) a0, .t (.int .i64) a1] (viewR1 (.t (.int .i64))) = laws_szNameS.F k a0 a1 := by kernel_rfl
theorem laws_szNameS.step0 (k : Nat) (x0 : List Name) (x1 : Int) (x5 : Int) : runC envX (tabC (laws_szNameS.C k)) (tabL 27 k laws_szNameS.L) 0 (loopAt Tryz.f90 0) (stOf 27 laws_szNameS.sp0 (x0, x1, x5, ())) (laws_szNameS.A0.cont 27 k) = laws_szNameS.l0 (k + 1) x0 x1 x5 := by kernel_rfl
theorem laws_szNameS.G (hE : EnvOk Tryz.prog envX) (pv : Nat → Value) (k : Nat) : ∀ cal A, laws_szNameS.C k cal = some A → ArmOk Tryz.prog envX pv cal A := by
  intro cal A h
  unfold laws_szNameS.C at h
  split at h
  · cases h; exact fun x y hy => laws_szName.good hE pv k x.1 x.2.1 hy
  · cases h
theorem laws_szNameS.good (hE : EnvOk Tryz.prog envX) (pv : Nat → Value) (k : Nat) (a0 : List Name) (a1 : Int) {y : _} (h : laws_szNameS.F k a0 a1 = some y) : Meets Tryz.prog envX pv (.f 90) (tvals [(.sl .name), (.int .i64)] (a0, a1, ())) (.t (.int .i64) y) :=
  fun_loops hE (t := laws_szNameS.C) k (fun k _ => laws_szNameS.G hE pv k) (f := 90) (fn := Tryz.f90) (by kernel_rfl) rfl (by kernel_rfl) (by kernel_rfl) (lt := laws_szNameS.L) (by kernel_rfl) (fun b A h => by
    unfold laws_szNameS.L at h; split at h
    · cases h; exact ⟨by kernel_rfl, by kernel_rfl, by kernel_rfl, fun _ => rfl, fun _ => rfl, fun _ => rfl⟩
    · cases h) (fun b A h => by
    unfold laws_szNameS.L at h; split at h
    · cases h; exact fun k x => laws_szNameS.step0 k x.1 x.2.1 x.2.2.1
    · cases h) ((laws_szNameS.run k a0 a1).trans h) fun r hr => wk_view1 hr
/-! ### 63 loop.example/g00896/laws.szEntry -/
def laws_szEntry.F (k : Nat) (a0 : Entry) (a1 : Int) : Option (Int) := bif (decide ((IntKind.wrap .i64 (a1 - (a0.key.size : Int))) < 0)) then (some (-1)) else ((laws_szNameS.F k a0.authors (IntKind.wrap .i64 (a1 - (a0.key.size : Int)))).bind fun r1 => bif (decide (r1 < 0)) then (some (-1)) else ((laws_szNameS.F k a0.editors r1).bind fun r2 => bif (decide (r2 < 0)) then (some (-1)) else (bif (decide ((IntKind.wrap .i64 (r2 - (a0.title.size : Int))) < 0)) then (some (-1)) else (bif (decide ((IntKind.wrap .i64 ((IntKind.wrap .i64 (r2 - (a0.title.size : Int))) - (a0.container.size : Int))) < 0)) then (some (-1)) else (bif (decide ((IntKind.wrap .i64 ((IntKind.wrap .i64 ((IntKind.wrap .i64 (r2 - (a0.title.size : Int))) - (a0.container.size : Int))) - (a0.publisher.size : Int))) < 0)) then (some (-1)) else (bif (decide ((IntKind.wrap .i64 ((IntKind.wrap .i64 ((IntKind.wrap .i64 ((IntKind.wrap .i64 (r2 - (a0.title.size : Int))) - (a0.container.size : Int))) - (a0.publisher.size : Int))) - (a0.pages.size : Int))) < 0)) then (some (-1)) else (bif (decide ((IntKind.wrap .i64 ((IntKind.wrap .i64 ((IntKind.wrap .i64 ((IntKind.wrap .i64 ((IntKind.wrap .i64 (r2 - (a0.title.size : Int))) - (a0.container.size : Int))) - (a0.publisher.size : Int))) - (a0.pages.size : Int))) - (a0.cross.size : Int))) < 0)) then (some (-1)) else (some (IntKind.wrap .i64 ((IntKind.wrap .i64 ((IntKind.wrap .i64 ((IntKind.wrap .i64 ((IntKind.wrap .i64 (r2 - (a0.title.size : Int))) - (a0.container.size : Int))) - (a0.publisher.size : Int))) - (a0.pages.size : Int))) - (a0.cross.size : Int)))))))))))
def laws_szEntry.C (k : Nat) : Cal → Option CArm := fun c => match c with
  | .f 90 => some (.p [(.sl .name), (.int .i64)] _ (fun x => laws_szNameS.F k x.1 x.2.1) (fun r => (.t (.int .i64) r)))
  | _ => none
theorem laws_szEntry.run (k : Nat) (a0 : Entry) (a1 : Int) : runF envX (tabC (laws_szEntry.C k)) (tabL 60 0 (fun _ => none)) Tryz.f63 [.t .entry a0, .t (.int .i64) a1] (viewR1 (.t (.int .i64))) = laws_szEntry.F k a0 a1 := by kernel_rfl
theorem laws_szEntry.G (hE : EnvOk Tryz.prog envX) (pv : Nat → Value) (k : Nat) : ∀ cal A, laws_szEntry.C k cal = some A → ArmOk Tryz.prog envX pv cal A := by
  intro cal A h
  unfold laws_szEntry.C at h
  split at h
  · cases h; exact fun x y hy => laws_szNameS.good hE pv k x.1 x.2.1 hy
  · cases h
theorem laws_szEntry.good (hE : EnvOk Tryz.prog envX) (pv : Nat → Value) (k : Nat) (a0 : Entry) (a1 : Int) {y : _} (h : laws_szEntry.F k a0 a1 = some y) : Meets Tryz.prog envX pv (.f 63) (tvals [.entry, (.int .i64)] (a0, a1, ())) (.t (.int .i64) y) :=
  fun_plain hE (laws_szEntry.G hE pv k) (f := 63) (fn := Tryz.f63) (by kernel_rfl) rfl (by kernel_rfl) (by kernel_rfl) ((laws_szEntry.run k a0 a1).trans h) fun r hr => wk_view1 hr
/-! ### 32 loop.example/g00896/laws.szEntryS -/
def laws_szEntryS.l0 : Nat → (List Entry) → Int → Int → Option (Sum Int Int)
  | 0, _, _, _ => none
  | k + 1, x0, x1, x5 => bif (decide (x5 < (x0.length : Int))) then (bif decide (0 ≤ x5) then (bif decide (x5 < (x0.length : Int)) then ((laws_szEntry.F k (x0.getD (x5 : Int).toNat (dflt .entry)) x1).bind fun r1 => bif (decide (r1 < 0)) then (some (.inl (-1))) else (laws_szEntryS.l0 k x0 r1 (IntKind.wrap .i64 (x5 + 1)))) else none) else none) else (some (.inr x1))
def laws_szEntryS.F (k : Nat) (a0 : List Entry) (a1 : Int) : Option (Int) := bif (decide ((IntKind.wrap .i64 (a1 - (a0.length : Int))) < 0)) then (some (-1)) else ((laws_szEntryS.l0 k a0 (IntKind.wrap .i64 (a1 - (a0.length : Int))) 0).bind fun y2 => match y2 with | .inl z3 => some z3 | .inr z3 => some z3)
def laws_szEntryS.C (k : Nat) : Cal → Option CArm := fun c => match c with
  | .f 63 => some (.p [.entry, (.int .i64)] _ (fun x => laws_szEntry.F k x.1 x.2.1) (fun r => (.t (.int .i64) r)))
  | _ => none
def laws_szEntryS.sp0 : List Sp := [.t 0 (.sl .entry), .t 1 (.int .i64), .t 5 (.int .i64)]
def laws_szEntryS.sp0_0 : List Sp := [.t 4 (.int .i64)]
def laws_szEntryS.sp0_1 : List Sp := [.t 1 (.int .i64)]
def laws_szEntryS.A0 : LArm := .two laws_szEntryS.sp0 laws_szEntryS.sp0_0 laws_szEntryS.sp0_1 (Int) (Int) (fun k x => laws_szEntryS.l0 k x.1 x.2.1 x.2.2.1) .ret (.exit 0) (fun y => (y, ())) (fun x => x.1) (fun y => (y, ())) (fun x => x.1)
def laws_szEntryS.L : Nat → Option LArm := fun b => match b with
  | 0 => some laws_szEntryS.A0
  | _ => none
theorem laws_szEntryS.run (k : Nat) (a0 : List Entry) (a1 : Int) : runF envX (tabC (laws_szEntryS.C k)) (tabL 27 k laws_szEntryS.L) Tryz.f32 [.t (.sl .entry) a0, .t (.int .i64) a1] (viewR1 (.t (.int .i64))) = laws_szEntryS.F k a0 a1 := by kernel_rfl
theorem laws_szEntryS.step0 (k : Nat) (x0 : List Entry) (x1 : Int) (x5 : Int) : runC envX (tabC (laws_szEntryS.C k)) (tabL 27 k laws_szEntryS.L) 0 (loopAt Tryz.f32 0) (stOf 27 laws_szEntryS.sp0 (x0, x1, x5, ())) (laws_szEntryS.A0.cont 27 k) = laws_szEntryS.l0 (k + 1) x0 x1 x5 := by kernel_rfl
theorem laws_szEntryS.G (hE : EnvOk Tryz.prog envX) (pv : Nat → Value) (k : Nat) : ∀ cal A, laws_szEntryS.C k cal = some A → ArmOk Tryz.prog envX pv cal A := by
  intro cal A h
  unfold laws_szEntryS.C at h
  split at h
  · cases h; exact fun x y hy => laws_szEntry.good hE pv k x.1 x.2.1 hy
  · cases h
theorem laws_szEntryS.good (hE : EnvOk Tryz.prog envX) (pv : Nat → Value) (k : Nat) (a0 : List Entry) (a1 : Int) {y : _} (h : laws_szEntryS.F k a0 a1 = some y) : Meets Tryz.prog envX pv (.f 32) (tvals [(.sl .entry), (.int .i64)] (a0, a1, ())) (.t (.int .i64) y) :=
  fun_loops hE (t := laws_szEntryS.C) k (fun k _ => laws_szEntryS.G hE pv k) (f := 32) (fn := Tryz.f32) (by kernel_rfl) rfl (by kernel_rfl) (by kernel_rfl) (lt := laws_szEntryS.L) (by kernel_rfl) (fun b A h => by
    unfold laws_szEntryS.L at h; split at h
    · cases h; exact ⟨by kernel_rfl, by kernel_rfl, by kernel_rfl, fun _ => rfl, fun _ => rfl, fun _ => rfl⟩
    · cases h) (fun b A h => by
    unfold laws_szEntryS.L at h; split at h
    · cases h; exact fun k x => laws_szEntryS.step0 k x.1 x.2.1 x.2.2.1
    · cases h) ((laws_szEntryS.run k a0 a1).trans h) fun r hr => wk_view1 hr
/-! ### 8 loop.example/g00896/laws.szLibrary -/
def laws_szLibrary.F (k : Nat) (a0 : Library) (a1 : Int) : Option (Int) := (laws_szEntryS.F k a0.entries a1).bind fun r1 => bif (decide (r1 < 0)) then (some (-1)) else (some r1)
def laws_szLibrary.C (k : Nat) : Cal → Option CArm := fun c => match c with
  | .f 32 => some (.p [(.sl .entry), (.int .i64)] _ (fun x => laws_szEntryS.F k x.1 x.2.1) (fun r => (.t (.int .i64) r)))
  | _ => none
theorem laws_szLibrary.run (k : Nat) (a0 : Library) (a1 : Int) : runF envX (tabC (laws_szLibrary.C k)) (tabL 12 0 (fun _ => none)) Tryz.f8 [.t .lib a0, .t (.int .i64) a1] (viewR1 (.t (.int .i64))) = laws_szLibrary.F k a0 a1 := by kernel_rfl
theorem laws_szLibrary.G (hE : EnvOk Tryz.prog envX) (pv : Nat → Value) (k : Nat) : ∀ cal A, laws_szLibrary.C k cal = some A → ArmOk Tryz.prog envX pv cal A := by
  intro cal A h
  unfold laws_szLibrary.C at h
  split at h
  · cases h; exact fun x y hy => laws_szEntryS.good hE pv k x.1 x.2.1 hy
  · cases h
theorem laws_szLibrary.good (hE : EnvOk Tryz.prog envX) (pv : Nat → Value) (k : Nat) (a0 : Library) (a1 : Int) {y : _} (h : laws_szLibrary.F k a0 a1 = some y) : Meets Tryz.prog envX pv (.f 8) (tvals [.lib, (.int .i64)] (a0, a1, ())) (.t (.int .i64) y) :=
  fun_plain hE (laws_szLibrary.G hE pv k) (f := 8) (fn := Tryz.f8) (by kernel_rfl) rfl (by kernel_rfl) (by kernel_rfl) ((laws_szLibrary.run k a0 a1).trans h) fun r hr => wk_view1 hr
/-! ### 33 loop.example/g00896/spec.l4Find -/
def spec_l4Find.l0 : Nat → ByteArray → Library → Int → Option (Sum Int Unit)
  | 0, _, _, _ => none
  | k + 1, x1, x2, x5 => bif (decide (x5 < (x2.entries.length : Int))) then (bif decide (0 ≤ x5) then (bif decide (x5 < (x2.entries.length : Int)) then (bif (beqS ((x2.entries.getD (x5 : Int).toNat (dflt .entry)).key) x1) then (some (.inl x5)) else (spec_l4Find.l0 k x1 x2 (IntKind.wrap .i64 (x5 + 1)))) else none) else none) else (some (.inr ()))
def spec_l4Find.F (k : Nat) (a0 : Library) (a1 : ByteArray) : Option (Int) := (spec_l4Find.l0 k a1 a0 0).bind fun y1 => match y1 with | .inl z2 => some z2 | .inr z2 => some (-1)
def spec_l4Find.C (k : Nat) : Cal → Option CArm := fun c => match c with
  | _ => none
def spec_l4Find.sp0 : List Sp := [.t 1 .str, .boxT 2 0 .lib, .t 5 (.int .i64)]
def spec_l4Find.sp0_0 : List Sp := [.t 4 (.int .i64)]
def spec_l4Find.sp0_1 : List Sp := []
def spec_l4Find.A0 : LArm := .two spec_l4Find.sp0 spec_l4Find.sp0_0 spec_l4Find.sp0_1 (Int) (Unit) (fun k x => spec_l4Find.l0 k x.1 x.2.1 x.2.2.1) .ret (.exit 0) (fun y => (y, ())) (fun x => x.1) (fun y => ()) (fun x => ())
def spec_l4Find.L : Nat → Option LArm := fun b => match b with
  | 0 => some spec_l4Find.A0
  | _ => none
theorem spec_l4Find.run (k : Nat) (a0 : Library) (a1 : ByteArray) : runF envX (tabC (spec_l4Find.C k)) (tabL 22 k spec_l4Find.L) Tryz.f33 [.t .lib a0, .t .str a1] (viewR1 (.t (.int .i64))) = spec_l4Find.F k a0 a1 := by kernel_rfl
theorem spec_l4Find.step0 (k : Nat) (x1 : ByteArray) (x2 : Library) (x5 : Int) : runC envX (tabC (spec_l4Find.C k)) (tabL 22 k spec_l4Find.L) 0 (loopAt Tryz.f33 0) (stOf 22 spec_l4Find.sp0 (x1, x2, x5, ())) (spec_l4Find.A0.cont 22 k) = spec_l4Find.l0 (k + 1) x1 x2 x5 := by kernel_rfl
theorem spec_l4Find.G (hE : EnvOk Tryz.prog envX) (pv : Nat → Value) (k : Nat) : ∀ cal A, spec_l4Find.C k cal = some A → ArmOk Tryz.prog envX pv cal A := by
  intro cal A h
  unfold spec_l4Find.C at h
  cases h
theorem spec_l4Find.good (hE : EnvOk Tryz.prog envX) (pv : Nat → Value) (k : Nat) (a0 : Library) (a1 : ByteArray) {y : _} (h : spec_l4Find.F k a0 a1 = some y) : Meets Tryz.prog envX pv (.f 33) (tvals [.lib, .str] (a0, a1, ())) (.t (.int .i64) y) :=
  fun_loops hE (t := spec_l4Find.C) k (fun k _ => spec_l4Find.G hE pv k) (f := 33) (fn := Tryz.f33) (by kernel_rfl) rfl (by kernel_rfl) (by kernel_rfl) (lt := spec_l4Find.L) (by kernel_rfl) (fun b A h => by
    unfold spec_l4Find.L at h; split at h
    · cases h; exact ⟨by kernel_rfl, by kernel_rfl, by kernel_rfl, fun _ => rfl, fun _ => rfl, fun _ => rfl⟩
    · cases h) (fun b A h => by
    unfold spec_l4Find.L at h; split at h
    · cases h; exact fun k x => spec_l4Find.step0 k x.1 x.2.1 x.2.2.1
    · cases h) ((spec_l4Find.run k a0 a1).trans h) fun r hr => wk_view1 hr
/-! ### 107 loop.example/g00896/spec.l1In -/
def spec_l1In.F (a0 : Int) (a1 : Int) (a2 : Int) : Option (Bool) := bif (decide (a0 ≥ a1)) then (some (decide (a0 ≤ a2))) else (some false)
def spec_l1In.C : Cal → Option CArm := fun c => match c with
  | _ => none
theorem spec_l1In.run (a0 : Int) (a1 : Int) (a2 : Int) : runF envX (tabC spec_l1In.C) (tabL 15 0 (fun _ => none)) Tryz.f107 [.t (.int .i64) a0, .t (.int .i64) a1, .t (.int .i64) a2] (viewR1 (.t .bool)) = spec_l1In.F a0 a1 a2 := by kernel_rfl
theorem spec_l1In.G (hE : EnvOk Tryz.prog envX) (pv : Nat → Value) : ∀ cal A, spec_l1In.C cal = some A → ArmOk Tryz.prog envX pv cal A := by
  intro cal A h
  unfold spec_l1In.C at h
  cases h
theorem spec_l1In.good (hE : EnvOk Tryz.prog envX) (pv : Nat → Value) (a0 : Int) (a1 : Int) (a2 : Int) {y : _} (h : spec_l1In.F a0 a1 a2 = some y) : Meets Tryz.prog envX pv (.f 107) (tvals [(.int .i64), (.int .i64), (.int .i64)] (a0, a1, a2, ())) (.t .bool y) :=
  fun_plain hE (spec_l1In.G hE pv) (f := 107) (fn := Tryz.f107) (by kernel_rfl) rfl (by kernel_rfl) (by kernel_rfl) ((spec_l1In.run a0 a1 a2).trans h) fun r hr => wk_view1 hr
/-! ### 130 loop.example/g00896/spec.l2Lower -/
def spec_l2Lower.F (a0 : Int) : Option (Bool) := bif (decide (a0 ≥ 97)) then (some (decide (a0 ≤ 122))) else (some false)
def spec_l2Lower.C : Cal → Option CArm := fun c => match c with
  | _ => none
theorem spec_l2Lower.run (a0 : Int) : runF envX (tabC spec_l2Lower.C) (tabL 9 0 (fun _ => none)) Tryz.f130 [.t (.int .u8) a0] (viewR1 (.t .bool)) = spec_l2Lower.F a0 := by kernel_rfl
theorem spec_l2Lower.G (hE : EnvOk Tryz.prog envX) (pv : Nat → Value) : ∀ cal A, spec_l2Lower.C cal = some A → ArmOk Tryz.prog envX pv cal A := by
  intro cal A h
  unfold spec_l2Lower.C at h
  cases h
theorem spec_l2Lower.good (hE : EnvOk Tryz.prog envX) (pv : Nat → Value) (a0 : Int) {y : _} (h : spec_l2Lower.F a0 = some y) : Meets Tryz.prog envX pv (.f 130) (tvals [(.int .u8)] (a0, ())) (.t .bool y) :=
  fun_plain hE (spec_l2Lower.G hE pv) (f := 130) (fn := Tryz.f130) (by kernel_rfl) rfl (by kernel_rfl) (by kernel_rfl) ((spec_l2Lower.run a0).trans h) fun r hr => wk_view1 hr
/-! ### 106 loop.example/g00896/spec.l4Key -/
def spec_l4Key.l0 : Nat → ByteArray → Int → Option (Sum Bool Unit)
  | 0, _, _ => none
  | k + 1, x0, x3 => bif (decide (x3 < (x0.size : Int))) then (bif decide (0 ≤ x3) then (bif decide (x3 < (x0.size : Int)) then ((spec_l2Lower.F (bt x0 (x3 : Int).toNat)).bind fun r3 => bif (!r3) then (bif decide (0 ≤ x3) then (bif decide (x3 < (x0.size : Int)) then (bif (decide ((bt x0 (x3 : Int).toNat) < 48)) then (some (.inl false)) else (bif decide (0 ≤ x3) then (bif decide (x3 < (x0.size : Int)) then (bif (decide ((bt x0 (x3 : Int).toNat) > 57)) then (some (.inl false)) else (spec_l4Key.l0 k x0 (IntKind.wrap .i64 (x3 + 1)))) else none) else none)) else none) else none) else (spec_l4Key.l0 k x0 (IntKind.wrap .i64 (x3 + 1)))) else none) else none) else (some (.inr ()))
def spec_l4Key.F (k : Nat) (a0 : ByteArray) : Option (Bool) := (spec_l1In.F (a0.size : Int) 1 10).bind fun r1 => bif (!r1) then (some false) else (bif decide (0 ≤ 0) then (bif decide (0 < (a0.size : Int)) then ((spec_l2Lower.F (bt a0 (0 : Int).toNat)).bind fun r2 => bif (!r2) then (some false) else ((spec_l4Key.l0 k a0 0).bind fun y4 => match y4 with | .inl z5 => some z5 | .inr z5 => some true)) else none) else none)
def spec_l4Key.C (k : Nat) : Cal → Option CArm := fun c => match c with
  | .f 107 => some (.p [(.int .i64), (.int .i64), (.int .i64)] _ (fun x => spec_l1In.F x.1 x.2.1 x.2.2.1) (fun r => (.t .bool r)))
  | .f 130 => some (.p [(.int .u8)] _ (fun x => spec_l2Lower.F x.1) (fun r => (.t .bool r)))
  | _ => none
def spec_l4Key.sp0 : List Sp := [.t 0 .str, .t 3 (.int .i64)]
def spec_l4Key.sp0_0 : List Sp := [.t 2 .bool]
def spec_l4Key.sp0_1 : List Sp := []
def spec_l4Key.A0 : LArm := .two spec_l4Key.sp0 spec_l4Key.sp0_0 spec_l4Key.sp0_1 (Bool) (Unit) (fun k x => spec_l4Key.l0 k x.1 x.2.1) .ret (.exit 0) (fun y => (y, ())) (fun x => x.1) (fun y => ()) (fun x => ())
def spec_l4Key.L : Nat → Option LArm := fun b => match b with
  | 0 => some spec_l4Key.A0
  | _ => none
theorem spec_l4Key.run (k : Nat) (a0 : ByteArray) : runF envX (tabC (spec_l4Key.C k)) (tabL 37 k spec_l4Key.L) Tryz.f106 [.t .str a0] (viewR1 (.t .bool)) = spec_l4Key.F k a0 := by kernel_rfl
theorem spec_l4Key.step0 (k : Nat) (x0 : ByteArray) (x3 : Int) : runC envX (tabC (spec_l4Key.C k)) (tabL 37 k spec_l4Key.L) 0 (loopAt Tryz.f106 0) (stOf 37 spec_l4Key.sp0 (x0, x3, ())) (spec_l4Key.A0.cont 37 k) = spec_l4Key.l0 (k + 1) x0 x3 := by kernel_rfl
theorem spec_l4Key.G (hE : EnvOk Tryz.prog envX) (pv : Nat → Value) (k : Nat) : ∀ cal A, spec_l4Key.C k cal = some A → ArmOk Tryz.prog envX pv cal A := by
  intro cal A h
  unfold spec_l4Key.C at h
  split at h
  · cases h; exact fun x y hy => spec_l1In.good hE pv x.1 x.2.1 x.2.2.1 hy
  · cases h; exact fun x y hy => spec_l2Lower.good hE pv x.1 hy
  · cases h
theorem spec_l4Key.good (hE : EnvOk Tryz.prog envX) (pv : Nat → Value) (k : Nat) (a0 : ByteArray) {y : _} (h : spec_l4Key.F k a0 = some y) : Meets Tryz.prog envX pv (.f 106) (tvals [.str] (a0, ())) (.t .bool y) :=
  fun_loops hE (t := spec_l4Key.C) k (fun k _ => spec_l4Key.G hE pv k) (f := 106) (fn := Tryz.f106) (by kernel_rfl) rfl (by kernel_rfl) (by kernel_rfl) (lt := spec_l4Key.L) (by kernel_rfl) (fun b A h => by
    unfold spec_l4Key.L at h; split at h
    · cases h; exact ⟨by kernel_rfl, by kernel_rfl, by kernel_rfl, fun _ => rfl, fun _ => rfl, fun _ => rfl⟩
    · cases h) (fun b A h => by
    unfold spec_l4Key.L at h; split at h
    · cases h; exact fun k x => spec_l4Key.step0 k x.1 x.2.1
    · cases h) ((spec_l4Key.run k a0).trans h) fun r hr => wk_view1 hr
/-! ### 152 loop.example/g00896/spec.l2Upper -/
def spec_l2Upper.F (a0 : Int) : Option (Bool) := bif (decide (a0 ≥ 65)) then (some (decide (a0 ≤ 90))) else (some false)
def spec_l2Upper.C : Cal → Option CArm := fun c => match c with
  | _ => none
theorem spec_l2Upper.run (a0 : Int) : runF envX (tabC spec_l2Upper.C) (tabL 9 0 (fun _ => none)) Tryz.f152 [.t (.int .u8) a0] (viewR1 (.t .bool)) = spec_l2Upper.F a0 := by kernel_rfl
theorem spec_l2Upper.G (hE : EnvOk Tryz.prog envX) (pv : Nat → Value) : ∀ cal A, spec_l2Upper.C cal = some A → ArmOk Tryz.prog envX pv cal A := by
  intro cal A h
  unfold spec_l2Upper.C at h
  cases h
theorem spec_l2Upper.good (hE : EnvOk Tryz.prog envX) (pv : Nat → Value) (a0 : Int) {y : _} (h : spec_l2Upper.F a0 = some y) : Meets Tryz.prog envX pv (.f 152) (tvals [(.int .u8)] (a0, ())) (.t .bool y) :=
  fun_plain hE (spec_l2Upper.G hE pv) (f := 152) (fn := Tryz.f152) (by kernel_rfl) rfl (by kernel_rfl) (by kernel_rfl) ((spec_l2Upper.run a0).trans h) fun r hr => wk_view1 hr
/-! ### 173 loop.example/g00896/spec.l2Letter -/
def spec_l2Letter.F (a0 : Int) : Option (Bool) := (spec_l2Upper.F a0).bind fun r1 => bif r1 then (some true) else ((spec_l2Lower.F a0).bind fun r2 => some r2)
def spec_l2Letter.C : Cal → Option CArm := fun c => match c with
  | .f 152 => some (.p [(.int .u8)] _ (fun x => spec_l2Upper.F x.1) (fun r => (.t .bool r)))
  | .f 130 => some (.p [(.int .u8)] _ (fun x => spec_l2Lower.F x.1) (fun r => (.t .bool r)))
  | _ => none
theorem spec_l2Letter.run (a0 : Int) : runF envX (tabC spec_l2Letter.C) (tabL 9 0 (fun _ => none)) Tryz.f173 [.t (.int .u8) a0] (viewR1 (.t .bool)) = spec_l2Letter.F a0 := by kernel_rfl
theorem spec_l2Letter.G (hE : EnvOk Tryz.prog envX) (pv : Nat → Value) : ∀ cal A, spec_l2Letter.C cal = some A → ArmOk Tryz.prog envX pv cal A := by
  intro cal A h
  unfold spec_l2Letter.C at h
  split at h
  · cases h; exact fun x y hy => spec_l2Upper.good hE pv x.1 hy
  · cases h; exact fun x y hy => spec_l2Lower.good hE pv x.1 hy
  · cases h
theorem spec_l2Letter.good (hE : EnvOk Tryz.prog envX) (pv : Nat → Value) (a0 : Int) {y : _} (h : spec_l2Letter.F a0 = some y) : Meets Tryz.prog envX pv (.f 173) (tvals [(.int .u8)] (a0, ())) (.t .bool y) :=
  fun_plain hE (spec_l2Letter.G hE pv) (f := 173) (fn := Tryz.f173) (by kernel_rfl) rfl (by kernel_rfl) (by kernel_rfl) ((spec_l2Letter.run a0).trans h) fun r hr => wk_view1 hr
/-! ### 151 loop.example/g00896/spec.l2Word -/
def spec_l2Word.l0 : Nat → ByteArray → Int → Option (Sum Bool Unit)
  | 0, _, _ => none
  | k + 1, x0, x3 => bif (decide (x3 < (x0.size : Int))) then (bif decide (0 ≤ x3) then (bif decide (x3 < (x0.size : Int)) then ((spec_l2Letter.F (bt x0 (x3 : Int).toNat)).bind fun r4 => bif (!r4) then (bif decide (0 ≤ x3) then (bif decide (x3 < (x0.size : Int)) then (bif ((bt x0 (x3 : Int).toNat) != 45) then (bif decide (0 ≤ x3) then (bif decide (x3 < (x0.size : Int)) then (bif ((bt x0 (x3 : Int).toNat) != 39) then (some (.inl false)) else (bif decide (0 ≤ (IntKind.wrap .i64 (x3 - 1))) then (bif decide ((IntKind.wrap .i64 (x3 - 1)) < (x0.size : Int)) then ((spec_l2Letter.F (bt x0 ((IntKind.wrap .i64 (x3 - 1)) : Int).toNat)).bind fun r5 => bif (!r5) then (some (.inl false)) else (spec_l2Word.l0 k x0 (IntKind.wrap .i64 (x3 + 1)))) else none) else none)) else none) else none) else (bif decide (0 ≤ (IntKind.wrap .i64 (x3 - 1))) then (bif decide ((IntKind.wrap .i64 (x3 - 1)) < (x0.size : Int)) then ((spec_l2Letter.F (bt x0 ((IntKind.wrap .i64 (x3 - 1)) : Int).toNat)).bind fun r6 => bif (!r6) then (some (.inl false)) else (spec_l2Word.l0 k x0 (IntKind.wrap .i64 (x3 + 1)))) else none) else none)) else none) else none) else (spec_l2Word.l0 k x0 (IntKind.wrap .i64 (x3 + 1)))) else none) else none) else (some (.inr ()))
def spec_l2Word.F (k : Nat) (a0 : ByteArray) : Option (Bool) := (spec_l1In.F (a0.size : Int) 1 12).bind fun r1 => bif (!r1) then (some false) else (bif decide (0 ≤ 0) then (bif decide (0 < (a0.size : Int)) then ((spec_l2Letter.F (bt a0 (0 : Int).toNat)).bind fun r2 => bif (!r2) then (some false) else (bif decide (0 ≤ (IntKind.wrap .i64 ((a0.size : Int) - 1))) then (bif decide ((IntKind.wrap .i64 ((a0.size : Int) - 1)) < (a0.size : Int)) then ((spec_l2Letter.F (bt a0 ((IntKind.wrap .i64 ((a0.size : Int) - 1)) : Int).toNat)).bind fun r3 => bif (!r3) then (some false) else ((spec_l2Word.l0 k a0 1).bind fun y7 => match y7 with | .inl z8 => some z8 | .inr z8 => some true)) else none) else none)) else none) else none)
def spec_l2Word.C (k : Nat) : Cal → Option CArm := fun c => match c with
  | .f 107 => some (.p [(.int .i64), (.int .i64), (.int .i64)] _ (fun x => spec_l1In.F x.1 x.2.1 x.2.2.1) (fun r => (.t .bool r)))
  | .f 173 => some (.p [(.int .u8)] _ (fun x => spec_l2Letter.F x.1) (fun r => (.t .bool r)))
  | _ => none
def spec_l2Word.sp0 : List Sp := [.t 0 .str, .t 3 (.int .i64)]
def spec_l2Word.sp0_0 : List Sp := [.t 2 .bool]
def spec_l2Word.sp0_1 : List Sp := []
def spec_l2Word.A0 : LArm := .two spec_l2Word.sp0 spec_l2Word.sp0_0 spec_l2Word.sp0_1 (Bool) (Unit) (fun k x => spec_l2Word.l0 k x.1 x.2.1) .ret (.exit 0) (fun y => (y, ())) (fun x => x.1) (fun y => ()) (fun x => ())
def spec_l2Word.L : Nat → Option LArm := fun b => match b with
  | 0 => some spec_l2Word.A0
  | _ => none
theorem spec_l2Word.run (k : Nat) (a0 : ByteArray) : runF envX (tabC (spec_l2Word.C k)) (tabL 54 k spec_l2Word.L) Tryz.f151 [.t .str a0] (viewR1 (.t .bool)) = spec_l2Word.F k a0 := by kernel_rfl
theorem spec_l2Word.step0 (k : Nat) (x0 : ByteArray) (x3 : Int) : runC envX (tabC (spec_l2Word.C k)) (tabL 54 k spec_l2Word.L) 0 (loopAt Tryz.f151 0) (stOf 54 spec_l2Word.sp0 (x0, x3, ())) (spec_l2Word.A0.cont 54 k) = spec_l2Word.l0 (k + 1) x0 x3 := by kernel_rfl
theorem spec_l2Word.G (hE : EnvOk Tryz.prog envX) (pv : Nat → Value) (k : Nat) : ∀ cal A, spec_l2Word.C k cal = some A → ArmOk Tryz.prog envX pv cal A := by
  intro cal A h
  unfold spec_l2Word.C at h
  split at h
  · cases h; exact fun x y hy => spec_l1In.good hE pv x.1 x.2.1 x.2.2.1 hy
  · cases h; exact fun x y hy => spec_l2Letter.good hE pv x.1 hy
  · cases h
theorem spec_l2Word.good (hE : EnvOk Tryz.prog envX) (pv : Nat → Value) (k : Nat) (a0 : ByteArray) {y : _} (h : spec_l2Word.F k a0 = some y) : Meets Tryz.prog envX pv (.f 151) (tvals [.str] (a0, ())) (.t .bool y) :=
  fun_loops hE (t := spec_l2Word.C) k (fun k _ => spec_l2Word.G hE pv k) (f := 151) (fn := Tryz.f151) (by kernel_rfl) rfl (by kernel_rfl) (by kernel_rfl) (lt := spec_l2Word.L) (by kernel_rfl) (fun b A h => by
    unfold spec_l2Word.L at h; split at h
    · cases h; exact ⟨by kernel_rfl, by kernel_rfl, by kernel_rfl, fun _ => rfl, fun _ => rfl, fun _ => rfl⟩
    · cases h) (fun b A h => by
    unfold spec_l2Word.L at h; split at h
    · cases h; exact fun k x => spec_l2Word.step0 k x.1 x.2.1
    · cases h) ((spec_l2Word.run k a0).trans h) fun r hr => wk_view1 hr
/-! ### 174 loop.example/g00896/spec.l1Split -/
def spec_l1Split.l0 : Nat → ByteArray → Int → (List ByteArray) → Int → Int → Option (ByteArray × (List ByteArray) × Int)
  | 0, _, _, _, _, _ => none
  | k + 1, x0, x1, x5, x6, x7 => bif (decide (x7 < (x0.size : Int))) then (bif decide (0 ≤ x7) then (bif decide (x7 < (x0.size : Int)) then (bif ((bt x0 (x7 : Int).toNat) == x1) then (bif decide (0 ≤ x7) then (bif decide (x7 ≤ (x0.size : Int)) then (bif decide (0 ≤ x6) then (bif decide (x6 ≤ x7) then (bif room (x5.length + ([(x0.extract (x6 : Int).toNat (x7 : Int).toNat)] : List ByteArray).length) .str then (spec_l1Split.l0 k x0 x1 (x5 ++ ([(x0.extract (x6 : Int).toNat (x7 : Int).toNat)] : List ByteArray)) (IntKind.wrap .i64 (x7 + 1)) (IntKind.wrap .i64 (x7 + 1))) else none) else none) else none) else none) else none) else (spec_l1Split.l0 k x0 x1 x5 x6 (IntKind.wrap .i64 (x7 + 1)))) else none) else none) else (some (x0, x5, x6))
def spec_l1Split.F (k : Nat) (a0 : ByteArray) (a1 : Int) : Option (List ByteArray) := (spec_l1Split.l0 k a0 a1 ([] : List ByteArray) 0 0).bind fun y1 => bif decide (0 ≤ y1.2.2) then (bif decide (y1.2.2 ≤ (y1.1.size : Int)) then (bif room (y1.2.1.length + ([(y1.1.extract (y1.2.2 : Int).toNat y1.1.size)] : List ByteArray).length) .str then (some (y1.2.1 ++ ([(y1.1.extract (y1.2.2 : Int).toNat y1.1.size)] : List ByteArray))) else none) else none) else none
def spec_l1Split.C (k : Nat) : Cal → Option CArm := fun c => match c with
  | _ => none
def spec_l1Split.sp0 : List Sp := [.t 0 .str, .t 1 (.int .u8), .own 5 1024 9 .str false true, .t 6 (.int .i64), .t 7 (.int .i64)]
def spec_l1Split.sp0_0 : List Sp := [.t 0 .str, .own 5 1024 9 .str false true, .t 6 (.int .i64)]
def spec_l1Split.A0 : LArm := .one spec_l1Split.sp0 spec_l1Split.sp0_0 (ByteArray × (List ByteArray) × Int) (fun k x => spec_l1Split.l0 k x.1 x.2.1 x.2.2.1 x.2.2.2.1 x.2.2.2.2.1) (.exit 0) (fun y => (y.1, y.2.1, y.2.2, ())) (fun x => (x.1, x.2.1, x.2.2.1))
def spec_l1Split.L : Nat → Option LArm := fun b => match b with
  | 0 => some spec_l1Split.A0
  | _ => none
theorem spec_l1Split.run (k : Nat) (a0 : ByteArray) (a1 : Int) : runF envX (tabC (spec_l1Split.C k)) (tabL 35 k spec_l1Split.L) Tryz.f174 [.t .str a0, .t (.int .u8) a1] (viewR1 (.fr 9 .str)) = spec_l1Split.F k a0 a1 := by kernel_rfl
theorem spec_l1Split.step0 (k : Nat) (x0 : ByteArray) (x1 : Int) (x5 : List ByteArray) (x6 : Int) (x7 : Int) : runC envX (tabC (spec_l1Split.C k)) (tabL 35 k spec_l1Split.L) 0 (loopAt Tryz.f174 0) (stOf 35 spec_l1Split.sp0 (x0, x1, x5, x6, x7, ())) (spec_l1Split.A0.cont 35 k) = spec_l1Split.l0 (k + 1) x0 x1 x5 x6 x7 := by kernel_rfl
theorem spec_l1Split.G (hE : EnvOk Tryz.prog envX) (pv : Nat → Value) (k : Nat) : ∀ cal A, spec_l1Split.C k cal = some A → ArmOk Tryz.prog envX pv cal A := by
  intro cal A h
  unfold spec_l1Split.C at h
  cases h
theorem spec_l1Split.good (hE : EnvOk Tryz.prog envX) (pv : Nat → Value) (k : Nat) (a0 : ByteArray) (a1 : Int) {y : _} (h : spec_l1Split.F k a0 a1 = some y) : Meets Tryz.prog envX pv (.f 174) (tvals [.str, (.int .u8)] (a0, a1, ())) (.fr 9 .str y) :=
  fun_loops hE (t := spec_l1Split.C) k (fun k _ => spec_l1Split.G hE pv k) (f := 174) (fn := Tryz.f174) (by kernel_rfl) rfl (by kernel_rfl) (by kernel_rfl) (lt := spec_l1Split.L) (by kernel_rfl) (fun b A h => by
    unfold spec_l1Split.L at h; split at h
    · cases h; exact ⟨by kernel_rfl, by kernel_rfl, fun _ => rfl, fun _ => rfl⟩
    · cases h) (fun b A h => by
    unfold spec_l1Split.L at h; split at h
    · cases h; exact fun k x => spec_l1Split.step0 k x.1 x.2.1 x.2.2.1 x.2.2.2.1 x.2.2.2.2.1
    · cases h) ((spec_l1Split.run k a0 a1).trans h) fun r hr => wk_view1 hr
/-! ### 153 loop.example/g00896/spec.l2Particle -/
def spec_l2Particle.l2 : Nat → (List ByteArray) → Int → Int → Option (Sum Bool ((List ByteArray) × Int))
  | 0, _, _, _ => none
  | k + 1, x3, x4, x5 => bif decide (0 ≤ x4) then (bif decide (x4 < (x3.length : Int)) then (bif (decide (x5 < ((x3.getD ((x4 : Int).toNat) (⟨#[]⟩ : ByteArray)).size : Int))) then (bif decide (0 ≤ x4) then (bif decide (x4 < (x3.length : Int)) then (bif decide (0 ≤ x5) then (bif decide (x5 < ((x3.getD ((x4 : Int).toNat) (⟨#[]⟩ : ByteArray)).size : Int)) then ((spec_l2Lower.F (bt (x3.getD ((x4 : Int).toNat) (⟨#[]⟩ : ByteArray)) (x5 : Int).toNat)).bind fun r3 => bif (!r3) then (some (.inl false)) else (spec_l2Particle.l2 k x3 x4 (IntKind.wrap .i64 (x5 + 1)))) else none) else none) else none) else none) else (some (.inr (x3, x4)))) else none) else none
def spec_l2Particle.l0 : Nat → (List ByteArray) → Int → Option (Sum Bool (List ByteArray))
  | 0, _, _ => none
  | k + 1, x3, x4 => bif (decide (x4 < (x3.length : Int))) then (bif decide (0 ≤ x4) then (bif decide (x4 < (x3.length : Int)) then ((spec_l2Word.F k (x3.getD ((x4 : Int).toNat) (⟨#[]⟩ : ByteArray))).bind fun r2 => bif (!r2) then (some (.inl false)) else ((spec_l2Particle.l2 k x3 x4 0).bind fun y4 => match y4 with | .inl z5 => some (.inl z5) | .inr z5 => spec_l2Particle.l0 k z5.1 (IntKind.wrap .i64 (z5.2 + 1)))) else none) else none) else (some (.inr x3))
def spec_l2Particle.F (k : Nat) (a0 : ByteArray) : Option (Bool) := bif (beqS a0 (⟨#[]⟩ : ByteArray)) then (some true) else ((spec_l1Split.F k a0 32).bind fun r1 => (spec_l2Particle.l0 k r1 0).bind fun y6 => match y6 with | .inl z7 => some z7 | .inr z7 => some (decide ((z7.length : Int) ≤ 2)))
def spec_l2Particle.C (k : Nat) : Cal → Option CArm := fun c => match c with
  | .f 174 => some (.p [.str, (.int .u8)] _ (fun x => spec_l1Split.F k x.1 x.2.1) (fun r => (.fr 9 .str r)))
  | .f 151 => some (.p [.str] _ (fun x => spec_l2Word.F k x.1) (fun r => (.t .bool r)))
  | .f 130 => some (.p [(.int .u8)] _ (fun x => spec_l2Lower.F x.1) (fun r => (.t .bool r)))
  | _ => none
def spec_l2Particle.sp2 : List Sp := [.own 3 3076 9 .str false true, .t 4 (.int .i64), .t 5 (.int .i64)]
def spec_l2Particle.sp2_0 : List Sp := [.t 2 .bool]
def spec_l2Particle.sp2_1 : List Sp := [.own 3 3076 9 .str false true, .t 4 (.int .i64)]
def spec_l2Particle.A2 : LArm := .two spec_l2Particle.sp2 spec_l2Particle.sp2_0 spec_l2Particle.sp2_1 (Bool) ((List ByteArray) × Int) (fun k x => spec_l2Particle.l2 k x.1 x.2.1 x.2.2.1) .ret (.exit 2) (fun y => (y, ())) (fun x => x.1) (fun y => (y.1, y.2, ())) (fun x => (x.1, x.2.1))
def spec_l2Particle.sp0 : List Sp := [.own 3 3076 9 .str false true, .t 4 (.int .i64)]
def spec_l2Particle.sp0_0 : List Sp := [.t 2 .bool]
def spec_l2Particle.sp0_1 : List Sp := [.own 3 3076 9 .str false true]
def spec_l2Particle.A0 : LArm := .two spec_l2Particle.sp0 spec_l2Particle.sp0_0 spec_l2Particle.sp0_1 (Bool) ((List ByteArray)) (fun k x => spec_l2Particle.l0 k x.1 x.2.1) .ret (.exit 0) (fun y => (y, ())) (fun x => x.1) (fun y => (y, ())) (fun x => x.1)
def spec_l2Particle.L : Nat → Option LArm := fun b => match b with
  | 2 => some spec_l2Particle.A2
  | 0 => some spec_l2Particle.A0
  | _ => none
theorem spec_l2Particle.run (k : Nat) (a0 : ByteArray) : runF envX (tabC (spec_l2Particle.C k)) (tabL 42 k spec_l2Particle.L) Tryz.f153 [.t .str a0] (viewR1 (.t .bool)) = spec_l2Particle.F k a0 := by kernel_rfl
theorem spec_l2Particle.step2 (k : Nat) (x3 : List ByteArray) (x4 : Int) (x5 : Int) : runC envX (tabC (spec_l2Particle.C k)) (tabL 42 k spec_l2Particle.L) 2 (loopAt Tryz.f153 2) (stOf 42 spec_l2Particle.sp2 (x3, x4, x5, ())) (spec_l2Particle.A2.cont 42 k) = spec_l2Particle.l2 (k + 1) x3 x4 x5 := by kernel_rfl
theorem spec_l2Particle.step0 (k : Nat) (x3 : List ByteArray) (x4 : Int) : runC envX (tabC (spec_l2Particle.C k)) (tabL 42 k spec_l2Particle.L) 0 (loopAt Tryz.f153 0) (stOf 42 spec_l2Particle.sp0 (x3, x4, ())) (spec_l2Particle.A0.cont 42 k) = spec_l2Particle.l0 (k + 1) x3 x4 := by kernel_rfl
theorem spec_l2Particle.G (hE : EnvOk Tryz.prog envX) (pv : Nat → Value) (k : Nat) : ∀ cal A, spec_l2Particle.C k cal = some A → ArmOk Tryz.prog envX pv cal A := by
  intro cal A h
  unfold spec_l2Particle.C at h
  split at h
  · cases h; exact fun x y hy => spec_l1Split.good hE pv k x.1 x.2.1 hy
  · cases h; exact fun x y hy => spec_l2Word.good hE pv k x.1 hy
  · cases h; exact fun x y hy => spec_l2Lower.good hE pv x.1 hy
  · cases h
theorem spec_l2Particle.good (hE : EnvOk Tryz.prog envX) (pv : Nat → Value) (k : Nat) (a0 : ByteArray) {y : _} (h : spec_l2Particle.F k a0 = some y) : Meets Tryz.prog envX pv (.f 153) (tvals [.str] (a0, ())) (.t .bool y) :=
  fun_loops hE (t := spec_l2Particle.C) k (fun k _ => spec_l2Particle.G hE pv k) (f := 153) (fn := Tryz.f153) (by kernel_rfl) rfl (by kernel_rfl) (by kernel_rfl) (lt := spec_l2Particle.L) (by kernel_rfl) (fun b A h => by
    unfold spec_l2Particle.L at h; split at h
    · cases h; exact ⟨by kernel_rfl, by kernel_rfl, by kernel_rfl, fun _ => rfl, fun _ => rfl, fun _ => rfl⟩
    · cases h; exact ⟨by kernel_rfl, by kernel_rfl, by kernel_rfl, fun _ => rfl, fun _ => rfl, fun _ => rfl⟩
    · cases h) (fun b A h => by
    unfold spec_l2Particle.L at h; split at h
    · cases h; exact fun k x => spec_l2Particle.step2 k x.1 x.2.1 x.2.2.1
    · cases h; exact fun k x => spec_l2Particle.step0 k x.1 x.2.1
    · cases h) ((spec_l2Particle.run k a0).trans h) fun r hr => wk_view1 hr
/-! ### 131 loop.example/g00896/spec.l2Good -/
def spec_l2Good.l0 : Nat → Name → Int → Option (Sum Bool Name)
  | 0, _, _ => none
  | k + 1, x1, x3 => bif (decide (x3 < (x1.given.length : Int))) then (bif decide (0 ≤ x3) then (bif decide (x3 < (x1.given.length : Int)) then ((spec_l2Word.F k (x1.given.getD (x3 : Int).toNat (⟨#[]⟩ : ByteArray))).bind fun r1 => bif (!r1) then (some (.inl false)) else (bif decide (0 ≤ x3) then (bif decide (x3 < (x1.given.length : Int)) then (bif decide (0 ≤ 0) then (bif decide (0 < ((x1.given.getD (x3 : Int).toNat (⟨#[]⟩ : ByteArray)).size : Int)) then ((spec_l2Upper.F (bt (x1.given.getD (x3 : Int).toNat (⟨#[]⟩ : ByteArray)) (0 : Int).toNat)).bind fun r2 => bif (!r2) then (some (.inl false)) else (spec_l2Good.l0 k x1 (IntKind.wrap .i64 (x3 + 1)))) else none) else none) else none) else none)) else none) else none) else (some (.inr x1))
def spec_l2Good.F (k : Nat) (a0 : Name) : Option (Bool) := (spec_l2Good.l0 k a0 0).bind fun y3 => match y3 with | .inl z4 => some z4 | .inr z4 => bif (decide ((z4.given.length : Int) ≤ 3)) then ((spec_l2Particle.F k z4.particle).bind fun r5 => bif r5 then ((spec_l2Word.F k z4.family).bind fun r6 => bif r6 then (bif decide (0 ≤ 0) then (bif decide (0 < (z4.family.size : Int)) then ((spec_l2Upper.F (bt z4.family (0 : Int).toNat)).bind fun r7 => bif r7 then (bif (beqS z4.suffix (⟨#[]⟩ : ByteArray)) then (some true) else ((spec_l2Word.F k z4.suffix).bind fun r8 => some r8)) else (some false)) else none) else none) else (some false)) else (some false)) else (some false)
def spec_l2Good.C (k : Nat) : Cal → Option CArm := fun c => match c with
  | .f 151 => some (.p [.str] _ (fun x => spec_l2Word.F k x.1) (fun r => (.t .bool r)))
  | .f 152 => some (.p [(.int .u8)] _ (fun x => spec_l2Upper.F x.1) (fun r => (.t .bool r)))
  | .f 153 => some (.p [.str] _ (fun x => spec_l2Particle.F k x.1) (fun r => (.t .bool r)))
  | _ => none
def spec_l2Good.sp0 : List Sp := [.boxT 1 0 .name, .t 3 (.int .i64)]
def spec_l2Good.sp0_0 : List Sp := [.t 2 .bool]
def spec_l2Good.sp0_1 : List Sp := [.boxT 1 0 .name]
def spec_l2Good.A0 : LArm := .two spec_l2Good.sp0 spec_l2Good.sp0_0 spec_l2Good.sp0_1 (Bool) (Name) (fun k x => spec_l2Good.l0 k x.1 x.2.1) .ret (.exit 0) (fun y => (y, ())) (fun x => x.1) (fun y => (y, ())) (fun x => x.1)
def spec_l2Good.L : Nat → Option LArm := fun b => match b with
  | 0 => some spec_l2Good.A0
  | _ => none
theorem spec_l2Good.run (k : Nat) (a0 : Name) : runF envX (tabC (spec_l2Good.C k)) (tabL 58 k spec_l2Good.L) Tryz.f131 [.t .name a0] (viewR1 (.t .bool)) = spec_l2Good.F k a0 := by kernel_rfl
theorem spec_l2Good.step0 (k : Nat) (x1 : Name) (x3 : Int) : runC envX (tabC (spec_l2Good.C k)) (tabL 58 k spec_l2Good.L) 0 (loopAt Tryz.f131 0) (stOf 58 spec_l2Good.sp0 (x1, x3, ())) (spec_l2Good.A0.cont 58 k) = spec_l2Good.l0 (k + 1) x1 x3 := by kernel_rfl
theorem spec_l2Good.G (hE : EnvOk Tryz.prog envX) (pv : Nat → Value) (k : Nat) : ∀ cal A, spec_l2Good.C k cal = some A → ArmOk Tryz.prog envX pv cal A := by
  intro cal A h
  unfold spec_l2Good.C at h
  split at h
  · cases h; exact fun x y hy => spec_l2Word.good hE pv k x.1 hy
  · cases h; exact fun x y hy => spec_l2Upper.good hE pv x.1 hy
  · cases h; exact fun x y hy => spec_l2Particle.good hE pv k x.1 hy
  · cases h
theorem spec_l2Good.good (hE : EnvOk Tryz.prog envX) (pv : Nat → Value) (k : Nat) (a0 : Name) {y : _} (h : spec_l2Good.F k a0 = some y) : Meets Tryz.prog envX pv (.f 131) (tvals [.name] (a0, ())) (.t .bool y) :=
  fun_loops hE (t := spec_l2Good.C) k (fun k _ => spec_l2Good.G hE pv k) (f := 131) (fn := Tryz.f131) (by kernel_rfl) rfl (by kernel_rfl) (by kernel_rfl) (lt := spec_l2Good.L) (by kernel_rfl) (fun b A h => by
    unfold spec_l2Good.L at h; split at h
    · cases h; exact ⟨by kernel_rfl, by kernel_rfl, by kernel_rfl, fun _ => rfl, fun _ => rfl, fun _ => rfl⟩
    · cases h) (fun b A h => by
    unfold spec_l2Good.L at h; split at h
    · cases h; exact fun k x => spec_l2Good.step0 k x.1 x.2.1
    · cases h) ((spec_l2Good.run k a0).trans h) fun r hr => wk_view1 hr
/-! ### 108 loop.example/g00896/spec.l2List -/
def spec_l2List.l0 : Nat → (List Name) → Int → Option (Sum Bool (List Name))
  | 0, _, _ => none
  | k + 1, x0, x3 => bif (decide (x3 < (x0.length : Int))) then (bif (decide (x3 ≤ 4)) then (bif decide (0 ≤ x3) then (bif decide (x3 < (x0.length : Int)) then ((spec_l2Good.F k (x0.getD (x3 : Int).toNat (dflt .name))).bind fun r1 => bif (!r1) then (some (.inl false)) else (spec_l2List.l0 k x0 (IntKind.wrap .i64 (x3 + 1)))) else none) else none) else (some (.inr x0))) else (some (.inr x0))
def spec_l2List.F (k : Nat) (a0 : List Name) : Option (Bool) := (spec_l2List.l0 k a0 0).bind fun y2 => match y2 with | .inl z3 => some z3 | .inr z3 => some (decide ((z3.length : Int) ≤ 4))
def spec_l2List.C (k : Nat) : Cal → Option CArm := fun c => match c with
  | .f 131 => some (.p [.name] _ (fun x => spec_l2Good.F k x.1) (fun r => (.t .bool r)))
  | _ => none
def spec_l2List.sp0 : List Sp := [.t 0 (.sl .name), .t 3 (.int .i64)]
def spec_l2List.sp0_0 : List Sp := [.t 2 .bool]
def spec_l2List.sp0_1 : List Sp := [.t 0 (.sl .name)]
def spec_l2List.A0 : LArm := .two spec_l2List.sp0 spec_l2List.sp0_0 spec_l2List.sp0_1 (Bool) ((List Name)) (fun k x => spec_l2List.l0 k x.1 x.2.1) .ret (.exit 0) (fun y => (y, ())) (fun x => x.1) (fun y => (y, ())) (fun x => x.1)
def spec_l2List.L : Nat → Option LArm := fun b => match b with
  | 0 => some spec_l2List.A0
  | _ => none
theorem spec_l2List.run (k : Nat) (a0 : List Name) : runF envX (tabC (spec_l2List.C k)) (tabL 23 k spec_l2List.L) Tryz.f108 [.t (.sl .name) a0] (viewR1 (.t .bool)) = spec_l2List.F k a0 := by kernel_rfl
theorem spec_l2List.step0 (k : Nat) (x0 : List Name) (x3 : Int) : runC envX (tabC (spec_l2List.C k)) (tabL 23 k spec_l2List.L) 0 (loopAt Tryz.f108 0) (stOf 23 spec_l2List.sp0 (x0, x3, ())) (spec_l2List.A0.cont 23 k) = spec_l2List.l0 (k + 1) x0 x3 := by kernel_rfl
theorem spec_l2List.G (hE : EnvOk Tryz.prog envX) (pv : Nat → Value) (k : Nat) : ∀ cal A, spec_l2List.C k cal = some A → ArmOk Tryz.prog envX pv cal A := by
  intro cal A h
  unfold spec_l2List.C at h
  split at h
  · cases h; exact fun x y hy => spec_l2Good.good hE pv k x.1 hy
  · cases h
theorem spec_l2List.good (hE : EnvOk Tryz.prog envX) (pv : Nat → Value) (k : Nat) (a0 : List Name) {y : _} (h : spec_l2List.F k a0 = some y) : Meets Tryz.prog envX pv (.f 108) (tvals [(.sl .name)] (a0, ())) (.t .bool y) :=
  fun_loops hE (t := spec_l2List.C) k (fun k _ => spec_l2List.G hE pv k) (f := 108) (fn := Tryz.f108) (by kernel_rfl) rfl (by kernel_rfl) (by kernel_rfl) (lt := spec_l2List.L) (by kernel_rfl) (fun b A h => by
    unfold spec_l2List.L at h; split at h
    · cases h; exact ⟨by kernel_rfl, by kernel_rfl, by kernel_rfl, fun _ => rfl, fun _ => rfl, fun _ => rfl⟩
    · cases h) (fun b A h => by
    unfold spec_l2List.L at h; split at h
    · cases h; exact fun k x => spec_l2List.step0 k x.1 x.2.1
    · cases h) ((spec_l2List.run k a0).trans h) fun r hr => wk_view1 hr
/-! ### 109 loop.example/g00896/spec.l4Text -/
def spec_l4Text.l0 : Nat → ByteArray → Int → Option (Sum Bool ByteArray)
  | 0, _, _ => none
  | k + 1, x0, x3 => bif (decide (x3 < (x0.size : Int))) then (bif decide (0 ≤ x3) then (bif decide (x3 < (x0.size : Int)) then (bif (decide ((bt x0 (x3 : Int).toNat) < 32)) then (some (.inl false)) else (bif decide (0 ≤ x3) then (bif decide (x3 < (x0.size : Int)) then (bif (decide ((bt x0 (x3 : Int).toNat) > 126)) then (some (.inl false)) else (spec_l4Text.l0 k x0 (IntKind.wrap .i64 (x3 + 1)))) else none) else none)) else none) else none) else (some (.inr x0))
def spec_l4Text.F (k : Nat) (a0 : ByteArray) : Option (Bool) := bif (decide ((a0.size : Int) > 40)) then (some false) else ((spec_l4Text.l0 k a0 0).bind fun y1 => match y1 with | .inl z2 => some z2 | .inr z2 => bif (beqS z2 (⟨#[]⟩ : ByteArray)) then (some true) else (bif decide (0 ≤ 0) then (bif decide (0 < (z2.size : Int)) then (bif ((bt z2 (0 : Int).toNat) != 32) then (bif decide (0 ≤ (IntKind.wrap .i64 ((z2.size : Int) - 1))) then (bif decide ((IntKind.wrap .i64 ((z2.size : Int) - 1)) < (z2.size : Int)) then (some ((bt z2 ((IntKind.wrap .i64 ((z2.size : Int) - 1)) : Int).toNat) != 32)) else none) else none) else (some false)) else none) else none))
def spec_l4Text.C (k : Nat) : Cal → Option CArm := fun c => match c with
  | _ => none
def spec_l4Text.sp0 : List Sp := [.t 0 .str, .t 3 (.int .i64)]
def spec_l4Text.sp0_0 : List Sp := [.t 2 .bool]
def spec_l4Text.sp0_1 : List Sp := [.t 0 .str]
def spec_l4Text.A0 : LArm := .two spec_l4Text.sp0 spec_l4Text.sp0_0 spec_l4Text.sp0_1 (Bool) (ByteArray) (fun k x => spec_l4Text.l0 k x.1 x.2.1) .ret (.exit 0) (fun y => (y, ())) (fun x => x.1) (fun y => (y, ())) (fun x => x.1)
def spec_l4Text.L : Nat → Option LArm := fun b => match b with
  | 0 => some spec_l4Text.A0
  | _ => none
theorem spec_l4Text.run (k : Nat) (a0 : ByteArray) : runF envX (tabC (spec_l4Text.C k)) (tabL 38 k spec_l4Text.L) Tryz.f109 [.t .str a0] (viewR1 (.t .bool)) = spec_l4Text.F k a0 := by kernel_rfl
theorem spec_l4Text.step0 (k : Nat) (x0 : ByteArray) (x3 : Int) : runC envX (tabC (spec_l4Text.C k)) (tabL 38 k spec_l4Text.L) 0 (loopAt Tryz.f109 0) (stOf 38 spec_l4Text.sp0 (x0, x3, ())) (spec_l4Text.A0.cont 38 k) = spec_l4Text.l0 (k + 1) x0 x3 := by kernel_rfl
theorem spec_l4Text.G (hE : EnvOk Tryz.prog envX) (pv : Nat → Value) (k : Nat) : ∀ cal A, spec_l4Text.C k cal = some A → ArmOk Tryz.prog envX pv cal A := by
  intro cal A h
  unfold spec_l4Text.C at h
  cases h
theorem spec_l4Text.good (hE : EnvOk Tryz.prog envX) (pv : Nat → Value) (k : Nat) (a0 : ByteArray) {y : _} (h : spec_l4Text.F k a0 = some y) : Meets Tryz.prog envX pv (.f 109) (tvals [.str] (a0, ())) (.t .bool y) :=
  fun_loops hE (t := spec_l4Text.C) k (fun k _ => spec_l4Text.G hE pv k) (f := 109) (fn := Tryz.f109) (by kernel_rfl) rfl (by kernel_rfl) (by kernel_rfl) (lt := spec_l4Text.L) (by kernel_rfl) (fun b A h => by
    unfold spec_l4Text.L at h; split at h
    · cases h; exact ⟨by kernel_rfl, by kernel_rfl, by kernel_rfl, fun _ => rfl, fun _ => rfl, fun _ => rfl⟩
    · cases h) (fun b A h => by
    unfold spec_l4Text.L at h; split at h
    · cases h; exact fun k x => spec_l4Text.step0 k x.1 x.2.1
    · cases h) ((spec_l4Text.run k a0).trans h) fun r hr => wk_view1 hr
/-! ### 132 loop.example/g00896/spec.l3Days -/
def spec_l3Days.F (a0 : Int) (a1 : Int) : Option (Int) := bif (a1 == 2) then (bif (4 == 0) then (none) else (bif ((Int.tmod a0 4) == 0) then (bif (100 == 0) then (none) else (bif ((Int.tmod a0 100) != 0) then (some 29) else (bif (400 == 0) then (none) else (bif ((Int.tmod a0 400) == 0) then (some 29) else (some 28))))) else (bif (400 == 0) then (none) else (bif ((Int.tmod a0 400) == 0) then (some 29) else (some 28))))) else (bif (a1 == 4) then (some 30) else (bif (a1 == 6) then (some 30) else (bif (a1 == 9) then (some 30) else (bif (a1 == 11) then (some 30) else (some 31)))))
def spec_l3Days.C : Cal → Option CArm := fun c => match c with
  | _ => none
theorem spec_l3Days.run (a0 : Int) (a1 : Int) : runF envX (tabC spec_l3Days.C) (tabL 34 0 (fun _ => none)) Tryz.f132 [.t (.int .i64) a0, .t (.int .i64) a1] (viewR1 (.t (.int .i64))) = spec_l3Days.F a0 a1 := by kernel_rfl
theorem spec_l3Days.G (hE : EnvOk Tryz.prog envX) (pv : Nat → Value) : ∀ cal A, spec_l3Days.C cal = some A → ArmOk Tryz.prog envX pv cal A := by
  intro cal A h
  unfold spec_l3Days.C at h
  cases h
theorem spec_l3Days.good (hE : EnvOk Tryz.prog envX) (pv : Nat → Value) (a0 : Int) (a1 : Int) {y : _} (h : spec_l3Days.F a0 a1 = some y) : Meets Tryz.prog envX pv (.f 132) (tvals [(.int .i64), (.int .i64)] (a0, a1, ())) (.t (.int .i64) y) :=
  fun_plain hE (spec_l3Days.G hE pv) (f := 132) (fn := Tryz.f132) (by kernel_rfl) rfl (by kernel_rfl) (by kernel_rfl) ((spec_l3Days.run a0 a1).trans h) fun r hr => wk_view1 hr
/-! ### 110 loop.example/g00896/spec.l3Good -/
def spec_l3Good.F (a0 : Date) : Option (Bool) := bif ((a0.y == 0 && (a0.m == 0 && (a0.d == 0 && a0.c == false)))) then (some true) else ((spec_l1In.F a0.y 1 2999).bind fun r1 => bif (!r1) then (some false) else ((spec_l1In.F a0.m 0 12).bind fun r2 => bif (!r2) then (some false) else (bif a0.c then (bif (a0.m == 0) then (some (a0.d == 0)) else (some false)) else (bif (a0.m == 0) then (some (a0.d == 0)) else ((spec_l3Days.F a0.y a0.m).bind fun r3 => (spec_l1In.F a0.d 0 r3).bind fun r4 => some r4)))))
def spec_l3Good.C : Cal → Option CArm := fun c => match c with
  | .f 107 => some (.p [(.int .i64), (.int .i64), (.int .i64)] _ (fun x => spec_l1In.F x.1 x.2.1 x.2.2.1) (fun r => (.t .bool r)))
  | .f 132 => some (.p [(.int .i64), (.int .i64)] _ (fun x => spec_l3Days.F x.1 x.2.1) (fun r => (.t (.int .i64) r)))
  | _ => none
theorem spec_l3Good.run (a0 : Date) : runF envX (tabC spec_l3Good.C) (tabL 44 0 (fun _ => none)) Tryz.f110 [.t .date a0] (viewR1 (.t .bool)) = spec_l3Good.F a0 := by kernel_rfl
theorem spec_l3Good.G (hE : EnvOk Tryz.prog envX) (pv : Nat → Value) : ∀ cal A, spec_l3Good.C cal = some A → ArmOk Tryz.prog envX pv cal A := by
  intro cal A h
  unfold spec_l3Good.C at h
  split at h
  · cases h; exact fun x y hy => spec_l1In.good hE pv x.1 x.2.1 x.2.2.1 hy
  · cases h; exact fun x y hy => spec_l3Days.good hE pv x.1 x.2.1 hy
  · cases h
theorem spec_l3Good.good (hE : EnvOk Tryz.prog envX) (pv : Nat → Value) (a0 : Date) {y : _} (h : spec_l3Good.F a0 = some y) : Meets Tryz.prog envX pv (.f 110) (tvals [.date] (a0, ())) (.t .bool y) :=
  fun_plain hE (spec_l3Good.G hE pv) (f := 110) (fn := Tryz.f110) (by kernel_rfl) rfl (by kernel_rfl) (by kernel_rfl) ((spec_l3Good.run a0).trans h) fun r hr => wk_view1 hr
/-! ### 78 loop.example/g00896/spec.l4Entry -/
def spec_l4Entry.F (k : Nat) (a0 : Entry) : Option (Bool) := (spec_l4Key.F k a0.key).bind fun r1 => bif (!r1) then (some false) else ((spec_l1In.F a0.kind 1 4).bind fun r2 => bif (!r2) then (some false) else ((spec_l2List.F k a0.authors).bind fun r3 => bif (!r3) then (some false) else ((spec_l2List.F k a0.editors).bind fun r4 => bif (!r4) then (some false) else ((spec_l4Text.F k a0.title).bind fun r5 => bif (!r5) then (some false) else ((spec_l4Text.F k a0.container).bind fun r6 => bif (!r6) then (some false) else ((spec_l4Text.F k a0.publisher).bind fun r7 => bif (!r7) then (some false) else ((spec_l4Text.F k a0.pages).bind fun r8 => bif (!r8) then (some false) else ((spec_l3Good.F a0.date).bind fun r9 => bif r9 then ((spec_l1In.F a0.volume 0 9999).bind fun r10 => bif r10 then (bif (beqS a0.cross (⟨#[]⟩ : ByteArray)) then (some true) else ((spec_l4Key.F k a0.cross).bind fun r11 => bif r11 then (some (!beqS a0.cross a0.key)) else (some false))) else (some false)) else (some false)))))))))
def spec_l4Entry.C (k : Nat) : Cal → Option CArm := fun c => match c with
  | .f 106 => some (.p [.str] _ (fun x => spec_l4Key.F k x.1) (fun r => (.t .bool r)))
  | .f 107 => some (.p [(.int .i64), (.int .i64), (.int .i64)] _ (fun x => spec_l1In.F x.1 x.2.1 x.2.2.1) (fun r => (.t .bool r)))
  | .f 108 => some (.p [(.sl .name)] _ (fun x => spec_l2List.F k x.1) (fun r => (.t .bool r)))
  | .f 109 => some (.p [.str] _ (fun x => spec_l4Text.F k x.1) (fun r => (.t .bool r)))
  | .f 110 => some (.p [.date] _ (fun x => spec_l3Good.F x.1) (fun r => (.t .bool r)))
  | _ => none
theorem spec_l4Entry.run (k : Nat) (a0 : Entry) : runF envX (tabC (spec_l4Entry.C k)) (tabL 72 0 (fun _ => none)) Tryz.f78 [.t .entry a0] (viewR1 (.t .bool)) = spec_l4Entry.F k a0 := by kernel_rfl
theorem spec_l4Entry.G (hE : EnvOk Tryz.prog envX) (pv : Nat → Value) (k : Nat) : ∀ cal A, spec_l4Entry.C k cal = some A → ArmOk Tryz.prog envX pv cal A := by
  intro cal A h
  unfold spec_l4Entry.C at h
  split at h
  · cases h; exact fun x y hy => spec_l4Key.good hE pv k x.1 hy
  · cases h; exact fun x y hy => spec_l1In.good hE pv x.1 x.2.1 x.2.2.1 hy
  · cases h; exact fun x y hy => spec_l2List.good hE pv k x.1 hy
  · cases h; exact fun x y hy => spec_l4Text.good hE pv k x.1 hy
  · cases h; exact fun x y hy => spec_l3Good.good hE pv x.1 hy
  · cases h
theorem spec_l4Entry.good (hE : EnvOk Tryz.prog envX) (pv : Nat → Value) (k : Nat) (a0 : Entry) {y : _} (h : spec_l4Entry.F k a0 = some y) : Meets Tryz.prog envX pv (.f 78) (tvals [.entry] (a0, ())) (.t .bool y) :=
  fun_plain hE (spec_l4Entry.G hE pv k) (f := 78) (fn := Tryz.f78) (by kernel_rfl) rfl (by kernel_rfl) (by kernel_rfl) ((spec_l4Entry.run k a0).trans h) fun r hr => wk_view1 hr
/-! ### 50 loop.example/g00896/spec.l4Good -/
def spec_l4Good.l0 : Nat → Library → Int → Option (Sum Bool Unit)
  | 0, _, _ => none
  | k + 1, x1, x3 => bif (decide (x3 < (x1.entries.length : Int))) then (bif decide (0 ≤ x3) then (bif decide (x3 < (x1.entries.length : Int)) then ((spec_l4Entry.F k (x1.entries.getD (x3 : Int).toNat (dflt .entry))).bind fun r1 => bif (!r1) then (some (.inl false)) else (bif (decide (x3 > 0)) then (bif decide (0 ≤ (IntKind.wrap .i64 (x3 - 1))) then (bif decide ((IntKind.wrap .i64 (x3 - 1)) < (x1.entries.length : Int)) then (bif decide (0 ≤ x3) then (bif decide (x3 < (x1.entries.length : Int)) then (bif (!ltS ((x1.entries.getD ((IntKind.wrap .i64 (x3 - 1)) : Int).toNat (dflt .entry)).key) ((x1.entries.getD (x3 : Int).toNat (dflt .entry)).key)) then (some (.inl false)) else (spec_l4Good.l0 k x1 (IntKind.wrap .i64 (x3 + 1)))) else none) else none) else none) else none) else (spec_l4Good.l0 k x1 (IntKind.wrap .i64 (x3 + 1))))) else none) else none) else (some (.inr ()))
def spec_l4Good.F (k : Nat) (a0 : Library) : Option (Bool) := bif (decide ((a0.entries.length : Int) > 8)) then (some false) else ((spec_l4Good.l0 k a0 0).bind fun y2 => match y2 with | .inl z3 => some z3 | .inr z3 => some true)
def spec_l4Good.C (k : Nat) : Cal → Option CArm := fun c => match c with
  | .f 78 => some (.p [.entry] _ (fun x => spec_l4Entry.F k x.1) (fun r => (.t .bool r)))
  | _ => none
def spec_l4Good.sp0 : List Sp := [.boxT 1 0 .lib, .t 3 (.int .i64)]
def spec_l4Good.sp0_0 : List Sp := [.t 2 .bool]
def spec_l4Good.sp0_1 : List Sp := []
def spec_l4Good.A0 : LArm := .two spec_l4Good.sp0 spec_l4Good.sp0_0 spec_l4Good.sp0_1 (Bool) (Unit) (fun k x => spec_l4Good.l0 k x.1 x.2.1) .ret (.exit 0) (fun y => (y, ())) (fun x => x.1) (fun y => ()) (fun x => ())
def spec_l4Good.L : Nat → Option LArm := fun b => match b with
  | 0 => some spec_l4Good.A0
  | _ => none
theorem spec_l4Good.run (k : Nat) (a0 : Library) : runF envX (tabC (spec_l4Good.C k)) (tabL 42 k spec_l4Good.L) Tryz.f50 [.t .lib a0] (viewR1 (.t .bool)) = spec_l4Good.F k a0 := by kernel_rfl
theorem spec_l4Good.step0 (k : Nat) (x1 : Library) (x3 : Int) : runC envX (tabC (spec_l4Good.C k)) (tabL 42 k spec_l4Good.L) 0 (loopAt Tryz.f50 0) (stOf 42 spec_l4Good.sp0 (x1, x3, ())) (spec_l4Good.A0.cont 42 k) = spec_l4Good.l0 (k + 1) x1 x3 := by kernel_rfl
theorem spec_l4Good.G (hE : EnvOk Tryz.prog envX) (pv : Nat → Value) (k : Nat) : ∀ cal A, spec_l4Good.C k cal = some A → ArmOk Tryz.prog envX pv cal A := by
  intro cal A h
  unfold spec_l4Good.C at h
  split at h
  · cases h; exact fun x y hy => spec_l4Entry.good hE pv k x.1 hy
  · cases h
theorem spec_l4Good.good (hE : EnvOk Tryz.prog envX) (pv : Nat → Value) (k : Nat) (a0 : Library) {y : _} (h : spec_l4Good.F k a0 = some y) : Meets Tryz.prog envX pv (.f 50) (tvals [.lib] (a0, ())) (.t .bool y) :=
  fun_loops hE (t := spec_l4Good.C) k (fun k _ => spec_l4Good.G hE pv k) (f := 50) (fn := Tryz.f50) (by kernel_rfl) rfl (by kernel_rfl) (by kernel_rfl) (lt := spec_l4Good.L) (by kernel_rfl) (fun b A h => by
    unfold spec_l4Good.L at h; split at h
    · cases h; exact ⟨by kernel_rfl, by kernel_rfl, by kernel_rfl, fun _ => rfl, fun _ => rfl, fun _ => rfl⟩
    · cases h) (fun b A h => by
    unfold spec_l4Good.L at h; split at h
    · cases h; exact fun k x => spec_l4Good.step0 k x.1 x.2.1
    · cases h) ((spec_l4Good.run k a0).trans h) fun r hr => wk_view1 hr
/-! ### 41 loop.example/g00896/spec.l21Asked -/
def spec_l21Asked.F (k : Nat) (a0 : Library) (a1 : ByteArray) : Option (Bool) := (spec_l4Good.F k a0).bind fun r1 => bif r1 then ((spec_l4Find.F k a0 a1).bind fun r2 => some (decide (r2 ≥ 0))) else (some false)
def spec_l21Asked.C (k : Nat) : Cal → Option CArm := fun c => match c with
  | .f 50 => some (.p [.lib] _ (fun x => spec_l4Good.F k x.1) (fun r => (.t .bool r)))
  | .f 33 => some (.p [.lib, .str] _ (fun x => spec_l4Find.F k x.1 x.2.1) (fun r => (.t (.int .i64) r)))
  | _ => none
theorem spec_l21Asked.run (k : Nat) (a0 : Library) (a1 : ByteArray) : runF envX (tabC (spec_l21Asked.C k)) (tabL 13 0 (fun _ => none)) Tryz.f41 [.t .lib a0, .t .str a1] (viewR1 (.t .bool)) = spec_l21Asked.F k a0 a1 := by kernel_rfl
theorem spec_l21Asked.G (hE : EnvOk Tryz.prog envX) (pv : Nat → Value) (k : Nat) : ∀ cal A, spec_l21Asked.C k cal = some A → ArmOk Tryz.prog envX pv cal A := by
  intro cal A h
  unfold spec_l21Asked.C at h
  split at h
  · cases h; exact fun x y hy => spec_l4Good.good hE pv k x.1 hy
  · cases h; exact fun x y hy => spec_l4Find.good hE pv k x.1 x.2.1 hy
  · cases h
theorem spec_l21Asked.good (hE : EnvOk Tryz.prog envX) (pv : Nat → Value) (k : Nat) (a0 : Library) (a1 : ByteArray) {y : _} (h : spec_l21Asked.F k a0 a1 = some y) : Meets Tryz.prog envX pv (.f 41) (tvals [.lib, .str] (a0, a1, ())) (.t .bool y) :=
  fun_plain hE (spec_l21Asked.G hE pv k) (f := 41) (fn := Tryz.f41) (by kernel_rfl) rfl (by kernel_rfl) (by kernel_rfl) ((spec_l21Asked.run k a0 a1).trans h) fun r hr => wk_view1 hr
/-! ### 53 loop.example/g00896/spec.l21Parent -/
def spec_l21Parent.F (k : Nat) (a0 : Library) (a1 : Int) : Option (Int) := bif decide (0 ≤ a1) then (bif decide (a1 < (a0.entries.length : Int)) then (bif (beqS ((a0.entries.getD (a1 : Int).toNat (dflt .entry)).cross) (⟨#[]⟩ : ByteArray)) then (some (-1)) else (bif decide (0 ≤ a1) then (bif decide (a1 < (a0.entries.length : Int)) then ((spec_l4Find.F k a0 ((a0.entries.getD (a1 : Int).toNat (dflt .entry)).cross)).bind fun r1 => some r1) else none) else none)) else none) else none
def spec_l21Parent.C (k : Nat) : Cal → Option CArm := fun c => match c with
  | .f 33 => some (.p [.lib, .str] _ (fun x => spec_l4Find.F k x.1 x.2.1) (fun r => (.t (.int .i64) r)))
  | _ => none
theorem spec_l21Parent.run (k : Nat) (a0 : Library) (a1 : Int) : runF envX (tabC (spec_l21Parent.C k)) (tabL 20 0 (fun _ => none)) Tryz.f53 [.t .lib a0, .t (.int .i64) a1] (viewR1 (.t (.int .i64))) = spec_l21Parent.F k a0 a1 := by kernel_rfl
theorem spec_l21Parent.G (hE : EnvOk Tryz.prog envX) (pv : Nat → Value) (k : Nat) : ∀ cal A, spec_l21Parent.C k cal = some A → ArmOk Tryz.prog envX pv cal A := by
  intro cal A h
  unfold spec_l21Parent.C at h
  split at h
  · cases h; exact fun x y hy => spec_l4Find.good hE pv k x.1 x.2.1 hy
  · cases h
theorem spec_l21Parent.good (hE : EnvOk Tryz.prog envX) (pv : Nat → Value) (k : Nat) (a0 : Library) (a1 : Int) {y : _} (h : spec_l21Parent.F k a0 a1 = some y) : Meets Tryz.prog envX pv (.f 53) (tvals [.lib, (.int .i64)] (a0, a1, ())) (.t (.int .i64) y) :=
  fun_plain hE (spec_l21Parent.G hE pv k) (f := 53) (fn := Tryz.f53) (by kernel_rfl) rfl (by kernel_rfl) (by kernel_rfl) ((spec_l21Parent.run k a0 a1).trans h) fun r hr => wk_view1 hr
/-! ### 79 loop.example/g00896/spec.l1Has -/
def spec_l1Has.l0 : Nat → (List Int) → Int → Int → Option (Sum Bool Unit)
  | 0, _, _, _ => none
  | k + 1, x0, x1, x5 => bif (decide (x5 < (x0.length : Int))) then (bif decide (0 ≤ x5) then (bif decide (x5 < (x0.length : Int)) then (bif ((x0.getD (x5 : Int).toNat 0) == x1) then (some (.inl true)) else (spec_l1Has.l0 k x0 x1 (IntKind.wrap .i64 (x5 + 1)))) else none) else none) else (some (.inr ()))
def spec_l1Has.F (k : Nat) (a0 : List Int) (a1 : Int) : Option (Bool) := (spec_l1Has.l0 k a0 a1 0).bind fun y1 => match y1 with | .inl z2 => some z2 | .inr z2 => some false
def spec_l1Has.C (k : Nat) : Cal → Option CArm := fun c => match c with
  | _ => none
def spec_l1Has.sp0 : List Sp := [.t 0 (.sl (.int .i64)), .t 1 (.int .i64), .t 5 (.int .i64)]
def spec_l1Has.sp0_0 : List Sp := [.t 4 .bool]
def spec_l1Has.sp0_1 : List Sp := []
def spec_l1Has.A0 : LArm := .two spec_l1Has.sp0 spec_l1Has.sp0_0 spec_l1Has.sp0_1 (Bool) (Unit) (fun k x => spec_l1Has.l0 k x.1 x.2.1 x.2.2.1) .ret (.exit 0) (fun y => (y, ())) (fun x => x.1) (fun y => ()) (fun x => ())
def spec_l1Has.L : Nat → Option LArm := fun b => match b with
  | 0 => some spec_l1Has.A0
  | _ => none
theorem spec_l1Has.run (k : Nat) (a0 : List Int) (a1 : Int) : runF envX (tabC (spec_l1Has.C k)) (tabL 18 k spec_l1Has.L) Tryz.f79 [.t (.sl (.int .i64)) a0, .t (.int .i64) a1] (viewR1 (.t .bool)) = spec_l1Has.F k a0 a1 := by kernel_rfl
theorem spec_l1Has.step0 (k : Nat) (x0 : List Int) (x1 : Int) (x5 : Int) : runC envX (tabC (spec_l1Has.C k)) (tabL 18 k spec_l1Has.L) 0 (loopAt Tryz.f79 0) (stOf 18 spec_l1Has.sp0 (x0, x1, x5, ())) (spec_l1Has.A0.cont 18 k) = spec_l1Has.l0 (k + 1) x0 x1 x5 := by kernel_rfl
theorem spec_l1Has.G (hE : EnvOk Tryz.prog envX) (pv : Nat → Value) (k : Nat) : ∀ cal A, spec_l1Has.C k cal = some A → ArmOk Tryz.prog envX pv cal A := by
  intro cal A h
  unfold spec_l1Has.C at h
  cases h
theorem spec_l1Has.good (hE : EnvOk Tryz.prog envX) (pv : Nat → Value) (k : Nat) (a0 : List Int) (a1 : Int) {y : _} (h : spec_l1Has.F k a0 a1 = some y) : Meets Tryz.prog envX pv (.f 79) (tvals [(.sl (.int .i64)), (.int .i64)] (a0, a1, ())) (.t .bool y) :=
  fun_loops hE (t := spec_l1Has.C) k (fun k _ => spec_l1Has.G hE pv k) (f := 79) (fn := Tryz.f79) (by kernel_rfl) rfl (by kernel_rfl) (by kernel_rfl) (lt := spec_l1Has.L) (by kernel_rfl) (fun b A h => by
    unfold spec_l1Has.L at h; split at h
    · cases h; exact ⟨by kernel_rfl, by kernel_rfl, by kernel_rfl, fun _ => rfl, fun _ => rfl, fun _ => rfl⟩
    · cases h) (fun b A h => by
    unfold spec_l1Has.L at h; split at h
    · cases h; exact fun k x => spec_l1Has.step0 k x.1 x.2.1 x.2.2.1
    · cases h) ((spec_l1Has.run k a0 a1).trans h) fun r hr => wk_view1 hr
/-! ### 52 loop.example/g00896/spec.l21Chain -/
def spec_l21Chain.l0 : Nat → Int → Library → (List Int) → Option (Sum ((List Int) × Bool) (List Int))
  | 0, _, _, _ => none
  | k + 1, x1, x2, x6 => bif (decide (x1 ≥ 0)) then ((spec_l1Has.F k x6 x1).bind fun r1 => bif r1 then (some (.inl (x6, true))) else (bif room (x6.length + ([x1] : List Int).length) (.int .i64) then ((spec_l21Parent.F k x2 x1).bind fun r2 => spec_l21Chain.l0 k r2 x2 (x6 ++ ([x1] : List Int))) else none)) else (some (.inr x6))
def spec_l21Chain.F (k : Nat) (a0 : Library) (a1 : Int) : Option ((List Int) × Bool) := (spec_l21Chain.l0 k a1 a0 ([] : List Int)).bind fun y3 => match y3 with | .inl z4 => some (z4.1, z4.2) | .inr z4 => some (z4, false)
def spec_l21Chain.C (k : Nat) : Cal → Option CArm := fun c => match c with
  | .f 79 => some (.p [(.sl (.int .i64)), (.int .i64)] _ (fun x => spec_l1Has.F k x.1 x.2.1) (fun r => (.t .bool r)))
  | .f 53 => some (.p [.lib, (.int .i64)] _ (fun x => spec_l21Parent.F k x.1 x.2.1) (fun r => (.t (.int .i64) r)))
  | _ => none
def spec_l21Chain.sp0 : List Sp := [.t 1 (.int .i64), .boxT 2 0 .lib, .own 6 1024 3 (.int .i64) false true]
def spec_l21Chain.sp0_0 : List Sp := [.own 4 1024 3 (.int .i64) false true, .t 5 .bool]
def spec_l21Chain.sp0_1 : List Sp := [.own 6 1024 3 (.int .i64) false true]
def spec_l21Chain.A0 : LArm := .two spec_l21Chain.sp0 spec_l21Chain.sp0_0 spec_l21Chain.sp0_1 ((List Int) × Bool) ((List Int)) (fun k x => spec_l21Chain.l0 k x.1 x.2.1 x.2.2.1) .ret (.exit 0) (fun y => (y.1, y.2, ())) (fun x => (x.1, x.2.1)) (fun y => (y, ())) (fun x => x.1)
def spec_l21Chain.L : Nat → Option LArm := fun b => match b with
  | 0 => some spec_l21Chain.A0
  | _ => none
theorem spec_l21Chain.run (k : Nat) (a0 : Library) (a1 : Int) : runF envX (tabC (spec_l21Chain.C k)) (tabL 22 k spec_l21Chain.L) Tryz.f52 [.t .lib a0, .t (.int .i64) a1] (viewR2 (.fr 3 (.int .i64)) (.t .bool)) = spec_l21Chain.F k a0 a1 := by kernel_rfl
theorem spec_l21Chain.step0 (k : Nat) (x1 : Int) (x2 : Library) (x6 : List Int) : runC envX (tabC (spec_l21Chain.C k)) (tabL 22 k spec_l21Chain.L) 0 (loopAt Tryz.f52 0) (stOf 22 spec_l21Chain.sp0 (x1, x2, x6, ())) (spec_l21Chain.A0.cont 22 k) = spec_l21Chain.l0 (k + 1) x1 x2 x6 := by kernel_rfl
theorem spec_l21Chain.G (hE : EnvOk Tryz.prog envX) (pv : Nat → Value) (k : Nat) : ∀ cal A, spec_l21Chain.C k cal = some A → ArmOk Tryz.prog envX pv cal A := by
  intro cal A h
  unfold spec_l21Chain.C at h
  split at h
  · cases h; exact fun x y hy => spec_l1Has.good hE pv k x.1 x.2.1 hy
  · cases h; exact fun x y hy => spec_l21Parent.good hE pv k x.1 x.2.1 hy
  · cases h
theorem spec_l21Chain.good (hE : EnvOk Tryz.prog envX) (pv : Nat → Value) (k : Nat) (a0 : Library) (a1 : Int) {y : _} (h : spec_l21Chain.F k a0 a1 = some y) : Meets Tryz.prog envX pv (.f 52) (tvals [.lib, (.int .i64)] (a0, a1, ())) (.tup [.fr 3 (.int .i64) y.1, .t .bool y.2]) :=
  fun_loops hE (t := spec_l21Chain.C) k (fun k _ => spec_l21Chain.G hE pv k) (f := 52) (fn := Tryz.f52) (by kernel_rfl) rfl (by kernel_rfl) (by kernel_rfl) (lt := spec_l21Chain.L) (by kernel_rfl) (fun b A h => by
    unfold spec_l21Chain.L at h; split at h
    · cases h; exact ⟨by kernel_rfl, by kernel_rfl, by kernel_rfl, fun _ => rfl, fun _ => rfl, fun _ => rfl⟩
    · cases h) (fun b A h => by
    unfold spec_l21Chain.L at h; split at h
    · cases h; exact fun k x => spec_l21Chain.step0 k x.1 x.2.1 x.2.2.1
    · cases h) ((spec_l21Chain.run k a0 a1).trans h) fun r hr => wk_view2 hr
/-! ### 81 loop.example/g00896/spec.l2Own -/
def spec_l2Own.l0 : Nat → (List Name) → (List Name) → Int → Option ((List Name))
  | 0, _, _, _ => none
  | k + 1, x0, x3, x4 => bif (decide (x4 < (x0.length : Int))) then (bif decide (0 ≤ x4) then (bif decide (x4 < (x0.length : Int)) then (bif room (([] : List ByteArray).length + ((x0.getD (x4 : Int).toNat (dflt .name)).given).length) .str then (bif room (x3.length + ([(⟨(([] : List ByteArray) ++ ((x0.getD (x4 : Int).toNat (dflt .name)).given)), (x0.getD (x4 : Int).toNat (dflt .name)).particle, (x0.getD (x4 : Int).toNat (dflt .name)).family, (x0.getD (x4 : Int).toNat (dflt .name)).suffix⟩ : Name)] : List Name).length) .name then (spec_l2Own.l0 k x0 (x3 ++ ([(⟨(([] : List ByteArray) ++ ((x0.getD (x4 : Int).toNat (dflt .name)).given)), (x0.getD (x4 : Int).toNat (dflt .name)).particle, (x0.getD (x4 : Int).toNat (dflt .name)).family, (x0.getD (x4 : Int).toNat (dflt .name)).suffix⟩ : Name)] : List Name)) (IntKind.wrap .i64 (x4 + 1))) else none) else none) else none) else none) else (some x3)
def spec_l2Own.F (k : Nat) (a0 : List Name) : Option (List Name) := (spec_l2Own.l0 k a0 ([] : List Name) 0).bind fun y1 => some y1
def spec_l2Own.C (k : Nat) : Cal → Option CArm := fun c => match c with
  | _ => none
def spec_l2Own.sp0 : List Sp := [.t 0 (.sl .name), .own 3 1024 96 .name false true, .t 4 (.int .i64)]
def spec_l2Own.sp0_0 : List Sp := [.own 3 1024 96 .name false true]
def spec_l2Own.A0 : LArm := .one spec_l2Own.sp0 spec_l2Own.sp0_0 ((List Name)) (fun k x => spec_l2Own.l0 k x.1 x.2.1 x.2.2.1) (.exit 0) (fun y => (y, ())) (fun x => x.1)
def spec_l2Own.L : Nat → Option LArm := fun b => match b with
  | 0 => some spec_l2Own.A0
  | _ => none
theorem spec_l2Own.run (k : Nat) (a0 : List Name) : runF envX (tabC (spec_l2Own.C k)) (tabL 27 k spec_l2Own.L) Tryz.f81 [.t (.sl .name) a0] (viewR1 (.fr 96 .name)) = spec_l2Own.F k a0 := by kernel_rfl
theorem spec_l2Own.step0 (k : Nat) (x0 : List Name) (x3 : List Name) (x4 : Int) : runC envX (tabC (spec_l2Own.C k)) (tabL 27 k spec_l2Own.L) 0 (loopAt Tryz.f81 0) (stOf 27 spec_l2Own.sp0 (x0, x3, x4, ())) (spec_l2Own.A0.cont 27 k) = spec_l2Own.l0 (k + 1) x0 x3 x4 := by kernel_rfl
theorem spec_l2Own.G (hE : EnvOk Tryz.prog envX) (pv : Nat → Value) (k : Nat) : ∀ cal A, spec_l2Own.C k cal = some A → ArmOk Tryz.prog envX pv cal A := by
  intro cal A h
  unfold spec_l2Own.C at h
  cases h
theorem spec_l2Own.good (hE : EnvOk Tryz.prog envX) (pv : Nat → Value) (k : Nat) (a0 : List Name) {y : _} (h : spec_l2Own.F k a0 = some y) : Meets Tryz.prog envX pv (.f 81) (tvals [(.sl .name)] (a0, ())) (.fr 96 .name y) :=
  fun_loops hE (t := spec_l2Own.C) k (fun k _ => spec_l2Own.G hE pv k) (f := 81) (fn := Tryz.f81) (by kernel_rfl) rfl (by kernel_rfl) (by kernel_rfl) (lt := spec_l2Own.L) (by kernel_rfl) (fun b A h => by
    unfold spec_l2Own.L at h; split at h
    · cases h; exact ⟨by kernel_rfl, by kernel_rfl, fun _ => rfl, fun _ => rfl⟩
    · cases h) (fun b A h => by
    unfold spec_l2Own.L at h; split at h
    · cases h; exact fun k x => spec_l2Own.step0 k x.1 x.2.1 x.2.2.1
    · cases h) ((spec_l2Own.run k a0).trans h) fun r hr => wk_view1 hr
/-! ### 59 loop.example/g00896/spec.l4Copy -/
def spec_l4Copy.F (k : Nat) (a0 : Entry) : Option (Entry) := (spec_l2Own.F k a0.authors).bind fun r1 => (spec_l2Own.F k a0.editors).bind fun r2 => some (⟨a0.key, a0.kind, r1, r2, a0.title, a0.container, a0.publisher, a0.date, a0.volume, a0.pages, a0.cross⟩ : Entry)
def spec_l4Copy.C (k : Nat) : Cal → Option CArm := fun c => match c with
  | .f 81 => some (.p [(.sl .name)] _ (fun x => spec_l2Own.F k x.1) (fun r => (.fr 96 .name r)))
  | _ => none
theorem spec_l4Copy.run (k : Nat) (a0 : Entry) : runF envX (tabC (spec_l4Copy.C k)) (tabL 12 0 (fun _ => none)) Tryz.f59 [.t .entry a0] (viewR1 (.t .entry)) = spec_l4Copy.F k a0 := by kernel_rfl
theorem spec_l4Copy.G (hE : EnvOk Tryz.prog envX) (pv : Nat → Value) (k : Nat) : ∀ cal A, spec_l4Copy.C k cal = some A → ArmOk Tryz.prog envX pv cal A := by
  intro cal A h
  unfold spec_l4Copy.C at h
  split at h
  · cases h; exact fun x y hy => spec_l2Own.good hE pv k x.1 hy
  · cases h
theorem spec_l4Copy.good (hE : EnvOk Tryz.prog envX) (pv : Nat → Value) (k : Nat) (a0 : Entry) {y : _} (h : spec_l4Copy.F k a0 = some y) : Meets Tryz.prog envX pv (.f 59) (tvals [.entry] (a0, ())) (.t .entry y) :=
  fun_plain hE (spec_l4Copy.G hE pv k) (f := 59) (fn := Tryz.f59) (by kernel_rfl) rfl (by kernel_rfl) (by kernel_rfl) ((spec_l4Copy.run k a0).trans h) fun r hr => wk_view1 hr
/-! ### 82 loop.example/g00896/spec.l20First -/
def spec_l20First.F (a0 : ByteArray) (a1 : ByteArray) : Option (ByteArray) := bif (beqS a0 (⟨#[]⟩ : ByteArray)) then (some a1) else (some a0)
def spec_l20First.C : Cal → Option CArm := fun c => match c with
  | _ => none
theorem spec_l20First.run (a0 : ByteArray) (a1 : ByteArray) : runF envX (tabC spec_l20First.C) (tabL 9 0 (fun _ => none)) Tryz.f82 [.t .str a0, .t .str a1] (viewR1 (.t .str)) = spec_l20First.F a0 a1 := by kernel_rfl
theorem spec_l20First.G (hE : EnvOk Tryz.prog envX) (pv : Nat → Value) : ∀ cal A, spec_l20First.C cal = some A → ArmOk Tryz.prog envX pv cal A := by
  intro cal A h
  unfold spec_l20First.C at h
  cases h
theorem spec_l20First.good (hE : EnvOk Tryz.prog envX) (pv : Nat → Value) (a0 : ByteArray) (a1 : ByteArray) {y : _} (h : spec_l20First.F a0 a1 = some y) : Meets Tryz.prog envX pv (.f 82) (tvals [.str, .str] (a0, a1, ())) (.t .str y) :=
  fun_plain hE (spec_l20First.G hE pv) (f := 82) (fn := Tryz.f82) (by kernel_rfl) rfl (by kernel_rfl) (by kernel_rfl) ((spec_l20First.run a0 a1).trans h) fun r hr => wk_view1 hr
/-! ### 71 loop.example/g00896/spec.l21Inherit -/
def spec_l21Inherit.F (k : Nat) (a0 : Entry) (a1 : Entry) : Option (Entry) := (spec_l4Copy.F k a0).bind fun r1 => (spec_l20First.F a0.publisher a1.publisher).bind fun r2 => bif (a0.date.y == 0) then (bif (a0.volume == 0) then (bif (a0.kind == 3) then ((spec_l20First.F a0.container a1.title).bind fun r3 => bif (a0.kind == 3) then (bif ((a0.editors.length : Int) == 0) then ((spec_l2Own.F k a1.editors).bind fun r4 => bif ((a1.editors.length : Int) == 0) then ((spec_l2Own.F k a1.authors).bind fun r5 => some (⟨r1.key, r1.kind, r1.authors, r5, r1.title, r3, r2, a1.date, a1.volume, r1.pages, r1.cross⟩ : Entry)) else (some (⟨r1.key, r1.kind, r1.authors, r4, r1.title, r3, r2, a1.date, a1.volume, r1.pages, r1.cross⟩ : Entry))) else (some (⟨r1.key, r1.kind, r1.authors, r1.editors, r1.title, r3, r2, a1.date, a1.volume, r1.pages, r1.cross⟩ : Entry))) else (some (⟨r1.key, r1.kind, r1.authors, r1.editors, r1.title, r3, r2, a1.date, a1.volume, r1.pages, r1.cross⟩ : Entry))) else (bif (a0.kind == 2) then ((spec_l20First.F a0.container a1.title).bind fun r6 => bif (a0.kind == 3) then (bif ((a0.editors.length : Int) == 0) then ((spec_l2Own.F k a1.editors).bind fun r7 => bif ((a1.editors.length : Int) == 0) then ((spec_l2Own.F k a1.authors).bind fun r8 => some (⟨r1.key, r1.kind, r1.authors, r8, r1.title, r6, r2, a1.date, a1.volume, r1.pages, r1.cross⟩ : Entry)) else (some (⟨r1.key, r1.kind, r1.authors, r7, r1.title, r6, r2, a1.date, a1.volume, r1.pages, r1.cross⟩ : Entry))) else (some (⟨r1.key, r1.kind, r1.authors, r1.editors, r1.title, r6, r2, a1.date, a1.volume, r1.pages, r1.cross⟩ : Entry))) else (some (⟨r1.key, r1.kind, r1.authors, r1.editors, r1.title, r6, r2, a1.date, a1.volume, r1.pages, r1.cross⟩ : Entry))) else ((spec_l20First.F a0.container a1.container).bind fun r9 => bif (a0.kind == 3) then (bif ((a0.editors.length : Int) == 0) then ((spec_l2Own.F k a1.editors).bind fun r10 => bif ((a1.editors.length : Int) == 0) then ((spec_l2Own.F k a1.authors).bind fun r11 => some (⟨r1.key, r1.kind, r1.authors, r11, r1.title, r9, r2, a1.date, a1.volume, r1.pages, r1.cross⟩ : Entry)) else (some (⟨r1.key, r1.kind, r1.authors, r10, r1.title, r9, r2, a1.date, a1.volume, r1.pages, r1.cross⟩ : Entry))) else (some (⟨r1.key, r1.kind, r1.authors, r1.editors, r1.title, r9, r2, a1.date, a1.volume, r1.pages, r1.cross⟩ : Entry))) else (some (⟨r1.key, r1.kind, r1.authors, r1.editors, r1.title, r9, r2, a1.date, a1.volume, r1.pages, r1.cross⟩ : Entry))))) else (bif (a0.kind == 3) then ((spec_l20First.F a0.container a1.title).bind fun r12 => bif (a0.kind == 3) then (bif ((a0.editors.length : Int) == 0) then ((spec_l2Own.F k a1.editors).bind fun r13 => bif ((a1.editors.length : Int) == 0) then ((spec_l2Own.F k a1.authors).bind fun r14 => some (⟨r1.key, r1.kind, r1.authors, r14, r1.title, r12, r2, a1.date, r1.volume, r1.pages, r1.cross⟩ : Entry)) else (some (⟨r1.key, r1.kind, r1.authors, r13, r1.title, r12, r2, a1.date, r1.volume, r1.pages, r1.cross⟩ : Entry))) else (some (⟨r1.key, r1.kind, r1.authors, r1.editors, r1.title, r12, r2, a1.date, r1.volume, r1.pages, r1.cross⟩ : Entry))) else (some (⟨r1.key, r1.kind, r1.authors, r1.editors, r1.title, r12, r2, a1.date, r1.volume, r1.pages, r1.cross⟩ : Entry))) else (bif (a0.kind == 2) then ((spec_l20First.F a0.container a1.title).bind fun r15 => bif (a0.kind == 3) then (bif ((a0.editors.length : Int) == 0) then ((spec_l2Own.F k a1.editors).bind fun r16 => bif ((a1.editors.length : Int) == 0) then ((spec_l2Own.F k a1.authors).bind fun r17 => some (⟨r1.key, r1.kind, r1.authors, r17, r1.title, r15, r2, a1.date, r1.volume, r1.pages, r1.cross⟩ : Entry)) else (some (⟨r1.key, r1.kind, r1.authors, r16, r1.title, r15, r2, a1.date, r1.volume, r1.pages, r1.cross⟩ : Entry))) else (some (⟨r1.key, r1.kind, r1.authors, r1.editors, r1.title, r15, r2, a1.date, r1.volume, r1.pages, r1.cross⟩ : Entry))) else (some (⟨r1.key, r1.kind, r1.authors, r1.editors, r1.title, r15, r2, a1.date, r1.volume, r1.pages, r1.cross⟩ : Entry))) else ((spec_l20First.F a0.container a1.container).bind fun r18 => bif (a0.kind == 3) then (bif ((a0.editors.length : Int) == 0) then ((spec_l2Own.F k a1.editors).bind fun r19 => bif ((a1.editors.length : Int) == 0) then ((spec_l2Own.F k a1.authors).bind fun r20 => some (⟨r1.key, r1.kind, r1.authors, r20, r1.title, r18, r2, a1.date, r1.volume, r1.pages, r1.cross⟩ : Entry)) else (some (⟨r1.key, r1.kind, r1.authors, r19, r1.title, r18, r2, a1.date, r1.volume, r1.pages, r1.cross⟩ : Entry))) else (some (⟨r1.key, r1.kind, r1.authors, r1.editors, r1.title, r18, r2, a1.date, r1.volume, r1.pages, r1.cross⟩ : Entry))) else (some (⟨r1.key, r1.kind, r1.authors, r1.editors, r1.title, r18, r2, a1.date, r1.volume, r1.pages, r1.cross⟩ : Entry)))))) else (bif (a0.volume == 0) then (bif (a0.kind == 3) then ((spec_l20First.F a0.container a1.title).bind fun r21 => bif (a0.kind == 3) then (bif ((a0.editors.length : Int) == 0) then ((spec_l2Own.F k a1.editors).bind fun r22 => bif ((a1.editors.length : Int) == 0) then ((spec_l2Own.F k a1.authors).bind fun r23 => some (⟨r1.key, r1.kind, r1.authors, r23, r1.title, r21, r2, r1.date, a1.volume, r1.pages, r1.cross⟩ : Entry)) else (some (⟨r1.key, r1.kind, r1.authors, r22, r1.title, r21, r2, r1.date, a1.volume, r1.pages, r1.cross⟩ : Entry))) else (some (⟨r1.key, r1.kind, r1.authors, r1.editors, r1.title, r21, r2, r1.date, a1.volume, r1.pages, r1.cross⟩ : Entry))) else (some (⟨r1.key, r1.kind, r1.authors, r1.editors, r1.title, r21, r2, r1.date, a1.volume, r1.pages, r1.cross⟩ : Entry))) else (bif (a0.kind == 2) then ((spec_l20First.F a0.container a1.title).bind fun r24 => bif (a0.kind == 3) then (bif ((a0.editors.length : Int) == 0) then ((spec_l2Own.F k a1.editors).bind fun r25 => bif ((a1.editors.length : Int) == 0) then ((spec_l2Own.F k a1.authors).bind fun r26 => some (⟨r1.key, r1.kind, r1.authors, r26, r1.title, r24, r2, r1.date, a1.volume, r1.pages, r1.cross⟩ : Entry)) else (some (⟨r1.key, r1.kind, r1.authors, r25, r1.title, r24, r2, r1.date, a1.volume, r1.pages, r1.cross⟩ : Entry))) else (some (⟨r1.key, r1.kind, r1.authors, r1.editors, r1.title, r24, r2, r1.date, a1.volume, r1.pages, r1.cross⟩ : Entry))) else (some (⟨r1.key, r1.kind, r1.authors, r1.editors, r1.title, r24, r2, r1.date, a1.volume, r1.pages, r1.cross⟩ : Entry))) else ((spec_l20First.F a0.container a1.container).bind fun r27 => bif (a0.kind == 3) then (bif ((a0.editors.length : Int) == 0) then ((spec_l2Own.F k a1.editors).bind fun r28 => bif ((a1.editors.length : Int) == 0) then ((spec_l2Own.F k a1.authors).bind fun r29 => some (⟨r1.key, r1.kind, r1.authors, r29, r1.title, r27, r2, r1.date, a1.volume, r1.pages, r1.cross⟩ : Entry)) else (some (⟨r1.key, r1.kind, r1.authors, r28, r1.title, r27, r2, r1.date, a1.volume, r1.pages, r1.cross⟩ : Entry))) else (some (⟨r1.key, r1.kind, r1.authors, r1.editors, r1.title, r27, r2, r1.date, a1.volume, r1.pages, r1.cross⟩ : Entry))) else (some (⟨r1.key, r1.kind, r1.authors, r1.editors, r1.title, r27, r2, r1.date, a1.volume, r1.pages, r1.cross⟩ : Entry))))) else (bif (a0.kind == 3) then ((spec_l20First.F a0.container a1.title).bind fun r30 => bif (a0.kind == 3) then (bif ((a0.editors.length : Int) == 0) then ((spec_l2Own.F k a1.editors).bind fun r31 => bif ((a1.editors.length : Int) == 0) then ((spec_l2Own.F k a1.authors).bind fun r32 => some (⟨r1.key, r1.kind, r1.authors, r32, r1.title, r30, r2, r1.date, r1.volume, r1.pages, r1.cross⟩ : Entry)) else (some (⟨r1.key, r1.kind, r1.authors, r31, r1.title, r30, r2, r1.date, r1.volume, r1.pages, r1.cross⟩ : Entry))) else (some (⟨r1.key, r1.kind, r1.authors, r1.editors, r1.title, r30, r2, r1.date, r1.volume, r1.pages, r1.cross⟩ : Entry))) else (some (⟨r1.key, r1.kind, r1.authors, r1.editors, r1.title, r30, r2, r1.date, r1.volume, r1.pages, r1.cross⟩ : Entry))) else (bif (a0.kind == 2) then ((spec_l20First.F a0.container a1.title).bind fun r33 => bif (a0.kind == 3) then (bif ((a0.editors.length : Int) == 0) then ((spec_l2Own.F k a1.editors).bind fun r34 => bif ((a1.editors.length : Int) == 0) then ((spec_l2Own.F k a1.authors).bind fun r35 => some (⟨r1.key, r1.kind, r1.authors, r35, r1.title, r33, r2, r1.date, r1.volume, r1.pages, r1.cross⟩ : Entry)) else (some (⟨r1.key, r1.kind, r1.authors, r34, r1.title, r33, r2, r1.date, r1.volume, r1.pages, r1.cross⟩ : Entry))) else (some (⟨r1.key, r1.kind, r1.authors, r1.editors, r1.title, r33, r2, r1.date, r1.volume, r1.pages, r1.cross⟩ : Entry))) else (some (⟨r1.key, r1.kind, r1.authors, r1.editors, r1.title, r33, r2, r1.date, r1.volume, r1.pages, r1.cross⟩ : Entry))) else ((spec_l20First.F a0.container a1.container).bind fun r36 => bif (a0.kind == 3) then (bif ((a0.editors.length : Int) == 0) then ((spec_l2Own.F k a1.editors).bind fun r37 => bif ((a1.editors.length : Int) == 0) then ((spec_l2Own.F k a1.authors).bind fun r38 => some (⟨r1.key, r1.kind, r1.authors, r38, r1.title, r36, r2, r1.date, r1.volume, r1.pages, r1.cross⟩ : Entry)) else (some (⟨r1.key, r1.kind, r1.authors, r37, r1.title, r36, r2, r1.date, r1.volume, r1.pages, r1.cross⟩ : Entry))) else (some (⟨r1.key, r1.kind, r1.authors, r1.editors, r1.title, r36, r2, r1.date, r1.volume, r1.pages, r1.cross⟩ : Entry))) else (some (⟨r1.key, r1.kind, r1.authors, r1.editors, r1.title, r36, r2, r1.date, r1.volume, r1.pages, r1.cross⟩ : Entry))))))
def spec_l21Inherit.C (k : Nat) : Cal → Option CArm := fun c => match c with
  | .f 59 => some (.p [.entry] _ (fun x => spec_l4Copy.F k x.1) (fun r => (.t .entry r)))
  | .f 82 => some (.p [.str, .str] _ (fun x => spec_l20First.F x.1 x.2.1) (fun r => (.t .str r)))
  | .f 81 => some (.p [(.sl .name)] _ (fun x => spec_l2Own.F k x.1) (fun r => (.fr 96 .name r)))
  | _ => none
theorem spec_l21Inherit.run (k : Nat) (a0 : Entry) (a1 : Entry) : runF envX (tabC (spec_l21Inherit.C k)) (tabL 69 0 (fun _ => none)) Tryz.f71 [.t .entry a0, .t .entry a1] (viewR1 (.t .entry)) = spec_l21Inherit.F k a0 a1 := by kernel_rfl
theorem spec_l21Inherit.G (hE : EnvOk Tryz.prog envX) (pv : Nat → Value) (k : Nat) : ∀ cal A, spec_l21Inherit.C k cal = some A → ArmOk Tryz.prog envX pv cal A := by
  intro cal A h
  unfold spec_l21Inherit.C at h
  split at h
  · cases h; exact fun x y hy => spec_l4Copy.good hE pv k x.1 hy
  · cases h; exact fun x y hy => spec_l20First.good hE pv x.1 x.2.1 hy
  · cases h; exact fun x y hy => spec_l2Own.good hE pv k x.1 hy
  · cases h
theorem spec_l21Inherit.good (hE : EnvOk Tryz.prog envX) (pv : Nat → Value) (k : Nat) (a0 : Entry) (a1 : Entry) {y : _} (h : spec_l21Inherit.F k a0 a1 = some y) : Meets Tryz.prog envX pv (.f 71) (tvals [.entry, .entry] (a0, a1, ())) (.t .entry y) :=
  fun_plain hE (spec_l21Inherit.G hE pv k) (f := 71) (fn := Tryz.f71) (by kernel_rfl) rfl (by kernel_rfl) (by kernel_rfl) ((spec_l21Inherit.run k a0 a1).trans h) fun r hr => wk_view1 hr
/-! ### 42 loop.example/g00896/spec.l21Resolve -/
def spec_l21Resolve.l0 : Nat → Library → Entry → (List Int) → Entry → Int → Option (Entry × Entry)
  | 0, _, _, _, _, _ => none
  | k + 1, x2, x4, x6, x8, x9 => bif (decide (x9 ≥ 0)) then (bif decide (0 ≤ x9) then (bif decide (x9 < (x6.length : Int)) then (bif decide (0 ≤ (x6.getD ((x9 : Int).toNat) 0)) then (bif decide ((x6.getD ((x9 : Int).toNat) 0) < (x2.entries.length : Int)) then ((spec_l21Inherit.F k (x2.entries.getD ((x6.getD ((x9 : Int).toNat) 0) : Int).toNat (dflt .entry)) x8).bind fun r3 => spec_l21Resolve.l0 k x2 x4 x6 r3 (IntKind.wrap .i64 (x9 - 1))) else none) else none) else none) else none) else (some (x4, x8))
def spec_l21Resolve.F (k : Nat) (a0 : Library) (a1 : Int) : Option (Entry × Bool) := (spec_l21Chain.F k a0 a1).bind fun r1 => bif r1.2 then (some ((⟨(⟨#[]⟩ : ByteArray), 0, [], [], (⟨#[]⟩ : ByteArray), (⟨#[]⟩ : ByteArray), (⟨#[]⟩ : ByteArray), (dflt .date), 0, (⟨#[]⟩ : ByteArray), (⟨#[]⟩ : ByteArray)⟩ : Entry), false)) else (bif decide (0 ≤ (IntKind.wrap .i64 ((r1.1.length : Int) - 1))) then (bif decide ((IntKind.wrap .i64 ((r1.1.length : Int) - 1)) < (r1.1.length : Int)) then (bif decide (0 ≤ (r1.1.getD (((IntKind.wrap .i64 ((r1.1.length : Int) - 1)) : Int).toNat) 0)) then (bif decide ((r1.1.getD (((IntKind.wrap .i64 ((r1.1.length : Int) - 1)) : Int).toNat) 0) < (a0.entries.length : Int)) then ((spec_l4Copy.F k (a0.entries.getD ((r1.1.getD (((IntKind.wrap .i64 ((r1.1.length : Int) - 1)) : Int).toNat) 0) : Int).toNat (dflt .entry))).bind fun r2 => (spec_l21Resolve.l0 k a0 (dflt .entry) r1.1 r2 (IntKind.wrap .i64 ((r1.1.length : Int) - 2))).bind fun y4 => some (y4.2, true)) else none) else none) else none) else none)
def spec_l21Resolve.C (k : Nat) : Cal → Option CArm := fun c => match c with
  | .f 52 => some (.p [.lib, (.int .i64)] _ (fun x => spec_l21Chain.F k x.1 x.2.1) (fun r => (.tup [.fr 3 (.int .i64) r.1, .t .bool r.2])))
  | .f 59 => some (.p [.entry] _ (fun x => spec_l4Copy.F k x.1) (fun r => (.t .entry r)))
  | .f 71 => some (.p [.entry, .entry] _ (fun x => spec_l21Inherit.F k x.1 x.2.1) (fun r => (.t .entry r)))
  | _ => none
def spec_l21Resolve.sp0 : List Sp := [.boxT 2 0 .lib, .boxT 4 4 .entry, .own 6 1032 3 (.int .i64) false true, .boxT 8 4140 .entry, .t 9 (.int .i64)]
def spec_l21Resolve.sp0_0 : List Sp := [.boxT 4 4 .entry, .boxT 8 4140 .entry]
def spec_l21Resolve.A0 : LArm := .one spec_l21Resolve.sp0 spec_l21Resolve.sp0_0 (Entry × Entry) (fun k x => spec_l21Resolve.l0 k x.1 x.2.1 x.2.2.1 x.2.2.2.1 x.2.2.2.2.1) (.exit 0) (fun y => (y.1, y.2, ())) (fun x => (x.1, x.2.1))
def spec_l21Resolve.L : Nat → Option LArm := fun b => match b with
  | 0 => some spec_l21Resolve.A0
  | _ => none
theorem spec_l21Resolve.run (k : Nat) (a0 : Library) (a1 : Int) : runF envX (tabC (spec_l21Resolve.C k)) (tabL 47 k spec_l21Resolve.L) Tryz.f42 [.t .lib a0, .t (.int .i64) a1] (viewR2 (.t .entry) (.t .bool)) = spec_l21Resolve.F k a0 a1 := by kernel_rfl
theorem spec_l21Resolve.step0 (k : Nat) (x2 : Library) (x4 : Entry) (x6 : List Int) (x8 : Entry) (x9 : Int) : runC envX (tabC (spec_l21Resolve.C k)) (tabL 47 k spec_l21Resolve.L) 0 (loopAt Tryz.f42 0) (stOf 47 spec_l21Resolve.sp0 (x2, x4, x6, x8, x9, ())) (spec_l21Resolve.A0.cont 47 k) = spec_l21Resolve.l0 (k + 1) x2 x4 x6 x8 x9 := by kernel_rfl
theorem spec_l21Resolve.G (hE : EnvOk Tryz.prog envX) (pv : Nat → Value) (k : Nat) : ∀ cal A, spec_l21Resolve.C k cal = some A → ArmOk Tryz.prog envX pv cal A := by
  intro cal A h
  unfold spec_l21Resolve.C at h
  split at h
  · cases h; exact fun x y hy => spec_l21Chain.good hE pv k x.1 x.2.1 hy
  · cases h; exact fun x y hy => spec_l4Copy.good hE pv k x.1 hy
  · cases h; exact fun x y hy => spec_l21Inherit.good hE pv k x.1 x.2.1 hy
  · cases h
theorem spec_l21Resolve.good (hE : EnvOk Tryz.prog envX) (pv : Nat → Value) (k : Nat) (a0 : Library) (a1 : Int) {y : _} (h : spec_l21Resolve.F k a0 a1 = some y) : Meets Tryz.prog envX pv (.f 42) (tvals [.lib, (.int .i64)] (a0, a1, ())) (.tup [.t .entry y.1, .t .bool y.2]) :=
  fun_loops hE (t := spec_l21Resolve.C) k (fun k _ => spec_l21Resolve.G hE pv k) (f := 42) (fn := Tryz.f42) (by kernel_rfl) rfl (by kernel_rfl) (by kernel_rfl) (lt := spec_l21Resolve.L) (by kernel_rfl) (fun b A h => by
    unfold spec_l21Resolve.L at h; split at h
    · cases h; exact ⟨by kernel_rfl, by kernel_rfl, fun _ => rfl, fun _ => rfl⟩
    · cases h) (fun b A h => by
    unfold spec_l21Resolve.L at h; split at h
    · cases h; exact fun k x => spec_l21Resolve.step0 k x.1 x.2.1 x.2.2.1 x.2.2.2.1 x.2.2.2.2.1
    · cases h) ((spec_l21Resolve.run k a0 a1).trans h) fun r hr => wk_view2 hr
/-! ### 17 loop.example/g00896/spec.ResolveEntry -/
def spec_ResolveEntry.F (k : Nat) (a0 : Library) (a1 : ByteArray) : Option (Entry × Bool) := (spec_l21Asked.F k a0 a1).bind fun r1 => bif (!r1) then (some ((⟨(⟨#[]⟩ : ByteArray), 0, [], [], (⟨#[]⟩ : ByteArray), (⟨#[]⟩ : ByteArray), (⟨#[]⟩ : ByteArray), (dflt .date), 0, (⟨#[]⟩ : ByteArray), (⟨#[]⟩ : ByteArray)⟩ : Entry), false)) else ((spec_l4Find.F k a0 a1).bind fun r2 => (spec_l21Resolve.F k a0 r2).bind fun r3 => some (r3.1, r3.2))
def spec_ResolveEntry.C (k : Nat) : Cal → Option CArm := fun c => match c with
  | .f 41 => some (.p [.lib, .str] _ (fun x => spec_l21Asked.F k x.1 x.2.1) (fun r => (.t .bool r)))
  | .f 33 => some (.p [.lib, .str] _ (fun x => spec_l4Find.F k x.1 x.2.1) (fun r => (.t (.int .i64) r)))
  | .f 42 => some (.p [.lib, (.int .i64)] _ (fun x => spec_l21Resolve.F k x.1 x.2.1) (fun r => (.tup [.t .entry r.1, .t .bool r.2])))
  | _ => none
theorem spec_ResolveEntry.run (k : Nat) (a0 : Library) (a1 : ByteArray) : runF envX (tabC (spec_ResolveEntry.C k)) (tabL 18 0 (fun _ => none)) Tryz.f17 [.t .lib a0, .t .str a1] (viewR2 (.t .entry) (.t .bool)) = spec_ResolveEntry.F k a0 a1 := by kernel_rfl
theorem spec_ResolveEntry.G (hE : EnvOk Tryz.prog envX) (pv : Nat → Value) (k : Nat) : ∀ cal A, spec_ResolveEntry.C k cal = some A → ArmOk Tryz.prog envX pv cal A := by
  intro cal A h
  unfold spec_ResolveEntry.C at h
  split at h
  · cases h; exact fun x y hy => spec_l21Asked.good hE pv k x.1 x.2.1 hy
  · cases h; exact fun x y hy => spec_l4Find.good hE pv k x.1 x.2.1 hy
  · cases h; exact fun x y hy => spec_l21Resolve.good hE pv k x.1 x.2.1 hy
  · cases h
theorem spec_ResolveEntry.good (hE : EnvOk Tryz.prog envX) (pv : Nat → Value) (k : Nat) (a0 : Library) (a1 : ByteArray) {y : _} (h : spec_ResolveEntry.F k a0 a1 = some y) : Meets Tryz.prog envX pv (.f 17) (tvals [.lib, .str] (a0, a1, ())) (.tup [.t .entry y.1, .t .bool y.2]) :=
  fun_plain hE (spec_ResolveEntry.G hE pv k) (f := 17) (fn := Tryz.f17) (by kernel_rfl) rfl (by kernel_rfl) (by kernel_rfl) ((spec_ResolveEntry.run k a0 a1).trans h) fun r hr => wk_view2 hr
/-! ### 115 loop.example/g00896/spec.l2Join -/
def spec_l2Join.l0 : Nat → (List ByteArray) → ByteArray → Int → Option (ByteArray)
  | 0, _, _, _ => none
  | k + 1, x0, x3, x4 => bif (decide (x4 < (x0.length : Int))) then (bif (!beqS x3 (⟨#[]⟩ : ByteArray)) then (bif decide (0 ≤ x4) then (bif decide (x4 < (x0.length : Int)) then (bif (!beqS (x0.getD (x4 : Int).toNat (⟨#[]⟩ : ByteArray)) (⟨#[]⟩ : ByteArray)) then (bif Nat.ble (x3.size + (⟨#[32]⟩ : ByteArray).size) 9223372036854775807 then (bif decide (0 ≤ x4) then (bif decide (x4 < (x0.length : Int)) then (bif Nat.ble ((x3 ++ (⟨#[32]⟩ : ByteArray)).size + (x0.getD (x4 : Int).toNat (⟨#[]⟩ : ByteArray)).size) 9223372036854775807 then (spec_l2Join.l0 k x0 ((x3 ++ (⟨#[32]⟩ : ByteArray)) ++ (x0.getD (x4 : Int).toNat (⟨#[]⟩ : ByteArray))) (IntKind.wrap .i64 (x4 + 1))) else none) else none) else none) else none) else (bif decide (0 ≤ x4) then (bif decide (x4 < (x0.length : Int)) then (bif Nat.ble (x3.size + (x0.getD (x4 : Int).toNat (⟨#[]⟩ : ByteArray)).size) 9223372036854775807 then (spec_l2Join.l0 k x0 (x3 ++ (x0.getD (x4 : Int).toNat (⟨#[]⟩ : ByteArray))) (IntKind.wrap .i64 (x4 + 1))) else none) else none) else none)) else none) else none) else (bif decide (0 ≤ x4) then (bif decide (x4 < (x0.length : Int)) then (bif Nat.ble (x3.size + (x0.getD (x4 : Int).toNat (⟨#[]⟩ : ByteArray)).size) 9223372036854775807 then (spec_l2Join.l0 k x0 (x3 ++ (x0.getD (x4 : Int).toNat (⟨#[]⟩ : ByteArray))) (IntKind.wrap .i64 (x4 + 1))) else none) else none) else none)) else (some x3)
def spec_l2Join.F (k : Nat) (a0 : List ByteArray) : Option (ByteArray) := (spec_l2Join.l0 k a0 (⟨#[]⟩ : ByteArray) 0).bind fun y1 => some y1
def spec_l2Join.C (k : Nat) : Cal → Option CArm := fun c => match c with
  | _ => none
def spec_l2Join.sp0 : List Sp := [.t 0 (.sl .str), .t 3 .str, .t 4 (.int .i64)]
def spec_l2Join.sp0_0 : List Sp := [.t 3 .str]
def spec_l2Join.A0 : LArm := .one spec_l2Join.sp0 spec_l2Join.sp0_0 (ByteArray) (fun k x => spec_l2Join.l0 k x.1 x.2.1 x.2.2.1) (.exit 0) (fun y => (y, ())) (fun x => x.1)
def spec_l2Join.L : Nat → Option LArm := fun b => match b with
  | 0 => some spec_l2Join.A0
  | _ => none
theorem spec_l2Join.run (k : Nat) (a0 : List ByteArray) : runF envX (tabC (spec_l2Join.C k)) (tabL 29 k spec_l2Join.L) Tryz.f115 [.t (.sl .str) a0] (viewR1 (.t .str)) = spec_l2Join.F k a0 := by kernel_rfl
theorem spec_l2Join.step0 (k : Nat) (x0 : List ByteArray) (x3 : ByteArray) (x4 : Int) : runC envX (tabC (spec_l2Join.C k)) (tabL 29 k spec_l2Join.L) 0 (loopAt Tryz.f115 0) (stOf 29 spec_l2Join.sp0 (x0, x3, x4, ())) (spec_l2Join.A0.cont 29 k) = spec_l2Join.l0 (k + 1) x0 x3 x4 := by kernel_rfl
theorem spec_l2Join.G (hE : EnvOk Tryz.prog envX) (pv : Nat → Value) (k : Nat) : ∀ cal A, spec_l2Join.C k cal = some A → ArmOk Tryz.prog envX pv cal A := by
  intro cal A h
  unfold spec_l2Join.C at h
  cases h
theorem spec_l2Join.good (hE : EnvOk Tryz.prog envX) (pv : Nat → Value) (k : Nat) (a0 : List ByteArray) {y : _} (h : spec_l2Join.F k a0 = some y) : Meets Tryz.prog envX pv (.f 115) (tvals [(.sl .str)] (a0, ())) (.t .str y) :=
  fun_loops hE (t := spec_l2Join.C) k (fun k _ => spec_l2Join.G hE pv k) (f := 115) (fn := Tryz.f115) (by kernel_rfl) rfl (by kernel_rfl) (by kernel_rfl) (lt := spec_l2Join.L) (by kernel_rfl) (fun b A h => by
    unfold spec_l2Join.L at h; split at h
    · cases h; exact ⟨by kernel_rfl, by kernel_rfl, fun _ => rfl, fun _ => rfl⟩
    · cases h) (fun b A h => by
    unfold spec_l2Join.L at h; split at h
    · cases h; exact fun k x => spec_l2Join.step0 k x.1 x.2.1 x.2.2.1
    · cases h) ((spec_l2Join.run k a0).trans h) fun r hr => wk_view1 hr
/-! ### 116 loop.example/g00896/spec.l2Given -/
def spec_l2Given.F (k : Nat) (a0 : Name) : Option (ByteArray) := (spec_l2Join.F k a0.given).bind fun r1 => some r1
def spec_l2Given.C (k : Nat) : Cal → Option CArm := fun c => match c with
  | .f 115 => some (.p [(.sl .str)] _ (fun x => spec_l2Join.F k x.1) (fun r => (.t .str r)))
  | _ => none
theorem spec_l2Given.run (k : Nat) (a0 : Name) : runF envX (tabC (spec_l2Given.C k)) (tabL 6 0 (fun _ => none)) Tryz.f116 [.t .name a0] (viewR1 (.t .str)) = spec_l2Given.F k a0 := by kernel_rfl
theorem spec_l2Given.G (hE : EnvOk Tryz.prog envX) (pv : Nat → Value) (k : Nat) : ∀ cal A, spec_l2Given.C k cal = some A → ArmOk Tryz.prog envX pv cal A := by
  intro cal A h
  unfold spec_l2Given.C at h
  split at h
  · cases h; exact fun x y hy => spec_l2Join.good hE pv k x.1 hy
  · cases h
theorem spec_l2Given.good (hE : EnvOk Tryz.prog envX) (pv : Nat → Value) (k : Nat) (a0 : Name) {y : _} (h : spec_l2Given.F k a0 = some y) : Meets Tryz.prog envX pv (.f 116) (tvals [.name] (a0, ())) (.t .str y) :=
  fun_plain hE (spec_l2Given.G hE pv k) (f := 116) (fn := Tryz.f116) (by kernel_rfl) rfl (by kernel_rfl) (by kernel_rfl) ((spec_l2Given.run k a0).trans h) fun r hr => wk_view1 hr
/-! ### 91 loop.example/g00896/spec.l2Inverse -/
def spec_l2Inverse.F (k : Nat) (a0 : Name) : Option (ByteArray) := (spec_l2Join.F k ([a0.particle, a0.family] : List ByteArray)).bind fun r1 => bif (decide ((a0.given.length : Int) > 0)) then (bif Nat.ble (r1.size + (⟨#[44, 32]⟩ : ByteArray).size) 9223372036854775807 then ((spec_l2Given.F k a0).bind fun r2 => bif Nat.ble ((r1 ++ (⟨#[44, 32]⟩ : ByteArray)).size + r2.size) 9223372036854775807 then (bif (!beqS a0.suffix (⟨#[]⟩ : ByteArray)) then (bif Nat.ble (((r1 ++ (⟨#[44, 32]⟩ : ByteArray)) ++ r2).size + (⟨#[44, 32]⟩ : ByteArray).size) 9223372036854775807 then (bif Nat.ble ((((r1 ++ (⟨#[44, 32]⟩ : ByteArray)) ++ r2) ++ (⟨#[44, 32]⟩ : ByteArray)).size + a0.suffix.size) 9223372036854775807 then (some ((((r1 ++ (⟨#[44, 32]⟩ : ByteArray)) ++ r2) ++ (⟨#[44, 32]⟩ : ByteArray)) ++ a0.suffix)) else none) else none) else (some ((r1 ++ (⟨#[44, 32]⟩ : ByteArray)) ++ r2))) else none) else none) else (bif (!beqS a0.suffix (⟨#[]⟩ : ByteArray)) then (bif Nat.ble (r1.size + (⟨#[44, 32]⟩ : ByteArray).size) 9223372036854775807 then ((spec_l2Given.F k a0).bind fun r3 => bif Nat.ble ((r1 ++ (⟨#[44, 32]⟩ : ByteArray)).size + r3.size) 9223372036854775807 then (bif (!beqS a0.suffix (⟨#[]⟩ : ByteArray)) then (bif Nat.ble (((r1 ++ (⟨#[44, 32]⟩ : ByteArray)) ++ r3).size + (⟨#[44, 32]⟩ : ByteArray).size) 9223372036854775807 then (bif Nat.ble ((((r1 ++ (⟨#[44, 32]⟩ : ByteArray)) ++ r3) ++ (⟨#[44, 32]⟩ : ByteArray)).size + a0.suffix.size) 9223372036854775807 then (some ((((r1 ++ (⟨#[44, 32]⟩ : ByteArray)) ++ r3) ++ (⟨#[44, 32]⟩ : ByteArray)) ++ a0.suffix)) else none) else none) else (some ((r1 ++ (⟨#[44, 32]⟩ : ByteArray)) ++ r3))) else none) else none) else (bif (!beqS a0.suffix (⟨#[]⟩ : ByteArray)) then (bif Nat.ble (r1.size + (⟨#[44, 32]⟩ : ByteArray).size) 9223372036854775807 then (bif Nat.ble ((r1 ++ (⟨#[44, 32]⟩ : ByteArray)).size + a0.suffix.size) 9223372036854775807 then (some ((r1 ++ (⟨#[44, 32]⟩ : ByteArray)) ++ a0.suffix)) else none) else none) else (some r1)))
def spec_l2Inverse.C (k : Nat) : Cal → Option CArm := fun c => match c with
  | .f 115 => some (.p [(.sl .str)] _ (fun x => spec_l2Join.F k x.1) (fun r => (.t .str r)))
  | .f 116 => some (.p [.name] _ (fun x => spec_l2Given.F k x.1) (fun r => (.t .str r)))
  | _ => none
theorem spec_l2Inverse.run (k : Nat) (a0 : Name) : runF envX (tabC (spec_l2Inverse.C k)) (tabL 33 0 (fun _ => none)) Tryz.f91 [.t .name a0] (viewR1 (.t .str)) = spec_l2Inverse.F k a0 := by kernel_rfl
theorem spec_l2Inverse.G (hE : EnvOk Tryz.prog envX) (pv : Nat → Value) (k : Nat) : ∀ cal A, spec_l2Inverse.C k cal = some A → ArmOk Tryz.prog envX pv cal A := by
  intro cal A h
  unfold spec_l2Inverse.C at h
  split at h
  · cases h; exact fun x y hy => spec_l2Join.good hE pv k x.1 hy
  · cases h; exact fun x y hy => spec_l2Given.good hE pv k x.1 hy
  · cases h
theorem spec_l2Inverse.good (hE : EnvOk Tryz.prog envX) (pv : Nat → Value) (k : Nat) (a0 : Name) {y : _} (h : spec_l2Inverse.F k a0 = some y) : Meets Tryz.prog envX pv (.f 91) (tvals [.name] (a0, ())) (.t .str y) :=
  fun_plain hE (spec_l2Inverse.G hE pv k) (f := 91) (fn := Tryz.f91) (by kernel_rfl) rfl (by kernel_rfl) (by kernel_rfl) ((spec_l2Inverse.run k a0).trans h) fun r hr => wk_view1 hr
/-! ### 64 loop.example/g00896/spec.l4Names -/
def spec_l4Names.l0 : Nat → (List Name) → ByteArray → Int → Option (ByteArray)
  | 0, _, _, _ => none
  | k + 1, x0, x3, x4 => bif (decide (x4 < (x0.length : Int))) then (bif (decide (x4 > 0)) then (bif Nat.ble (x3.size + (⟨#[59, 32]⟩ : ByteArray).size) 9223372036854775807 then (bif decide (0 ≤ x4) then (bif decide (x4 < (x0.length : Int)) then ((spec_l2Inverse.F k (x0.getD (x4 : Int).toNat (dflt .name))).bind fun r1 => bif Nat.ble ((x3 ++ (⟨#[59, 32]⟩ : ByteArray)).size + r1.size) 9223372036854775807 then (spec_l4Names.l0 k x0 ((x3 ++ (⟨#[59, 32]⟩ : ByteArray)) ++ r1) (IntKind.wrap .i64 (x4 + 1))) else none) else none) else none) else none) else (bif decide (0 ≤ x4) then (bif decide (x4 < (x0.length : Int)) then ((spec_l2Inverse.F k (x0.getD (x4 : Int).toNat (dflt .name))).bind fun r2 => bif Nat.ble (x3.size + r2.size) 9223372036854775807 then (spec_l4Names.l0 k x0 (x3 ++ r2) (IntKind.wrap .i64 (x4 + 1))) else none) else none) else none)) else (some x3)
def spec_l4Names.F (k : Nat) (a0 : List Name) : Option (ByteArray) := (spec_l4Names.l0 k a0 (⟨#[]⟩ : ByteArray) 0).bind fun y3 => some y3
def spec_l4Names.C (k : Nat) : Cal → Option CArm := fun c => match c with
  | .f 91 => some (.p [.name] _ (fun x => spec_l2Inverse.F k x.1) (fun r => (.t .str r)))
  | _ => none
def spec_l4Names.sp0 : List Sp := [.t 0 (.sl .name), .t 3 .str, .t 4 (.int .i64)]
def spec_l4Names.sp0_0 : List Sp := [.t 3 .str]
def spec_l4Names.A0 : LArm := .one spec_l4Names.sp0 spec_l4Names.sp0_0 (ByteArray) (fun k x => spec_l4Names.l0 k x.1 x.2.1 x.2.2.1) (.exit 0) (fun y => (y, ())) (fun x => x.1)
def spec_l4Names.L : Nat → Option LArm := fun b => match b with
  | 0 => some spec_l4Names.A0
  | _ => none
theorem spec_l4Names.run (k : Nat) (a0 : List Name) : runF envX (tabC (spec_l4Names.C k)) (tabL 23 k spec_l4Names.L) Tryz.f64 [.t (.sl .name) a0] (viewR1 (.t .str)) = spec_l4Names.F k a0 := by kernel_rfl
theorem spec_l4Names.step0 (k : Nat) (x0 : List Name) (x3 : ByteArray) (x4 : Int) : runC envX (tabC (spec_l4Names.C k)) (tabL 23 k spec_l4Names.L) 0 (loopAt Tryz.f64 0) (stOf 23 spec_l4Names.sp0 (x0, x3, x4, ())) (spec_l4Names.A0.cont 23 k) = spec_l4Names.l0 (k + 1) x0 x3 x4 := by kernel_rfl
theorem spec_l4Names.G (hE : EnvOk Tryz.prog envX) (pv : Nat → Value) (k : Nat) : ∀ cal A, spec_l4Names.C k cal = some A → ArmOk Tryz.prog envX pv cal A := by
  intro cal A h
  unfold spec_l4Names.C at h
  split at h
  · cases h; exact fun x y hy => spec_l2Inverse.good hE pv k x.1 hy
  · cases h
theorem spec_l4Names.good (hE : EnvOk Tryz.prog envX) (pv : Nat → Value) (k : Nat) (a0 : List Name) {y : _} (h : spec_l4Names.F k a0 = some y) : Meets Tryz.prog envX pv (.f 64) (tvals [(.sl .name)] (a0, ())) (.t .str y) :=
  fun_loops hE (t := spec_l4Names.C) k (fun k _ => spec_l4Names.G hE pv k) (f := 64) (fn := Tryz.f64) (by kernel_rfl) rfl (by kernel_rfl) (by kernel_rfl) (lt := spec_l4Names.L) (by kernel_rfl) (fun b A h => by
    unfold spec_l4Names.L at h; split at h
    · cases h; exact ⟨by kernel_rfl, by kernel_rfl, fun _ => rfl, fun _ => rfl⟩
    · cases h) (fun b A h => by
    unfold spec_l4Names.L at h; split at h
    · cases h; exact fun k x => spec_l4Names.step0 k x.1 x.2.1 x.2.2.1
    · cases h) ((spec_l4Names.run k a0).trans h) fun r hr => wk_view1 hr
/-! ### 66 loop.example/g00896/spec.l1Num -/
mutual
def spec_l1Num.F : Nat → Int → Option (ByteArray)
  | 0, _ => none
  | k + 1, a0 => bif (decide (a0 < 0)) then ((spec_l1Num.F k (IntKind.wrap .i64 (0 - a0))).bind fun r1 => bif Nat.ble ((⟨#[45]⟩ : ByteArray).size + r1.size) 9223372036854775807 then (some ((⟨#[45]⟩ : ByteArray) ++ r1)) else none) else (bif (decide (a0 < 10)) then (bif decide (0 ≤ (IntKind.wrap .i64 (a0 + 1))) then (bif decide ((IntKind.wrap .i64 (a0 + 1)) ≤ ((⟨#[48, 49, 50, 51, 52, 53, 54, 55, 56, 57]⟩ : ByteArray).size : Int)) then (bif decide (0 ≤ a0) then (bif decide (a0 ≤ (IntKind.wrap .i64 (a0 + 1))) then (some ((⟨#[48, 49, 50, 51, 52, 53, 54, 55, 56, 57]⟩ : ByteArray).extract (a0 : Int).toNat ((IntKind.wrap .i64 (a0 + 1)) : Int).toNat)) else none) else none) else none) else none) else (bif (10 == 0) then (none) else ((spec_l1Num.F k (IntKind.wrap .i64 (Int.tdiv a0 10))).bind fun r2 => bif (10 == 0) then (none) else (bif (10 == 0) then (none) else (bif decide (0 ≤ (IntKind.wrap .i64 ((Int.tmod a0 10) + 1))) then (bif decide ((IntKind.wrap .i64 ((Int.tmod a0 10) + 1)) ≤ ((⟨#[48, 49, 50, 51, 52, 53, 54, 55, 56, 57]⟩ : ByteArray).size : Int)) then (bif decide (0 ≤ (Int.tmod a0 10)) then (bif decide ((Int.tmod a0 10) ≤ (IntKind.wrap .i64 ((Int.tmod a0 10) + 1))) then (bif Nat.ble (r2.size + ((⟨#[48, 49, 50, 51, 52, 53, 54, 55, 56, 57]⟩ : ByteArray).extract ((Int.tmod a0 10) : Int).toNat ((IntKind.wrap .i64 ((Int.tmod a0 10) + 1)) : Int).toNat).size) 9223372036854775807 then (some (r2 ++ ((⟨#[48, 49, 50, 51, 52, 53, 54, 55, 56, 57]⟩ : ByteArray).extract ((Int.tmod a0 10) : Int).toNat ((IntKind.wrap .i64 ((Int.tmod a0 10) + 1)) : Int).toNat))) else none) else none) else none) else none) else none)))))
end
def spec_l1Num.C (k : Nat) : Cal → Option CArm := fun c => match c with
  | .f 66 => some (.p [(.int .i64)] _ (fun x => spec_l1Num.F k x.1) (fun r => (.t .str r)))
  | _ => none
theorem spec_l1Num.run (k : Nat) (a0 : Int) : runF envX (tabC (spec_l1Num.C k)) (tabL 25 0 (fun _ => none)) Tryz.f66 [.t (.int .i64) a0] (viewR1 (.t .str)) = spec_l1Num.F (k + 1) a0 := by kernel_rfl
def spec_l1Num.Gd (pv : Nat → Value) (k : Nat) : Prop := (∀ (a0 : Int) {y : _}, spec_l1Num.F k a0 = some y → Meets Tryz.prog envX pv (.f 66) (tvals [(.int .i64)] (a0, ())) (.t .str y))
theorem spec_l1Num.G (hE : EnvOk Tryz.prog envX) (pv : Nat → Value) (k : Nat) (hI : spec_l1Num.Gd pv k) : ∀ cal A, spec_l1Num.C k cal = some A → ArmOk Tryz.prog envX pv cal A := by
  intro cal A h
  unfold spec_l1Num.C at h
  split at h
  · cases h; exact fun x y hy => hI x.1 hy
  · cases h
theorem spec_l1Num.gd (hE : EnvOk Tryz.prog envX) (pv : Nat → Value) (k : Nat) (hI : ∀ k', k' ≤ k → spec_l1Num.Gd pv k') (a0 : Int) {y : _} (h : spec_l1Num.F (k + 1) a0 = some y) : Meets Tryz.prog envX pv (.f 66) (tvals [(.int .i64)] (a0, ())) (.t .str y) :=
  fun_plain hE (spec_l1Num.G hE pv k (hI k (Nat.le_refl k))) (f := 66) (fn := Tryz.f66) (by kernel_rfl) rfl (by kernel_rfl) (by kernel_rfl) ((spec_l1Num.run k a0).trans h) fun r hr => wk_view1 hr
theorem spec_l1Num.all (hE : EnvOk Tryz.prog envX) (pv : Nat → Value) : ∀ k k', k' ≤ k → spec_l1Num.Gd pv k' := by
  intro k
  induction k with
  | zero =>
    intro k' hk
    obtain rfl : k' = 0 := by omega
    exact fun _ y h => by cases (show (none : Option _) = some y from h)
  | succ k ih =>
    intro k' hk
    rcases Nat.lt_or_ge k' (k + 1) with hlt | hge
    · exact ih k' (by omega)
    · obtain rfl : k' = k + 1 := by omega
      exact fun a0 y h => spec_l1Num.gd hE pv k ih a0 h
theorem spec_l1Num.good (hE : EnvOk Tryz.prog envX) (pv : Nat → Value) (k : Nat) (a0 : Int) {y : _} (h : spec_l1Num.F k a0 = some y) : Meets Tryz.prog envX pv (.f 66) (tvals [(.int .i64)] (a0, ())) (.t .str y) :=
  (spec_l1Num.all hE pv k k (Nat.le_refl k)) a0 h
/-! ### 92 loop.example/g00896/spec.l3Pad -/
def spec_l3Pad.l0 : Nat → Int → ByteArray → Option (ByteArray)
  | 0, _, _ => none
  | k + 1, x1, x5 => bif (decide ((x5.size : Int) < x1)) then (bif Nat.ble ((⟨#[48]⟩ : ByteArray).size + x5.size) 9223372036854775807 then (spec_l3Pad.l0 k x1 ((⟨#[48]⟩ : ByteArray) ++ x5)) else none) else (some x5)
def spec_l3Pad.F (k : Nat) (a0 : Int) (a1 : Int) : Option (ByteArray) := (spec_l1Num.F k a0).bind fun r1 => (spec_l3Pad.l0 k a1 r1).bind fun y2 => some y2
def spec_l3Pad.C (k : Nat) : Cal → Option CArm := fun c => match c with
  | .f 66 => some (.p [(.int .i64)] _ (fun x => spec_l1Num.F k x.1) (fun r => (.t .str r)))
  | _ => none
def spec_l3Pad.sp0 : List Sp := [.t 1 (.int .i64), .t 5 .str]
def spec_l3Pad.sp0_0 : List Sp := [.t 5 .str]
def spec_l3Pad.A0 : LArm := .one spec_l3Pad.sp0 spec_l3Pad.sp0_0 (ByteArray) (fun k x => spec_l3Pad.l0 k x.1 x.2.1) (.exit 0) (fun y => (y, ())) (fun x => x.1)
def spec_l3Pad.L : Nat → Option LArm := fun b => match b with
  | 0 => some spec_l3Pad.A0
  | _ => none
theorem spec_l3Pad.run (k : Nat) (a0 : Int) (a1 : Int) : runF envX (tabC (spec_l3Pad.C k)) (tabL 15 k spec_l3Pad.L) Tryz.f92 [.t (.int .i64) a0, .t (.int .i64) a1] (viewR1 (.t .str)) = spec_l3Pad.F k a0 a1 := by kernel_rfl
theorem spec_l3Pad.step0 (k : Nat) (x1 : Int) (x5 : ByteArray) : runC envX (tabC (spec_l3Pad.C k)) (tabL 15 k spec_l3Pad.L) 0 (loopAt Tryz.f92 0) (stOf 15 spec_l3Pad.sp0 (x1, x5, ())) (spec_l3Pad.A0.cont 15 k) = spec_l3Pad.l0 (k + 1) x1 x5 := by kernel_rfl
theorem spec_l3Pad.G (hE : EnvOk Tryz.prog envX) (pv : Nat → Value) (k : Nat) : ∀ cal A, spec_l3Pad.C k cal = some A → ArmOk Tryz.prog envX pv cal A := by
  intro cal A h
  unfold spec_l3Pad.C at h
  split at h
  · cases h; exact fun x y hy => spec_l1Num.good hE pv k x.1 hy
  · cases h
theorem spec_l3Pad.good (hE : EnvOk Tryz.prog envX) (pv : Nat → Value) (k : Nat) (a0 : Int) (a1 : Int) {y : _} (h : spec_l3Pad.F k a0 a1 = some y) : Meets Tryz.prog envX pv (.f 92) (tvals [(.int .i64), (.int .i64)] (a0, a1, ())) (.t .str y) :=
  fun_loops hE (t := spec_l3Pad.C) k (fun k _ => spec_l3Pad.G hE pv k) (f := 92) (fn := Tryz.f92) (by kernel_rfl) rfl (by kernel_rfl) (by kernel_rfl) (lt := spec_l3Pad.L) (by kernel_rfl) (fun b A h => by
    unfold spec_l3Pad.L at h; split at h
    · cases h; exact ⟨by kernel_rfl, by kernel_rfl, fun _ => rfl, fun _ => rfl⟩
    · cases h) (fun b A h => by
    unfold spec_l3Pad.L at h; split at h
    · cases h; exact fun k x => spec_l3Pad.step0 k x.1 x.2.1
    · cases h) ((spec_l3Pad.run k a0 a1).trans h) fun r hr => wk_view1 hr
/-! ### 65 loop.example/g00896/spec.l3Text -/
def spec_l3Text.F (k : Nat) (a0 : Date) : Option (ByteArray) := bif (a0.y == 0) then (some (⟨#[117, 110, 107, 110, 111, 119, 110]⟩ : ByteArray)) else ((spec_l3Pad.F k a0.y 4).bind fun r1 => bif (decide (a0.m > 0)) then (bif Nat.ble (r1.size + (⟨#[45]⟩ : ByteArray).size) 9223372036854775807 then ((spec_l3Pad.F k a0.m 2).bind fun r2 => bif Nat.ble ((r1 ++ (⟨#[45]⟩ : ByteArray)).size + r2.size) 9223372036854775807 then (bif (decide (a0.d > 0)) then (bif Nat.ble (((r1 ++ (⟨#[45]⟩ : ByteArray)) ++ r2).size + (⟨#[45]⟩ : ByteArray).size) 9223372036854775807 then ((spec_l3Pad.F k a0.d 2).bind fun r3 => bif Nat.ble ((((r1 ++ (⟨#[45]⟩ : ByteArray)) ++ r2) ++ (⟨#[45]⟩ : ByteArray)).size + r3.size) 9223372036854775807 then (bif a0.c then (bif Nat.ble ((⟨#[99]⟩ : ByteArray).size + ((((r1 ++ (⟨#[45]⟩ : ByteArray)) ++ r2) ++ (⟨#[45]⟩ : ByteArray)) ++ r3).size) 9223372036854775807 then (some ((⟨#[99]⟩ : ByteArray) ++ ((((r1 ++ (⟨#[45]⟩ : ByteArray)) ++ r2) ++ (⟨#[45]⟩ : ByteArray)) ++ r3))) else none) else (some ((((r1 ++ (⟨#[45]⟩ : ByteArray)) ++ r2) ++ (⟨#[45]⟩ : ByteArray)) ++ r3))) else none) else none) else (bif a0.c then (bif Nat.ble ((⟨#[99]⟩ : ByteArray).size + ((r1 ++ (⟨#[45]⟩ : ByteArray)) ++ r2).size) 9223372036854775807 then (some ((⟨#[99]⟩ : ByteArray) ++ ((r1 ++ (⟨#[45]⟩ : ByteArray)) ++ r2))) else none) else (some ((r1 ++ (⟨#[45]⟩ : ByteArray)) ++ r2)))) else none) else none) else (bif (decide (a0.d > 0)) then (bif Nat.ble (r1.size + (⟨#[45]⟩ : ByteArray).size) 9223372036854775807 then ((spec_l3Pad.F k a0.d 2).bind fun r4 => bif Nat.ble ((r1 ++ (⟨#[45]⟩ : ByteArray)).size + r4.size) 9223372036854775807 then (bif a0.c then (bif Nat.ble ((⟨#[99]⟩ : ByteArray).size + ((r1 ++ (⟨#[45]⟩ : ByteArray)) ++ r4).size) 9223372036854775807 then (some ((⟨#[99]⟩ : ByteArray) ++ ((r1 ++ (⟨#[45]⟩ : ByteArray)) ++ r4))) else none) else (some ((r1 ++ (⟨#[45]⟩ : ByteArray)) ++ r4))) else none) else none) else (bif a0.c then (bif Nat.ble ((⟨#[99]⟩ : ByteArray).size + r1.size) 9223372036854775807 then (some ((⟨#[99]⟩ : ByteArray) ++ r1)) else none) else (some r1))))
def spec_l3Text.C (k : Nat) : Cal → Option CArm := fun c => match c with
  | .f 92 => some (.p [(.int .i64), (.int .i64)] _ (fun x => spec_l3Pad.F k x.1 x.2.1) (fun r => (.t .str r)))
  | _ => none
theorem spec_l3Text.run (k : Nat) (a0 : Date) : runF envX (tabC (spec_l3Text.C k)) (tabL 33 0 (fun _ => none)) Tryz.f65 [.t .date a0] (viewR1 (.t .str)) = spec_l3Text.F k a0 := by kernel_rfl
theorem spec_l3Text.G (hE : EnvOk Tryz.prog envX) (pv : Nat → Value) (k : Nat) : ∀ cal A, spec_l3Text.C k cal = some A → ArmOk Tryz.prog envX pv cal A := by
  intro cal A h
  unfold spec_l3Text.C at h
  split at h
  · cases h; exact fun x y hy => spec_l3Pad.good hE pv k x.1 x.2.1 hy
  · cases h
theorem spec_l3Text.good (hE : EnvOk Tryz.prog envX) (pv : Nat → Value) (k : Nat) (a0 : Date) {y : _} (h : spec_l3Text.F k a0 = some y) : Meets Tryz.prog envX pv (.f 65) (tvals [.date] (a0, ())) (.t .str y) :=
  fun_plain hE (spec_l3Text.G hE pv k) (f := 65) (fn := Tryz.f65) (by kernel_rfl) rfl (by kernel_rfl) (by kernel_rfl) ((spec_l3Text.run k a0).trans h) fun r hr => wk_view1 hr
/-! ### 34 loop.example/g00896/spec.l4Field -/
def spec_l4Field.F (k : Nat) (a0 : Entry) (a1 : ByteArray) : Option (ByteArray × Bool) := bif (beqS a1 (⟨#[97, 117, 116, 104, 111, 114, 115]⟩ : ByteArray)) then ((spec_l4Names.F k a0.authors).bind fun r1 => some (r1, true)) else (bif (beqS a1 (⟨#[101, 100, 105, 116, 111, 114, 115]⟩ : ByteArray)) then ((spec_l4Names.F k a0.editors).bind fun r2 => some (r2, true)) else (bif (beqS a1 (⟨#[116, 105, 116, 108, 101]⟩ : ByteArray)) then (some (a0.title, true)) else (bif (beqS a1 (⟨#[99, 111, 110, 116, 97, 105, 110, 101, 114]⟩ : ByteArray)) then (some (a0.container, true)) else (bif (beqS a1 (⟨#[112, 117, 98, 108, 105, 115, 104, 101, 114]⟩ : ByteArray)) then (some (a0.publisher, true)) else (bif (beqS a1 (⟨#[112, 97, 103, 101, 115]⟩ : ByteArray)) then (some (a0.pages, true)) else (bif (beqS a1 (⟨#[100, 97, 116, 101]⟩ : ByteArray)) then (bif (a0.date.y == 0) then (some ((⟨#[]⟩ : ByteArray), true)) else ((spec_l3Text.F k a0.date).bind fun r3 => some (r3, true))) else (bif (beqS a1 (⟨#[118, 111, 108, 117, 109, 101]⟩ : ByteArray)) then (bif (a0.volume == 0) then (some ((⟨#[]⟩ : ByteArray), true)) else ((spec_l1Num.F k a0.volume).bind fun r4 => some (r4, true))) else (some ((⟨#[]⟩ : ByteArray), false)))))))))
def spec_l4Field.C (k : Nat) : Cal → Option CArm := fun c => match c with
  | .f 64 => some (.p [(.sl .name)] _ (fun x => spec_l4Names.F k x.1) (fun r => (.t .str r)))
  | .f 65 => some (.p [.date] _ (fun x => spec_l3Text.F k x.1) (fun r => (.t .str r)))
  | .f 66 => some (.p [(.int .i64)] _ (fun x => spec_l1Num.F k x.1) (fun r => (.t .str r)))
  | _ => none
theorem spec_l4Field.run (k : Nat) (a0 : Entry) (a1 : ByteArray) : runF envX (tabC (spec_l4Field.C k)) (tabL 50 0 (fun _ => none)) Tryz.f34 [.t .entry a0, .t .str a1] (viewR2 (.t .str) (.t .bool)) = spec_l4Field.F k a0 a1 := by kernel_rfl
theorem spec_l4Field.G (hE : EnvOk Tryz.prog envX) (pv : Nat → Value) (k : Nat) : ∀ cal A, spec_l4Field.C k cal = some A → ArmOk Tryz.prog envX pv cal A := by
  intro cal A h
  unfold spec_l4Field.C at h
  split at h
  · cases h; exact fun x y hy => spec_l4Names.good hE pv k x.1 hy
  · cases h; exact fun x y hy => spec_l3Text.good hE pv k x.1 hy
  · cases h; exact fun x y hy => spec_l1Num.good hE pv k x.1 hy
  · cases h
theorem spec_l4Field.good (hE : EnvOk Tryz.prog envX) (pv : Nat → Value) (k : Nat) (a0 : Entry) (a1 : ByteArray) {y : _} (h : spec_l4Field.F k a0 a1 = some y) : Meets Tryz.prog envX pv (.f 34) (tvals [.entry, .str] (a0, a1, ())) (.tup [.t .str y.1, .t .bool y.2]) :=
  fun_plain hE (spec_l4Field.G hE pv k) (f := 34) (fn := Tryz.f34) (by kernel_rfl) rfl (by kernel_rfl) (by kernel_rfl) ((spec_l4Field.run k a0 a1).trans h) fun r hr => wk_view2 hr
/-! ### 9 loop.example/g00896/spec.InheritedFields -/
def spec_InheritedFields.l0 : Nat → (List ByteArray) → Entry → Entry → (List ByteArray) → Int → Option ((List ByteArray))
  | 0, _, _, _, _, _ => none
  | k + 1, x6, x7, x9, x10, x11 => bif (decide (x11 < (x10.length : Int))) then (bif decide (0 ≤ x11) then (bif decide (x11 < (x10.length : Int)) then ((spec_l4Field.F k x9 (x10.getD ((x11 : Int).toNat) (⟨#[]⟩ : ByteArray))).bind fun r3 => bif decide (0 ≤ x11) then (bif decide (x11 < (x10.length : Int)) then ((spec_l4Field.F k x7 (x10.getD ((x11 : Int).toNat) (⟨#[]⟩ : ByteArray))).bind fun r4 => bif (beqS r3.1 (⟨#[]⟩ : ByteArray)) then (bif (!beqS r4.1 (⟨#[]⟩ : ByteArray)) then (bif decide (0 ≤ x11) then (bif decide (x11 < (x10.length : Int)) then (bif room (x6.length + ([(x10.getD ((x11 : Int).toNat) (⟨#[]⟩ : ByteArray))] : List ByteArray).length) .str then (spec_InheritedFields.l0 k (x6 ++ ([(x10.getD ((x11 : Int).toNat) (⟨#[]⟩ : ByteArray))] : List ByteArray)) x7 x9 x10 (IntKind.wrap .i64 (x11 + 1))) else none) else none) else none) else (spec_InheritedFields.l0 k x6 x7 x9 x10 (IntKind.wrap .i64 (x11 + 1)))) else (spec_InheritedFields.l0 k x6 x7 x9 x10 (IntKind.wrap .i64 (x11 + 1)))) else none) else none) else none) else none) else (some x6)
def spec_InheritedFields.F (k : Nat) (a0 : Library) (a1 : ByteArray) : Option ((List ByteArray) × Bool) := (spec_ResolveEntry.F k a0 a1).bind fun r1 => bif (!r1.2) then (some (([] : List ByteArray), false)) else ((spec_l4Find.F k a0 a1).bind fun r2 => bif decide (0 ≤ r2) then (bif decide (r2 < (a0.entries.length : Int)) then ((spec_InheritedFields.l0 k ([] : List ByteArray) r1.1 (a0.entries.getD (r2 : Int).toNat (dflt .entry)) ([(⟨#[101, 100, 105, 116, 111, 114, 115]⟩ : ByteArray), (⟨#[99, 111, 110, 116, 97, 105, 110, 101, 114]⟩ : ByteArray), (⟨#[112, 117, 98, 108, 105, 115, 104, 101, 114]⟩ : ByteArray), (⟨#[100, 97, 116, 101]⟩ : ByteArray), (⟨#[118, 111, 108, 117, 109, 101]⟩ : ByteArray)] : List ByteArray) 0).bind fun y5 => some (y5, true)) else none) else none)
def spec_InheritedFields.C (k : Nat) : Cal → Option CArm := fun c => match c with
  | .f 17 => some (.p [.lib, .str] _ (fun x => spec_ResolveEntry.F k x.1 x.2.1) (fun r => (.tup [.t .entry r.1, .t .bool r.2])))
  | .f 33 => some (.p [.lib, .str] _ (fun x => spec_l4Find.F k x.1 x.2.1) (fun r => (.t (.int .i64) r)))
  | .f 34 => some (.p [.entry, .str] _ (fun x => spec_l4Field.F k x.1 x.2.1) (fun r => (.tup [.t .str r.1, .t .bool r.2])))
  | _ => none
def spec_InheritedFields.sp0 : List Sp := [.own 6 1024 9 .str false true, .boxT 7 2072 .entry, .boxT 9 5148 .entry, .own 10 6144 9 .str false true, .t 11 (.int .i64)]
def spec_InheritedFields.sp0_0 : List Sp := [.own 6 1024 9 .str false true]
def spec_InheritedFields.A0 : LArm := .one spec_InheritedFields.sp0 spec_InheritedFields.sp0_0 ((List ByteArray)) (fun k x => spec_InheritedFields.l0 k x.1 x.2.1 x.2.2.1 x.2.2.2.1 x.2.2.2.2.1) (.exit 0) (fun y => (y, ())) (fun x => x.1)
def spec_InheritedFields.L : Nat → Option LArm := fun b => match b with
  | 0 => some spec_InheritedFields.A0
  | _ => none
theorem spec_InheritedFields.run (k : Nat) (a0 : Library) (a1 : ByteArray) : runF envX (tabC (spec_InheritedFields.C k)) (tabL 72 k spec_InheritedFields.L) Tryz.f9 [.t .lib a0, .t .str a1] (viewR2 (.fr 9 .str) (.t .bool)) = spec_InheritedFields.F k a0 a1 := by kernel_rfl
theorem spec_InheritedFields.step0 (k : Nat) (x6 : List ByteArray) (x7 : Entry) (x9 : Entry) (x10 : List ByteArray) (x11 : Int) : runC envX (tabC (spec_InheritedFields.C k)) (tabL 72 k spec_InheritedFields.L) 0 (loopAt Tryz.f9 0) (stOf 72 spec_InheritedFields.sp0 (x6, x7, x9, x10, x11, ())) (spec_InheritedFields.A0.cont 72 k) = spec_InheritedFields.l0 (k + 1) x6 x7 x9 x10 x11 := by kernel_rfl
theorem spec_InheritedFields.G (hE : EnvOk Tryz.prog envX) (pv : Nat → Value) (k : Nat) : ∀ cal A, spec_InheritedFields.C k cal = some A → ArmOk Tryz.prog envX pv cal A := by
  intro cal A h
  unfold spec_InheritedFields.C at h
  split at h
  · cases h; exact fun x y hy => spec_ResolveEntry.good hE pv k x.1 x.2.1 hy
  · cases h; exact fun x y hy => spec_l4Find.good hE pv k x.1 x.2.1 hy
  · cases h; exact fun x y hy => spec_l4Field.good hE pv k x.1 x.2.1 hy
  · cases h
theorem spec_InheritedFields.good (hE : EnvOk Tryz.prog envX) (pv : Nat → Value) (k : Nat) (a0 : Library) (a1 : ByteArray) {y : _} (h : spec_InheritedFields.F k a0 a1 = some y) : Meets Tryz.prog envX pv (.f 9) (tvals [.lib, .str] (a0, a1, ())) (.tup [.fr 9 .str y.1, .t .bool y.2]) :=
  fun_loops hE (t := spec_InheritedFields.C) k (fun k _ => spec_InheritedFields.G hE pv k) (f := 9) (fn := Tryz.f9) (by kernel_rfl) rfl (by kernel_rfl) (by kernel_rfl) (lt := spec_InheritedFields.L) (by kernel_rfl) (fun b A h => by
    unfold spec_InheritedFields.L at h; split at h
    · cases h; exact ⟨by kernel_rfl, by kernel_rfl, fun _ => rfl, fun _ => rfl⟩
    · cases h) (fun b A h => by
    unfold spec_InheritedFields.L at h; split at h
    · cases h; exact fun k x => spec_InheritedFields.step0 k x.1 x.2.1 x.2.2.1 x.2.2.2.1 x.2.2.2.2.1
    · cases h) ((spec_InheritedFields.run k a0 a1).trans h) fun r hr => wk_view2 hr
/-! ### 135 loop.example/g00896/laws.toStringS -/
def laws_toStringS.l0 : Nat → (List ByteArray) → (List ByteArray) → Int → Option ((List ByteArray))
  | 0, _, _, _ => none
  | k + 1, x0, x3, x4 => bif (decide (x4 < (x0.length : Int))) then (bif decide (0 ≤ x4) then (bif decide (x4 < (x0.length : Int)) then (bif decide (0 ≤ x4) then (bif decide (x4 < (x3.length : Int)) then (laws_toStringS.l0 k x0 (x3.set ((x4 : Int).toNat) (x0.getD (x4 : Int).toNat (⟨#[]⟩ : ByteArray))) (IntKind.wrap .i64 (x4 + 1))) else none) else none) else none) else none) else (some x3)
def laws_toStringS.F (k : Nat) (a0 : List ByteArray) : Option (List ByteArray) := bif ((a0.length : Int) == (a0.length : Int)) then (bif decide (0 ≤ (a0.length : Int)) then (bif Nat.ble (((a0.length : Int) : Int).toNat * nb .str) 140737488355328 then ((laws_toStringS.l0 k a0 (List.replicate ((a0.length : Int) : Int).toNat (⟨#[]⟩ : ByteArray)) 0).bind fun y1 => some y1) else none) else none) else none
def laws_toStringS.C (k : Nat) : Cal → Option CArm := fun c => match c with
  | _ => none
def laws_toStringS.sp0 : List Sp := [.t 0 (.sl .str), .own 3 1032 9 .str false true, .t 4 (.int .i64)]
def laws_toStringS.sp0_0 : List Sp := [.own 3 1032 9 .str false true]
def laws_toStringS.A0 : LArm := .one laws_toStringS.sp0 laws_toStringS.sp0_0 ((List ByteArray)) (fun k x => laws_toStringS.l0 k x.1 x.2.1 x.2.2.1) (.exit 0) (fun y => (y, ())) (fun x => x.1)
def laws_toStringS.L : Nat → Option LArm := fun b => match b with
  | 0 => some laws_toStringS.A0
  | _ => none
theorem laws_toStringS.run (k : Nat) (a0 : List ByteArray) : runF envX (tabC (laws_toStringS.C k)) (tabL 22 k laws_toStringS.L) Tryz.f135 [.t (.sl .str) a0] (viewR1 (.fr 9 .str)) = laws_toStringS.F k a0 := by kernel_rfl
theorem laws_toStringS.step0 (k : Nat) (x0 : List ByteArray) (x3 : List ByteArray) (x4 : Int) : runC envX (tabC (laws_toStringS.C k)) (tabL 22 k laws_toStringS.L) 0 (loopAt Tryz.f135 0) (stOf 22 laws_toStringS.sp0 (x0, x3, x4, ())) (laws_toStringS.A0.cont 22 k) = laws_toStringS.l0 (k + 1) x0 x3 x4 := by kernel_rfl
theorem laws_toStringS.G (hE : EnvOk Tryz.prog envX) (pv : Nat → Value) (k : Nat) : ∀ cal A, laws_toStringS.C k cal = some A → ArmOk Tryz.prog envX pv cal A := by
  intro cal A h
  unfold laws_toStringS.C at h
  cases h
theorem laws_toStringS.good (hE : EnvOk Tryz.prog envX) (pv : Nat → Value) (k : Nat) (a0 : List ByteArray) {y : _} (h : laws_toStringS.F k a0 = some y) : Meets Tryz.prog envX pv (.f 135) (tvals [(.sl .str)] (a0, ())) (.fr 9 .str y) :=
  fun_loops hE (t := laws_toStringS.C) k (fun k _ => laws_toStringS.G hE pv k) (f := 135) (fn := Tryz.f135) (by kernel_rfl) rfl (by kernel_rfl) (by kernel_rfl) (lt := laws_toStringS.L) (by kernel_rfl) (fun b A h => by
    unfold laws_toStringS.L at h; split at h
    · cases h; exact ⟨by kernel_rfl, by kernel_rfl, fun _ => rfl, fun _ => rfl⟩
    · cases h) (fun b A h => by
    unfold laws_toStringS.L at h; split at h
    · cases h; exact fun k x => laws_toStringS.step0 k x.1 x.2.1 x.2.2.1
    · cases h) ((laws_toStringS.run k a0).trans h) fun r hr => wk_view1 hr
/-! ### 117 loop.example/g00896/laws.toName -/
def laws_toName.F (k : Nat) (a0 : Name) : Option (Name) := (laws_toStringS.F k a0.given).bind fun r1 => some (⟨r1, a0.particle, a0.family, a0.suffix⟩ : Name)
def laws_toName.C (k : Nat) : Cal → Option CArm := fun c => match c with
  | .f 135 => some (.p [(.sl .str)] _ (fun x => laws_toStringS.F k x.1) (fun r => (.fr 9 .str r)))
  | _ => none
theorem laws_toName.run (k : Nat) (a0 : Name) : runF envX (tabC (laws_toName.C k)) (tabL 18 0 (fun _ => none)) Tryz.f117 [.t .name a0] (viewR1 (.t .name)) = laws_toName.F k a0 := by kernel_rfl
theorem laws_toName.G (hE : EnvOk Tryz.prog envX) (pv : Nat → Value) (k : Nat) : ∀ cal A, laws_toName.C k cal = some A → ArmOk Tryz.prog envX pv cal A := by
  intro cal A h
  unfold laws_toName.C at h
  split at h
  · cases h; exact fun x y hy => laws_toStringS.good hE pv k x.1 hy
  · cases h
theorem laws_toName.good (hE : EnvOk Tryz.prog envX) (pv : Nat → Value) (k : Nat) (a0 : Name) {y : _} (h : laws_toName.F k a0 = some y) : Meets Tryz.prog envX pv (.f 117) (tvals [.name] (a0, ())) (.t .name y) :=
  fun_plain hE (laws_toName.G hE pv k) (f := 117) (fn := Tryz.f117) (by kernel_rfl) rfl (by kernel_rfl) (by kernel_rfl) ((laws_toName.run k a0).trans h) fun r hr => wk_view1 hr
/-! ### 135 loop.example/g00896/laws.toStringS, with a mark -/
def laws_toStringS_p.l0 : Nat → (List ByteArray) → (List ByteArray) → Int → Option ((List ByteArray))
  | 0, _, _, _ => none
  | k + 1, x0, x3, x4 => bif (decide (x4 < (x0.length : Int))) then (bif decide (0 ≤ x4) then (bif decide (x4 < (x0.length : Int)) then (bif decide (0 ≤ x4) then (bif decide (x4 < (x3.length : Int)) then (laws_toStringS_p.l0 k x0 (x3.set ((x4 : Int).toNat) (x0.getD (x4 : Int).toNat (⟨#[]⟩ : ByteArray))) (IntKind.wrap .i64 (x4 + 1))) else none) else none) else none) else none) else (some x3)
def laws_toStringS_p.F (k : Nat) (a0 : List ByteArray) : Option (List ByteArray) := bif ((a0.length : Int) == (a0.length : Int)) then (bif decide (0 ≤ (a0.length : Int)) then (bif Nat.ble (((a0.length : Int) : Int).toNat * nb .str) 140737488355328 then ((laws_toStringS_p.l0 k a0 (List.replicate ((a0.length : Int) : Int).toNat (⟨#[]⟩ : ByteArray)) 0).bind fun y1 => some y1) else none) else none) else none
def laws_toStringS_p.C (k : Nat) : Cal → Option CArm := fun c => match c with
  | _ => none
def laws_toStringS_p.sp0 : List Sp := [.t 0 (.sl .str), .own 3 1032 9 .str false true, .t 4 (.int .i64)]
def laws_toStringS_p.sp0_0 : List Sp := [.own 3 1032 9 .str false true]
def laws_toStringS_p.A0 : LArm := .one laws_toStringS_p.sp0 laws_toStringS_p.sp0_0 ((List ByteArray)) (fun k x => laws_toStringS_p.l0 k x.1 x.2.1 x.2.2.1) (.exit 0) (fun y => (y, ())) (fun x => x.1)
def laws_toStringS_p.L : Nat → Option LArm := fun b => match b with
  | 0 => some laws_toStringS_p.A0
  | _ => none
theorem laws_toStringS_p.run (k : Nat) (a0 : List ByteArray) : runF envP (tabC (laws_toStringS_p.C k)) (tabL 22 k laws_toStringS_p.L) Tryz.f135 [.t (.sl .str) a0] (viewR1 (.fr 9 .str)) = laws_toStringS_p.F k a0 := by kernel_rfl
theorem laws_toStringS_p.step0 (k : Nat) (x0 : List ByteArray) (x3 : List ByteArray) (x4 : Int) : runC envP (tabC (laws_toStringS_p.C k)) (tabL 22 k laws_toStringS_p.L) 0 (loopAt Tryz.f135 0) (stOf 22 laws_toStringS_p.sp0 (x0, x3, x4, ())) (laws_toStringS_p.A0.cont 22 k) = laws_toStringS_p.l0 (k + 1) x0 x3 x4 := by kernel_rfl
theorem laws_toStringS_p.G (hE : EnvOk Tryz.prog envP) (pv : Nat → Value) (n : Nat) (k : Nat) : ∀ cal A, laws_toStringS_p.C k cal = some A → ArmOk Tryz.prog envP (mpv pv n) cal A := by
  intro cal A h
  unfold laws_toStringS_p.C at h
  cases h
theorem laws_toStringS_p.good (hE : EnvOk Tryz.prog envP) (pv : Nat → Value) (n : Nat) (k : Nat) (a0 : List ByteArray) {y : _} (h : laws_toStringS_p.F k a0 = some y) : Meets Tryz.prog envP (mpv pv n) (.f 135) (tvals [(.sl .str)] (a0, ())) (.fr 9 .str y) :=
  fun_loops hE (t := laws_toStringS_p.C) k (fun k _ => laws_toStringS_p.G hE pv n k) (f := 135) (fn := Tryz.f135) (by kernel_rfl) rfl (by kernel_rfl) (by kernel_rfl) (lt := laws_toStringS_p.L) (by kernel_rfl) (fun b A h => by
    unfold laws_toStringS_p.L at h; split at h
    · cases h; exact ⟨by kernel_rfl, by kernel_rfl, fun _ => rfl, fun _ => rfl⟩
    · cases h) (fun b A h => by
    unfold laws_toStringS_p.L at h; split at h
    · cases h; exact fun k x => laws_toStringS_p.step0 k x.1 x.2.1 x.2.2.1
    · cases h) ((laws_toStringS_p.run k a0).trans h) fun r hr => wk_view1 hr
/-! ### 117 loop.example/g00896/laws.toName, with a mark -/
def laws_toName_p.F (k : Nat) (a0 : Name) : Option (Name) := (laws_toStringS_p.F k a0.given).bind fun r1 => some (⟨r1, a0.particle, a0.family, a0.suffix⟩ : Name)
def laws_toName_p.C (k : Nat) : Cal → Option CArm := fun c => match c with
  | .f 135 => some (.p [(.sl .str)] _ (fun x => laws_toStringS_p.F k x.1) (fun r => (.fr 9 .str r)))
  | _ => none
theorem laws_toName_p.run (k : Nat) (a0 : Name) : runPc envP (tabC (laws_toName_p.C k)) (tabL 18 0 (fun _ => none)) Tryz.f117 [.t .name a0] (viewR1 (.pc .name)) = laws_toName_p.F k a0 := by kernel_rfl
theorem laws_toName_p.G (hE : EnvOk Tryz.prog envP) (pv : Nat → Value) (n : Nat) (k : Nat) : ∀ cal A, laws_toName_p.C k cal = some A → ArmOk Tryz.prog envP (mpv pv n) cal A := by
  intro cal A h
  unfold laws_toName_p.C at h
  split at h
  · cases h; exact fun x y hy => laws_toStringS_p.good hE pv n k x.1 hy
  · cases h
theorem laws_toName_p.good (hE : EnvOk Tryz.prog envP) (pv : Nat → Value) (n : Nat) (k : Nat) (a0 : Name) {y : _} (h : laws_toName_p.F k a0 = some y) : Meets Tryz.prog envP (mpv pv n) (.f 117) (tvals [.name] (a0, ())) (.pc true .name y) :=
  funPc_plain hE (mpv_O pv n) (mpv_Q pv n) (laws_toName_p.G hE pv n k) (f := 117) (fn := Tryz.f117) (by kernel_rfl) rfl (by kernel_rfl) (by kernel_rfl) ((laws_toName_p.run k a0).trans h) fun r hr => wk_view1 hr
-- NO 93 loop.example/g00896/laws.toNameS: store of ds
/-! ### 94 loop.example/g00896/laws.toDate -/
def laws_toDate.F (a0 : Date) : Option (Date) := some (⟨a0.y, a0.m, a0.d, a0.c⟩ : Date)
def laws_toDate.C : Cal → Option CArm := fun c => match c with
  | _ => none
theorem laws_toDate.run (a0 : Date) : runF envX (tabC laws_toDate.C) (tabL 17 0 (fun _ => none)) Tryz.f94 [.t .date a0] (viewR1 (.t .date)) = laws_toDate.F a0 := by kernel_rfl
theorem laws_toDate.G (hE : EnvOk Tryz.prog envX) (pv : Nat → Value) : ∀ cal A, laws_toDate.C cal = some A → ArmOk Tryz.prog envX pv cal A := by
  intro cal A h
  unfold laws_toDate.C at h
  cases h
theorem laws_toDate.good (hE : EnvOk Tryz.prog envX) (pv : Nat → Value) (a0 : Date) {y : _} (h : laws_toDate.F a0 = some y) : Meets Tryz.prog envX pv (.f 94) (tvals [.date] (a0, ())) (.t .date y) :=
  fun_plain hE (laws_toDate.G hE pv) (f := 94) (fn := Tryz.f94) (by kernel_rfl) rfl (by kernel_rfl) (by kernel_rfl) ((laws_toDate.run a0).trans h) fun r hr => wk_view1 hr
-- NO 67 loop.example/g00896/laws.toEntry: a call of loop.example/g00896/laws.toNameS
/-! ### 93 loop.example/g00896/laws.toNameS, with a mark -/
def laws_toNameS_p.l0 : Nat → (List Name) → (List Name) → Int → Option ((List Name))
  | 0, _, _, _ => none
  | k + 1, x0, x3, x4 => bif (decide (x4 < (x0.length : Int))) then (bif decide (0 ≤ x4) then (bif decide (x4 < (x0.length : Int)) then ((laws_toName_p.F k (x0.getD (x4 : Int).toNat (dflt .name))).bind fun r1 => bif decide (0 ≤ x4) then (bif decide (x4 < (x3.length : Int)) then (laws_toNameS_p.l0 k x0 (x3.set ((x4 : Int).toNat) r1) (IntKind.wrap .i64 (x4 + 1))) else none) else none) else none) else none) else (some x3)
def laws_toNameS_p.F (k : Nat) (a0 : List Name) : Option (List Name) := bif ((a0.length : Int) == (a0.length : Int)) then (bif decide (0 ≤ (a0.length : Int)) then (bif Nat.ble (((a0.length : Int) : Int).toNat * nb .name) 140737488355328 then ((laws_toNameS_p.l0 k a0 (List.replicate ((a0.length : Int) : Int).toNat (dflt .name)) 0).bind fun y2 => some y2) else none) else none) else none
def laws_toNameS_p.C (k : Nat) : Cal → Option CArm := fun c => match c with
  | .f 117 => some (.p [.name] _ (fun x => laws_toName_p.F k x.1) (fun r => (.pc true .name r)))
  | _ => none
def laws_toNameS_p.sp0 : List Sp := [.t 0 (.sl .name), .own 3 1032 96 .name false true, .t 4 (.int .i64)]
def laws_toNameS_p.sp0_0 : List Sp := [.own 3 1032 96 .name false true]
def laws_toNameS_p.A0 : LArm := .one laws_toNameS_p.sp0 laws_toNameS_p.sp0_0 ((List Name)) (fun k x => laws_toNameS_p.l0 k x.1 x.2.1 x.2.2.1) (.exit 0) (fun y => (y, ())) (fun x => x.1)
def laws_toNameS_p.L : Nat → Option LArm := fun b => match b with
  | 0 => some laws_toNameS_p.A0
  | _ => none
theorem laws_toNameS_p.run (k : Nat) (a0 : List Name) : runF envP (tabC (laws_toNameS_p.C k)) (tabL 23 k laws_toNameS_p.L) Tryz.f93 [.t (.sl .name) a0] (viewR1 (.fr 96 .name)) = laws_toNameS_p.F k a0 := by kernel_rfl
theorem laws_toNameS_p.step0 (k : Nat) (x0 : List Name) (x3 : List Name) (x4 : Int) : runC envP (tabC (laws_toNameS_p.C k)) (tabL 23 k laws_toNameS_p.L) 0 (loopAt Tryz.f93 0) (stOf 23 laws_toNameS_p.sp0 (x0, x3, x4, ())) (laws_toNameS_p.A0.cont 23 k) = laws_toNameS_p.l0 (k + 1) x0 x3 x4 := by kernel_rfl
theorem laws_toNameS_p.G (hE : EnvOk Tryz.prog envP) (pv : Nat → Value) (n : Nat) (k : Nat) : ∀ cal A, laws_toNameS_p.C k cal = some A → ArmOk Tryz.prog envP (mpv pv n) cal A := by
  intro cal A h
  unfold laws_toNameS_p.C at h
  split at h
  · cases h; exact fun x y hy => laws_toName_p.good hE pv n k x.1 hy
  · cases h
theorem laws_toNameS_p.good (hE : EnvOk Tryz.prog envP) (pv : Nat → Value) (n : Nat) (k : Nat) (a0 : List Name) {y : _} (h : laws_toNameS_p.F k a0 = some y) : Meets Tryz.prog envP (mpv pv n) (.f 93) (tvals [(.sl .name)] (a0, ())) (.fr 96 .name y) :=
  fun_loops hE (t := laws_toNameS_p.C) k (fun k _ => laws_toNameS_p.G hE pv n k) (f := 93) (fn := Tryz.f93) (by kernel_rfl) rfl (by kernel_rfl) (by kernel_rfl) (lt := laws_toNameS_p.L) (by kernel_rfl) (fun b A h => by
    unfold laws_toNameS_p.L at h; split at h
    · cases h; exact ⟨by kernel_rfl, by kernel_rfl, fun _ => rfl, fun _ => rfl⟩
    · cases h) (fun b A h => by
    unfold laws_toNameS_p.L at h; split at h
    · cases h; exact fun k x => laws_toNameS_p.step0 k x.1 x.2.1 x.2.2.1
    · cases h) ((laws_toNameS_p.run k a0).trans h) fun r hr => wk_view1 hr
/-! ### 94 loop.example/g00896/laws.toDate, with a mark -/
def laws_toDate_p.F (a0 : Date) : Option (Date) := some (⟨a0.y, a0.m, a0.d, a0.c⟩ : Date)
def laws_toDate_p.C : Cal → Option CArm := fun c => match c with
  | _ => none
theorem laws_toDate_p.run (a0 : Date) : runF envP (tabC laws_toDate_p.C) (tabL 17 0 (fun _ => none)) Tryz.f94 [.t .date a0] (viewR1 (.t .date)) = laws_toDate_p.F a0 := by kernel_rfl
theorem laws_toDate_p.G (hE : EnvOk Tryz.prog envP) (pv : Nat → Value) (n : Nat) : ∀ cal A, laws_toDate_p.C cal = some A → ArmOk Tryz.prog envP (mpv pv n) cal A := by
  intro cal A h
  unfold laws_toDate_p.C at h
  cases h
theorem laws_toDate_p.good (hE : EnvOk Tryz.prog envP) (pv : Nat → Value) (n : Nat) (a0 : Date) {y : _} (h : laws_toDate_p.F a0 = some y) : Meets Tryz.prog envP (mpv pv n) (.f 94) (tvals [.date] (a0, ())) (.t .date y) :=
  fun_plain hE (laws_toDate_p.G hE pv n) (f := 94) (fn := Tryz.f94) (by kernel_rfl) rfl (by kernel_rfl) (by kernel_rfl) ((laws_toDate_p.run a0).trans h) fun r hr => wk_view1 hr
/-! ### 67 loop.example/g00896/laws.toEntry, with a mark -/
def laws_toEntry_p.F (k : Nat) (a0 : Entry) : Option (Entry) := (laws_toNameS_p.F k a0.authors).bind fun r1 => (laws_toNameS_p.F k a0.editors).bind fun r2 => (laws_toDate_p.F a0.date).bind fun r3 => some (⟨a0.key, a0.kind, r1, r2, a0.title, a0.container, a0.publisher, r3, a0.volume, a0.pages, a0.cross⟩ : Entry)
def laws_toEntry_p.C (k : Nat) : Cal → Option CArm := fun c => match c with
  | .f 93 => some (.p [(.sl .name)] _ (fun x => laws_toNameS_p.F k x.1) (fun r => (.fr 96 .name r)))
  | .f 94 => some (.p [.date] _ (fun x => laws_toDate_p.F x.1) (fun r => (.t .date r)))
  | _ => none
theorem laws_toEntry_p.run (k : Nat) (a0 : Entry) : runPc envP (tabC (laws_toEntry_p.C k)) (tabL 41 0 (fun _ => none)) Tryz.f67 [.t .entry a0] (viewR1 (.pc .entry)) = laws_toEntry_p.F k a0 := by kernel_rfl
theorem laws_toEntry_p.G (hE : EnvOk Tryz.prog envP) (pv : Nat → Value) (n : Nat) (k : Nat) : ∀ cal A, laws_toEntry_p.C k cal = some A → ArmOk Tryz.prog envP (mpv pv n) cal A := by
  intro cal A h
  unfold laws_toEntry_p.C at h
  split at h
  · cases h; exact fun x y hy => laws_toNameS_p.good hE pv n k x.1 hy
  · cases h; exact fun x y hy => laws_toDate_p.good hE pv n x.1 hy
  · cases h
theorem laws_toEntry_p.good (hE : EnvOk Tryz.prog envP) (pv : Nat → Value) (n : Nat) (k : Nat) (a0 : Entry) {y : _} (h : laws_toEntry_p.F k a0 = some y) : Meets Tryz.prog envP (mpv pv n) (.f 67) (tvals [.entry] (a0, ())) (.pc true .entry y) :=
  funPc_plain hE (mpv_O pv n) (mpv_Q pv n) (laws_toEntry_p.G hE pv n k) (f := 67) (fn := Tryz.f67) (by kernel_rfl) rfl (by kernel_rfl) (by kernel_rfl) ((laws_toEntry_p.run k a0).trans h) fun r hr => wk_view1 hr
-- NO 35 loop.example/g00896/laws.toEntryS: store of ds
-- NO 10 loop.example/g00896/laws.toLibrary: a call of loop.example/g00896/laws.toEntryS
-- NO 72 slices.IndexFunc[[]loop.example/g00896/impl.Entry,loop.example/g00896/impl.Entry]: a parameter's type
-- NO 73 loop.example/g00896/impl.entryIndex$1: load from tup
/-! ### 73 loop.example/g00896/impl.entryIndex$1 at what it captured -/
def impl_entryIndex_1.F (a0 : Entry) (a1 : ByteArray) : Option (Bool) := some (beqS a0.key a1)
def impl_entryIndex_1.C : Cal → Option CArm := fun c => match c with
  | _ => none
theorem impl_entryIndex_1.run (a0 : Entry) (a1 : ByteArray) : runF envX (tabC impl_entryIndex_1.C) (tabL 8 0 (fun _ => none)) Tryz.f73 [.t .entry a0, .tp (.t .str a1)] (viewR1 (.t .bool)) = impl_entryIndex_1.F a0 a1 := by kernel_rfl
theorem impl_entryIndex_1.G (hE : EnvOk Tryz.prog envX) (pv : Nat → Value) : ∀ cal A, impl_entryIndex_1.C cal = some A → ArmOk Tryz.prog envX pv cal A := by
  intro cal A h
  unfold impl_entryIndex_1.C at h
  cases h
theorem impl_entryIndex_1.good (hE : EnvOk Tryz.prog envX) (pv : Nat → Value) (a0 : Entry) (a1 : ByteArray) {y : _} (h : impl_entryIndex_1.F a0 a1 = some y) : Meets Tryz.prog envX pv (.f 73) (pvals [.t .entry, .tp .str] (a0, a1, ())) (.t .bool y) :=
  fun_plain hE (impl_entryIndex_1.G hE pv) (f := 73) (fn := Tryz.f73) (by kernel_rfl) rfl (by kernel_rfl) (by kernel_rfl) ((impl_entryIndex_1.run a0 a1).trans h) fun r hr => wk_view1 hr
/-! ### 72 slices.IndexFunc[[]loop.example/g00896/impl.Entry,loop.example/g00896/impl.Entry] at loop.example/g00896/impl.entryIndex$1 -/
def slices_IndexFunc_Entry_f73.l0 : Nat → (List Entry) → ByteArray → Int → Int → Option (Sum Int Unit)
  | 0, _, _, _, _ => none
  | k + 1, x0, x1, x7, x8 => bif (decide (x8 < x7)) then (bif decide (0 ≤ x8) then (bif decide (x8 < (x0.length : Int)) then ((impl_entryIndex_1.F (x0.getD (x8 : Int).toNat (dflt .entry)) x1).bind fun r1 => bif r1 then (some (.inl x8)) else (slices_IndexFunc_Entry_f73.l0 k x0 x1 x7 (IntKind.wrap .i64 (x8 + 1)))) else none) else none) else (some (.inr ()))
def slices_IndexFunc_Entry_f73.F (k : Nat) (a0 : List Entry) (a1c0 : ByteArray) : Option (Int) := (slices_IndexFunc_Entry_f73.l0 k a0 a1c0 (a0.length : Int) 0).bind fun y2 => match y2 with | .inl z3 => some z3 | .inr z3 => some (-1)
def slices_IndexFunc_Entry_f73.C (k : Nat) : Cal → Option CArm := fun c => match c with
  | .f 73 => some (.q [.t .entry, .tp .str] _ (fun x => impl_entryIndex_1.F x.1 x.2.1) (fun r => (.t .bool r)))
  | _ => none
def slices_IndexFunc_Entry_f73.sp0 : List Sp := [.t 0 (.sl .entry), .cl 1 73 [.tp .str], .t 7 (.int .i64), .t 8 (.int .i64)]
def slices_IndexFunc_Entry_f73.sp0_0 : List Sp := [.t 4 (.int .i64)]
def slices_IndexFunc_Entry_f73.sp0_1 : List Sp := []
def slices_IndexFunc_Entry_f73.A0 : LArm := .two slices_IndexFunc_Entry_f73.sp0 slices_IndexFunc_Entry_f73.sp0_0 slices_IndexFunc_Entry_f73.sp0_1 (Int) (Unit) (fun k x => slices_IndexFunc_Entry_f73.l0 k x.1 x.2.1.1 x.2.2.1 x.2.2.2.1) .ret (.exit 0) (fun y => (y, ())) (fun x => x.1) (fun y => ()) (fun x => ())
def slices_IndexFunc_Entry_f73.L : Nat → Option LArm := fun b => match b with
  | 0 => some slices_IndexFunc_Entry_f73.A0
  | _ => none
theorem slices_IndexFunc_Entry_f73.run (k : Nat) (a0 : List Entry) (a1c0 : ByteArray) : runF envX (tabC (slices_IndexFunc_Entry_f73.C k)) (tabL 19 k slices_IndexFunc_Entry_f73.L) Tryz.f72 [.t (.sl .entry) a0, .clo 73 [.tp (.t .str a1c0)]] (viewR1 (.t (.int .i64))) = slices_IndexFunc_Entry_f73.F k a0 a1c0 := by kernel_rfl
theorem slices_IndexFunc_Entry_f73.step0 (k : Nat) (x0 : List Entry) (x1 : ByteArray) (x7 : Int) (x8 : Int) : runC envX (tabC (slices_IndexFunc_Entry_f73.C k)) (tabL 19 k slices_IndexFunc_Entry_f73.L) 0 (loopAt Tryz.f72 0) (stOf 19 slices_IndexFunc_Entry_f73.sp0 (x0, (x1, ()), x7, x8, ())) (slices_IndexFunc_Entry_f73.A0.cont 19 k) = slices_IndexFunc_Entry_f73.l0 (k + 1) x0 x1 x7 x8 := by kernel_rfl
theorem slices_IndexFunc_Entry_f73.G (hE : EnvOk Tryz.prog envX) (pv : Nat → Value) (k : Nat) : ∀ cal A, slices_IndexFunc_Entry_f73.C k cal = some A → ArmOk Tryz.prog envX pv cal A := by
  intro cal A h
  unfold slices_IndexFunc_Entry_f73.C at h
  split at h
  · cases h; exact fun x y hy => impl_entryIndex_1.good hE pv x.1 x.2.1 hy
  · cases h
theorem slices_IndexFunc_Entry_f73.good (hE : EnvOk Tryz.prog envX) (pv : Nat → Value) (k : Nat) (a0 : List Entry) (a1c0 : ByteArray) {y : _} (h : slices_IndexFunc_Entry_f73.F k a0 a1c0 = some y) : Meets Tryz.prog envX pv (.f 72) (pvals [.t (.sl .entry), .clo 73 [.tp .str]] (a0, (a1c0, ()), ())) (.t (.int .i64) y) :=
  fun_loops hE (t := slices_IndexFunc_Entry_f73.C) k (fun k _ => slices_IndexFunc_Entry_f73.G hE pv k) (f := 72) (fn := Tryz.f72) (by kernel_rfl) rfl (by kernel_rfl) (by kernel_rfl) (lt := slices_IndexFunc_Entry_f73.L) (by kernel_rfl) (fun b A h => by
    unfold slices_IndexFunc_Entry_f73.L at h; split at h
    · cases h; exact ⟨by kernel_rfl, by kernel_rfl, by kernel_rfl, fun _ => rfl, fun _ => rfl, fun _ => rfl⟩
    · cases h) (fun b A h => by
    unfold slices_IndexFunc_Entry_f73.L at h; split at h
    · cases h; exact fun k x => slices_IndexFunc_Entry_f73.step0 k x.1 x.2.1.1 x.2.2.1 x.2.2.2.1
    · cases h) ((slices_IndexFunc_Entry_f73.run k a0 a1c0).trans h) fun r hr => wk_view1 hr
/-! ### 43 loop.example/g00896/impl.entryIndex -/
def impl_entryIndex.F (k : Nat) (a0 : Library) (a1 : ByteArray) : Option (Int) := (slices_IndexFunc_Entry_f73.F k a0.entries a1).bind fun r1 => some r1
def impl_entryIndex.C (k : Nat) : Cal → Option CArm := fun c => match c with
  | .f 72 => some (.q [.t (.sl .entry), .clo 73 [.tp .str]] _ (fun x => slices_IndexFunc_Entry_f73.F k x.1 x.2.1.1) (fun r => (.t (.int .i64) r)))
  | _ => none
theorem impl_entryIndex.run (k : Nat) (a0 : Library) (a1 : ByteArray) : runF envX (tabC (impl_entryIndex.C k)) (tabL 9 0 (fun _ => none)) Tryz.f43 [.t .lib a0, .t .str a1] (viewR1 (.t (.int .i64))) = impl_entryIndex.F k a0 a1 := by kernel_rfl
theorem impl_entryIndex.G (hE : EnvOk Tryz.prog envX) (pv : Nat → Value) (k : Nat) : ∀ cal A, impl_entryIndex.C k cal = some A → ArmOk Tryz.prog envX pv cal A := by
  intro cal A h
  unfold impl_entryIndex.C at h
  split at h
  · cases h; exact fun x y hy => slices_IndexFunc_Entry_f73.good hE pv k x.1 x.2.1.1 hy
  · cases h
theorem impl_entryIndex.good (hE : EnvOk Tryz.prog envX) (pv : Nat → Value) (k : Nat) (a0 : Library) (a1 : ByteArray) {y : _} (h : impl_entryIndex.F k a0 a1 = some y) : Meets Tryz.prog envX pv (.f 43) (tvals [.lib, .str] (a0, a1, ())) (.t (.int .i64) y) :=
  fun_plain hE (impl_entryIndex.G hE pv k) (f := 43) (fn := Tryz.f43) (by kernel_rfl) rfl (by kernel_rfl) (by kernel_rfl) ((impl_entryIndex.run k a0 a1).trans h) fun r hr => wk_view1 hr
/-! ### 103 loop.example/g00896/impl.inside -/
def impl_inside.F (a0 : Int) (a1 : Int) (a2 : Int) : Option (Bool) := bif (decide (a0 ≥ a1)) then (some (decide (a0 ≤ a2))) else (some false)
def impl_inside.C : Cal → Option CArm := fun c => match c with
  | _ => none
theorem impl_inside.run (a0 : Int) (a1 : Int) (a2 : Int) : runF envX (tabC impl_inside.C) (tabL 15 0 (fun _ => none)) Tryz.f103 [.t (.int .i64) a0, .t (.int .i64) a1, .t (.int .i64) a2] (viewR1 (.t .bool)) = impl_inside.F a0 a1 a2 := by kernel_rfl
theorem impl_inside.G (hE : EnvOk Tryz.prog envX) (pv : Nat → Value) : ∀ cal A, impl_inside.C cal = some A → ArmOk Tryz.prog envX pv cal A := by
  intro cal A h
  unfold impl_inside.C at h
  cases h
theorem impl_inside.good (hE : EnvOk Tryz.prog envX) (pv : Nat → Value) (a0 : Int) (a1 : Int) (a2 : Int) {y : _} (h : impl_inside.F a0 a1 a2 = some y) : Meets Tryz.prog envX pv (.f 103) (tvals [(.int .i64), (.int .i64), (.int .i64)] (a0, a1, a2, ())) (.t .bool y) :=
  fun_plain hE (impl_inside.G hE pv) (f := 103) (fn := Tryz.f103) (by kernel_rfl) rfl (by kernel_rfl) (by kernel_rfl) ((impl_inside.run a0 a1 a2).trans h) fun r hr => wk_view1 hr
/-! ### 123 loop.example/g00896/impl.isLower -/
def impl_isLower.F (a0 : Int) : Option (Bool) := bif (decide (a0 ≥ 97)) then (some (decide (a0 ≤ 122))) else (some false)
def impl_isLower.C : Cal → Option CArm := fun c => match c with
  | _ => none
theorem impl_isLower.run (a0 : Int) : runF envX (tabC impl_isLower.C) (tabL 9 0 (fun _ => none)) Tryz.f123 [.t (.int .u8) a0] (viewR1 (.t .bool)) = impl_isLower.F a0 := by kernel_rfl
theorem impl_isLower.G (hE : EnvOk Tryz.prog envX) (pv : Nat → Value) : ∀ cal A, impl_isLower.C cal = some A → ArmOk Tryz.prog envX pv cal A := by
  intro cal A h
  unfold impl_isLower.C at h
  cases h
theorem impl_isLower.good (hE : EnvOk Tryz.prog envX) (pv : Nat → Value) (a0 : Int) {y : _} (h : impl_isLower.F a0 = some y) : Meets Tryz.prog envX pv (.f 123) (tvals [(.int .u8)] (a0, ())) (.t .bool y) :=
  fun_plain hE (impl_isLower.G hE pv) (f := 123) (fn := Tryz.f123) (by kernel_rfl) rfl (by kernel_rfl) (by kernel_rfl) ((impl_isLower.run a0).trans h) fun r hr => wk_view1 hr
/-! ### 124 loop.example/g00896/impl.isDigit -/
def impl_isDigit.F (a0 : Int) : Option (Bool) := bif (decide (a0 ≥ 48)) then (some (decide (a0 ≤ 57))) else (some false)
def impl_isDigit.C : Cal → Option CArm := fun c => match c with
  | _ => none
theorem impl_isDigit.run (a0 : Int) : runF envX (tabC impl_isDigit.C) (tabL 9 0 (fun _ => none)) Tryz.f124 [.t (.int .u8) a0] (viewR1 (.t .bool)) = impl_isDigit.F a0 := by kernel_rfl
theorem impl_isDigit.G (hE : EnvOk Tryz.prog envX) (pv : Nat → Value) : ∀ cal A, impl_isDigit.C cal = some A → ArmOk Tryz.prog envX pv cal A := by
  intro cal A h
  unfold impl_isDigit.C at h
  cases h
theorem impl_isDigit.good (hE : EnvOk Tryz.prog envX) (pv : Nat → Value) (a0 : Int) {y : _} (h : impl_isDigit.F a0 = some y) : Meets Tryz.prog envX pv (.f 124) (tvals [(.int .u8)] (a0, ())) (.t .bool y) :=
  fun_plain hE (impl_isDigit.G hE pv) (f := 124) (fn := Tryz.f124) (by kernel_rfl) rfl (by kernel_rfl) (by kernel_rfl) ((impl_isDigit.run a0).trans h) fun r hr => wk_view1 hr
/-! ### 99 loop.example/g00896/impl.isKey -/
def impl_isKey.l0 : Nat → ByteArray → Int → Option (Sum Bool Unit)
  | 0, _, _ => none
  | k + 1, x0, x3 => bif (decide (x3 < (x0.size : Int))) then (bif decide (0 ≤ x3) then (bif decide (x3 < (x0.size : Int)) then ((impl_isLower.F (bt x0 (x3 : Int).toNat)).bind fun r3 => bif (!r3) then (bif decide (0 ≤ x3) then (bif decide (x3 < (x0.size : Int)) then ((impl_isDigit.F (bt x0 (x3 : Int).toNat)).bind fun r4 => bif (!r4) then (some (.inl false)) else (impl_isKey.l0 k x0 (IntKind.wrap .i64 (x3 + 1)))) else none) else none) else (impl_isKey.l0 k x0 (IntKind.wrap .i64 (x3 + 1)))) else none) else none) else (some (.inr ()))
def impl_isKey.F (k : Nat) (a0 : ByteArray) : Option (Bool) := (impl_inside.F (a0.size : Int) 1 10).bind fun r1 => bif (!r1) then (some false) else (bif decide (0 ≤ 0) then (bif decide (0 < (a0.size : Int)) then ((impl_isLower.F (bt a0 (0 : Int).toNat)).bind fun r2 => bif (!r2) then (some false) else ((impl_isKey.l0 k a0 0).bind fun y5 => match y5 with | .inl z6 => some z6 | .inr z6 => some true)) else none) else none)
def impl_isKey.C (k : Nat) : Cal → Option CArm := fun c => match c with
  | .f 103 => some (.p [(.int .i64), (.int .i64), (.int .i64)] _ (fun x => impl_inside.F x.1 x.2.1 x.2.2.1) (fun r => (.t .bool r)))
  | .f 123 => some (.p [(.int .u8)] _ (fun x => impl_isLower.F x.1) (fun r => (.t .bool r)))
  | .f 124 => some (.p [(.int .u8)] _ (fun x => impl_isDigit.F x.1) (fun r => (.t .bool r)))
  | _ => none
def impl_isKey.sp0 : List Sp := [.t 0 .str, .t 3 (.int .i64)]
def impl_isKey.sp0_0 : List Sp := [.t 2 .bool]
def impl_isKey.sp0_1 : List Sp := []
def impl_isKey.A0 : LArm := .two impl_isKey.sp0 impl_isKey.sp0_0 impl_isKey.sp0_1 (Bool) (Unit) (fun k x => impl_isKey.l0 k x.1 x.2.1) .ret (.exit 0) (fun y => (y, ())) (fun x => x.1) (fun y => ()) (fun x => ())
def impl_isKey.L : Nat → Option LArm := fun b => match b with
  | 0 => some impl_isKey.A0
  | _ => none
theorem impl_isKey.run (k : Nat) (a0 : ByteArray) : runF envX (tabC (impl_isKey.C k)) (tabL 32 k impl_isKey.L) Tryz.f99 [.t .str a0] (viewR1 (.t .bool)) = impl_isKey.F k a0 := by kernel_rfl
theorem impl_isKey.step0 (k : Nat) (x0 : ByteArray) (x3 : Int) : runC envX (tabC (impl_isKey.C k)) (tabL 32 k impl_isKey.L) 0 (loopAt Tryz.f99 0) (stOf 32 impl_isKey.sp0 (x0, x3, ())) (impl_isKey.A0.cont 32 k) = impl_isKey.l0 (k + 1) x0 x3 := by kernel_rfl
theorem impl_isKey.G (hE : EnvOk Tryz.prog envX) (pv : Nat → Value) (k : Nat) : ∀ cal A, impl_isKey.C k cal = some A → ArmOk Tryz.prog envX pv cal A := by
  intro cal A h
  unfold impl_isKey.C at h
  split at h
  · cases h; exact fun x y hy => impl_inside.good hE pv x.1 x.2.1 x.2.2.1 hy
  · cases h; exact fun x y hy => impl_isLower.good hE pv x.1 hy
  · cases h; exact fun x y hy => impl_isDigit.good hE pv x.1 hy
  · cases h
theorem impl_isKey.good (hE : EnvOk Tryz.prog envX) (pv : Nat → Value) (k : Nat) (a0 : ByteArray) {y : _} (h : impl_isKey.F k a0 = some y) : Meets Tryz.prog envX pv (.f 99) (tvals [.str] (a0, ())) (.t .bool y) :=
  fun_loops hE (t := impl_isKey.C) k (fun k _ => impl_isKey.G hE pv k) (f := 99) (fn := Tryz.f99) (by kernel_rfl) rfl (by kernel_rfl) (by kernel_rfl) (lt := impl_isKey.L) (by kernel_rfl) (fun b A h => by
    unfold impl_isKey.L at h; split at h
    · cases h; exact ⟨by kernel_rfl, by kernel_rfl, by kernel_rfl, fun _ => rfl, fun _ => rfl, fun _ => rfl⟩
    · cases h) (fun b A h => by
    unfold impl_isKey.L at h; split at h
    · cases h; exact fun k x => impl_isKey.step0 k x.1 x.2.1
    · cases h) ((impl_isKey.run k a0).trans h) fun r hr => wk_view1 hr
/-! ### 100 loop.example/g00896/impl.isKind -/
def impl_isKind.F (a0 : Int) : Option (Bool) := (impl_inside.F a0 1 4).bind fun r1 => some r1
def impl_isKind.C : Cal → Option CArm := fun c => match c with
  | .f 103 => some (.p [(.int .i64), (.int .i64), (.int .i64)] _ (fun x => impl_inside.F x.1 x.2.1 x.2.2.1) (fun r => (.t .bool r)))
  | _ => none
theorem impl_isKind.run (a0 : Int) : runF envX (tabC impl_isKind.C) (tabL 5 0 (fun _ => none)) Tryz.f100 [.t (.int .i64) a0] (viewR1 (.t .bool)) = impl_isKind.F a0 := by kernel_rfl
theorem impl_isKind.G (hE : EnvOk Tryz.prog envX) (pv : Nat → Value) : ∀ cal A, impl_isKind.C cal = some A → ArmOk Tryz.prog envX pv cal A := by
  intro cal A h
  unfold impl_isKind.C at h
  split at h
  · cases h; exact fun x y hy => impl_inside.good hE pv x.1 x.2.1 x.2.2.1 hy
  · cases h
theorem impl_isKind.good (hE : EnvOk Tryz.prog envX) (pv : Nat → Value) (a0 : Int) {y : _} (h : impl_isKind.F a0 = some y) : Meets Tryz.prog envX pv (.f 100) (tvals [(.int .i64)] (a0, ())) (.t .bool y) :=
  fun_plain hE (impl_isKind.G hE pv) (f := 100) (fn := Tryz.f100) (by kernel_rfl) rfl (by kernel_rfl) (by kernel_rfl) ((impl_isKind.run a0).trans h) fun r hr => wk_view1 hr
-- NO 144 slices.IndexFunc[[]loop.example/g00896/impl.Name,loop.example/g00896/impl.Name]: a parameter's type
-- NO 125 slices.ContainsFunc[[]loop.example/g00896/impl.Name,loop.example/g00896/impl.Name]: a parameter's type
-- NO 155 slices.IndexFunc[[]string,string]: a parameter's type
-- NO 145 slices.ContainsFunc[[]string,string]: a parameter's type
/-! ### 163 loop.example/g00896/impl.isUpper -/
def impl_isUpper.F (a0 : Int) : Option (Bool) := bif (decide (a0 ≥ 65)) then (some (decide (a0 ≤ 90))) else (some false)
def impl_isUpper.C : Cal → Option CArm := fun c => match c with
  | _ => none
theorem impl_isUpper.run (a0 : Int) : runF envX (tabC impl_isUpper.C) (tabL 9 0 (fun _ => none)) Tryz.f163 [.t (.int .u8) a0] (viewR1 (.t .bool)) = impl_isUpper.F a0 := by kernel_rfl
theorem impl_isUpper.G (hE : EnvOk Tryz.prog envX) (pv : Nat → Value) : ∀ cal A, impl_isUpper.C cal = some A → ArmOk Tryz.prog envX pv cal A := by
  intro cal A h
  unfold impl_isUpper.C at h
  cases h
theorem impl_isUpper.good (hE : EnvOk Tryz.prog envX) (pv : Nat → Value) (a0 : Int) {y : _} (h : impl_isUpper.F a0 = some y) : Meets Tryz.prog envX pv (.f 163) (tvals [(.int .u8)] (a0, ())) (.t .bool y) :=
  fun_plain hE (impl_isUpper.G hE pv) (f := 163) (fn := Tryz.f163) (by kernel_rfl) rfl (by kernel_rfl) (by kernel_rfl) ((impl_isUpper.run a0).trans h) fun r hr => wk_view1 hr
/-! ### 165 loop.example/g00896/impl.isLetter -/
def impl_isLetter.F (a0 : Int) : Option (Bool) := (impl_isUpper.F a0).bind fun r1 => bif r1 then (some true) else ((impl_isLower.F a0).bind fun r2 => some r2)
def impl_isLetter.C : Cal → Option CArm := fun c => match c with
  | .f 163 => some (.p [(.int .u8)] _ (fun x => impl_isUpper.F x.1) (fun r => (.t .bool r)))
  | .f 123 => some (.p [(.int .u8)] _ (fun x => impl_isLower.F x.1) (fun r => (.t .bool r)))
  | _ => none
theorem impl_isLetter.run (a0 : Int) : runF envX (tabC impl_isLetter.C) (tabL 9 0 (fun _ => none)) Tryz.f165 [.t (.int .u8) a0] (viewR1 (.t .bool)) = impl_isLetter.F a0 := by kernel_rfl
theorem impl_isLetter.G (hE : EnvOk Tryz.prog envX) (pv : Nat → Value) : ∀ cal A, impl_isLetter.C cal = some A → ArmOk Tryz.prog envX pv cal A := by
  intro cal A h
  unfold impl_isLetter.C at h
  split at h
  · cases h; exact fun x y hy => impl_isUpper.good hE pv x.1 hy
  · cases h; exact fun x y hy => impl_isLower.good hE pv x.1 hy
  · cases h
theorem impl_isLetter.good (hE : EnvOk Tryz.prog envX) (pv : Nat → Value) (a0 : Int) {y : _} (h : impl_isLetter.F a0 = some y) : Meets Tryz.prog envX pv (.f 165) (tvals [(.int .u8)] (a0, ())) (.t .bool y) :=
  fun_plain hE (impl_isLetter.G hE pv) (f := 165) (fn := Tryz.f165) (by kernel_rfl) rfl (by kernel_rfl) (by kernel_rfl) ((impl_isLetter.run a0).trans h) fun r hr => wk_view1 hr
/-! ### 149 loop.example/g00896/impl.isNameWord -/
def impl_isNameWord.l0 : Nat → ByteArray → Int → Option (Sum Bool Unit)
  | 0, _, _ => none
  | k + 1, x0, x3 => bif (decide (x3 < (x0.size : Int))) then (bif decide (0 ≤ x3) then (bif decide (x3 < (x0.size : Int)) then ((impl_isLetter.F (bt x0 (x3 : Int).toNat)).bind fun r4 => bif (!r4) then (bif decide (0 ≤ x3) then (bif decide (x3 < (x0.size : Int)) then (bif ((bt x0 (x3 : Int).toNat) != 45) then (bif decide (0 ≤ x3) then (bif decide (x3 < (x0.size : Int)) then (bif ((bt x0 (x3 : Int).toNat) != 39) then (some (.inl false)) else (bif decide (0 ≤ (IntKind.wrap .i64 (x3 - 1))) then (bif decide ((IntKind.wrap .i64 (x3 - 1)) < (x0.size : Int)) then ((impl_isLetter.F (bt x0 ((IntKind.wrap .i64 (x3 - 1)) : Int).toNat)).bind fun r5 => bif (!r5) then (some (.inl false)) else (impl_isNameWord.l0 k x0 (IntKind.wrap .i64 (x3 + 1)))) else none) else none)) else none) else none) else (bif decide (0 ≤ (IntKind.wrap .i64 (x3 - 1))) then (bif decide ((IntKind.wrap .i64 (x3 - 1)) < (x0.size : Int)) then ((impl_isLetter.F (bt x0 ((IntKind.wrap .i64 (x3 - 1)) : Int).toNat)).bind fun r6 => bif (!r6) then (some (.inl false)) else (impl_isNameWord.l0 k x0 (IntKind.wrap .i64 (x3 + 1)))) else none) else none)) else none) else none) else (impl_isNameWord.l0 k x0 (IntKind.wrap .i64 (x3 + 1)))) else none) else none) else (some (.inr ()))
def impl_isNameWord.F (k : Nat) (a0 : ByteArray) : Option (Bool) := (impl_inside.F (a0.size : Int) 1 12).bind fun r1 => bif (!r1) then (some false) else (bif decide (0 ≤ (IntKind.wrap .i64 ((a0.size : Int) - 1))) then (bif decide ((IntKind.wrap .i64 ((a0.size : Int) - 1)) < (a0.size : Int)) then ((impl_isLetter.F (bt a0 ((IntKind.wrap .i64 ((a0.size : Int) - 1)) : Int).toNat)).bind fun r2 => bif (!r2) then (some false) else (bif decide (0 ≤ 0) then (bif decide (0 < (a0.size : Int)) then ((impl_isLetter.F (bt a0 (0 : Int).toNat)).bind fun r3 => bif (!r3) then (some false) else ((impl_isNameWord.l0 k a0 0).bind fun y7 => match y7 with | .inl z8 => some z8 | .inr z8 => some true)) else none) else none)) else none) else none)
def impl_isNameWord.C (k : Nat) : Cal → Option CArm := fun c => match c with
  | .f 103 => some (.p [(.int .i64), (.int .i64), (.int .i64)] _ (fun x => impl_inside.F x.1 x.2.1 x.2.2.1) (fun r => (.t .bool r)))
  | .f 165 => some (.p [(.int .u8)] _ (fun x => impl_isLetter.F x.1) (fun r => (.t .bool r)))
  | _ => none
def impl_isNameWord.sp0 : List Sp := [.t 0 .str, .t 3 (.int .i64)]
def impl_isNameWord.sp0_0 : List Sp := [.t 2 .bool]
def impl_isNameWord.sp0_1 : List Sp := []
def impl_isNameWord.A0 : LArm := .two impl_isNameWord.sp0 impl_isNameWord.sp0_0 impl_isNameWord.sp0_1 (Bool) (Unit) (fun k x => impl_isNameWord.l0 k x.1 x.2.1) .ret (.exit 0) (fun y => (y, ())) (fun x => x.1) (fun y => ()) (fun x => ())
def impl_isNameWord.L : Nat → Option LArm := fun b => match b with
  | 0 => some impl_isNameWord.A0
  | _ => none
theorem impl_isNameWord.run (k : Nat) (a0 : ByteArray) : runF envX (tabC (impl_isNameWord.C k)) (tabL 54 k impl_isNameWord.L) Tryz.f149 [.t .str a0] (viewR1 (.t .bool)) = impl_isNameWord.F k a0 := by kernel_rfl
theorem impl_isNameWord.step0 (k : Nat) (x0 : ByteArray) (x3 : Int) : runC envX (tabC (impl_isNameWord.C k)) (tabL 54 k impl_isNameWord.L) 0 (loopAt Tryz.f149 0) (stOf 54 impl_isNameWord.sp0 (x0, x3, ())) (impl_isNameWord.A0.cont 54 k) = impl_isNameWord.l0 (k + 1) x0 x3 := by kernel_rfl
theorem impl_isNameWord.G (hE : EnvOk Tryz.prog envX) (pv : Nat → Value) (k : Nat) : ∀ cal A, impl_isNameWord.C k cal = some A → ArmOk Tryz.prog envX pv cal A := by
  intro cal A h
  unfold impl_isNameWord.C at h
  split at h
  · cases h; exact fun x y hy => impl_inside.good hE pv x.1 x.2.1 x.2.2.1 hy
  · cases h; exact fun x y hy => impl_isLetter.good hE pv x.1 hy
  · cases h
theorem impl_isNameWord.good (hE : EnvOk Tryz.prog envX) (pv : Nat → Value) (k : Nat) (a0 : ByteArray) {y : _} (h : impl_isNameWord.F k a0 = some y) : Meets Tryz.prog envX pv (.f 149) (tvals [.str] (a0, ())) (.t .bool y) :=
  fun_loops hE (t := impl_isNameWord.C) k (fun k _ => impl_isNameWord.G hE pv k) (f := 149) (fn := Tryz.f149) (by kernel_rfl) rfl (by kernel_rfl) (by kernel_rfl) (lt := impl_isNameWord.L) (by kernel_rfl) (fun b A h => by
    unfold impl_isNameWord.L at h; split at h
    · cases h; exact ⟨by kernel_rfl, by kernel_rfl, by kernel_rfl, fun _ => rfl, fun _ => rfl, fun _ => rfl⟩
    · cases h) (fun b A h => by
    unfold impl_isNameWord.L at h; split at h
    · cases h; exact fun k x => impl_isNameWord.step0 k x.1 x.2.1
    · cases h) ((impl_isNameWord.run k a0).trans h) fun r hr => wk_view1 hr
end Go.Proofs.YtgihehbpbjejlaaGreatDoor
end
