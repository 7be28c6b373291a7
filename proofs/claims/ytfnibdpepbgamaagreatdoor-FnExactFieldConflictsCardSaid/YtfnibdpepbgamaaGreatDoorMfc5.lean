/- Library functions: their contracts, proved once for any program, as what a callee keeps to. By an AI agent's session. -/
import Derived.Test.YtfnibdpepbgamaaGreatDoorMfc3
import Derived.Shelf.Vars
import Derived.Below
import Derived.Lib.IndexMore
import Derived.Lib.Split
import Derived.Lib.SplitLaws
import Derived.Lib.Repeat
import Derived.Deep.Draws
import Derived.Lib.Join
import Derived.Lib.SlTrimSet
import Derived.Lib.IndexAny
import Derived.Lib.TrimByte
import Derived.Laws.AppendOwn
import Derived.Lib.ItoaNum
import Derived.Sort.Grow
import Derived.Test.YtfnibdpepbgamaaGreatDoorMfc4
import Derived.Test.YtfnibdpepbgamaaGreatDoorProg
import Derived.KernelRfl
import Derived.Lib.IndexBytes
import Derived.Lib.IndexLaws
import Derived.Lib.CountLaws
section
namespace Go.Gx
open Go.RowKit Go.Lib
set_option linter.unusedVariables false
theorem ext_goes {P : Program} {f : FuncId} {fn : Func} {c : Code} (hf : P.funcs[f]? = some fn) (hb : fn.body = some c) (hname : (fn.name == "runtime.NumGoroutine") = false) {args : Array Value} {w : World} {R : Value → World → Prop}
    (h : Calls P f args w fun e w' => ∃ v, e = .returned v ∧ R v w') : Goes P f args w R := by
  have hcall : (callFunc f args).run P w = .ok (.enter f args) w := by
    have hn' : fn.name ≠ "runtime.NumGoroutine" := by simpa using hname
    simp [callFunc, hf, hn', hb]
  unfold Goes
  rw [hcall]
  exact h
theorem args_nil {S : Nat → Prop} {w : World} {pv : Nat → Value} {vs : List Value} (h : ArgsOk S w pv [] vs) : vs = [] := List.eq_nil_of_length_eq_zero h.1
theorem args_cons {S : Nat → Prop} {w : World} {pv : Nat → Value} {a : AV} {al : List AV} {vs : List Value} (h : ArgsOk S w pv (a :: al) vs) : ∃ cs vs', AR S w (fun _ => none) (fun _ => none) pv a cs ∧ vs = valOf a cs :: vs' ∧ ArgsOk S w pv al vs' := by
  match vs, h with
  | [], h => cases h.1
  | v :: vs', ⟨h1, h2⟩ =>
    obtain ⟨cs, hc, rfl⟩ := h2 0 a v rfl rfl
    exact ⟨cs, vs', hc, rfl, by simpa using h1, fun i b u hb hu => h2 (i + 1) b u (by simpa using hb) (by simpa using hu)⟩
theorem args_str {S : Nat → Prop} {w : World} {pv : Nat → Value} {s : ByteArray} {al : List AV} {vs : List Value} (h : ArgsOk S w pv (.t .str s :: al) vs) : ∃ vs', vs = .string s :: vs' ∧ ArgsOk S w pv al vs' := by
  obtain ⟨cs, vs', hc, rfl, h'⟩ := args_cons h
  cases hc with | t _ _ _ hc => cases hc; exact ⟨vs', rfl, h'⟩
theorem args_int {S : Nat → Prop} {w : World} {pv : Nat → Value} {k : IntKind} {n : Int} {al : List AV} {vs : List Value} (h : ArgsOk S w pv (.t (.int k) n :: al) vs) : ∃ vs', vs = .int k n :: vs' ∧ ArgsOk S w pv al vs' := by
  obtain ⟨cs, vs', hc, rfl, h'⟩ := args_cons h
  cases hc with | t _ _ _ hc => cases hc; exact ⟨vs', rfl, h'⟩
section
variable {P : Program} {E : Env} {pv : Nat → Value} {f : FuncId} {fn : Func} {c : Code}
/-- An answer that leads nowhere. -/
theorem ext_flat (hf : P.funcs[f]? = some fn) (hb : fn.body = some c) (hname : (fn.name == "runtime.NumGoroutine") = false) {args : List AV} {τ : Ty} {y : den τ} {v : Value} (hy : ∀ S w, ∃ cs, CR S w τ y cs ∧ v = valOf (.t τ y) cs)
    (h : ∀ S w vs, (∀ b, S b → b < w.heap.size) → GlOk E pv S w → ArgsOk S w pv args vs → Calls P f vs.toArray w fun e w' => e = .returned v ∧ Below w.heap.size w w') : Meets P E pv (.f f) args (.t τ y) := by
  intro S w vs hS hgl hargs
  refine ext_goes hf hb hname ((h S w vs hS hgl hargs).mono fun e w' ⟨he, hbl⟩ => ⟨v, he, hbl, S, fun b hb => hb, fun b hb => .inl hb, ?_⟩)
  obtain ⟨cs, hc, rfl⟩ := hy S w'
  exact ⟨none, .plain _ _ (.t _ _ _ hc)⟩
/-- New texts in a block of their own. -/
theorem ext_strs (hf : P.funcs[f]? = some fn) (hb : fn.body = some c) (hname : (fn.name == "runtime.NumGoroutine") = false) {args : List AV} {te : Nat} {xs : List ByteArray} (hx : xs.length ≤ maxLen)
    (h : ∀ S w vs, (∀ b, S b → b < w.heap.size) → GlOk E pv S w → ArgsOk S w pv args vs → Calls P f vs.toArray w fun e w' => e = .returned (.slice (some ⟨w.heap.size, 0, none⟩) xs.length xs.length) ∧ w' = w.alloc (.cells (xs.map Value.string).toArray te)) : Meets P E pv (.f f) args (.fr te .str xs) := by
  intro S w vs hS hgl hargs
  refine ext_goes hf hb hname ((h S w vs hS hgl hargs).mono fun e w' ⟨he, hw⟩ => ⟨_, he, ?_⟩)
  subst hw
  refine ⟨(Below.refl _ w).alloc (Nat.le_refl _) _, S, fun b hb => hb, fun b hb => .inl hb, some w.heap.size, .fr te .str xs w.heap.size xs.length (Nat.le_refl _) (fun hs => absurd (hS _ hs) (Nat.lt_irrefl _)) ⟨(xs.map Value.string).toArray, (0, 0), ?_, ?_, Nat.le_refl _, hx, fun _ => rfl, .inl (Nat.le_refl _), by decide, fun i hi => ⟨[.string xs[i]], .str _, fun j v hj => ?_⟩⟩⟩
  · show (w.heap.push _)[w.heap.size]? = _
    simp
  · simp [nc]
  · cases j with
    | zero =>
      simp only [List.getElem?_cons_zero, Option.some.injEq] at hj
      subst hj
      simp [nc, hi]
    | succ j => simp at hj
end
/-! ### The functions -/
def xContains (s sub : ByteArray) : Option Bool := bif Nat.ble s.size 4294967280 then some (Lib.contains s.data.toList sub.data.toList) else none
theorem ext_contains {P : Program} {E : Env} {pv : Nat → Value} {f : FuncId} {fn : Func} {c : Code} (hf : P.funcs[f]? = some fn) (hb : fn.body = some c) (hname : (fn.name == "runtime.NumGoroutine") = false) {mx : Nat} (hmx : E.gi mx = true)
    (hc : ∀ (s sub : ByteArray) (m : Int) (w : World), s.size < 4294967281 → w.cell? ⟨mx, 0, none⟩ = some (.int .i64 m) → Calls P f #[.string s, .string sub] w fun e w' => e = .returned (.bool (Lib.contains s.data.toList sub.data.toList)) ∧ w' = w)
    {s sub : ByteArray} {y : Bool} (h : xContains s sub = some y) : Meets P E pv (.f f) (tvals [.str, .str] (s, sub, ())) (.t .bool y) := by
  unfold xContains at h
  cases hs : Nat.ble s.size 4294967280 with
  | false => rw [hs] at h; cases h
  | true =>
    rw [hs] at h
    cases h
    refine ext_flat hf hb hname (v := .bool _) (fun S w => ⟨_, .bool _, rfl⟩) fun S w vs hS hgl ha => ?_
    obtain ⟨_, rfl, ha1⟩ := args_str ha
    obtain ⟨_, rfl, ha2⟩ := args_str ha1
    obtain rfl := args_nil ha2
    obtain ⟨_, m, hm⟩ := hgl.2.1 mx hmx
    refine (hc s sub m w (Nat.lt_succ_of_le (Nat.le_of_ble_eq_true hs)) hm).mono fun e w' ⟨he, hw⟩ => ⟨he, ?_⟩
    subst hw
    exact Below.refl _ _
def xSplit (s sep : ByteArray) : Option (List ByteArray) := bif Nat.ble s.size 4294967280 && Nat.ble 1 sep.size then some (Lib.splitB sep 0 (Lib.countB s sep) s) else none
theorem ext_split {P : Program} {E : Env} {pv : Nat → Value} {f : FuncId} {fn : Func} {c : Code} (hf : P.funcs[f]? = some fn) (hb : fn.body = some c) (hname : (fn.name == "runtime.NumGoroutine") = false) {mx : Nat} (hmx : E.gi mx = true) {te : Nat}
    (hc : ∀ (s sep : ByteArray) (m : Int) (w : World), s.size < 4294967281 → w.cell? ⟨mx, 0, none⟩ = some (.int .i64 m) → 1 ≤ sep.size → Calls P f #[.string s, .string sep] w fun e w' =>
      e = .returned (.slice (some ⟨w.heap.size, 0, none⟩) (Lib.countB s sep + 1) (Lib.countB s sep + 1)) ∧ w' = w.alloc (.cells ((Lib.splitB sep 0 (Lib.countB s sep) s).map Value.string).toArray te))
    {s sep : ByteArray} {y : List ByteArray} (h : xSplit s sep = some y) : Meets P E pv (.f f) (tvals [.str, .str] (s, sep, ())) (.fr te .str y) := by
  unfold xSplit at h
  cases hs : Nat.ble s.size 4294967280 && Nat.ble 1 sep.size with
  | false => rw [hs] at h; cases h
  | true =>
    rw [hs] at h
    cases h
    rw [Bool.and_eq_true] at hs
    have h1 := Nat.le_of_ble_eq_true hs.1
    have h2 := Nat.le_of_ble_eq_true hs.2
    have hl := Lib.splitB_all sep h2 0 _ s rfl
    have hle := Lib.countB_le sep h2 s.size s (Nat.le_refl _)
    have hm : maxLen = 9223372036854775807 := by decide
    refine ext_strs hf hb hname (by rw [hl, hm]; omega) fun S w vs hS hgl ha => ?_
    obtain ⟨_, rfl, ha1⟩ := args_str ha
    obtain ⟨_, rfl, ha2⟩ := args_str ha1
    obtain rfl := args_nil ha2
    obtain ⟨_, m, hm⟩ := hgl.2.1 mx hmx
    rw [hl]
    exact hc s sep m w (by omega) hm h2
def xRepeat (s : ByteArray) (n : Int) : Option ByteArray := bif decide (0 ≤ n) && (decide (n ≤ 9223372036854775807) && Nat.ble (s.size * n.toNat) 140737488355328) then some ⟨(Lib.repeatL s.data.toList n.toNat).toArray⟩ else none
theorem ext_repeat {P : Program} {E : Env} {pv : Nat → Value} {f : FuncId} {fn : Func} {c : Code} (hf : P.funcs[f]? = some fn) (hb : fn.body = some c) (hname : (fn.name == "runtime.NumGoroutine") = false)
    (hc : ∀ (s : ByteArray) (c : Nat) (w : World), c ≤ 9223372036854775807 → s.size * c ≤ 140737488355328 → Calls P f #[.string s, .int .i64 c] w fun e w' => e = .returned (.string ⟨(Lib.repeatL s.data.toList c).toArray⟩) ∧ Below w.heap.size w w')
    {s : ByteArray} {n : Int} {y : ByteArray} (h : xRepeat s n = some y) : Meets P E pv (.f f) (tvals [.str, .int .i64] (s, n, ())) (.t .str y) := by
  unfold xRepeat at h
  cases hs : decide (0 ≤ n) && (decide (n ≤ 9223372036854775807) && Nat.ble (s.size * n.toNat) 140737488355328) with
  | false => rw [hs] at h; cases h
  | true =>
    rw [hs] at h
    cases h
    simp only [Bool.and_eq_true, decide_eq_true_eq] at hs
    refine ext_flat hf hb hname (v := .string _) (fun S w => ⟨_, .str _, rfl⟩) fun S w vs hS hgl ha => ?_
    obtain ⟨_, rfl, ha1⟩ := args_str ha
    obtain ⟨_, rfl, ha2⟩ := args_int ha1
    obtain rfl := args_nil ha2
    have e : n = (n.toNat : Int) := by omega
    have := hc s n.toNat w (by omega) (Nat.le_of_ble_eq_true hs.2.2)
    rw [← e] at this
    exact this
def ascii (s : ByteArray) : Bool := s.data.toList.all fun b => decide (b.toNat < 128)
theorem ascii_at {s : ByteArray} (h : ascii s = true) : ∀ (j : Nat) b, s.data.toList[j]? = some b → b.toNat < 128 := fun j b hj => by
  unfold ascii at h
  rw [List.all_eq_true] at h
  exact of_decide_eq_true (h b (List.mem_of_getElem? hj))
def xTrim (s cs : ByteArray) : Option ByteArray := bif Nat.ble s.size 9223372036854775807 && (Nat.ble cs.size 4294967280 && ascii cs) then some ⟨(Lib.trimS s.data.toList cs.data.toList).toArray⟩ else none
theorem ext_trim {P : Program} {E : Env} {pv : Nat → Value} {f : FuncId} {fn : Func} {c : Code} (hf : P.funcs[f]? = some fn) (hb : fn.body = some c) (hname : (fn.name == "runtime.NumGoroutine") = false)
    (hc : ∀ (s cs : ByteArray) (w : World), s.size ≤ 9223372036854775807 → cs.size < 4294967281 → (∀ (j : Nat) b, cs.data.toList[j]? = some b → b.toNat < 128) → Calls P f #[.string s, .string cs] w fun e w' => e = .returned (.string ⟨(Lib.trimS s.data.toList cs.data.toList).toArray⟩) ∧ Below w.heap.size w w')
    {s cs : ByteArray} {y : ByteArray} (h : xTrim s cs = some y) : Meets P E pv (.f f) (tvals [.str, .str] (s, cs, ())) (.t .str y) := by
  unfold xTrim at h
  cases hs : Nat.ble s.size 9223372036854775807 && (Nat.ble cs.size 4294967280 && ascii cs) with
  | false => rw [hs] at h; cases h
  | true =>
    rw [hs] at h
    cases h
    simp only [Bool.and_eq_true] at hs
    refine ext_flat hf hb hname (v := .string _) (fun S w => ⟨_, .str _, rfl⟩) fun S w vs hS hgl ha => ?_
    obtain ⟨_, rfl, ha1⟩ := args_str ha
    obtain ⟨_, rfl, ha2⟩ := args_str ha1
    obtain rfl := args_nil ha2
    exact hc s cs w (Nat.le_of_ble_eq_true hs.1) (Nat.lt_succ_of_le (Nat.le_of_ble_eq_true hs.2.1)) (ascii_at hs.2.2)
def xIndexAny (s cs : ByteArray) : Option Int := bif Nat.ble s.size 4294967280 && (Nat.ble cs.size 4294967280 && (ascii s && ascii cs)) then some (Lib.indexAny s.data.toList cs.data.toList) else none
theorem ext_indexAny {P : Program} {E : Env} {pv : Nat → Value} {f : FuncId} {fn : Func} {c : Code} (hf : P.funcs[f]? = some fn) (hb : fn.body = some c) (hname : (fn.name == "runtime.NumGoroutine") = false)
    (hc : ∀ (s cs : ByteArray) (w : World), s.size < 4294967281 → cs.size < 4294967281 → (∀ (j : Nat) b, s.data.toList[j]? = some b → b.toNat < 128) → (∀ (j : Nat) b, cs.data.toList[j]? = some b → b.toNat < 128) → Calls P f #[.string s, .string cs] w fun e w' => e = .returned (.int .i64 (Lib.indexAny s.data.toList cs.data.toList)) ∧ Below w.heap.size w w')
    {s cs : ByteArray} {y : Int} (h : xIndexAny s cs = some y) : Meets P E pv (.f f) (tvals [.str, .str] (s, cs, ())) (.t (.int .i64) y) := by
  unfold xIndexAny at h
  cases hs : Nat.ble s.size 4294967280 && (Nat.ble cs.size 4294967280 && (ascii s && ascii cs)) with
  | false => rw [hs] at h; cases h
  | true =>
    rw [hs] at h
    cases h
    simp only [Bool.and_eq_true] at hs
    refine ext_flat hf hb hname (v := .int .i64 _) (fun S w => ⟨_, .int _ _, rfl⟩) fun S w vs hS hgl ha => ?_
    obtain ⟨_, rfl, ha1⟩ := args_str ha
    obtain ⟨_, rfl, ha2⟩ := args_str ha1
    obtain rfl := args_nil ha2
    exact hc s cs w (Nat.lt_succ_of_le (Nat.le_of_ble_eq_true hs.1)) (Nat.lt_succ_of_le (Nat.le_of_ble_eq_true hs.2.1)) (ascii_at hs.2.2.1) (ascii_at hs.2.2.2)
/-- The pieces before and behind, and whether there is one. -/
def xCut (s sep : ByteArray) : Option (ByteArray × ByteArray × Bool) := bif Nat.ble s.size 4294967280 then some (⟨(Lib.cut s.data.toList sep.data.toList).1.toArray⟩, ⟨(Lib.cut s.data.toList sep.data.toList).2.1.toArray⟩, (Lib.cut s.data.toList sep.data.toList).2.2) else none
theorem drewN_below (w : World) (n : Nat) : Below w.heap.size w (w.drewN n) := ⟨rfl, rfl, rfl, Nat.le_refl _, fun _ _ => rfl⟩
theorem ext_cut {P : Program} {E : Env} {pv : Nat → Value} {f : FuncId} {fn : Func} {c : Code} (hf : P.funcs[f]? = some fn) (hb : fn.body = some c) (hname : (fn.name == "runtime.NumGoroutine") = false) {mx : Nat} (hmx : E.gi mx = true)
    (hc : ∀ (s sep : ByteArray) (m : Int) (w : World), s.size < 4294967281 → w.cell? ⟨mx, 0, none⟩ = some (.int .i64 m) → Calls P f #[.string s, .string sep] w fun e w' =>
      e = .returned (.tuple #[.string ⟨(Lib.cut s.data.toList sep.data.toList).1.toArray⟩, .string ⟨(Lib.cut s.data.toList sep.data.toList).2.1.toArray⟩, .bool (Lib.cut s.data.toList sep.data.toList).2.2]) ∧ ∃ n, w' = w.drewN n)
    {s sep : ByteArray} {y : ByteArray × ByteArray × Bool} (h : xCut s sep = some y) : Meets P E pv (.f f) (tvals [.str, .str] (s, sep, ())) (.tup [.t .str y.1, .t .str y.2.1, .t .bool y.2.2]) := by
  unfold xCut at h
  cases hs : Nat.ble s.size 4294967280 with
  | false => rw [hs] at h; cases h
  | true =>
    rw [hs] at h
    cases h
    intro S w vs hS hgl ha
    obtain ⟨_, rfl, ha1⟩ := args_str ha
    obtain ⟨_, rfl, ha2⟩ := args_str ha1
    obtain rfl := args_nil ha2
    obtain ⟨_, m, hm⟩ := hgl.2.1 mx hmx
    refine ext_goes hf hb hname ((hc s sep m w (Nat.lt_succ_of_le (Nat.le_of_ble_eq_true hs)) hm).mono fun e w' ⟨he, n, hw⟩ => ⟨_, he, hw ▸ drewN_below w n, S, fun b hb => hb, fun b hb => .inl hb, ?_⟩)
    refine ⟨[.string _, .string _, .bool _], [none, none, none], rfl, rfl, rfl, fun i r v g h1 h2 h3 => ?_, fun i j g hne h1 => ?_⟩
    · match i, h1, h2, h3 with
      | 0, h1, h2, h3 => cases h1; cases h2; cases h3; exact .plain _ _ (.t _ _ _ (.str _))
      | 1, h1, h2, h3 => cases h1; cases h2; cases h3; exact .plain _ _ (.t _ _ _ (.str _))
      | 2, h1, h2, h3 => cases h1; cases h2; cases h3; exact .plain _ _ (.t _ _ _ (.bool _))
      | n + 3, h1, _, _ => simp at h1
    · match i, h1 with
      | 0, h1 => cases h1
      | 1, h1 => cases h1
      | 2, h1 => cases h1
      | n + 3, h1 => simp at h1
def xJoin (xs : List ByteArray) (sep : ByteArray) : Option ByteArray := bif Nat.ble xs.length 140737488355328 && Nat.ble (Lib.join (xs.map (·.data.toList)) sep.data.toList).length 140737488355328 then some ⟨(Lib.join (xs.map (·.data.toList)) sep.data.toList).toArray⟩ else none
theorem ext_join {P : Program} {E : Env} {pv : Nat → Value} {f : FuncId} {fn : Func} {c : Code} (hf : P.funcs[f]? = some fn) (hb : fn.body = some c) (hname : (fn.name == "runtime.NumGoroutine") = false)
    (hc0 : ∀ (a : Option Addr) (c : Nat) (sep : ByteArray) (w : World), Calls P f #[.slice a 0 c, .string sep] w fun e w' => e = .returned (.string ⟨#[]⟩) ∧ w' = w)
    (hc : ∀ (bk o c : Nat) (xs : List ByteArray) (sep : ByteArray) (w : World), (∀ (j : Nat) x, xs[j]? = some x → w.cell? ⟨bk, o + j, none⟩ = some (.string x)) → bk < w.heap.size → xs.length ≤ 140737488355328 → xs.length ≤ c →
      (Lib.join (xs.map (·.data.toList)) sep.data.toList).length ≤ 140737488355328 → Calls P f #[.slice (some ⟨bk, o, none⟩) xs.length c, .string sep] w fun e w' => e = .returned (.string ⟨(Lib.join (xs.map (·.data.toList)) sep.data.toList).toArray⟩) ∧ Below w.heap.size w w')
    {xs : List ByteArray} {sep : ByteArray} {y : ByteArray} (h : xJoin xs sep = some y) : Meets P E pv (.f f) (tvals [.sl .str, .str] (xs, sep, ())) (.t .str y) := by
  unfold xJoin at h
  cases hs : Nat.ble xs.length 140737488355328 && Nat.ble (Lib.join (xs.map (·.data.toList)) sep.data.toList).length 140737488355328 with
  | false => rw [hs] at h; cases h
  | true =>
    rw [hs] at h
    cases h
    rw [Bool.and_eq_true] at hs
    refine ext_flat hf hb hname (v := .string _) (fun S w => ⟨_, .str _, rfl⟩) fun S w vs hS hgl ha => ?_
    obtain ⟨cs, _, hcr, rfl, ha1⟩ := args_cons ha
    obtain ⟨_, rfl, ha2⟩ := args_str ha1
    obtain rfl := args_nil ha2
    cases hcr with
    | t _ _ _ hcr =>
      cases hcr with
      | sl e xs A c cv hle hm h1 h2 =>
        match xs, A, hle, h1, h2, hs with
        | [], A, _, _, _, _ => exact (hc0 A c sep w).mono fun e w' ⟨he, hw⟩ => ⟨he, hw ▸ Below.refl _ _⟩
        | x :: l, A, hle, h1, h2, hs =>
          obtain ⟨g, o, rfl, hg, _⟩ := h2 0 (Nat.succ_pos _)
          refine hc g o c (x :: l) sep w (fun j z hj => ?_) (hS g hg) (Nat.le_of_ble_eq_true hs.1) hle (Nat.le_of_ble_eq_true hs.2)
          obtain ⟨hj', hz⟩ := List.getElem?_eq_some_iff.1 hj
          obtain ⟨g', o', e', _, hcell⟩ := h2 j hj'
          cases e'
          have hcv := h1 j hj'
          rw [hz] at hcv
          have hq : ∀ q, CR S w .str z q → q[0]? = some (.string z) := fun q hq => by cases hq; rfl
          have := hcell 0 (.string z) (hq _ hcv)
          simpa [nc] using this
def xTrim1 (s cs : ByteArray) : Option ByteArray := match cs with
  | ⟨⟨[c]⟩⟩ => bif Nat.ble s.size 9223372036854775807 && Nat.blt c.toNat 128 then some ⟨(Lib.trimB s.data.toList c).toArray⟩ else none
  | _ => none
theorem ext_trim1 {P : Program} {E : Env} {pv : Nat → Value} {f : FuncId} {fn : Func} {c : Code} (hf : P.funcs[f]? = some fn) (hb : fn.body = some c) (hname : (fn.name == "runtime.NumGoroutine") = false)
    (hc : ∀ (s : ByteArray) (c : UInt8), c.toNat < 128 → ∀ (w : World), s.size ≤ 9223372036854775807 → Calls P f #[.string s, .string ⟨#[c]⟩] w fun e w' => e = .returned (.string ⟨(Lib.trimB s.data.toList c).toArray⟩) ∧ (w' = w ∨ w' = w.drew))
    {s cs : ByteArray} {y : ByteArray} (h : xTrim1 s cs = some y) : Meets P E pv (.f f) (tvals [.str, .str] (s, cs, ())) (.t .str y) := by
  unfold xTrim1 at h
  split at h
  · rename_i c0
    cases hs : Nat.ble s.size 9223372036854775807 && Nat.blt c0.toNat 128 with
    | false => rw [hs] at h; cases h
    | true =>
      rw [hs] at h
      cases h
      rw [Bool.and_eq_true] at hs
      refine ext_flat hf hb hname (v := .string _) (fun S w => ⟨_, .str _, rfl⟩) fun S w vs hS hgl ha => ?_
      obtain ⟨_, rfl, ha1⟩ := args_str ha
      obtain ⟨_, rfl, ha2⟩ := args_str ha1
      obtain rfl := args_nil ha2
      refine (hc s c0 (Nat.le_of_ble_eq_true hs.2) w (Nat.le_of_ble_eq_true hs.1)).mono fun e w' ⟨he, hw⟩ => ⟨he, ?_⟩
      rcases hw with rfl | rfl
      · exact Below.refl _ _
      · exact (Below.refl _ _).drew
  · cases h
def xClone (xs : List ByteArray) : Option (List ByteArray) := bif Nat.ble (xs.length * 16) 140737488355328 then some xs else none
theorem ext_clone {P : Program} {E : Env} {pv : Nat → Value} {f : FuncId} {fn : Func} {c : Code} (hf : P.funcs[f]? = some fn) (hb : fn.body = some c) (hname : (fn.name == "runtime.NumGoroutine") = false) {te : Nat}
    (hc : ∀ (b off n c : Nat) (zs : List ByteArray) (w : World), n ≤ zs.length → n * 16 ≤ 140737488355328 → (∀ j, j < zs.length → w.cell? ⟨b, off + j, none⟩ = some (.string (zs.getD j ByteArray.empty))) →
      Calls P f #[.slice (some ⟨b, off, none⟩) n c] w fun e w' => ∃ v', e = .returned v' ∧ w'.ownsRow w.heap.size te 1 v' n ((zs.take n).map Value.string) ∧ v' ≠ .slice none 0 0 ∧ Below w.heap.size w w')
    (hcn : ∀ (n c : Nat) (w : World), Calls P f #[.slice none n c] w fun e w' => e = .returned (.slice none 0 0) ∧ w' = w)
    (hcz : ∀ (a : Addr) (c : Nat) (w : World), Calls P f #[.slice (some a) 0 c] w fun e w' => ∃ v', e = .returned v' ∧ w'.ownsRow w.heap.size te 1 v' 0 [] ∧ v' ≠ .slice none 0 0 ∧ Below w.heap.size w w')
    {xs : List ByteArray} {y : List ByteArray} (h : xClone xs = some y) : Meets P E pv (.f f) (tvals [.sl .str] (xs, ())) (.fr te .str y) := by
  have hc0 : ∀ (A : Option Addr) (c : Nat) (w : World), Calls P f #[.slice A 0 c] w fun e w' => ∃ v', e = .returned v' ∧ w'.ownsRow w.heap.size te 1 v' 0 [] ∧ Below w.heap.size w w' := fun A c w => by
    cases A with
    | none => exact (hcn 0 c w).mono fun e w' ⟨he, hw⟩ => ⟨_, he, ⟨rfl, .inl ⟨rfl, rfl⟩⟩, hw ▸ Below.refl _ _⟩
    | some a => exact (hcz a c w).mono fun e w' ⟨v, he, ho, _, hb⟩ => ⟨v, he, ho, hb⟩
  unfold xClone at h
  cases hs : Nat.ble (xs.length * 16) 140737488355328 with
  | false => rw [hs] at h; cases h
  | true =>
    rw [hs] at h
    cases h
    have hs := Nat.le_of_ble_eq_true hs
    intro S w vs hS hgl ha
    have fin : ∀ (v' : Value) (w' : World), w'.ownsRow w.heap.size te 1 v' xs.length (xs.map Value.string) → Below w.heap.size w w' → Below w.heap.size w w' ∧ ∃ S' : Nat → Prop, (∀ b, S b → S' b) ∧ (∀ b, S' b → S b ∨ (w.heap.size ≤ b ∧ b < w'.heap.size)) ∧ RR S' w' w.heap.size pv (.fr te .str xs) v' := fun v' w' ho hbl => by
      refine ⟨hbl, S, fun b hb => hb, fun b hb => .inl hb, ?_⟩
      obtain ⟨h1, ⟨rfl, h2⟩ | ⟨g, cap, cur, rfl, h3, h4, h5, h6, h7, h8⟩⟩ := ho
      · obtain rfl : xs = [] := List.eq_nil_of_length_eq_zero h2
        exact ⟨none, .frNil te .str (by decide)⟩
      · refine ⟨some g, .fr te .str xs g cap h3 (fun hs => absurd (hS _ hs) (by omega)) ⟨cur, (0, 0), h4, h7, h5, h6, fun _ => rfl, .inl (Nat.le_refl _), by decide, fun i hi => ⟨[.string xs[i]], .str _, fun j v hj => ?_⟩⟩⟩
        cases j with
        | zero =>
          simp only [List.getElem?_cons_zero, Option.some.injEq] at hj
          subst hj
          have h9 := congrArg (·[i]?) h8
          simp only [Nat.mul_one, List.getElem?_take, if_pos hi, List.getElem?_map, List.getElem?_eq_getElem hi, Option.map_some] at h9
          simpa [nc] using h9
        | succ j => simp at hj
    obtain ⟨cs, _, hcr, rfl, ha1⟩ := args_cons ha
    obtain rfl := args_nil ha1
    cases hcr with
    | t _ _ _ hcr =>
      cases hcr with
      | sl e xs A c cv hle hm h1 h2 =>
        match xs, A, hle, h1, h2, hs, fin with
        | [], A, _, _, _, _, fin => exact ext_goes hf hb hname ((hc0 A c w).mono fun e w' ⟨v', he, ho, hbl⟩ => ⟨v', he, fin _ _ ho hbl⟩)
        | x :: l, A, hle, h1, h2, hs, fin =>
          obtain ⟨g, o, rfl, hg, _⟩ := h2 0 (Nat.succ_pos _)
          refine ext_goes hf hb hname ((hc g o (x :: l).length c (x :: l) w (Nat.le_refl _) hs fun j hj => ?_).mono fun e w' ⟨v', he, ho, _, hbl⟩ => ⟨v', he, fin _ _ (by rw [List.take_length] at ho; exact ho) hbl⟩)
          obtain ⟨g', o', e', _, hcell⟩ := h2 j hj
          cases e'
          have hcv := h1 j hj
          have hq : ∀ z q, CR S w .str z q → q[0]? = some (.string z) := fun z q hq => by cases hq; rfl
          have := hcell 0 _ (hq _ _ hcv)
          rw [List.getD_eq_getElem?_getD, List.getElem?_eq_getElem hj, Option.getD_some]
          simpa [nc] using this
end Go.Gx
end
section
/- A library function by its contract: strconv.Itoa. -/
namespace Go.Gx
set_option linter.unusedVariables false
set_option linter.unusedSimpArgs false

def xItoa (n : Int) : Option ByteArray := bif decide (0 ≤ n) && decide (n < 100) then some ⟨(Lib.decDigits n.toNat).toArray⟩ else none
theorem ext_itoa {P : Program} {E : Env} {pv : Nat → Value} {f : FuncId} {fn : Func} {c : Code} (hf : P.funcs[f]? = some fn) (hb : fn.body = some c) (hname : (fn.name == "runtime.NumGoroutine") = false)
    (hc : ∀ (i : Nat) (hi : i < 100) (w : World), Calls P f #[.int .i64 i] w fun e w' => e = .returned (.string ⟨(Lib.decDigits i).toArray⟩) ∧ w' = w)
    {n : Int} {y : ByteArray} (h : xItoa n = some y) : Meets P E pv (.f f) (tvals [.int .i64] (n, ())) (.t .str y) := by
  unfold xItoa at h
  cases hs : decide (0 ≤ n) && decide (n < 100) with
  | false => rw [hs] at h; cases h
  | true =>
    rw [hs] at h
    cases h
    simp only [Bool.and_eq_true, decide_eq_true_eq] at hs
    refine ext_flat hf hb hname (v := .string _) (fun S w => ⟨_, .str _, rfl⟩) fun S w vs hS hgl ha => ?_
    obtain ⟨_, rfl, ha1⟩ := args_int ha
    obtain rfl := args_nil ha1
    have e : n = (n.toNat : Int) := by omega
    have := hc n.toNat (by omega) w
    rw [← e] at this
    exact this.mono fun e w' ⟨he, hw⟩ => ⟨he, hw ▸ RowKit.Below.refl _ _⟩
/-- Every int's numeral, the table of powers being as it is laid. -/
def xItoaN (n : Int) : Option ByteArray := bif decide (-9223372036854775808 ≤ n) && decide (n ≤ 9223372036854775807) then some ⟨(Lib.itoa n).toArray⟩ else none
theorem ext_itoaN {P : Program} {E : Env} {pv : Nat → Value} {f : FuncId} {fn : Func} {c : Code} (hf : P.funcs[f]? = some fn) (hb : fn.body = some c) (hname : (fn.name == "runtime.NumGoroutine") = false)
    {g : Nat} (hE : E.gl g = some (.t (.arr 20 (.int .u64)) Lib.pow10Tab)) (hg : P.globalNamed "internal/strconv.uint64pow10" = some g)
    (hc : ∀ (n : Int), -9223372036854775808 ≤ n → n ≤ 9223372036854775807 → ∀ w : World, Lib.TabIs P w "internal/strconv.uint64pow10" .u64 Lib.pow10Tab → Calls P f #[.int .i64 n] w fun e w' => e = .returned (.string ⟨(Lib.itoa n).toArray⟩) ∧ ∃ k os, w' = Go.Sort.grow (w.drewN k) os)
    {n : Int} {y : ByteArray} (h : xItoaN n = some y) : Meets P E pv (.f f) (tvals [.int .i64] (n, ())) (.t .str y) := by
  unfold xItoaN at h
  cases hs : decide (-9223372036854775808 ≤ n) && decide (n ≤ 9223372036854775807) with
  | false => rw [hs] at h; cases h
  | true =>
    rw [hs] at h
    cases h
    simp only [Bool.and_eq_true, decide_eq_true_eq] at hs
    refine ext_flat hf hb hname (v := .string _) (fun S w => ⟨_, .str _, rfl⟩) fun S w vs hS hgl ha => ?_
    obtain ⟨_, rfl, ha1⟩ := args_int ha
    obtain rfl := args_nil ha1
    refine (hc n hs.1 hs.2 w (gl_tab hgl hE hg)).mono fun e w' ⟨he, k, os, hw⟩ => ⟨he, ?_⟩
    subst hw
    refine ⟨rfl, rfl, rfl, by simp [Go.Sort.grow, World.drewN], fun b hb => ?_⟩
    simp only [Go.Sort.grow]
    rw [Array.getElem?_append_left (by exact hb)]
    rfl
end Go.Gx
end
section
namespace Go.Proofs.YtfnibdpepbgamaaGreatDoor
open Go.Gx
set_option linter.unusedVariables false
set_option maxRecDepth 100000
def tyT (t : Nat) : Option Ty := match t with
  | 2 => some (.int .i64)
  | 3 => some (.int .i64)
  | 4 => some .bool
  | 5 => some (.int .u8)
  | 6 => some (.int .u8)
  | 9 => some .str
  | 10 => some .str
  | 11 => some .str
  | 21 => some (.int .i32)
  | 22 => some (.sl .entry)
  | 24 => some .lib
  | 26 => some (.sl .str)
  | 29 => some (.sl .entry)
  | 31 => some .lib
  | 42 => some (.sl .name)
  | 44 => some .date
  | 46 => some .entry
  | 48 => some (.sl .name)
  | 49 => some .date
  | 51 => some .entry
  | 67 => some (.sl (.int .i64))
  | 82 => some (.arr 8 .str)
  | 85 => some (.sl (.int .u8))
  | 89 => some .name
  | 97 => some .name
  | 132 => some (.arr 256 .bool)
  | 139 => some (.arr 24 (.int .u8))
  | 140 => some (.int .u64)
  | 154 => some (.arr 20 (.int .u64))
  | 155 => some (.int .u32)
  | 156 => some (.arr 65 (.int .u8))
  | 157 => some (.int .u64)
  | 165 => some (.arr 256 (.int .u8))
  | 170 => some (.arr 32 (.int .u8))
  | 171 => some (.arr 64 (.int .u8))
  | 181 => some (.int .u8)
  | _ => none
def elT (t : Nat) : Nat := match t with
  | 22 => 46
  | 26 => 9
  | 29 => 51
  | 42 => 89
  | 48 => 97
  | 67 => 3
  | 85 => 5
  | _ => 0
def mdT (f : Nat) : Bool := match f with
  | 16 => true
  | 39 => true
  | 59 => true
  | 124 => true
  | 142 => true
  | _ => false
def glV0 : List ByteArray := [⟨#[97, 117, 116, 104, 111, 114, 115]⟩, ⟨#[101, 100, 105, 116, 111, 114, 115]⟩, ⟨#[116, 105, 116, 108, 101]⟩, ⟨#[99, 111, 110, 116, 97, 105, 110, 101, 114]⟩, ⟨#[112, 117, 98, 108, 105, 115, 104, 101, 114]⟩, ⟨#[100, 97, 116, 101]⟩, ⟨#[118, 111, 108, 117, 109, 101]⟩, ⟨#[112, 97, 103, 101, 115]⟩]
def glT (g : Nat) : Option AV := match g with
  | 0 => some (.t (.arr 8 .str) glV0)
  | 1 => some (.t (.arr 20 (.int .u64)) Lib.pow10Tab)
  | _ => none
def giT (g : Nat) : Bool := match g with
  | 2 => true
  | _ => false
def dmT (f : Nat) : Bool := match f with
  | 15 => true
  | 16 => true
  | 29 => true
  | 39 => true
  | 59 => true
  | _ => false
def pmT (f : Nat) : Bool := match f with
  | 11 => true
  | 26 => true
  | 75 => true
  | _ => false
def envX : Env := { ty := tyT, el := elT, gl := glT, md := mdT, gi := giT, dm := dmT, pm := pmT }
def envP : Env := { ty := tyT, el := elT, gl := glT, md := mdT, gi := giT, on := true }
theorem env_ty : ∀ T τ, envX.ty T = some τ → TyOk Tryz.prog envX T τ := fun T τ h => by
  dsimp only [envX, tyT] at h
  split at h <;> first
    | (cases h; done)
    | (cases h; exact tyOk_of (by kernel_rfl) (by kernel_rfl))
theorem envOk : EnvOk Tryz.prog envX := ⟨env_ty, by kernel_rfl, fun T h => by
  dsimp only [envX, tyT] at h
  split at h <;> first
    | (cases h; done)
    | exact date_eq env_ty rfl (by kernel_rfl) (by kernel_rfl) (by kernel_rfl), fun T h => by
  dsimp only [envX, tyT] at h
  split at h <;> first
    | (cases h; done)
    | exact abbr_eq env_ty rfl (by kernel_rfl) (by kernel_rfl) (by kernel_rfl)⟩
theorem env_tyP : ∀ T τ, envP.ty T = some τ → TyOk Tryz.prog envP T τ := fun T τ h => by
  dsimp only [envP, tyT] at h
  split at h <;> first
    | (cases h; done)
    | (cases h; exact tyOk_of (by kernel_rfl) (by kernel_rfl))
theorem envOkP : EnvOk Tryz.prog envP := ⟨env_tyP, by kernel_rfl, fun T h => by
  dsimp only [envP, tyT] at h
  split at h <;> first
    | (cases h; done)
    | exact date_eq env_tyP rfl (by kernel_rfl) (by kernel_rfl) (by kernel_rfl), fun T h => by
  dsimp only [envP, tyT] at h
  split at h <;> first
    | (cases h; done)
    | exact abbr_eq env_tyP rfl (by kernel_rfl) (by kernel_rfl) (by kernel_rfl)⟩
/-! ### 13 loop.example/g00896/laws.eqStringS -/
def laws_eqStringS.l0 : Nat → (List ByteArray) → (List ByteArray) → Int → Option (Sum Bool Unit)
  | 0, _, _, _ => none
  | k + 1, x0, x1, x5 => bif (decide (x5 < (x0.length : Int))) then (bif decide (0 ≤ x5) then (bif decide (x5 < (x0.length : Int)) then (bif decide (0 ≤ x5) then (bif decide (x5 < (x1.length : Int)) then (bif (!beqS (x0.getD (x5 : Int).toNat (⟨#[]⟩ : ByteArray)) (x1.getD (x5 : Int).toNat (⟨#[]⟩ : ByteArray))) then (some (.inl false)) else (laws_eqStringS.l0 k x0 x1 (IntKind.wrap .i64 (x5 + 1)))) else none) else none) else none) else none) else (some (.inr ()))
def laws_eqStringS.F (k : Nat) (a0 : List ByteArray) (a1 : List ByteArray) : Option (Bool) := bif ((a0.length : Int) != (a1.length : Int)) then (some false) else ((laws_eqStringS.l0 k a0 a1 0).bind fun y1 => match y1 with | .inl z2 => some z2 | .inr z2 => some true)
def laws_eqStringS.C (k : Nat) : Cal → Option CArm := fun c => match c with
  | _ => none
def laws_eqStringS.sp0 : List Sp := [.t 0 (.sl .str), .t 1 (.sl .str), .t 5 (.int .i64)]
def laws_eqStringS.sp0_0 : List Sp := [.t 4 .bool]
def laws_eqStringS.sp0_1 : List Sp := []
def laws_eqStringS.A0 : LArm := .two laws_eqStringS.sp0 laws_eqStringS.sp0_0 laws_eqStringS.sp0_1 (Bool) (Unit) (fun k x => laws_eqStringS.l0 k x.1 x.2.1 x.2.2.1) .ret (.exit 0) (fun y => (y, ())) (fun x => x.1) (fun y => ()) (fun x => ())
def laws_eqStringS.L : Nat → Option LArm := fun b => match b with
  | 0 => some laws_eqStringS.A0
  | _ => none
theorem laws_eqStringS.run (k : Nat) (a0 : List ByteArray) (a1 : List ByteArray) : runF envX (tabC (laws_eqStringS.C k)) (tabL 26 k laws_eqStringS.L) Tryz.f13 [.t (.sl .str) a0, .t (.sl .str) a1] (viewR1 (.t .bool)) = laws_eqStringS.F k a0 a1 := by kernel_rfl
theorem laws_eqStringS.step0 (k : Nat) (x0 : List ByteArray) (x1 : List ByteArray) (x5 : Int) : runC envX (tabC (laws_eqStringS.C k)) (tabL 26 k laws_eqStringS.L) 0 (loopAt Tryz.f13 0) (stOf 26 laws_eqStringS.sp0 (x0, x1, x5, ())) (laws_eqStringS.A0.cont 26 k) = laws_eqStringS.l0 (k + 1) x0 x1 x5 := by kernel_rfl
theorem laws_eqStringS.G (hE : EnvOk Tryz.prog envX) (pv : Nat → Value) (k : Nat) : ∀ cal A, laws_eqStringS.C k cal = some A → ArmOk Tryz.prog envX pv cal A := by
  intro cal A h
  unfold laws_eqStringS.C at h
  cases h
theorem laws_eqStringS.good (hE : EnvOk Tryz.prog envX) (pv : Nat → Value) (k : Nat) (a0 : List ByteArray) (a1 : List ByteArray) {y : _} (h : laws_eqStringS.F k a0 a1 = some y) : Meets Tryz.prog envX pv (.f 13) (tvals [(.sl .str), (.sl .str)] (a0, a1, ())) (.t .bool y) :=
  fun_loops hE (t := laws_eqStringS.C) k (fun k _ => laws_eqStringS.G hE pv k) (f := 13) (fn := Tryz.f13) (by kernel_rfl) rfl (by kernel_rfl) (by kernel_rfl) (lt := laws_eqStringS.L) (by kernel_rfl) (fun b A h => by
    unfold laws_eqStringS.L at h; split at h
    · cases h; exact ⟨by kernel_rfl, by kernel_rfl, by kernel_rfl, fun _ => rfl, fun _ => rfl, fun _ => rfl⟩
    · cases h) (fun b A h => by
    unfold laws_eqStringS.L at h; split at h
    · cases h; exact fun k x => laws_eqStringS.step0 k x.1 x.2.1 x.2.2.1
    · cases h) ((laws_eqStringS.run k a0 a1).trans h) fun r hr => wk_view1 hr
/-! ### 40 loop.example/g00896/laws.markText -/
def laws_markText.l0 : Nat → Int → ByteArray → Option (ByteArray)
  | 0, _, _ => none
  | k + 1, x0, x3 => bif (decide (x0 > 0)) then (bif (10 == 0) then (none) else (bif Nat.ble ((strL ([(IntKind.wrap .u8 (IntKind.wrap .i64 (48 + (Int.tmod x0 10))))] : List Int)).size + x3.size) 9223372036854775807 then (bif (10 == 0) then (none) else (laws_markText.l0 k (IntKind.wrap .i64 (Int.tdiv x0 10)) ((strL ([(IntKind.wrap .u8 (IntKind.wrap .i64 (48 + (Int.tmod x0 10))))] : List Int)) ++ x3))) else none)) else (some x3)
def laws_markText.F (k : Nat) (a0 : Int) : Option (ByteArray) := bif (decide (a0 ≤ 0)) then (some (⟨#[109, 48]⟩ : ByteArray)) else ((laws_markText.l0 k a0 (⟨#[]⟩ : ByteArray)).bind fun y1 => bif Nat.ble ((⟨#[109]⟩ : ByteArray).size + y1.size) 9223372036854775807 then (some ((⟨#[109]⟩ : ByteArray) ++ y1)) else none)
def laws_markText.C (k : Nat) : Cal → Option CArm := fun c => match c with
  | _ => none
def laws_markText.sp0 : List Sp := [.t 0 (.int .i64), .t 3 .str]
def laws_markText.sp0_0 : List Sp := [.t 3 .str]
def laws_markText.A0 : LArm := .one laws_markText.sp0 laws_markText.sp0_0 (ByteArray) (fun k x => laws_markText.l0 k x.1 x.2.1) (.exit 0) (fun y => (y, ())) (fun x => x.1)
def laws_markText.L : Nat → Option LArm := fun b => match b with
  | 0 => some laws_markText.A0
  | _ => none
theorem laws_markText.run (k : Nat) (a0 : Int) : runF envX (tabC (laws_markText.C k)) (tabL 20 k laws_markText.L) Tryz.f40 [.t (.int .i64) a0] (viewR1 (.t .str)) = laws_markText.F k a0 := by kernel_rfl
theorem laws_markText.step0 (k : Nat) (x0 : Int) (x3 : ByteArray) : runC envX (tabC (laws_markText.C k)) (tabL 20 k laws_markText.L) 0 (loopAt Tryz.f40 0) (stOf 20 laws_markText.sp0 (x0, x3, ())) (laws_markText.A0.cont 20 k) = laws_markText.l0 (k + 1) x0 x3 := by kernel_rfl
theorem laws_markText.G (hE : EnvOk Tryz.prog envX) (pv : Nat → Value) (k : Nat) : ∀ cal A, laws_markText.C k cal = some A → ArmOk Tryz.prog envX pv cal A := by
  intro cal A h
  unfold laws_markText.C at h
  cases h
theorem laws_markText.good (hE : EnvOk Tryz.prog envX) (pv : Nat → Value) (k : Nat) (a0 : Int) {y : _} (h : laws_markText.F k a0 = some y) : Meets Tryz.prog envX pv (.f 40) (tvals [(.int .i64)] (a0, ())) (.t .str y) :=
  fun_loops hE (t := laws_markText.C) k (fun k _ => laws_markText.G hE pv k) (f := 40) (fn := Tryz.f40) (by kernel_rfl) rfl (by kernel_rfl) (by kernel_rfl) (lt := laws_markText.L) (by kernel_rfl) (fun b A h => by
    unfold laws_markText.L at h; split at h
    · cases h; exact ⟨by kernel_rfl, by kernel_rfl, fun _ => rfl, fun _ => rfl⟩
    · cases h) (fun b A h => by
    unfold laws_markText.L at h; split at h
    · cases h; exact fun k x => laws_markText.step0 k x.1 x.2.1
    · cases h) ((laws_markText.run k a0).trans h) fun r hr => wk_view1 hr
/-! ### 16 loop.example/g00896/laws.markStringS -/
def laws_markStringS.l0 : Nat → (List ByteArray) → Int → Int → Option ((List ByteArray) × Int)
  | 0, _, _, _ => none
  | k + 1, x0, x1, x5 => bif (decide (x5 < (x0.length : Int))) then ((laws_markText.F k x1).bind fun r1 => bif decide (0 ≤ x5) then (bif decide (x5 < (x0.length : Int)) then (laws_markStringS.l0 k (x0.set ((x5 : Int).toNat) r1) (IntKind.wrap .i64 (x1 + 1)) (IntKind.wrap .i64 (x5 + 1))) else none) else none) else (some (x0, x1))
def laws_markStringS.F (k : Nat) (a0 : List ByteArray) (a1 : Int) : Option ((List ByteArray) × Int) := (laws_markStringS.l0 k a0 a1 0).bind fun y2 => bif Nat.beq (y2.1).length a0.length then (some (y2.1, y2.2)) else none
def laws_markStringS.C (k : Nat) : Cal → Option CArm := fun c => match c with
  | .f 40 => some (.p [(.int .i64)] _ (fun x => laws_markText.F k x.1) (fun r => (.t .str r)))
  | _ => none
def laws_markStringS.sp0 : List Sp := [.own 0 1099511627776 9 .str false true, .t 1 (.int .i64), .t 5 (.int .i64)]
def laws_markStringS.sp0_0 : List Sp := [.own 0 1099511627776 9 .str false true, .t 1 (.int .i64)]
def laws_markStringS.A0 : LArm := .one laws_markStringS.sp0 laws_markStringS.sp0_0 ((List ByteArray) × Int) (fun k x => laws_markStringS.l0 k x.1 x.2.1 x.2.2.1) (.exit 0) (fun y => (y.1, y.2, ())) (fun x => (x.1, x.2.1))
def laws_markStringS.L : Nat → Option LArm := fun b => match b with
  | 0 => some laws_markStringS.A0
  | _ => none
theorem laws_markStringS.run (k : Nat) (a0 : List ByteArray) (a1 : Int) : runM envX (tabC (laws_markStringS.C k)) (tabL 20 k laws_markStringS.L) Tryz.f16 mbase (.fr 9 .str a0) [.t (.int .i64) a1] (viewK (.fr 9 .str) (viewR1 (.t (.int .i64)))) = laws_markStringS.F k a0 a1 := by kernel_rfl
theorem laws_markStringS.step0 (k : Nat) (x0 : List ByteArray) (x1 : Int) (x5 : Int) : runC envX (tabC (laws_markStringS.C k)) (tabL 20 k laws_markStringS.L) 0 (loopAt Tryz.f16 0) (stOf 20 laws_markStringS.sp0 (x0, x1, x5, ())) (laws_markStringS.A0.cont 20 k) = laws_markStringS.l0 (k + 1) x0 x1 x5 := by kernel_rfl
theorem laws_markStringS.G (hE : EnvOk Tryz.prog envX) (pv : Nat → Value) (k : Nat) : ∀ cal A, laws_markStringS.C k cal = some A → ArmOk Tryz.prog envX pv cal A := by
  intro cal A h
  unfold laws_markStringS.C at h
  split at h
  · cases h; exact fun x y hy => laws_markText.good hE pv k x.1 hy
  · cases h
theorem laws_markStringS.good (hE : EnvOk Tryz.prog envX) (pv : Nat → Value) (k : Nat) (a0 : List ByteArray) (a1 : Int) {y : _} (h : laws_markStringS.F k a0 a1 = some y) : MeetsM Tryz.prog envX pv 16 (.fr 9 .str a0) (tvals [(.int .i64)] (a1, ())) (.kep (.fr 9 .str y.1) (.t (.int .i64) y.2)) :=
  funM_loops hE (t := laws_markStringS.C) k (fun k _ => laws_markStringS.G hE pv k) (f := 16) (fn := Tryz.f16) (by kernel_rfl) rfl (by kernel_rfl) (.inl rfl) (by kernel_rfl) (lt := laws_markStringS.L) (by kernel_rfl) (fun b A h => by
    unfold laws_markStringS.L at h; split at h
    · cases h; exact ⟨by kernel_rfl, by kernel_rfl, fun _ => rfl, fun _ => rfl⟩
    · cases h) (fun b A h => by
    unfold laws_markStringS.L at h; split at h
    · cases h; exact fun k x => laws_markStringS.step0 k x.1 x.2.1 x.2.2.1
    · cases h) ((laws_markStringS.run k a0 a1).trans h) fun r hr => wk_viewK (fun r y h => wk_view1 h) hr
/-! ### 17 loop.example/g00896/laws.heldStringS -/
def laws_heldStringS.l0 : Nat → (List ByteArray) → Int → Int → Option (Sum Int Int)
  | 0, _, _, _ => none
  | k + 1, x0, x1, x5 => bif (decide (x5 < (x0.length : Int))) then (bif decide (0 ≤ x5) then (bif decide (x5 < (x0.length : Int)) then ((laws_markText.F k x1).bind fun r1 => bif (!beqS (x0.getD (x5 : Int).toNat (⟨#[]⟩ : ByteArray)) r1) then (some (.inl (-1))) else (laws_heldStringS.l0 k x0 (IntKind.wrap .i64 (x1 + 1)) (IntKind.wrap .i64 (x5 + 1)))) else none) else none) else (some (.inr x1))
def laws_heldStringS.F (k : Nat) (a0 : List ByteArray) (a1 : Int) : Option (Int) := (laws_heldStringS.l0 k a0 a1 0).bind fun y2 => match y2 with | .inl z3 => some z3 | .inr z3 => some z3
def laws_heldStringS.C (k : Nat) : Cal → Option CArm := fun c => match c with
  | .f 40 => some (.p [(.int .i64)] _ (fun x => laws_markText.F k x.1) (fun r => (.t .str r)))
  | _ => none
def laws_heldStringS.sp0 : List Sp := [.t 0 (.sl .str), .t 1 (.int .i64), .t 5 (.int .i64)]
def laws_heldStringS.sp0_0 : List Sp := [.t 4 (.int .i64)]
def laws_heldStringS.sp0_1 : List Sp := [.t 1 (.int .i64)]
def laws_heldStringS.A0 : LArm := .two laws_heldStringS.sp0 laws_heldStringS.sp0_0 laws_heldStringS.sp0_1 (Int) (Int) (fun k x => laws_heldStringS.l0 k x.1 x.2.1 x.2.2.1) .ret (.exit 0) (fun y => (y, ())) (fun x => x.1) (fun y => (y, ())) (fun x => x.1)
def laws_heldStringS.L : Nat → Option LArm := fun b => match b with
  | 0 => some laws_heldStringS.A0
  | _ => none
theorem laws_heldStringS.run (k : Nat) (a0 : List ByteArray) (a1 : Int) : runF envX (tabC (laws_heldStringS.C k)) (tabL 22 k laws_heldStringS.L) Tryz.f17 [.t (.sl .str) a0, .t (.int .i64) a1] (viewR1 (.t (.int .i64))) = laws_heldStringS.F k a0 a1 := by kernel_rfl
theorem laws_heldStringS.step0 (k : Nat) (x0 : List ByteArray) (x1 : Int) (x5 : Int) : runC envX (tabC (laws_heldStringS.C k)) (tabL 22 k laws_heldStringS.L) 0 (loopAt Tryz.f17 0) (stOf 22 laws_heldStringS.sp0 (x0, x1, x5, ())) (laws_heldStringS.A0.cont 22 k) = laws_heldStringS.l0 (k + 1) x0 x1 x5 := by kernel_rfl
theorem laws_heldStringS.G (hE : EnvOk Tryz.prog envX) (pv : Nat → Value) (k : Nat) : ∀ cal A, laws_heldStringS.C k cal = some A → ArmOk Tryz.prog envX pv cal A := by
  intro cal A h
  unfold laws_heldStringS.C at h
  split at h
  · cases h; exact fun x y hy => laws_markText.good hE pv k x.1 hy
  · cases h
theorem laws_heldStringS.good (hE : EnvOk Tryz.prog envX) (pv : Nat → Value) (k : Nat) (a0 : List ByteArray) (a1 : Int) {y : _} (h : laws_heldStringS.F k a0 a1 = some y) : Meets Tryz.prog envX pv (.f 17) (tvals [(.sl .str), (.int .i64)] (a0, a1, ())) (.t (.int .i64) y) :=
  fun_loops hE (t := laws_heldStringS.C) k (fun k _ => laws_heldStringS.G hE pv k) (f := 17) (fn := Tryz.f17) (by kernel_rfl) rfl (by kernel_rfl) (by kernel_rfl) (lt := laws_heldStringS.L) (by kernel_rfl) (fun b A h => by
    unfold laws_heldStringS.L at h; split at h
    · cases h; exact ⟨by kernel_rfl, by kernel_rfl, by kernel_rfl, fun _ => rfl, fun _ => rfl, fun _ => rfl⟩
    · cases h) (fun b A h => by
    unfold laws_heldStringS.L at h; split at h
    · cases h; exact fun k x => laws_heldStringS.step0 k x.1 x.2.1 x.2.2.1
    · cases h) ((laws_heldStringS.run k a0 a1).trans h) fun r hr => wk_view1 hr
/-! ### 93 loop.example/g00896/laws.szStringS -/
def laws_szStringS.l0 : Nat → (List ByteArray) → Int → Int → Option (Sum Int Int)
  | 0, _, _, _ => none
  | k + 1, x0, x1, x5 => bif (decide (x5 < (x0.length : Int))) then (bif decide (0 ≤ x5) then (bif decide (x5 < (x0.length : Int)) then (bif (decide ((IntKind.wrap .i64 (x1 - ((x0.getD (x5 : Int).toNat (⟨#[]⟩ : ByteArray)).size : Int))) < 0)) then (some (.inl (-1))) else (laws_szStringS.l0 k x0 (IntKind.wrap .i64 (x1 - ((x0.getD (x5 : Int).toNat (⟨#[]⟩ : ByteArray)).size : Int))) (IntKind.wrap .i64 (x5 + 1)))) else none) else none) else (some (.inr x1))
def laws_szStringS.F (k : Nat) (a0 : List ByteArray) (a1 : Int) : Option (Int) := bif (decide ((IntKind.wrap .i64 (a1 - (a0.length : Int))) < 0)) then (some (-1)) else ((laws_szStringS.l0 k a0 (IntKind.wrap .i64 (a1 - (a0.length : Int))) 0).bind fun y1 => match y1 with | .inl z2 => some z2 | .inr z2 => some z2)
def laws_szStringS.C (k : Nat) : Cal → Option CArm := fun c => match c with
  | _ => none
def laws_szStringS.sp0 : List Sp := [.t 0 (.sl .str), .t 1 (.int .i64), .t 5 (.int .i64)]
def laws_szStringS.sp0_0 : List Sp := [.t 4 (.int .i64)]
def laws_szStringS.sp0_1 : List Sp := [.t 1 (.int .i64)]
def laws_szStringS.A0 : LArm := .two laws_szStringS.sp0 laws_szStringS.sp0_0 laws_szStringS.sp0_1 (Int) (Int) (fun k x => laws_szStringS.l0 k x.1 x.2.1 x.2.2.1) .ret (.exit 0) (fun y => (y, ())) (fun x => x.1) (fun y => (y, ())) (fun x => x.1)
def laws_szStringS.L : Nat → Option LArm := fun b => match b with
  | 0 => some laws_szStringS.A0
  | _ => none
theorem laws_szStringS.run (k : Nat) (a0 : List ByteArray) (a1 : Int) : runF envX (tabC (laws_szStringS.C k)) (tabL 28 k laws_szStringS.L) Tryz.f93 [.t (.sl .str) a0, .t (.int .i64) a1] (viewR1 (.t (.int .i64))) = laws_szStringS.F k a0 a1 := by kernel_rfl
theorem laws_szStringS.step0 (k : Nat) (x0 : List ByteArray) (x1 : Int) (x5 : Int) : runC envX (tabC (laws_szStringS.C k)) (tabL 28 k laws_szStringS.L) 0 (loopAt Tryz.f93 0) (stOf 28 laws_szStringS.sp0 (x0, x1, x5, ())) (laws_szStringS.A0.cont 28 k) = laws_szStringS.l0 (k + 1) x0 x1 x5 := by kernel_rfl
theorem laws_szStringS.G (hE : EnvOk Tryz.prog envX) (pv : Nat → Value) (k : Nat) : ∀ cal A, laws_szStringS.C k cal = some A → ArmOk Tryz.prog envX pv cal A := by
  intro cal A h
  unfold laws_szStringS.C at h
  cases h
theorem laws_szStringS.good (hE : EnvOk Tryz.prog envX) (pv : Nat → Value) (k : Nat) (a0 : List ByteArray) (a1 : Int) {y : _} (h : laws_szStringS.F k a0 a1 = some y) : Meets Tryz.prog envX pv (.f 93) (tvals [(.sl .str), (.int .i64)] (a0, a1, ())) (.t (.int .i64) y) :=
  fun_loops hE (t := laws_szStringS.C) k (fun k _ => laws_szStringS.G hE pv k) (f := 93) (fn := Tryz.f93) (by kernel_rfl) rfl (by kernel_rfl) (by kernel_rfl) (lt := laws_szStringS.L) (by kernel_rfl) (fun b A h => by
    unfold laws_szStringS.L at h; split at h
    · cases h; exact ⟨by kernel_rfl, by kernel_rfl, by kernel_rfl, fun _ => rfl, fun _ => rfl, fun _ => rfl⟩
    · cases h) (fun b A h => by
    unfold laws_szStringS.L at h; split at h
    · cases h; exact fun k x => laws_szStringS.step0 k x.1 x.2.1 x.2.2.1
    · cases h) ((laws_szStringS.run k a0 a1).trans h) fun r hr => wk_view1 hr
/-! ### 66 loop.example/g00896/laws.szName -/
def laws_szName.F (k : Nat) (a0 : Name) (a1 : Int) : Option (Int) := (laws_szStringS.F k a0.given a1).bind fun r1 => bif (decide (r1 < 0)) then (some (-1)) else (bif (decide ((IntKind.wrap .i64 (r1 - (a0.particle.size : Int))) < 0)) then (some (-1)) else (bif (decide ((IntKind.wrap .i64 ((IntKind.wrap .i64 (r1 - (a0.particle.size : Int))) - (a0.family.size : Int))) < 0)) then (some (-1)) else (bif (decide ((IntKind.wrap .i64 ((IntKind.wrap .i64 ((IntKind.wrap .i64 (r1 - (a0.particle.size : Int))) - (a0.family.size : Int))) - (a0.suffix.size : Int))) < 0)) then (some (-1)) else (some (IntKind.wrap .i64 ((IntKind.wrap .i64 ((IntKind.wrap .i64 (r1 - (a0.particle.size : Int))) - (a0.family.size : Int))) - (a0.suffix.size : Int)))))))
def laws_szName.C (k : Nat) : Cal → Option CArm := fun c => match c with
  | .f 93 => some (.p [(.sl .str), (.int .i64)] _ (fun x => laws_szStringS.F k x.1 x.2.1) (fun r => (.t (.int .i64) r)))
  | _ => none
theorem laws_szName.run (k : Nat) (a0 : Name) (a1 : Int) : runF envX (tabC (laws_szName.C k)) (tabL 33 0 (fun _ => none)) Tryz.f66 [.t .name a0, .t (.int .i64) a1] (viewR1 (.t (.int .i64))) = laws_szName.F k a0 a1 := by kernel_rfl
theorem laws_szName.G (hE : EnvOk Tryz.prog envX) (pv : Nat → Value) (k : Nat) : ∀ cal A, laws_szName.C k cal = some A → ArmOk Tryz.prog envX pv cal A := by
  intro cal A h
  unfold laws_szName.C at h
  split at h
  · cases h; exact fun x y hy => laws_szStringS.good hE pv k x.1 x.2.1 hy
  · cases h
theorem laws_szName.good (hE : EnvOk Tryz.prog envX) (pv : Nat → Value) (k : Nat) (a0 : Name) (a1 : Int) {y : _} (h : laws_szName.F k a0 a1 = some y) : Meets Tryz.prog envX pv (.f 66) (tvals [.name, (.int .i64)] (a0, a1, ())) (.t (.int .i64) y) :=
  fun_plain hE (laws_szName.G hE pv k) (f := 66) (fn := Tryz.f66) (by kernel_rfl) rfl (by kernel_rfl) (by kernel_rfl) ((laws_szName.run k a0 a1).trans h) fun r hr => wk_view1 hr
/-! ### 50 loop.example/g00896/laws.szNameS -/
def laws_szNameS.l0 : Nat → (List Name) → Int → Int → Option (Sum Int Int)
  | 0, _, _, _ => none
  | k + 1, x0, x1, x5 => bif (decide (x5 < (x0.length : Int))) then (bif decide (0 ≤ x5) then (bif decide (x5 < (x0.length : Int)) then ((laws_szName.F k (x0.getD (x5 : Int).toNat (dflt .name)) x1).bind fun r1 => bif (decide (r1 < 0)) then (some (.inl (-1))) else (laws_szNameS.l0 k x0 r1 (IntKind.wrap .i64 (x5 + 1)))) else none) else none) else (some (.inr x1))
def laws_szNameS.F (k : Nat) (a0 : List Name) (a1 : Int) : Option (Int) := bif (decide ((IntKind.wrap .i64 (a1 - (a0.length : Int))) < 0)) then (some (-1)) else ((laws_szNameS.l0 k a0 (IntKind.wrap .i64 (a1 - (a0.length : Int))) 0).bind fun y2 => match y2 with | .inl z3 => some z3 | .inr z3 => some z3)
def laws_szNameS.C (k : Nat) : Cal → Option CArm := fun c => match c with
  | .f 66 => some (.p [.name, (.int .i64)] _ (fun x => laws_szName.F k x.1 x.2.1) (fun r => (.t (.int .i64) r)))
  | _ => none
def laws_szNameS.sp0 : List Sp := [.t 0 (.sl .name), .t 1 (.int .i64), .t 5 (.int .i64)]
def laws_szNameS.sp0_0 : List Sp := [.t 4 (.int .i64)]
def laws_szNameS.sp0_1 : List Sp := [.t 1 (.int .i64)]
def laws_szNameS.A0 : LArm := .two laws_szNameS.sp0 laws_szNameS.sp0_0 laws_szNameS.sp0_1 (Int) (Int) (fun k x => laws_szNameS.l0 k x.1 x.2.1 x.2.2.1) .ret (.exit 0) (fun y => (y, ())) (fun x => x.1) (fun y => (y, ())) (fun x => x.1)
def laws_szNameS.L : Nat → Option LArm := fun b => match b with
  | 0 => some laws_szNameS.A0
  | _ => none
theorem laws_szNameS.run (k : Nat) (a0 : List Name) (a1 : Int) : runF envX (tabC (laws_szNameS.C k)) (tabL 27 k laws_szNameS.L) Tryz.f50 [.t (.sl .name) a0, .t (.int .i64) a1] (viewR1 (.t (.int .i64))) = laws_szNameS.F k a0 a1 := by kernel_rfl
theorem laws_szNameS.step0 (k : Nat) (x0 : List Name) (x1 : Int) (x5 : Int) : runC envX (tabC (laws_szNameS.C k)) (tabL 27 k laws_szNameS.L) 0 (loopAt Tryz.f50 0) (stOf 27 laws_szNameS.sp0 (x0, x1, x5, ())) (laws_szNameS.A0.cont 27 k) = laws_szNameS.l0 (k + 1) x0 x1 x5 := by kernel_rfl
theorem laws_szNameS.G (hE : EnvOk Tryz.prog envX) (pv : Nat → Value) (k : Nat) : ∀ cal A, laws_szNameS.C k cal = some A → ArmOk Tryz.prog envX pv cal A := by
  intro cal A h
  unfold laws_szNameS.C at h
  split at h
  · cases h; exact fun x y hy => laws_szName.good hE pv k x.1 x.2.1 hy
  · cases h
theorem laws_szNameS.good (hE : EnvOk Tryz.prog envX) (pv : Nat → Value) (k : Nat) (a0 : List Name) (a1 : Int) {y : _} (h : laws_szNameS.F k a0 a1 = some y) : Meets Tryz.prog envX pv (.f 50) (tvals [(.sl .name), (.int .i64)] (a0, a1, ())) (.t (.int .i64) y) :=
  fun_loops hE (t := laws_szNameS.C) k (fun k _ => laws_szNameS.G hE pv k) (f := 50) (fn := Tryz.f50) (by kernel_rfl) rfl (by kernel_rfl) (by kernel_rfl) (lt := laws_szNameS.L) (by kernel_rfl) (fun b A h => by
    unfold laws_szNameS.L at h; split at h
    · cases h; exact ⟨by kernel_rfl, by kernel_rfl, by kernel_rfl, fun _ => rfl, fun _ => rfl, fun _ => rfl⟩
    · cases h) (fun b A h => by
    unfold laws_szNameS.L at h; split at h
    · cases h; exact fun k x => laws_szNameS.step0 k x.1 x.2.1 x.2.2.1
    · cases h) ((laws_szNameS.run k a0 a1).trans h) fun r hr => wk_view1 hr
/-! ### 24 loop.example/g00896/laws.szEntry -/
def laws_szEntry.F (k : Nat) (a0 : Entry) (a1 : Int) : Option (Int) := bif (decide ((IntKind.wrap .i64 (a1 - (a0.key.size : Int))) < 0)) then (some (-1)) else ((laws_szNameS.F k a0.authors (IntKind.wrap .i64 (a1 - (a0.key.size : Int)))).bind fun r1 => bif (decide (r1 < 0)) then (some (-1)) else ((laws_szNameS.F k a0.editors r1).bind fun r2 => bif (decide (r2 < 0)) then (some (-1)) else (bif (decide ((IntKind.wrap .i64 (r2 - (a0.title.size : Int))) < 0)) then (some (-1)) else (bif (decide ((IntKind.wrap .i64 ((IntKind.wrap .i64 (r2 - (a0.title.size : Int))) - (a0.container.size : Int))) < 0)) then (some (-1)) else (bif (decide ((IntKind.wrap .i64 ((IntKind.wrap .i64 ((IntKind.wrap .i64 (r2 - (a0.title.size : Int))) - (a0.container.size : Int))) - (a0.publisher.size : Int))) < 0)) then (some (-1)) else (bif (decide ((IntKind.wrap .i64 ((IntKind.wrap .i64 ((IntKind.wrap .i64 ((IntKind.wrap .i64 (r2 - (a0.title.size : Int))) - (a0.container.size : Int))) - (a0.publisher.size : Int))) - (a0.pages.size : Int))) < 0)) then (some (-1)) else (bif (decide ((IntKind.wrap .i64 ((IntKind.wrap .i64 ((IntKind.wrap .i64 ((IntKind.wrap .i64 ((IntKind.wrap .i64 (r2 - (a0.title.size : Int))) - (a0.container.size : Int))) - (a0.publisher.size : Int))) - (a0.pages.size : Int))) - (a0.cross.size : Int))) < 0)) then (some (-1)) else (some (IntKind.wrap .i64 ((IntKind.wrap .i64 ((IntKind.wrap .i64 ((IntKind.wrap .i64 ((IntKind.wrap .i64 (r2 - (a0.title.size : Int))) - (a0.container.size : Int))) - (a0.publisher.size : Int))) - (a0.pages.size : Int))) - (a0.cross.size : Int)))))))))))
def laws_szEntry.C (k : Nat) : Cal → Option CArm := fun c => match c with
  | .f 50 => some (.p [(.sl .name), (.int .i64)] _ (fun x => laws_szNameS.F k x.1 x.2.1) (fun r => (.t (.int .i64) r)))
  | _ => none
theorem laws_szEntry.run (k : Nat) (a0 : Entry) (a1 : Int) : runF envX (tabC (laws_szEntry.C k)) (tabL 60 0 (fun _ => none)) Tryz.f24 [.t .entry a0, .t (.int .i64) a1] (viewR1 (.t (.int .i64))) = laws_szEntry.F k a0 a1 := by kernel_rfl
theorem laws_szEntry.G (hE : EnvOk Tryz.prog envX) (pv : Nat → Value) (k : Nat) : ∀ cal A, laws_szEntry.C k cal = some A → ArmOk Tryz.prog envX pv cal A := by
  intro cal A h
  unfold laws_szEntry.C at h
  split at h
  · cases h; exact fun x y hy => laws_szNameS.good hE pv k x.1 x.2.1 hy
  · cases h
theorem laws_szEntry.good (hE : EnvOk Tryz.prog envX) (pv : Nat → Value) (k : Nat) (a0 : Entry) (a1 : Int) {y : _} (h : laws_szEntry.F k a0 a1 = some y) : Meets Tryz.prog envX pv (.f 24) (tvals [.entry, (.int .i64)] (a0, a1, ())) (.t (.int .i64) y) :=
  fun_plain hE (laws_szEntry.G hE pv k) (f := 24) (fn := Tryz.f24) (by kernel_rfl) rfl (by kernel_rfl) (by kernel_rfl) ((laws_szEntry.run k a0 a1).trans h) fun r hr => wk_view1 hr
/-! ### 97 loop.example/g00896/laws.toStringS -/
def laws_toStringS.l0 : Nat → (List ByteArray) → (List ByteArray) → Int → Option ((List ByteArray))
  | 0, _, _, _ => none
  | k + 1, x0, x3, x4 => bif (decide (x4 < (x0.length : Int))) then (bif decide (0 ≤ x4) then (bif decide (x4 < (x0.length : Int)) then (bif decide (0 ≤ x4) then (bif decide (x4 < (x3.length : Int)) then (laws_toStringS.l0 k x0 (x3.set ((x4 : Int).toNat) (x0.getD (x4 : Int).toNat (⟨#[]⟩ : ByteArray))) (IntKind.wrap .i64 (x4 + 1))) else none) else none) else none) else none) else (some x3)
def laws_toStringS.F (k : Nat) (a0 : List ByteArray) : Option (List ByteArray) := bif ((a0.length : Int) == (a0.length : Int)) then (bif decide (0 ≤ (a0.length : Int)) then (bif Nat.ble (((a0.length : Int) : Int).toNat * nb .str) 140737488355328 then ((laws_toStringS.l0 k a0 (List.replicate ((a0.length : Int) : Int).toNat (⟨#[]⟩ : ByteArray)) 0).bind fun y1 => some y1) else none) else none) else none
def laws_toStringS.C (k : Nat) : Cal → Option CArm := fun c => match c with
  | _ => none
def laws_toStringS.sp0 : List Sp := [.t 0 (.sl .str), .own 3 1032 9 .str false true, .t 4 (.int .i64)]
def laws_toStringS.sp0_0 : List Sp := [.own 3 1032 9 .str false true]
def laws_toStringS.A0 : LArm := .one laws_toStringS.sp0 laws_toStringS.sp0_0 ((List ByteArray)) (fun k x => laws_toStringS.l0 k x.1 x.2.1 x.2.2.1) (.exit 0) (fun y => (y, ())) (fun x => x.1)
def laws_toStringS.L : Nat → Option LArm := fun b => match b with
  | 0 => some laws_toStringS.A0
  | _ => none
theorem laws_toStringS.run (k : Nat) (a0 : List ByteArray) : runF envX (tabC (laws_toStringS.C k)) (tabL 22 k laws_toStringS.L) Tryz.f97 [.t (.sl .str) a0] (viewR1 (.fr 9 .str)) = laws_toStringS.F k a0 := by kernel_rfl
theorem laws_toStringS.step0 (k : Nat) (x0 : List ByteArray) (x3 : List ByteArray) (x4 : Int) : runC envX (tabC (laws_toStringS.C k)) (tabL 22 k laws_toStringS.L) 0 (loopAt Tryz.f97 0) (stOf 22 laws_toStringS.sp0 (x0, x3, x4, ())) (laws_toStringS.A0.cont 22 k) = laws_toStringS.l0 (k + 1) x0 x3 x4 := by kernel_rfl
theorem laws_toStringS.G (hE : EnvOk Tryz.prog envX) (pv : Nat → Value) (k : Nat) : ∀ cal A, laws_toStringS.C k cal = some A → ArmOk Tryz.prog envX pv cal A := by
  intro cal A h
  unfold laws_toStringS.C at h
  cases h
theorem laws_toStringS.good (hE : EnvOk Tryz.prog envX) (pv : Nat → Value) (k : Nat) (a0 : List ByteArray) {y : _} (h : laws_toStringS.F k a0 = some y) : Meets Tryz.prog envX pv (.f 97) (tvals [(.sl .str)] (a0, ())) (.fr 9 .str y) :=
  fun_loops hE (t := laws_toStringS.C) k (fun k _ => laws_toStringS.G hE pv k) (f := 97) (fn := Tryz.f97) (by kernel_rfl) rfl (by kernel_rfl) (by kernel_rfl) (lt := laws_toStringS.L) (by kernel_rfl) (fun b A h => by
    unfold laws_toStringS.L at h; split at h
    · cases h; exact ⟨by kernel_rfl, by kernel_rfl, fun _ => rfl, fun _ => rfl⟩
    · cases h) (fun b A h => by
    unfold laws_toStringS.L at h; split at h
    · cases h; exact fun k x => laws_toStringS.step0 k x.1 x.2.1 x.2.2.1
    · cases h) ((laws_toStringS.run k a0).trans h) fun r hr => wk_view1 hr
/-! ### 75 loop.example/g00896/laws.toName -/
def laws_toName.F (k : Nat) (a0 : Name) : Option (Name) := (laws_toStringS.F k a0.given).bind fun r1 => some (⟨r1, a0.particle, a0.family, a0.suffix⟩ : Name)
def laws_toName.C (k : Nat) : Cal → Option CArm := fun c => match c with
  | .f 97 => some (.p [(.sl .str)] _ (fun x => laws_toStringS.F k x.1) (fun r => (.fr 9 .str r)))
  | _ => none
theorem laws_toName.run (k : Nat) (a0 : Name) : runF envX (tabC (laws_toName.C k)) (tabL 18 0 (fun _ => none)) Tryz.f75 [.t .name a0] (viewR1 (.t .name)) = laws_toName.F k a0 := by kernel_rfl
theorem laws_toName.G (hE : EnvOk Tryz.prog envX) (pv : Nat → Value) (k : Nat) : ∀ cal A, laws_toName.C k cal = some A → ArmOk Tryz.prog envX pv cal A := by
  intro cal A h
  unfold laws_toName.C at h
  split at h
  · cases h; exact fun x y hy => laws_toStringS.good hE pv k x.1 hy
  · cases h
theorem laws_toName.good (hE : EnvOk Tryz.prog envX) (pv : Nat → Value) (k : Nat) (a0 : Name) {y : _} (h : laws_toName.F k a0 = some y) : Meets Tryz.prog envX pv (.f 75) (tvals [.name] (a0, ())) (.t .name y) :=
  fun_plain hE (laws_toName.G hE pv k) (f := 75) (fn := Tryz.f75) (by kernel_rfl) rfl (by kernel_rfl) (by kernel_rfl) ((laws_toName.run k a0).trans h) fun r hr => wk_view1 hr
/-! ### 97 loop.example/g00896/laws.toStringS, with a mark -/
def laws_toStringS_p.l0 : Nat → (List ByteArray) → (List ByteArray) → Int → Option ((List ByteArray))
  | 0, _, _, _ => none
  | k + 1, x0, x3, x4 => bif (decide (x4 < (x0.length : Int))) then (bif decide (0 ≤ x4) then (bif decide (x4 < (x0.length : Int)) then (bif decide (0 ≤ x4) then (bif decide (x4 < (x3.length : Int)) then (laws_toStringS_p.l0 k x0 (x3.set ((x4 : Int).toNat) (x0.getD (x4 : Int).toNat (⟨#[]⟩ : ByteArray))) (IntKind.wrap .i64 (x4 + 1))) else none) else none) else none) else none) else (some x3)
def laws_toStringS_p.F (k : Nat) (a0 : List ByteArray) : Option (List ByteArray) := bif ((a0.length : Int) == (a0.length : Int)) then (bif decide (0 ≤ (a0.length : Int)) then (bif Nat.ble (((a0.length : Int) : Int).toNat * nb .str) 140737488355328 then ((laws_toStringS_p.l0 k a0 (List.replicate ((a0.length : Int) : Int).toNat (⟨#[]⟩ : ByteArray)) 0).bind fun y1 => some y1) else none) else none) else none
def laws_toStringS_p.C (k : Nat) : Cal → Option CArm := fun c => match c with
  | _ => none
def laws_toStringS_p.sp0 : List Sp := [.t 0 (.sl .str), .own 3 1032 9 .str false true, .t 4 (.int .i64)]
def laws_toStringS_p.sp0_0 : List Sp := [.own 3 1032 9 .str false true]
def laws_toStringS_p.A0 : LArm := .one laws_toStringS_p.sp0 laws_toStringS_p.sp0_0 ((List ByteArray)) (fun k x => laws_toStringS_p.l0 k x.1 x.2.1 x.2.2.1) (.exit 0) (fun y => (y, ())) (fun x => x.1)
def laws_toStringS_p.L : Nat → Option LArm := fun b => match b with
  | 0 => some laws_toStringS_p.A0
  | _ => none
theorem laws_toStringS_p.run (k : Nat) (a0 : List ByteArray) : runF envP (tabC (laws_toStringS_p.C k)) (tabL 22 k laws_toStringS_p.L) Tryz.f97 [.t (.sl .str) a0] (viewR1 (.fr 9 .str)) = laws_toStringS_p.F k a0 := by kernel_rfl
theorem laws_toStringS_p.step0 (k : Nat) (x0 : List ByteArray) (x3 : List ByteArray) (x4 : Int) : runC envP (tabC (laws_toStringS_p.C k)) (tabL 22 k laws_toStringS_p.L) 0 (loopAt Tryz.f97 0) (stOf 22 laws_toStringS_p.sp0 (x0, x3, x4, ())) (laws_toStringS_p.A0.cont 22 k) = laws_toStringS_p.l0 (k + 1) x0 x3 x4 := by kernel_rfl
theorem laws_toStringS_p.G (hE : EnvOk Tryz.prog envP) (pv : Nat → Value) (n : Nat) (k : Nat) : ∀ cal A, laws_toStringS_p.C k cal = some A → ArmOk Tryz.prog envP (mpv pv n) cal A := by
  intro cal A h
  unfold laws_toStringS_p.C at h
  cases h
theorem laws_toStringS_p.good (hE : EnvOk Tryz.prog envP) (pv : Nat → Value) (n : Nat) (k : Nat) (a0 : List ByteArray) {y : _} (h : laws_toStringS_p.F k a0 = some y) : Meets Tryz.prog envP (mpv pv n) (.f 97) (tvals [(.sl .str)] (a0, ())) (.fr 9 .str y) :=
  fun_loops hE (t := laws_toStringS_p.C) k (fun k _ => laws_toStringS_p.G hE pv n k) (f := 97) (fn := Tryz.f97) (by kernel_rfl) rfl (by kernel_rfl) (by kernel_rfl) (lt := laws_toStringS_p.L) (by kernel_rfl) (fun b A h => by
    unfold laws_toStringS_p.L at h; split at h
    · cases h; exact ⟨by kernel_rfl, by kernel_rfl, fun _ => rfl, fun _ => rfl⟩
    · cases h) (fun b A h => by
    unfold laws_toStringS_p.L at h; split at h
    · cases h; exact fun k x => laws_toStringS_p.step0 k x.1 x.2.1 x.2.2.1
    · cases h) ((laws_toStringS_p.run k a0).trans h) fun r hr => wk_view1 hr
/-! ### 75 loop.example/g00896/laws.toName, with a mark -/
def laws_toName_p.F (k : Nat) (a0 : Name) : Option (Name) := (laws_toStringS_p.F k a0.given).bind fun r1 => some (⟨r1, a0.particle, a0.family, a0.suffix⟩ : Name)
def laws_toName_p.C (k : Nat) : Cal → Option CArm := fun c => match c with
  | .f 97 => some (.p [(.sl .str)] _ (fun x => laws_toStringS_p.F k x.1) (fun r => (.fr 9 .str r)))
  | _ => none
theorem laws_toName_p.run (k : Nat) (a0 : Name) : runPc envP (tabC (laws_toName_p.C k)) (tabL 18 0 (fun _ => none)) Tryz.f75 [.t .name a0] (viewR1 (.pc .name)) = laws_toName_p.F k a0 := by kernel_rfl
theorem laws_toName_p.G (hE : EnvOk Tryz.prog envP) (pv : Nat → Value) (n : Nat) (k : Nat) : ∀ cal A, laws_toName_p.C k cal = some A → ArmOk Tryz.prog envP (mpv pv n) cal A := by
  intro cal A h
  unfold laws_toName_p.C at h
  split at h
  · cases h; exact fun x y hy => laws_toStringS_p.good hE pv n k x.1 hy
  · cases h
theorem laws_toName_p.good (hE : EnvOk Tryz.prog envP) (pv : Nat → Value) (n : Nat) (k : Nat) (a0 : Name) {y : _} (h : laws_toName_p.F k a0 = some y) : Meets Tryz.prog envP (mpv pv n) (.f 75) (tvals [.name] (a0, ())) (.pc true .name y) :=
  funPc_plain hE (mpv_O pv n) (mpv_Q pv n) (laws_toName_p.G hE pv n k) (f := 75) (fn := Tryz.f75) (by kernel_rfl) rfl (by kernel_rfl) (by kernel_rfl) ((laws_toName_p.run k a0).trans h) fun r hr => wk_view1 hr
-- NO 53 loop.example/g00896/laws.toNameS: store of ds
/-! ### 54 loop.example/g00896/laws.toDate -/
def laws_toDate.F (a0 : Date) : Option (Date) := some (⟨a0.y, a0.m, a0.d, a0.c⟩ : Date)
def laws_toDate.C : Cal → Option CArm := fun c => match c with
  | _ => none
theorem laws_toDate.run (a0 : Date) : runF envX (tabC laws_toDate.C) (tabL 17 0 (fun _ => none)) Tryz.f54 [.t .date a0] (viewR1 (.t .date)) = laws_toDate.F a0 := by kernel_rfl
theorem laws_toDate.G (hE : EnvOk Tryz.prog envX) (pv : Nat → Value) : ∀ cal A, laws_toDate.C cal = some A → ArmOk Tryz.prog envX pv cal A := by
  intro cal A h
  unfold laws_toDate.C at h
  cases h
theorem laws_toDate.good (hE : EnvOk Tryz.prog envX) (pv : Nat → Value) (a0 : Date) {y : _} (h : laws_toDate.F a0 = some y) : Meets Tryz.prog envX pv (.f 54) (tvals [.date] (a0, ())) (.t .date y) :=
  fun_plain hE (laws_toDate.G hE pv) (f := 54) (fn := Tryz.f54) (by kernel_rfl) rfl (by kernel_rfl) (by kernel_rfl) ((laws_toDate.run a0).trans h) fun r hr => wk_view1 hr
-- NO 26 loop.example/g00896/laws.toEntry: a call of loop.example/g00896/laws.toNameS
/-! ### 86 loop.example/g00896/laws.eqName -/
def laws_eqName.F (k : Nat) (a0 : Name) (a1 : Name) : Option (Bool) := (laws_eqStringS.F k a0.given a1.given).bind fun r1 => bif (!r1) then (some false) else (bif (!beqS a0.particle a1.particle) then (some false) else (bif (!beqS a0.family a1.family) then (some false) else (bif (!beqS a0.suffix a1.suffix) then (some false) else (some true))))
def laws_eqName.C (k : Nat) : Cal → Option CArm := fun c => match c with
  | .f 13 => some (.p [(.sl .str), (.sl .str)] _ (fun x => laws_eqStringS.F k x.1 x.2.1) (fun r => (.t .bool r)))
  | _ => none
theorem laws_eqName.run (k : Nat) (a0 : Name) (a1 : Name) : runF envX (tabC (laws_eqName.C k)) (tabL 26 0 (fun _ => none)) Tryz.f86 [.t .name a0, .t .name a1] (viewR1 (.t .bool)) = laws_eqName.F k a0 a1 := by kernel_rfl
theorem laws_eqName.G (hE : EnvOk Tryz.prog envX) (pv : Nat → Value) (k : Nat) : ∀ cal A, laws_eqName.C k cal = some A → ArmOk Tryz.prog envX pv cal A := by
  intro cal A h
  unfold laws_eqName.C at h
  split at h
  · cases h; exact fun x y hy => laws_eqStringS.good hE pv k x.1 x.2.1 hy
  · cases h
theorem laws_eqName.good (hE : EnvOk Tryz.prog envX) (pv : Nat → Value) (k : Nat) (a0 : Name) (a1 : Name) {y : _} (h : laws_eqName.F k a0 a1 = some y) : Meets Tryz.prog envX pv (.f 86) (tvals [.name, .name] (a0, a1, ())) (.t .bool y) :=
  fun_plain hE (laws_eqName.G hE pv k) (f := 86) (fn := Tryz.f86) (by kernel_rfl) rfl (by kernel_rfl) (by kernel_rfl) ((laws_eqName.run k a0 a1).trans h) fun r hr => wk_view1 hr
/-! ### 57 loop.example/g00896/laws.eqNameS -/
def laws_eqNameS.l0 : Nat → (List Name) → (List Name) → Int → Option (Sum Bool Unit)
  | 0, _, _, _ => none
  | k + 1, x0, x1, x5 => bif (decide (x5 < (x0.length : Int))) then (bif decide (0 ≤ x5) then (bif decide (x5 < (x0.length : Int)) then (bif decide (0 ≤ x5) then (bif decide (x5 < (x1.length : Int)) then ((laws_eqName.F k (x0.getD (x5 : Int).toNat (dflt .name)) (x1.getD (x5 : Int).toNat (dflt .name))).bind fun r1 => bif (!r1) then (some (.inl false)) else (laws_eqNameS.l0 k x0 x1 (IntKind.wrap .i64 (x5 + 1)))) else none) else none) else none) else none) else (some (.inr ()))
def laws_eqNameS.F (k : Nat) (a0 : List Name) (a1 : List Name) : Option (Bool) := bif ((a0.length : Int) != (a1.length : Int)) then (some false) else ((laws_eqNameS.l0 k a0 a1 0).bind fun y2 => match y2 with | .inl z3 => some z3 | .inr z3 => some true)
def laws_eqNameS.C (k : Nat) : Cal → Option CArm := fun c => match c with
  | .f 86 => some (.p [.name, .name] _ (fun x => laws_eqName.F k x.1 x.2.1) (fun r => (.t .bool r)))
  | _ => none
def laws_eqNameS.sp0 : List Sp := [.t 0 (.sl .name), .t 1 (.sl .name), .t 5 (.int .i64)]
def laws_eqNameS.sp0_0 : List Sp := [.t 4 .bool]
def laws_eqNameS.sp0_1 : List Sp := []
def laws_eqNameS.A0 : LArm := .two laws_eqNameS.sp0 laws_eqNameS.sp0_0 laws_eqNameS.sp0_1 (Bool) (Unit) (fun k x => laws_eqNameS.l0 k x.1 x.2.1 x.2.2.1) .ret (.exit 0) (fun y => (y, ())) (fun x => x.1) (fun y => ()) (fun x => ())
def laws_eqNameS.L : Nat → Option LArm := fun b => match b with
  | 0 => some laws_eqNameS.A0
  | _ => none
theorem laws_eqNameS.run (k : Nat) (a0 : List Name) (a1 : List Name) : runF envX (tabC (laws_eqNameS.C k)) (tabL 27 k laws_eqNameS.L) Tryz.f57 [.t (.sl .name) a0, .t (.sl .name) a1] (viewR1 (.t .bool)) = laws_eqNameS.F k a0 a1 := by kernel_rfl
theorem laws_eqNameS.step0 (k : Nat) (x0 : List Name) (x1 : List Name) (x5 : Int) : runC envX (tabC (laws_eqNameS.C k)) (tabL 27 k laws_eqNameS.L) 0 (loopAt Tryz.f57 0) (stOf 27 laws_eqNameS.sp0 (x0, x1, x5, ())) (laws_eqNameS.A0.cont 27 k) = laws_eqNameS.l0 (k + 1) x0 x1 x5 := by kernel_rfl
theorem laws_eqNameS.G (hE : EnvOk Tryz.prog envX) (pv : Nat → Value) (k : Nat) : ∀ cal A, laws_eqNameS.C k cal = some A → ArmOk Tryz.prog envX pv cal A := by
  intro cal A h
  unfold laws_eqNameS.C at h
  split at h
  · cases h; exact fun x y hy => laws_eqName.good hE pv k x.1 x.2.1 hy
  · cases h
theorem laws_eqNameS.good (hE : EnvOk Tryz.prog envX) (pv : Nat → Value) (k : Nat) (a0 : List Name) (a1 : List Name) {y : _} (h : laws_eqNameS.F k a0 a1 = some y) : Meets Tryz.prog envX pv (.f 57) (tvals [(.sl .name), (.sl .name)] (a0, a1, ())) (.t .bool y) :=
  fun_loops hE (t := laws_eqNameS.C) k (fun k _ => laws_eqNameS.G hE pv k) (f := 57) (fn := Tryz.f57) (by kernel_rfl) rfl (by kernel_rfl) (by kernel_rfl) (lt := laws_eqNameS.L) (by kernel_rfl) (fun b A h => by
    unfold laws_eqNameS.L at h; split at h
    · cases h; exact ⟨by kernel_rfl, by kernel_rfl, by kernel_rfl, fun _ => rfl, fun _ => rfl, fun _ => rfl⟩
    · cases h) (fun b A h => by
    unfold laws_eqNameS.L at h; split at h
    · cases h; exact fun k x => laws_eqNameS.step0 k x.1 x.2.1 x.2.2.1
    · cases h) ((laws_eqNameS.run k a0 a1).trans h) fun r hr => wk_view1 hr
/-! ### 58 loop.example/g00896/laws.eqDate -/
def laws_eqDate.F (a0 : Date) (a1 : Date) : Option (Bool) := bif (a0.y != a1.y) then (some false) else (bif (a0.m != a1.m) then (some false) else (bif (a0.d != a1.d) then (some false) else (bif (!(a0.c == a1.c)) then (some false) else (some true))))
def laws_eqDate.C : Cal → Option CArm := fun c => match c with
  | _ => none
theorem laws_eqDate.run (a0 : Date) (a1 : Date) : runF envX (tabC laws_eqDate.C) (tabL 25 0 (fun _ => none)) Tryz.f58 [.t .date a0, .t .date a1] (viewR1 (.t .bool)) = laws_eqDate.F a0 a1 := by kernel_rfl
theorem laws_eqDate.G (hE : EnvOk Tryz.prog envX) (pv : Nat → Value) : ∀ cal A, laws_eqDate.C cal = some A → ArmOk Tryz.prog envX pv cal A := by
  intro cal A h
  unfold laws_eqDate.C at h
  cases h
theorem laws_eqDate.good (hE : EnvOk Tryz.prog envX) (pv : Nat → Value) (a0 : Date) (a1 : Date) {y : _} (h : laws_eqDate.F a0 a1 = some y) : Meets Tryz.prog envX pv (.f 58) (tvals [.date, .date] (a0, a1, ())) (.t .bool y) :=
  fun_plain hE (laws_eqDate.G hE pv) (f := 58) (fn := Tryz.f58) (by kernel_rfl) rfl (by kernel_rfl) (by kernel_rfl) ((laws_eqDate.run a0 a1).trans h) fun r hr => wk_view1 hr
/-! ### 28 loop.example/g00896/laws.eqEntry -/
def laws_eqEntry.F (k : Nat) (a0 : Entry) (a1 : Entry) : Option (Bool) := bif (!beqS a0.key a1.key) then (some false) else (bif (a0.kind != a1.kind) then (some false) else ((laws_eqNameS.F k a0.authors a1.authors).bind fun r1 => bif (!r1) then (some false) else ((laws_eqNameS.F k a0.editors a1.editors).bind fun r2 => bif (!r2) then (some false) else (bif (!beqS a0.title a1.title) then (some false) else (bif (!beqS a0.container a1.container) then (some false) else (bif (!beqS a0.publisher a1.publisher) then (some false) else ((laws_eqDate.F a0.date a1.date).bind fun r3 => bif (!r3) then (some false) else (bif (a0.volume != a1.volume) then (some false) else (bif (!beqS a0.pages a1.pages) then (some false) else (bif (!beqS a0.cross a1.cross) then (some false) else (some true)))))))))))
def laws_eqEntry.C (k : Nat) : Cal → Option CArm := fun c => match c with
  | .f 57 => some (.p [(.sl .name), (.sl .name)] _ (fun x => laws_eqNameS.F k x.1 x.2.1) (fun r => (.t .bool r)))
  | .f 58 => some (.p [.date, .date] _ (fun x => laws_eqDate.F x.1 x.2.1) (fun r => (.t .bool r)))
  | _ => none
theorem laws_eqEntry.run (k : Nat) (a0 : Entry) (a1 : Entry) : runF envX (tabC (laws_eqEntry.C k)) (tabL 63 0 (fun _ => none)) Tryz.f28 [.t .entry a0, .t .entry a1] (viewR1 (.t .bool)) = laws_eqEntry.F k a0 a1 := by kernel_rfl
theorem laws_eqEntry.G (hE : EnvOk Tryz.prog envX) (pv : Nat → Value) (k : Nat) : ∀ cal A, laws_eqEntry.C k cal = some A → ArmOk Tryz.prog envX pv cal A := by
  intro cal A h
  unfold laws_eqEntry.C at h
  split at h
  · cases h; exact fun x y hy => laws_eqNameS.good hE pv k x.1 x.2.1 hy
  · cases h; exact fun x y hy => laws_eqDate.good hE pv x.1 x.2.1 hy
  · cases h
theorem laws_eqEntry.good (hE : EnvOk Tryz.prog envX) (pv : Nat → Value) (k : Nat) (a0 : Entry) (a1 : Entry) {y : _} (h : laws_eqEntry.F k a0 a1 = some y) : Meets Tryz.prog envX pv (.f 28) (tvals [.entry, .entry] (a0, a1, ())) (.t .bool y) :=
  fun_plain hE (laws_eqEntry.G hE pv k) (f := 28) (fn := Tryz.f28) (by kernel_rfl) rfl (by kernel_rfl) (by kernel_rfl) ((laws_eqEntry.run k a0 a1).trans h) fun r hr => wk_view1 hr
-- NO 59 loop.example/g00896/laws.markNameS: handed over: t for ('fr', 9, ('str',))
-- NO 29 loop.example/g00896/laws.markEntry: a call of loop.example/g00896/laws.markNameS
/-! ### 68 loop.example/g00896/spec.l1In -/
def spec_l1In.F (a0 : Int) (a1 : Int) (a2 : Int) : Option (Bool) := bif (decide (a0 ≥ a1)) then (some (decide (a0 ≤ a2))) else (some false)
def spec_l1In.C : Cal → Option CArm := fun c => match c with
  | _ => none
theorem spec_l1In.run (a0 : Int) (a1 : Int) (a2 : Int) : runF envX (tabC spec_l1In.C) (tabL 15 0 (fun _ => none)) Tryz.f68 [.t (.int .i64) a0, .t (.int .i64) a1, .t (.int .i64) a2] (viewR1 (.t .bool)) = spec_l1In.F a0 a1 a2 := by kernel_rfl
theorem spec_l1In.G (hE : EnvOk Tryz.prog envX) (pv : Nat → Value) : ∀ cal A, spec_l1In.C cal = some A → ArmOk Tryz.prog envX pv cal A := by
  intro cal A h
  unfold spec_l1In.C at h
  cases h
theorem spec_l1In.good (hE : EnvOk Tryz.prog envX) (pv : Nat → Value) (a0 : Int) (a1 : Int) (a2 : Int) {y : _} (h : spec_l1In.F a0 a1 a2 = some y) : Meets Tryz.prog envX pv (.f 68) (tvals [(.int .i64), (.int .i64), (.int .i64)] (a0, a1, a2, ())) (.t .bool y) :=
  fun_plain hE (spec_l1In.G hE pv) (f := 68) (fn := Tryz.f68) (by kernel_rfl) rfl (by kernel_rfl) (by kernel_rfl) ((spec_l1In.run a0 a1 a2).trans h) fun r hr => wk_view1 hr
/-! ### 94 loop.example/g00896/spec.l2Lower -/
def spec_l2Lower.F (a0 : Int) : Option (Bool) := bif (decide (a0 ≥ 97)) then (some (decide (a0 ≤ 122))) else (some false)
def spec_l2Lower.C : Cal → Option CArm := fun c => match c with
  | _ => none
theorem spec_l2Lower.run (a0 : Int) : runF envX (tabC spec_l2Lower.C) (tabL 9 0 (fun _ => none)) Tryz.f94 [.t (.int .u8) a0] (viewR1 (.t .bool)) = spec_l2Lower.F a0 := by kernel_rfl
theorem spec_l2Lower.G (hE : EnvOk Tryz.prog envX) (pv : Nat → Value) : ∀ cal A, spec_l2Lower.C cal = some A → ArmOk Tryz.prog envX pv cal A := by
  intro cal A h
  unfold spec_l2Lower.C at h
  cases h
theorem spec_l2Lower.good (hE : EnvOk Tryz.prog envX) (pv : Nat → Value) (a0 : Int) {y : _} (h : spec_l2Lower.F a0 = some y) : Meets Tryz.prog envX pv (.f 94) (tvals [(.int .u8)] (a0, ())) (.t .bool y) :=
  fun_plain hE (spec_l2Lower.G hE pv) (f := 94) (fn := Tryz.f94) (by kernel_rfl) rfl (by kernel_rfl) (by kernel_rfl) ((spec_l2Lower.run a0).trans h) fun r hr => wk_view1 hr
/-! ### 67 loop.example/g00896/spec.l4Key -/
def spec_l4Key.l0 : Nat → ByteArray → Int → Option (Sum Bool Unit)
  | 0, _, _ => none
  | k + 1, x0, x3 => bif (decide (x3 < (x0.size : Int))) then (bif decide (0 ≤ x3) then (bif decide (x3 < (x0.size : Int)) then ((spec_l2Lower.F (bt x0 (x3 : Int).toNat)).bind fun r3 => bif (!r3) then (bif decide (0 ≤ x3) then (bif decide (x3 < (x0.size : Int)) then (bif (decide ((bt x0 (x3 : Int).toNat) < 48)) then (some (.inl false)) else (bif decide (0 ≤ x3) then (bif decide (x3 < (x0.size : Int)) then (bif (decide ((bt x0 (x3 : Int).toNat) > 57)) then (some (.inl false)) else (spec_l4Key.l0 k x0 (IntKind.wrap .i64 (x3 + 1)))) else none) else none)) else none) else none) else (spec_l4Key.l0 k x0 (IntKind.wrap .i64 (x3 + 1)))) else none) else none) else (some (.inr ()))
def spec_l4Key.F (k : Nat) (a0 : ByteArray) : Option (Bool) := (spec_l1In.F (a0.size : Int) 1 10).bind fun r1 => bif (!r1) then (some false) else (bif decide (0 ≤ 0) then (bif decide (0 < (a0.size : Int)) then ((spec_l2Lower.F (bt a0 (0 : Int).toNat)).bind fun r2 => bif (!r2) then (some false) else ((spec_l4Key.l0 k a0 0).bind fun y4 => match y4 with | .inl z5 => some z5 | .inr z5 => some true)) else none) else none)
def spec_l4Key.C (k : Nat) : Cal → Option CArm := fun c => match c with
  | .f 68 => some (.p [(.int .i64), (.int .i64), (.int .i64)] _ (fun x => spec_l1In.F x.1 x.2.1 x.2.2.1) (fun r => (.t .bool r)))
  | .f 94 => some (.p [(.int .u8)] _ (fun x => spec_l2Lower.F x.1) (fun r => (.t .bool r)))
  | _ => none
def spec_l4Key.sp0 : List Sp := [.t 0 .str, .t 3 (.int .i64)]
def spec_l4Key.sp0_0 : List Sp := [.t 2 .bool]
def spec_l4Key.sp0_1 : List Sp := []
def spec_l4Key.A0 : LArm := .two spec_l4Key.sp0 spec_l4Key.sp0_0 spec_l4Key.sp0_1 (Bool) (Unit) (fun k x => spec_l4Key.l0 k x.1 x.2.1) .ret (.exit 0) (fun y => (y, ())) (fun x => x.1) (fun y => ()) (fun x => ())
def spec_l4Key.L : Nat → Option LArm := fun b => match b with
  | 0 => some spec_l4Key.A0
  | _ => none
theorem spec_l4Key.run (k : Nat) (a0 : ByteArray) : runF envX (tabC (spec_l4Key.C k)) (tabL 37 k spec_l4Key.L) Tryz.f67 [.t .str a0] (viewR1 (.t .bool)) = spec_l4Key.F k a0 := by kernel_rfl
theorem spec_l4Key.step0 (k : Nat) (x0 : ByteArray) (x3 : Int) : runC envX (tabC (spec_l4Key.C k)) (tabL 37 k spec_l4Key.L) 0 (loopAt Tryz.f67 0) (stOf 37 spec_l4Key.sp0 (x0, x3, ())) (spec_l4Key.A0.cont 37 k) = spec_l4Key.l0 (k + 1) x0 x3 := by kernel_rfl
theorem spec_l4Key.G (hE : EnvOk Tryz.prog envX) (pv : Nat → Value) (k : Nat) : ∀ cal A, spec_l4Key.C k cal = some A → ArmOk Tryz.prog envX pv cal A := by
  intro cal A h
  unfold spec_l4Key.C at h
  split at h
  · cases h; exact fun x y hy => spec_l1In.good hE pv x.1 x.2.1 x.2.2.1 hy
  · cases h; exact fun x y hy => spec_l2Lower.good hE pv x.1 hy
  · cases h
theorem spec_l4Key.good (hE : EnvOk Tryz.prog envX) (pv : Nat → Value) (k : Nat) (a0 : ByteArray) {y : _} (h : spec_l4Key.F k a0 = some y) : Meets Tryz.prog envX pv (.f 67) (tvals [.str] (a0, ())) (.t .bool y) :=
  fun_loops hE (t := spec_l4Key.C) k (fun k _ => spec_l4Key.G hE pv k) (f := 67) (fn := Tryz.f67) (by kernel_rfl) rfl (by kernel_rfl) (by kernel_rfl) (lt := spec_l4Key.L) (by kernel_rfl) (fun b A h => by
    unfold spec_l4Key.L at h; split at h
    · cases h; exact ⟨by kernel_rfl, by kernel_rfl, by kernel_rfl, fun _ => rfl, fun _ => rfl, fun _ => rfl⟩
    · cases h) (fun b A h => by
    unfold spec_l4Key.L at h; split at h
    · cases h; exact fun k x => spec_l4Key.step0 k x.1 x.2.1
    · cases h) ((spec_l4Key.run k a0).trans h) fun r hr => wk_view1 hr
/-! ### 113 loop.example/g00896/spec.l2Upper -/
def spec_l2Upper.F (a0 : Int) : Option (Bool) := bif (decide (a0 ≥ 65)) then (some (decide (a0 ≤ 90))) else (some false)
def spec_l2Upper.C : Cal → Option CArm := fun c => match c with
  | _ => none
theorem spec_l2Upper.run (a0 : Int) : runF envX (tabC spec_l2Upper.C) (tabL 9 0 (fun _ => none)) Tryz.f113 [.t (.int .u8) a0] (viewR1 (.t .bool)) = spec_l2Upper.F a0 := by kernel_rfl
theorem spec_l2Upper.G (hE : EnvOk Tryz.prog envX) (pv : Nat → Value) : ∀ cal A, spec_l2Upper.C cal = some A → ArmOk Tryz.prog envX pv cal A := by
  intro cal A h
  unfold spec_l2Upper.C at h
  cases h
theorem spec_l2Upper.good (hE : EnvOk Tryz.prog envX) (pv : Nat → Value) (a0 : Int) {y : _} (h : spec_l2Upper.F a0 = some y) : Meets Tryz.prog envX pv (.f 113) (tvals [(.int .u8)] (a0, ())) (.t .bool y) :=
  fun_plain hE (spec_l2Upper.G hE pv) (f := 113) (fn := Tryz.f113) (by kernel_rfl) rfl (by kernel_rfl) (by kernel_rfl) ((spec_l2Upper.run a0).trans h) fun r hr => wk_view1 hr
/-! ### 129 loop.example/g00896/spec.l2Letter -/
def spec_l2Letter.F (a0 : Int) : Option (Bool) := (spec_l2Upper.F a0).bind fun r1 => bif r1 then (some true) else ((spec_l2Lower.F a0).bind fun r2 => some r2)
def spec_l2Letter.C : Cal → Option CArm := fun c => match c with
  | .f 113 => some (.p [(.int .u8)] _ (fun x => spec_l2Upper.F x.1) (fun r => (.t .bool r)))
  | .f 94 => some (.p [(.int .u8)] _ (fun x => spec_l2Lower.F x.1) (fun r => (.t .bool r)))
  | _ => none
theorem spec_l2Letter.run (a0 : Int) : runF envX (tabC spec_l2Letter.C) (tabL 9 0 (fun _ => none)) Tryz.f129 [.t (.int .u8) a0] (viewR1 (.t .bool)) = spec_l2Letter.F a0 := by kernel_rfl
theorem spec_l2Letter.G (hE : EnvOk Tryz.prog envX) (pv : Nat → Value) : ∀ cal A, spec_l2Letter.C cal = some A → ArmOk Tryz.prog envX pv cal A := by
  intro cal A h
  unfold spec_l2Letter.C at h
  split at h
  · cases h; exact fun x y hy => spec_l2Upper.good hE pv x.1 hy
  · cases h; exact fun x y hy => spec_l2Lower.good hE pv x.1 hy
  · cases h
theorem spec_l2Letter.good (hE : EnvOk Tryz.prog envX) (pv : Nat → Value) (a0 : Int) {y : _} (h : spec_l2Letter.F a0 = some y) : Meets Tryz.prog envX pv (.f 129) (tvals [(.int .u8)] (a0, ())) (.t .bool y) :=
  fun_plain hE (spec_l2Letter.G hE pv) (f := 129) (fn := Tryz.f129) (by kernel_rfl) rfl (by kernel_rfl) (by kernel_rfl) ((spec_l2Letter.run a0).trans h) fun r hr => wk_view1 hr
/-! ### 112 loop.example/g00896/spec.l2Word -/
def spec_l2Word.l0 : Nat → ByteArray → Int → Option (Sum Bool Unit)
  | 0, _, _ => none
  | k + 1, x0, x3 => bif (decide (x3 < (x0.size : Int))) then (bif decide (0 ≤ x3) then (bif decide (x3 < (x0.size : Int)) then ((spec_l2Letter.F (bt x0 (x3 : Int).toNat)).bind fun r4 => bif (!r4) then (bif decide (0 ≤ x3) then (bif decide (x3 < (x0.size : Int)) then (bif ((bt x0 (x3 : Int).toNat) != 45) then (bif decide (0 ≤ x3) then (bif decide (x3 < (x0.size : Int)) then (bif ((bt x0 (x3 : Int).toNat) != 39) then (some (.inl false)) else (bif decide (0 ≤ (IntKind.wrap .i64 (x3 - 1))) then (bif decide ((IntKind.wrap .i64 (x3 - 1)) < (x0.size : Int)) then ((spec_l2Letter.F (bt x0 ((IntKind.wrap .i64 (x3 - 1)) : Int).toNat)).bind fun r5 => bif (!r5) then (some (.inl false)) else (spec_l2Word.l0 k x0 (IntKind.wrap .i64 (x3 + 1)))) else none) else none)) else none) else none) else (bif decide (0 ≤ (IntKind.wrap .i64 (x3 - 1))) then (bif decide ((IntKind.wrap .i64 (x3 - 1)) < (x0.size : Int)) then ((spec_l2Letter.F (bt x0 ((IntKind.wrap .i64 (x3 - 1)) : Int).toNat)).bind fun r6 => bif (!r6) then (some (.inl false)) else (spec_l2Word.l0 k x0 (IntKind.wrap .i64 (x3 + 1)))) else none) else none)) else none) else none) else (spec_l2Word.l0 k x0 (IntKind.wrap .i64 (x3 + 1)))) else none) else none) else (some (.inr ()))
def spec_l2Word.F (k : Nat) (a0 : ByteArray) : Option (Bool) := (spec_l1In.F (a0.size : Int) 1 12).bind fun r1 => bif (!r1) then (some false) else (bif decide (0 ≤ 0) then (bif decide (0 < (a0.size : Int)) then ((spec_l2Letter.F (bt a0 (0 : Int).toNat)).bind fun r2 => bif (!r2) then (some false) else (bif decide (0 ≤ (IntKind.wrap .i64 ((a0.size : Int) - 1))) then (bif decide ((IntKind.wrap .i64 ((a0.size : Int) - 1)) < (a0.size : Int)) then ((spec_l2Letter.F (bt a0 ((IntKind.wrap .i64 ((a0.size : Int) - 1)) : Int).toNat)).bind fun r3 => bif (!r3) then (some false) else ((spec_l2Word.l0 k a0 1).bind fun y7 => match y7 with | .inl z8 => some z8 | .inr z8 => some true)) else none) else none)) else none) else none)
def spec_l2Word.C (k : Nat) : Cal → Option CArm := fun c => match c with
  | .f 68 => some (.p [(.int .i64), (.int .i64), (.int .i64)] _ (fun x => spec_l1In.F x.1 x.2.1 x.2.2.1) (fun r => (.t .bool r)))
  | .f 129 => some (.p [(.int .u8)] _ (fun x => spec_l2Letter.F x.1) (fun r => (.t .bool r)))
  | _ => none
def spec_l2Word.sp0 : List Sp := [.t 0 .str, .t 3 (.int .i64)]
def spec_l2Word.sp0_0 : List Sp := [.t 2 .bool]
def spec_l2Word.sp0_1 : List Sp := []
def spec_l2Word.A0 : LArm := .two spec_l2Word.sp0 spec_l2Word.sp0_0 spec_l2Word.sp0_1 (Bool) (Unit) (fun k x => spec_l2Word.l0 k x.1 x.2.1) .ret (.exit 0) (fun y => (y, ())) (fun x => x.1) (fun y => ()) (fun x => ())
def spec_l2Word.L : Nat → Option LArm := fun b => match b with
  | 0 => some spec_l2Word.A0
  | _ => none
theorem spec_l2Word.run (k : Nat) (a0 : ByteArray) : runF envX (tabC (spec_l2Word.C k)) (tabL 54 k spec_l2Word.L) Tryz.f112 [.t .str a0] (viewR1 (.t .bool)) = spec_l2Word.F k a0 := by kernel_rfl
theorem spec_l2Word.step0 (k : Nat) (x0 : ByteArray) (x3 : Int) : runC envX (tabC (spec_l2Word.C k)) (tabL 54 k spec_l2Word.L) 0 (loopAt Tryz.f112 0) (stOf 54 spec_l2Word.sp0 (x0, x3, ())) (spec_l2Word.A0.cont 54 k) = spec_l2Word.l0 (k + 1) x0 x3 := by kernel_rfl
theorem spec_l2Word.G (hE : EnvOk Tryz.prog envX) (pv : Nat → Value) (k : Nat) : ∀ cal A, spec_l2Word.C k cal = some A → ArmOk Tryz.prog envX pv cal A := by
  intro cal A h
  unfold spec_l2Word.C at h
  split at h
  · cases h; exact fun x y hy => spec_l1In.good hE pv x.1 x.2.1 x.2.2.1 hy
  · cases h; exact fun x y hy => spec_l2Letter.good hE pv x.1 hy
  · cases h
theorem spec_l2Word.good (hE : EnvOk Tryz.prog envX) (pv : Nat → Value) (k : Nat) (a0 : ByteArray) {y : _} (h : spec_l2Word.F k a0 = some y) : Meets Tryz.prog envX pv (.f 112) (tvals [.str] (a0, ())) (.t .bool y) :=
  fun_loops hE (t := spec_l2Word.C) k (fun k _ => spec_l2Word.G hE pv k) (f := 112) (fn := Tryz.f112) (by kernel_rfl) rfl (by kernel_rfl) (by kernel_rfl) (lt := spec_l2Word.L) (by kernel_rfl) (fun b A h => by
    unfold spec_l2Word.L at h; split at h
    · cases h; exact ⟨by kernel_rfl, by kernel_rfl, by kernel_rfl, fun _ => rfl, fun _ => rfl, fun _ => rfl⟩
    · cases h) (fun b A h => by
    unfold spec_l2Word.L at h; split at h
    · cases h; exact fun k x => spec_l2Word.step0 k x.1 x.2.1
    · cases h) ((spec_l2Word.run k a0).trans h) fun r hr => wk_view1 hr
/-! ### 130 loop.example/g00896/spec.l1Split -/
def spec_l1Split.l0 : Nat → ByteArray → Int → (List ByteArray) → Int → Int → Option (ByteArray × (List ByteArray) × Int)
  | 0, _, _, _, _, _ => none
  | k + 1, x0, x1, x5, x6, x7 => bif (decide (x7 < (x0.size : Int))) then (bif decide (0 ≤ x7) then (bif decide (x7 < (x0.size : Int)) then (bif ((bt x0 (x7 : Int).toNat) == x1) then (bif decide (0 ≤ x7) then (bif decide (x7 ≤ (x0.size : Int)) then (bif decide (0 ≤ x6) then (bif decide (x6 ≤ x7) then (bif room (x5.length + ([(x0.extract (x6 : Int).toNat (x7 : Int).toNat)] : List ByteArray).length) .str then (spec_l1Split.l0 k x0 x1 (x5 ++ ([(x0.extract (x6 : Int).toNat (x7 : Int).toNat)] : List ByteArray)) (IntKind.wrap .i64 (x7 + 1)) (IntKind.wrap .i64 (x7 + 1))) else none) else none) else none) else none) else none) else (spec_l1Split.l0 k x0 x1 x5 x6 (IntKind.wrap .i64 (x7 + 1)))) else none) else none) else (some (x0, x5, x6))
def spec_l1Split.F (k : Nat) (a0 : ByteArray) (a1 : Int) : Option (List ByteArray) := (spec_l1Split.l0 k a0 a1 ([] : List ByteArray) 0 0).bind fun y1 => bif decide (0 ≤ y1.2.2) then (bif decide (y1.2.2 ≤ (y1.1.size : Int)) then (bif room (y1.2.1.length + ([(y1.1.extract (y1.2.2 : Int).toNat y1.1.size)] : List ByteArray).length) .str then (some (y1.2.1 ++ ([(y1.1.extract (y1.2.2 : Int).toNat y1.1.size)] : List ByteArray))) else none) else none) else none
def spec_l1Split.C (k : Nat) : Cal → Option CArm := fun c => match c with
  | _ => none
def spec_l1Split.sp0 : List Sp := [.t 0 .str, .t 1 (.int .u8), .own 5 1024 9 .str false true, .t 6 (.int .i64), .t 7 (.int .i64)]
def spec_l1Split.sp0_0 : List Sp := [.t 0 .str, .own 5 1024 9 .str false true, .t 6 (.int .i64)]
def spec_l1Split.A0 : LArm := .one spec_l1Split.sp0 spec_l1Split.sp0_0 (ByteArray × (List ByteArray) × Int) (fun k x => spec_l1Split.l0 k x.1 x.2.1 x.2.2.1 x.2.2.2.1 x.2.2.2.2.1) (.exit 0) (fun y => (y.1, y.2.1, y.2.2, ())) (fun x => (x.1, x.2.1, x.2.2.1))
def spec_l1Split.L : Nat → Option LArm := fun b => match b with
  | 0 => some spec_l1Split.A0
  | _ => none
theorem spec_l1Split.run (k : Nat) (a0 : ByteArray) (a1 : Int) : runF envX (tabC (spec_l1Split.C k)) (tabL 35 k spec_l1Split.L) Tryz.f130 [.t .str a0, .t (.int .u8) a1] (viewR1 (.fr 9 .str)) = spec_l1Split.F k a0 a1 := by kernel_rfl
theorem spec_l1Split.step0 (k : Nat) (x0 : ByteArray) (x1 : Int) (x5 : List ByteArray) (x6 : Int) (x7 : Int) : runC envX (tabC (spec_l1Split.C k)) (tabL 35 k spec_l1Split.L) 0 (loopAt Tryz.f130 0) (stOf 35 spec_l1Split.sp0 (x0, x1, x5, x6, x7, ())) (spec_l1Split.A0.cont 35 k) = spec_l1Split.l0 (k + 1) x0 x1 x5 x6 x7 := by kernel_rfl
theorem spec_l1Split.G (hE : EnvOk Tryz.prog envX) (pv : Nat → Value) (k : Nat) : ∀ cal A, spec_l1Split.C k cal = some A → ArmOk Tryz.prog envX pv cal A := by
  intro cal A h
  unfold spec_l1Split.C at h
  cases h
theorem spec_l1Split.good (hE : EnvOk Tryz.prog envX) (pv : Nat → Value) (k : Nat) (a0 : ByteArray) (a1 : Int) {y : _} (h : spec_l1Split.F k a0 a1 = some y) : Meets Tryz.prog envX pv (.f 130) (tvals [.str, (.int .u8)] (a0, a1, ())) (.fr 9 .str y) :=
  fun_loops hE (t := spec_l1Split.C) k (fun k _ => spec_l1Split.G hE pv k) (f := 130) (fn := Tryz.f130) (by kernel_rfl) rfl (by kernel_rfl) (by kernel_rfl) (lt := spec_l1Split.L) (by kernel_rfl) (fun b A h => by
    unfold spec_l1Split.L at h; split at h
    · cases h; exact ⟨by kernel_rfl, by kernel_rfl, fun _ => rfl, fun _ => rfl⟩
    · cases h) (fun b A h => by
    unfold spec_l1Split.L at h; split at h
    · cases h; exact fun k x => spec_l1Split.step0 k x.1 x.2.1 x.2.2.1 x.2.2.2.1 x.2.2.2.2.1
    · cases h) ((spec_l1Split.run k a0 a1).trans h) fun r hr => wk_view1 hr
/-! ### 114 loop.example/g00896/spec.l2Particle -/
def spec_l2Particle.l2 : Nat → (List ByteArray) → Int → Int → Option (Sum Bool ((List ByteArray) × Int))
  | 0, _, _, _ => none
  | k + 1, x3, x4, x5 => bif decide (0 ≤ x4) then (bif decide (x4 < (x3.length : Int)) then (bif (decide (x5 < ((x3.getD ((x4 : Int).toNat) (⟨#[]⟩ : ByteArray)).size : Int))) then (bif decide (0 ≤ x4) then (bif decide (x4 < (x3.length : Int)) then (bif decide (0 ≤ x5) then (bif decide (x5 < ((x3.getD ((x4 : Int).toNat) (⟨#[]⟩ : ByteArray)).size : Int)) then ((spec_l2Lower.F (bt (x3.getD ((x4 : Int).toNat) (⟨#[]⟩ : ByteArray)) (x5 : Int).toNat)).bind fun r3 => bif (!r3) then (some (.inl false)) else (spec_l2Particle.l2 k x3 x4 (IntKind.wrap .i64 (x5 + 1)))) else none) else none) else none) else none) else (some (.inr (x3, x4)))) else none) else none
def spec_l2Particle.l0 : Nat → (List ByteArray) → Int → Option (Sum Bool (List ByteArray))
  | 0, _, _ => none
  | k + 1, x3, x4 => bif (decide (x4 < (x3.length : Int))) then (bif decide (0 ≤ x4) then (bif decide (x4 < (x3.length : Int)) then ((spec_l2Word.F k (x3.getD ((x4 : Int).toNat) (⟨#[]⟩ : ByteArray))).bind fun r2 => bif (!r2) then (some (.inl false)) else ((spec_l2Particle.l2 k x3 x4 0).bind fun y4 => match y4 with | .inl z5 => some (.inl z5) | .inr z5 => spec_l2Particle.l0 k z5.1 (IntKind.wrap .i64 (z5.2 + 1)))) else none) else none) else (some (.inr x3))
def spec_l2Particle.F (k : Nat) (a0 : ByteArray) : Option (Bool) := bif (beqS a0 (⟨#[]⟩ : ByteArray)) then (some true) else ((spec_l1Split.F k a0 32).bind fun r1 => (spec_l2Particle.l0 k r1 0).bind fun y6 => match y6 with | .inl z7 => some z7 | .inr z7 => some (decide ((z7.length : Int) ≤ 2)))
def spec_l2Particle.C (k : Nat) : Cal → Option CArm := fun c => match c with
  | .f 130 => some (.p [.str, (.int .u8)] _ (fun x => spec_l1Split.F k x.1 x.2.1) (fun r => (.fr 9 .str r)))
  | .f 112 => some (.p [.str] _ (fun x => spec_l2Word.F k x.1) (fun r => (.t .bool r)))
  | .f 94 => some (.p [(.int .u8)] _ (fun x => spec_l2Lower.F x.1) (fun r => (.t .bool r)))
  | _ => none
def spec_l2Particle.sp2 : List Sp := [.own 3 3076 9 .str false true, .t 4 (.int .i64), .t 5 (.int .i64)]
def spec_l2Particle.sp2_0 : List Sp := [.t 2 .bool]
def spec_l2Particle.sp2_1 : List Sp := [.own 3 3076 9 .str false true, .t 4 (.int .i64)]
def spec_l2Particle.A2 : LArm := .two spec_l2Particle.sp2 spec_l2Particle.sp2_0 spec_l2Particle.sp2_1 (Bool) ((List ByteArray) × Int) (fun k x => spec_l2Particle.l2 k x.1 x.2.1 x.2.2.1) .ret (.exit 2) (fun y => (y, ())) (fun x => x.1) (fun y => (y.1, y.2, ())) (fun x => (x.1, x.2.1))
def spec_l2Particle.sp0 : List Sp := [.own 3 3076 9 .str false true, .t 4 (.int .i64)]
def spec_l2Particle.sp0_0 : List Sp := [.t 2 .bool]
def spec_l2Particle.sp0_1 : List Sp := [.own 3 3076 9 .str false true]
def spec_l2Particle.A0 : LArm := .two spec_l2Particle.sp0 spec_l2Particle.sp0_0 spec_l2Particle.sp0_1 (Bool) ((List ByteArray)) (fun k x => spec_l2Particle.l0 k x.1 x.2.1) .ret (.exit 0) (fun y => (y, ())) (fun x => x.1) (fun y => (y, ())) (fun x => x.1)
def spec_l2Particle.L : Nat → Option LArm := fun b => match b with
  | 2 => some spec_l2Particle.A2
  | 0 => some spec_l2Particle.A0
  | _ => none
theorem spec_l2Particle.run (k : Nat) (a0 : ByteArray) : runF envX (tabC (spec_l2Particle.C k)) (tabL 42 k spec_l2Particle.L) Tryz.f114 [.t .str a0] (viewR1 (.t .bool)) = spec_l2Particle.F k a0 := by kernel_rfl
theorem spec_l2Particle.step2 (k : Nat) (x3 : List ByteArray) (x4 : Int) (x5 : Int) : runC envX (tabC (spec_l2Particle.C k)) (tabL 42 k spec_l2Particle.L) 2 (loopAt Tryz.f114 2) (stOf 42 spec_l2Particle.sp2 (x3, x4, x5, ())) (spec_l2Particle.A2.cont 42 k) = spec_l2Particle.l2 (k + 1) x3 x4 x5 := by kernel_rfl
theorem spec_l2Particle.step0 (k : Nat) (x3 : List ByteArray) (x4 : Int) : runC envX (tabC (spec_l2Particle.C k)) (tabL 42 k spec_l2Particle.L) 0 (loopAt Tryz.f114 0) (stOf 42 spec_l2Particle.sp0 (x3, x4, ())) (spec_l2Particle.A0.cont 42 k) = spec_l2Particle.l0 (k + 1) x3 x4 := by kernel_rfl
theorem spec_l2Particle.G (hE : EnvOk Tryz.prog envX) (pv : Nat → Value) (k : Nat) : ∀ cal A, spec_l2Particle.C k cal = some A → ArmOk Tryz.prog envX pv cal A := by
  intro cal A h
  unfold spec_l2Particle.C at h
  split at h
  · cases h; exact fun x y hy => spec_l1Split.good hE pv k x.1 x.2.1 hy
  · cases h; exact fun x y hy => spec_l2Word.good hE pv k x.1 hy
  · cases h; exact fun x y hy => spec_l2Lower.good hE pv x.1 hy
  · cases h
theorem spec_l2Particle.good (hE : EnvOk Tryz.prog envX) (pv : Nat → Value) (k : Nat) (a0 : ByteArray) {y : _} (h : spec_l2Particle.F k a0 = some y) : Meets Tryz.prog envX pv (.f 114) (tvals [.str] (a0, ())) (.t .bool y) :=
  fun_loops hE (t := spec_l2Particle.C) k (fun k _ => spec_l2Particle.G hE pv k) (f := 114) (fn := Tryz.f114) (by kernel_rfl) rfl (by kernel_rfl) (by kernel_rfl) (lt := spec_l2Particle.L) (by kernel_rfl) (fun b A h => by
    unfold spec_l2Particle.L at h; split at h
    · cases h; exact ⟨by kernel_rfl, by kernel_rfl, by kernel_rfl, fun _ => rfl, fun _ => rfl, fun _ => rfl⟩
    · cases h; exact ⟨by kernel_rfl, by kernel_rfl, by kernel_rfl, fun _ => rfl, fun _ => rfl, fun _ => rfl⟩
    · cases h) (fun b A h => by
    unfold spec_l2Particle.L at h; split at h
    · cases h; exact fun k x => spec_l2Particle.step2 k x.1 x.2.1 x.2.2.1
    · cases h; exact fun k x => spec_l2Particle.step0 k x.1 x.2.1
    · cases h) ((spec_l2Particle.run k a0).trans h) fun r hr => wk_view1 hr
/-! ### 95 loop.example/g00896/spec.l2Good -/
def spec_l2Good.l0 : Nat → Name → Int → Option (Sum Bool Name)
  | 0, _, _ => none
  | k + 1, x1, x3 => bif (decide (x3 < (x1.given.length : Int))) then (bif decide (0 ≤ x3) then (bif decide (x3 < (x1.given.length : Int)) then ((spec_l2Word.F k (x1.given.getD (x3 : Int).toNat (⟨#[]⟩ : ByteArray))).bind fun r1 => bif (!r1) then (some (.inl false)) else (bif decide (0 ≤ x3) then (bif decide (x3 < (x1.given.length : Int)) then (bif decide (0 ≤ 0) then (bif decide (0 < ((x1.given.getD (x3 : Int).toNat (⟨#[]⟩ : ByteArray)).size : Int)) then ((spec_l2Upper.F (bt (x1.given.getD (x3 : Int).toNat (⟨#[]⟩ : ByteArray)) (0 : Int).toNat)).bind fun r2 => bif (!r2) then (some (.inl false)) else (spec_l2Good.l0 k x1 (IntKind.wrap .i64 (x3 + 1)))) else none) else none) else none) else none)) else none) else none) else (some (.inr x1))
def spec_l2Good.F (k : Nat) (a0 : Name) : Option (Bool) := (spec_l2Good.l0 k a0 0).bind fun y3 => match y3 with | .inl z4 => some z4 | .inr z4 => bif (decide ((z4.given.length : Int) ≤ 3)) then ((spec_l2Particle.F k z4.particle).bind fun r5 => bif r5 then ((spec_l2Word.F k z4.family).bind fun r6 => bif r6 then (bif decide (0 ≤ 0) then (bif decide (0 < (z4.family.size : Int)) then ((spec_l2Upper.F (bt z4.family (0 : Int).toNat)).bind fun r7 => bif r7 then (bif (beqS z4.suffix (⟨#[]⟩ : ByteArray)) then (some true) else ((spec_l2Word.F k z4.suffix).bind fun r8 => some r8)) else (some false)) else none) else none) else (some false)) else (some false)) else (some false)
def spec_l2Good.C (k : Nat) : Cal → Option CArm := fun c => match c with
  | .f 112 => some (.p [.str] _ (fun x => spec_l2Word.F k x.1) (fun r => (.t .bool r)))
  | .f 113 => some (.p [(.int .u8)] _ (fun x => spec_l2Upper.F x.1) (fun r => (.t .bool r)))
  | .f 114 => some (.p [.str] _ (fun x => spec_l2Particle.F k x.1) (fun r => (.t .bool r)))
  | _ => none
def spec_l2Good.sp0 : List Sp := [.boxT 1 0 .name, .t 3 (.int .i64)]
def spec_l2Good.sp0_0 : List Sp := [.t 2 .bool]
def spec_l2Good.sp0_1 : List Sp := [.boxT 1 0 .name]
def spec_l2Good.A0 : LArm := .two spec_l2Good.sp0 spec_l2Good.sp0_0 spec_l2Good.sp0_1 (Bool) (Name) (fun k x => spec_l2Good.l0 k x.1 x.2.1) .ret (.exit 0) (fun y => (y, ())) (fun x => x.1) (fun y => (y, ())) (fun x => x.1)
def spec_l2Good.L : Nat → Option LArm := fun b => match b with
  | 0 => some spec_l2Good.A0
  | _ => none
theorem spec_l2Good.run (k : Nat) (a0 : Name) : runF envX (tabC (spec_l2Good.C k)) (tabL 58 k spec_l2Good.L) Tryz.f95 [.t .name a0] (viewR1 (.t .bool)) = spec_l2Good.F k a0 := by kernel_rfl
theorem spec_l2Good.step0 (k : Nat) (x1 : Name) (x3 : Int) : runC envX (tabC (spec_l2Good.C k)) (tabL 58 k spec_l2Good.L) 0 (loopAt Tryz.f95 0) (stOf 58 spec_l2Good.sp0 (x1, x3, ())) (spec_l2Good.A0.cont 58 k) = spec_l2Good.l0 (k + 1) x1 x3 := by kernel_rfl
theorem spec_l2Good.G (hE : EnvOk Tryz.prog envX) (pv : Nat → Value) (k : Nat) : ∀ cal A, spec_l2Good.C k cal = some A → ArmOk Tryz.prog envX pv cal A := by
  intro cal A h
  unfold spec_l2Good.C at h
  split at h
  · cases h; exact fun x y hy => spec_l2Word.good hE pv k x.1 hy
  · cases h; exact fun x y hy => spec_l2Upper.good hE pv x.1 hy
  · cases h; exact fun x y hy => spec_l2Particle.good hE pv k x.1 hy
  · cases h
theorem spec_l2Good.good (hE : EnvOk Tryz.prog envX) (pv : Nat → Value) (k : Nat) (a0 : Name) {y : _} (h : spec_l2Good.F k a0 = some y) : Meets Tryz.prog envX pv (.f 95) (tvals [.name] (a0, ())) (.t .bool y) :=
  fun_loops hE (t := spec_l2Good.C) k (fun k _ => spec_l2Good.G hE pv k) (f := 95) (fn := Tryz.f95) (by kernel_rfl) rfl (by kernel_rfl) (by kernel_rfl) (lt := spec_l2Good.L) (by kernel_rfl) (fun b A h => by
    unfold spec_l2Good.L at h; split at h
    · cases h; exact ⟨by kernel_rfl, by kernel_rfl, by kernel_rfl, fun _ => rfl, fun _ => rfl, fun _ => rfl⟩
    · cases h) (fun b A h => by
    unfold spec_l2Good.L at h; split at h
    · cases h; exact fun k x => spec_l2Good.step0 k x.1 x.2.1
    · cases h) ((spec_l2Good.run k a0).trans h) fun r hr => wk_view1 hr
/-! ### 69 loop.example/g00896/spec.l2List -/
def spec_l2List.l0 : Nat → (List Name) → Int → Option (Sum Bool (List Name))
  | 0, _, _ => none
  | k + 1, x0, x3 => bif (decide (x3 < (x0.length : Int))) then (bif (decide (x3 ≤ 4)) then (bif decide (0 ≤ x3) then (bif decide (x3 < (x0.length : Int)) then ((spec_l2Good.F k (x0.getD (x3 : Int).toNat (dflt .name))).bind fun r1 => bif (!r1) then (some (.inl false)) else (spec_l2List.l0 k x0 (IntKind.wrap .i64 (x3 + 1)))) else none) else none) else (some (.inr x0))) else (some (.inr x0))
def spec_l2List.F (k : Nat) (a0 : List Name) : Option (Bool) := (spec_l2List.l0 k a0 0).bind fun y2 => match y2 with | .inl z3 => some z3 | .inr z3 => some (decide ((z3.length : Int) ≤ 4))
def spec_l2List.C (k : Nat) : Cal → Option CArm := fun c => match c with
  | .f 95 => some (.p [.name] _ (fun x => spec_l2Good.F k x.1) (fun r => (.t .bool r)))
  | _ => none
def spec_l2List.sp0 : List Sp := [.t 0 (.sl .name), .t 3 (.int .i64)]
def spec_l2List.sp0_0 : List Sp := [.t 2 .bool]
def spec_l2List.sp0_1 : List Sp := [.t 0 (.sl .name)]
def spec_l2List.A0 : LArm := .two spec_l2List.sp0 spec_l2List.sp0_0 spec_l2List.sp0_1 (Bool) ((List Name)) (fun k x => spec_l2List.l0 k x.1 x.2.1) .ret (.exit 0) (fun y => (y, ())) (fun x => x.1) (fun y => (y, ())) (fun x => x.1)
def spec_l2List.L : Nat → Option LArm := fun b => match b with
  | 0 => some spec_l2List.A0
  | _ => none
theorem spec_l2List.run (k : Nat) (a0 : List Name) : runF envX (tabC (spec_l2List.C k)) (tabL 23 k spec_l2List.L) Tryz.f69 [.t (.sl .name) a0] (viewR1 (.t .bool)) = spec_l2List.F k a0 := by kernel_rfl
theorem spec_l2List.step0 (k : Nat) (x0 : List Name) (x3 : Int) : runC envX (tabC (spec_l2List.C k)) (tabL 23 k spec_l2List.L) 0 (loopAt Tryz.f69 0) (stOf 23 spec_l2List.sp0 (x0, x3, ())) (spec_l2List.A0.cont 23 k) = spec_l2List.l0 (k + 1) x0 x3 := by kernel_rfl
theorem spec_l2List.G (hE : EnvOk Tryz.prog envX) (pv : Nat → Value) (k : Nat) : ∀ cal A, spec_l2List.C k cal = some A → ArmOk Tryz.prog envX pv cal A := by
  intro cal A h
  unfold spec_l2List.C at h
  split at h
  · cases h; exact fun x y hy => spec_l2Good.good hE pv k x.1 hy
  · cases h
theorem spec_l2List.good (hE : EnvOk Tryz.prog envX) (pv : Nat → Value) (k : Nat) (a0 : List Name) {y : _} (h : spec_l2List.F k a0 = some y) : Meets Tryz.prog envX pv (.f 69) (tvals [(.sl .name)] (a0, ())) (.t .bool y) :=
  fun_loops hE (t := spec_l2List.C) k (fun k _ => spec_l2List.G hE pv k) (f := 69) (fn := Tryz.f69) (by kernel_rfl) rfl (by kernel_rfl) (by kernel_rfl) (lt := spec_l2List.L) (by kernel_rfl) (fun b A h => by
    unfold spec_l2List.L at h; split at h
    · cases h; exact ⟨by kernel_rfl, by kernel_rfl, by kernel_rfl, fun _ => rfl, fun _ => rfl, fun _ => rfl⟩
    · cases h) (fun b A h => by
    unfold spec_l2List.L at h; split at h
    · cases h; exact fun k x => spec_l2List.step0 k x.1 x.2.1
    · cases h) ((spec_l2List.run k a0).trans h) fun r hr => wk_view1 hr
/-! ### 70 loop.example/g00896/spec.l4Text -/
def spec_l4Text.l0 : Nat → ByteArray → Int → Option (Sum Bool ByteArray)
  | 0, _, _ => none
  | k + 1, x0, x3 => bif (decide (x3 < (x0.size : Int))) then (bif decide (0 ≤ x3) then (bif decide (x3 < (x0.size : Int)) then (bif (decide ((bt x0 (x3 : Int).toNat) < 32)) then (some (.inl false)) else (bif decide (0 ≤ x3) then (bif decide (x3 < (x0.size : Int)) then (bif (decide ((bt x0 (x3 : Int).toNat) > 126)) then (some (.inl false)) else (spec_l4Text.l0 k x0 (IntKind.wrap .i64 (x3 + 1)))) else none) else none)) else none) else none) else (some (.inr x0))
def spec_l4Text.F (k : Nat) (a0 : ByteArray) : Option (Bool) := bif (decide ((a0.size : Int) > 40)) then (some false) else ((spec_l4Text.l0 k a0 0).bind fun y1 => match y1 with | .inl z2 => some z2 | .inr z2 => bif (beqS z2 (⟨#[]⟩ : ByteArray)) then (some true) else (bif decide (0 ≤ 0) then (bif decide (0 < (z2.size : Int)) then (bif ((bt z2 (0 : Int).toNat) != 32) then (bif decide (0 ≤ (IntKind.wrap .i64 ((z2.size : Int) - 1))) then (bif decide ((IntKind.wrap .i64 ((z2.size : Int) - 1)) < (z2.size : Int)) then (some ((bt z2 ((IntKind.wrap .i64 ((z2.size : Int) - 1)) : Int).toNat) != 32)) else none) else none) else (some false)) else none) else none))
def spec_l4Text.C (k : Nat) : Cal → Option CArm := fun c => match c with
  | _ => none
def spec_l4Text.sp0 : List Sp := [.t 0 .str, .t 3 (.int .i64)]
def spec_l4Text.sp0_0 : List Sp := [.t 2 .bool]
def spec_l4Text.sp0_1 : List Sp := [.t 0 .str]
def spec_l4Text.A0 : LArm := .two spec_l4Text.sp0 spec_l4Text.sp0_0 spec_l4Text.sp0_1 (Bool) (ByteArray) (fun k x => spec_l4Text.l0 k x.1 x.2.1) .ret (.exit 0) (fun y => (y, ())) (fun x => x.1) (fun y => (y, ())) (fun x => x.1)
def spec_l4Text.L : Nat → Option LArm := fun b => match b with
  | 0 => some spec_l4Text.A0
  | _ => none
theorem spec_l4Text.run (k : Nat) (a0 : ByteArray) : runF envX (tabC (spec_l4Text.C k)) (tabL 38 k spec_l4Text.L) Tryz.f70 [.t .str a0] (viewR1 (.t .bool)) = spec_l4Text.F k a0 := by kernel_rfl
theorem spec_l4Text.step0 (k : Nat) (x0 : ByteArray) (x3 : Int) : runC envX (tabC (spec_l4Text.C k)) (tabL 38 k spec_l4Text.L) 0 (loopAt Tryz.f70 0) (stOf 38 spec_l4Text.sp0 (x0, x3, ())) (spec_l4Text.A0.cont 38 k) = spec_l4Text.l0 (k + 1) x0 x3 := by kernel_rfl
theorem spec_l4Text.G (hE : EnvOk Tryz.prog envX) (pv : Nat → Value) (k : Nat) : ∀ cal A, spec_l4Text.C k cal = some A → ArmOk Tryz.prog envX pv cal A := by
  intro cal A h
  unfold spec_l4Text.C at h
  cases h
theorem spec_l4Text.good (hE : EnvOk Tryz.prog envX) (pv : Nat → Value) (k : Nat) (a0 : ByteArray) {y : _} (h : spec_l4Text.F k a0 = some y) : Meets Tryz.prog envX pv (.f 70) (tvals [.str] (a0, ())) (.t .bool y) :=
  fun_loops hE (t := spec_l4Text.C) k (fun k _ => spec_l4Text.G hE pv k) (f := 70) (fn := Tryz.f70) (by kernel_rfl) rfl (by kernel_rfl) (by kernel_rfl) (lt := spec_l4Text.L) (by kernel_rfl) (fun b A h => by
    unfold spec_l4Text.L at h; split at h
    · cases h; exact ⟨by kernel_rfl, by kernel_rfl, by kernel_rfl, fun _ => rfl, fun _ => rfl, fun _ => rfl⟩
    · cases h) (fun b A h => by
    unfold spec_l4Text.L at h; split at h
    · cases h; exact fun k x => spec_l4Text.step0 k x.1 x.2.1
    · cases h) ((spec_l4Text.run k a0).trans h) fun r hr => wk_view1 hr
/-! ### 96 loop.example/g00896/spec.l3Days -/
def spec_l3Days.F (a0 : Int) (a1 : Int) : Option (Int) := bif (a1 == 2) then (bif (4 == 0) then (none) else (bif ((Int.tmod a0 4) == 0) then (bif (100 == 0) then (none) else (bif ((Int.tmod a0 100) != 0) then (some 29) else (bif (400 == 0) then (none) else (bif ((Int.tmod a0 400) == 0) then (some 29) else (some 28))))) else (bif (400 == 0) then (none) else (bif ((Int.tmod a0 400) == 0) then (some 29) else (some 28))))) else (bif (a1 == 4) then (some 30) else (bif (a1 == 6) then (some 30) else (bif (a1 == 9) then (some 30) else (bif (a1 == 11) then (some 30) else (some 31)))))
def spec_l3Days.C : Cal → Option CArm := fun c => match c with
  | _ => none
theorem spec_l3Days.run (a0 : Int) (a1 : Int) : runF envX (tabC spec_l3Days.C) (tabL 34 0 (fun _ => none)) Tryz.f96 [.t (.int .i64) a0, .t (.int .i64) a1] (viewR1 (.t (.int .i64))) = spec_l3Days.F a0 a1 := by kernel_rfl
theorem spec_l3Days.G (hE : EnvOk Tryz.prog envX) (pv : Nat → Value) : ∀ cal A, spec_l3Days.C cal = some A → ArmOk Tryz.prog envX pv cal A := by
  intro cal A h
  unfold spec_l3Days.C at h
  cases h
theorem spec_l3Days.good (hE : EnvOk Tryz.prog envX) (pv : Nat → Value) (a0 : Int) (a1 : Int) {y : _} (h : spec_l3Days.F a0 a1 = some y) : Meets Tryz.prog envX pv (.f 96) (tvals [(.int .i64), (.int .i64)] (a0, a1, ())) (.t (.int .i64) y) :=
  fun_plain hE (spec_l3Days.G hE pv) (f := 96) (fn := Tryz.f96) (by kernel_rfl) rfl (by kernel_rfl) (by kernel_rfl) ((spec_l3Days.run a0 a1).trans h) fun r hr => wk_view1 hr
/-! ### 71 loop.example/g00896/spec.l3Good -/
def spec_l3Good.F (a0 : Date) : Option (Bool) := bif ((a0.y == 0 && (a0.m == 0 && (a0.d == 0 && a0.c == false)))) then (some true) else ((spec_l1In.F a0.y 1 2999).bind fun r1 => bif (!r1) then (some false) else ((spec_l1In.F a0.m 0 12).bind fun r2 => bif (!r2) then (some false) else (bif a0.c then (bif (a0.m == 0) then (some (a0.d == 0)) else (some false)) else (bif (a0.m == 0) then (some (a0.d == 0)) else ((spec_l3Days.F a0.y a0.m).bind fun r3 => (spec_l1In.F a0.d 0 r3).bind fun r4 => some r4)))))
def spec_l3Good.C : Cal → Option CArm := fun c => match c with
  | .f 68 => some (.p [(.int .i64), (.int .i64), (.int .i64)] _ (fun x => spec_l1In.F x.1 x.2.1 x.2.2.1) (fun r => (.t .bool r)))
  | .f 96 => some (.p [(.int .i64), (.int .i64)] _ (fun x => spec_l3Days.F x.1 x.2.1) (fun r => (.t (.int .i64) r)))
  | _ => none
theorem spec_l3Good.run (a0 : Date) : runF envX (tabC spec_l3Good.C) (tabL 44 0 (fun _ => none)) Tryz.f71 [.t .date a0] (viewR1 (.t .bool)) = spec_l3Good.F a0 := by kernel_rfl
theorem spec_l3Good.G (hE : EnvOk Tryz.prog envX) (pv : Nat → Value) : ∀ cal A, spec_l3Good.C cal = some A → ArmOk Tryz.prog envX pv cal A := by
  intro cal A h
  unfold spec_l3Good.C at h
  split at h
  · cases h; exact fun x y hy => spec_l1In.good hE pv x.1 x.2.1 x.2.2.1 hy
  · cases h; exact fun x y hy => spec_l3Days.good hE pv x.1 x.2.1 hy
  · cases h
theorem spec_l3Good.good (hE : EnvOk Tryz.prog envX) (pv : Nat → Value) (a0 : Date) {y : _} (h : spec_l3Good.F a0 = some y) : Meets Tryz.prog envX pv (.f 71) (tvals [.date] (a0, ())) (.t .bool y) :=
  fun_plain hE (spec_l3Good.G hE pv) (f := 71) (fn := Tryz.f71) (by kernel_rfl) rfl (by kernel_rfl) (by kernel_rfl) ((spec_l3Good.run a0).trans h) fun r hr => wk_view1 hr
/-! ### 51 loop.example/g00896/spec.l4Entry -/
def spec_l4Entry.F (k : Nat) (a0 : Entry) : Option (Bool) := (spec_l4Key.F k a0.key).bind fun r1 => bif (!r1) then (some false) else ((spec_l1In.F a0.kind 1 4).bind fun r2 => bif (!r2) then (some false) else ((spec_l2List.F k a0.authors).bind fun r3 => bif (!r3) then (some false) else ((spec_l2List.F k a0.editors).bind fun r4 => bif (!r4) then (some false) else ((spec_l4Text.F k a0.title).bind fun r5 => bif (!r5) then (some false) else ((spec_l4Text.F k a0.container).bind fun r6 => bif (!r6) then (some false) else ((spec_l4Text.F k a0.publisher).bind fun r7 => bif (!r7) then (some false) else ((spec_l4Text.F k a0.pages).bind fun r8 => bif (!r8) then (some false) else ((spec_l3Good.F a0.date).bind fun r9 => bif r9 then ((spec_l1In.F a0.volume 0 9999).bind fun r10 => bif r10 then (bif (beqS a0.cross (⟨#[]⟩ : ByteArray)) then (some true) else ((spec_l4Key.F k a0.cross).bind fun r11 => bif r11 then (some (!beqS a0.cross a0.key)) else (some false))) else (some false)) else (some false)))))))))
def spec_l4Entry.C (k : Nat) : Cal → Option CArm := fun c => match c with
  | .f 67 => some (.p [.str] _ (fun x => spec_l4Key.F k x.1) (fun r => (.t .bool r)))
  | .f 68 => some (.p [(.int .i64), (.int .i64), (.int .i64)] _ (fun x => spec_l1In.F x.1 x.2.1 x.2.2.1) (fun r => (.t .bool r)))
  | .f 69 => some (.p [(.sl .name)] _ (fun x => spec_l2List.F k x.1) (fun r => (.t .bool r)))
  | .f 70 => some (.p [.str] _ (fun x => spec_l4Text.F k x.1) (fun r => (.t .bool r)))
  | .f 71 => some (.p [.date] _ (fun x => spec_l3Good.F x.1) (fun r => (.t .bool r)))
  | _ => none
theorem spec_l4Entry.run (k : Nat) (a0 : Entry) : runF envX (tabC (spec_l4Entry.C k)) (tabL 72 0 (fun _ => none)) Tryz.f51 [.t .entry a0] (viewR1 (.t .bool)) = spec_l4Entry.F k a0 := by kernel_rfl
theorem spec_l4Entry.G (hE : EnvOk Tryz.prog envX) (pv : Nat → Value) (k : Nat) : ∀ cal A, spec_l4Entry.C k cal = some A → ArmOk Tryz.prog envX pv cal A := by
  intro cal A h
  unfold spec_l4Entry.C at h
  split at h
  · cases h; exact fun x y hy => spec_l4Key.good hE pv k x.1 hy
  · cases h; exact fun x y hy => spec_l1In.good hE pv x.1 x.2.1 x.2.2.1 hy
  · cases h; exact fun x y hy => spec_l2List.good hE pv k x.1 hy
  · cases h; exact fun x y hy => spec_l4Text.good hE pv k x.1 hy
  · cases h; exact fun x y hy => spec_l3Good.good hE pv x.1 hy
  · cases h
theorem spec_l4Entry.good (hE : EnvOk Tryz.prog envX) (pv : Nat → Value) (k : Nat) (a0 : Entry) {y : _} (h : spec_l4Entry.F k a0 = some y) : Meets Tryz.prog envX pv (.f 51) (tvals [.entry] (a0, ())) (.t .bool y) :=
  fun_plain hE (spec_l4Entry.G hE pv k) (f := 51) (fn := Tryz.f51) (by kernel_rfl) rfl (by kernel_rfl) (by kernel_rfl) ((spec_l4Entry.run k a0).trans h) fun r hr => wk_view1 hr
/-! ### 122 loop.example/g00896/spec.l2Join -/
def spec_l2Join.l0 : Nat → (List ByteArray) → ByteArray → Int → Option (ByteArray)
  | 0, _, _, _ => none
  | k + 1, x0, x3, x4 => bif (decide (x4 < (x0.length : Int))) then (bif (!beqS x3 (⟨#[]⟩ : ByteArray)) then (bif decide (0 ≤ x4) then (bif decide (x4 < (x0.length : Int)) then (bif (!beqS (x0.getD (x4 : Int).toNat (⟨#[]⟩ : ByteArray)) (⟨#[]⟩ : ByteArray)) then (bif Nat.ble (x3.size + (⟨#[32]⟩ : ByteArray).size) 9223372036854775807 then (bif decide (0 ≤ x4) then (bif decide (x4 < (x0.length : Int)) then (bif Nat.ble ((x3 ++ (⟨#[32]⟩ : ByteArray)).size + (x0.getD (x4 : Int).toNat (⟨#[]⟩ : ByteArray)).size) 9223372036854775807 then (spec_l2Join.l0 k x0 ((x3 ++ (⟨#[32]⟩ : ByteArray)) ++ (x0.getD (x4 : Int).toNat (⟨#[]⟩ : ByteArray))) (IntKind.wrap .i64 (x4 + 1))) else none) else none) else none) else none) else (bif decide (0 ≤ x4) then (bif decide (x4 < (x0.length : Int)) then (bif Nat.ble (x3.size + (x0.getD (x4 : Int).toNat (⟨#[]⟩ : ByteArray)).size) 9223372036854775807 then (spec_l2Join.l0 k x0 (x3 ++ (x0.getD (x4 : Int).toNat (⟨#[]⟩ : ByteArray))) (IntKind.wrap .i64 (x4 + 1))) else none) else none) else none)) else none) else none) else (bif decide (0 ≤ x4) then (bif decide (x4 < (x0.length : Int)) then (bif Nat.ble (x3.size + (x0.getD (x4 : Int).toNat (⟨#[]⟩ : ByteArray)).size) 9223372036854775807 then (spec_l2Join.l0 k x0 (x3 ++ (x0.getD (x4 : Int).toNat (⟨#[]⟩ : ByteArray))) (IntKind.wrap .i64 (x4 + 1))) else none) else none) else none)) else (some x3)
def spec_l2Join.F (k : Nat) (a0 : List ByteArray) : Option (ByteArray) := (spec_l2Join.l0 k a0 (⟨#[]⟩ : ByteArray) 0).bind fun y1 => some y1
def spec_l2Join.C (k : Nat) : Cal → Option CArm := fun c => match c with
  | _ => none
def spec_l2Join.sp0 : List Sp := [.t 0 (.sl .str), .t 3 .str, .t 4 (.int .i64)]
def spec_l2Join.sp0_0 : List Sp := [.t 3 .str]
def spec_l2Join.A0 : LArm := .one spec_l2Join.sp0 spec_l2Join.sp0_0 (ByteArray) (fun k x => spec_l2Join.l0 k x.1 x.2.1 x.2.2.1) (.exit 0) (fun y => (y, ())) (fun x => x.1)
def spec_l2Join.L : Nat → Option LArm := fun b => match b with
  | 0 => some spec_l2Join.A0
  | _ => none
theorem spec_l2Join.run (k : Nat) (a0 : List ByteArray) : runF envX (tabC (spec_l2Join.C k)) (tabL 29 k spec_l2Join.L) Tryz.f122 [.t (.sl .str) a0] (viewR1 (.t .str)) = spec_l2Join.F k a0 := by kernel_rfl
theorem spec_l2Join.step0 (k : Nat) (x0 : List ByteArray) (x3 : ByteArray) (x4 : Int) : runC envX (tabC (spec_l2Join.C k)) (tabL 29 k spec_l2Join.L) 0 (loopAt Tryz.f122 0) (stOf 29 spec_l2Join.sp0 (x0, x3, x4, ())) (spec_l2Join.A0.cont 29 k) = spec_l2Join.l0 (k + 1) x0 x3 x4 := by kernel_rfl
theorem spec_l2Join.G (hE : EnvOk Tryz.prog envX) (pv : Nat → Value) (k : Nat) : ∀ cal A, spec_l2Join.C k cal = some A → ArmOk Tryz.prog envX pv cal A := by
  intro cal A h
  unfold spec_l2Join.C at h
  cases h
theorem spec_l2Join.good (hE : EnvOk Tryz.prog envX) (pv : Nat → Value) (k : Nat) (a0 : List ByteArray) {y : _} (h : spec_l2Join.F k a0 = some y) : Meets Tryz.prog envX pv (.f 122) (tvals [(.sl .str)] (a0, ())) (.t .str y) :=
  fun_loops hE (t := spec_l2Join.C) k (fun k _ => spec_l2Join.G hE pv k) (f := 122) (fn := Tryz.f122) (by kernel_rfl) rfl (by kernel_rfl) (by kernel_rfl) (lt := spec_l2Join.L) (by kernel_rfl) (fun b A h => by
    unfold spec_l2Join.L at h; split at h
    · cases h; exact ⟨by kernel_rfl, by kernel_rfl, fun _ => rfl, fun _ => rfl⟩
    · cases h) (fun b A h => by
    unfold spec_l2Join.L at h; split at h
    · cases h; exact fun k x => spec_l2Join.step0 k x.1 x.2.1 x.2.2.1
    · cases h) ((spec_l2Join.run k a0).trans h) fun r hr => wk_view1 hr
/-! ### 123 loop.example/g00896/spec.l2Given -/
def spec_l2Given.F (k : Nat) (a0 : Name) : Option (ByteArray) := (spec_l2Join.F k a0.given).bind fun r1 => some r1
def spec_l2Given.C (k : Nat) : Cal → Option CArm := fun c => match c with
  | .f 122 => some (.p [(.sl .str)] _ (fun x => spec_l2Join.F k x.1) (fun r => (.t .str r)))
  | _ => none
theorem spec_l2Given.run (k : Nat) (a0 : Name) : runF envX (tabC (spec_l2Given.C k)) (tabL 6 0 (fun _ => none)) Tryz.f123 [.t .name a0] (viewR1 (.t .str)) = spec_l2Given.F k a0 := by kernel_rfl
theorem spec_l2Given.G (hE : EnvOk Tryz.prog envX) (pv : Nat → Value) (k : Nat) : ∀ cal A, spec_l2Given.C k cal = some A → ArmOk Tryz.prog envX pv cal A := by
  intro cal A h
  unfold spec_l2Given.C at h
  split at h
  · cases h; exact fun x y hy => spec_l2Join.good hE pv k x.1 hy
  · cases h
theorem spec_l2Given.good (hE : EnvOk Tryz.prog envX) (pv : Nat → Value) (k : Nat) (a0 : Name) {y : _} (h : spec_l2Given.F k a0 = some y) : Meets Tryz.prog envX pv (.f 123) (tvals [.name] (a0, ())) (.t .str y) :=
  fun_plain hE (spec_l2Given.G hE pv k) (f := 123) (fn := Tryz.f123) (by kernel_rfl) rfl (by kernel_rfl) (by kernel_rfl) ((spec_l2Given.run k a0).trans h) fun r hr => wk_view1 hr
/-! ### 106 loop.example/g00896/spec.l2Inverse -/
def spec_l2Inverse.F (k : Nat) (a0 : Name) : Option (ByteArray) := (spec_l2Join.F k ([a0.particle, a0.family] : List ByteArray)).bind fun r1 => bif (decide ((a0.given.length : Int) > 0)) then (bif Nat.ble (r1.size + (⟨#[44, 32]⟩ : ByteArray).size) 9223372036854775807 then ((spec_l2Given.F k a0).bind fun r2 => bif Nat.ble ((r1 ++ (⟨#[44, 32]⟩ : ByteArray)).size + r2.size) 9223372036854775807 then (bif (!beqS a0.suffix (⟨#[]⟩ : ByteArray)) then (bif Nat.ble (((r1 ++ (⟨#[44, 32]⟩ : ByteArray)) ++ r2).size + (⟨#[44, 32]⟩ : ByteArray).size) 9223372036854775807 then (bif Nat.ble ((((r1 ++ (⟨#[44, 32]⟩ : ByteArray)) ++ r2) ++ (⟨#[44, 32]⟩ : ByteArray)).size + a0.suffix.size) 9223372036854775807 then (some ((((r1 ++ (⟨#[44, 32]⟩ : ByteArray)) ++ r2) ++ (⟨#[44, 32]⟩ : ByteArray)) ++ a0.suffix)) else none) else none) else (some ((r1 ++ (⟨#[44, 32]⟩ : ByteArray)) ++ r2))) else none) else none) else (bif (!beqS a0.suffix (⟨#[]⟩ : ByteArray)) then (bif Nat.ble (r1.size + (⟨#[44, 32]⟩ : ByteArray).size) 9223372036854775807 then ((spec_l2Given.F k a0).bind fun r3 => bif Nat.ble ((r1 ++ (⟨#[44, 32]⟩ : ByteArray)).size + r3.size) 9223372036854775807 then (bif (!beqS a0.suffix (⟨#[]⟩ : ByteArray)) then (bif Nat.ble (((r1 ++ (⟨#[44, 32]⟩ : ByteArray)) ++ r3).size + (⟨#[44, 32]⟩ : ByteArray).size) 9223372036854775807 then (bif Nat.ble ((((r1 ++ (⟨#[44, 32]⟩ : ByteArray)) ++ r3) ++ (⟨#[44, 32]⟩ : ByteArray)).size + a0.suffix.size) 9223372036854775807 then (some ((((r1 ++ (⟨#[44, 32]⟩ : ByteArray)) ++ r3) ++ (⟨#[44, 32]⟩ : ByteArray)) ++ a0.suffix)) else none) else none) else (some ((r1 ++ (⟨#[44, 32]⟩ : ByteArray)) ++ r3))) else none) else none) else (bif (!beqS a0.suffix (⟨#[]⟩ : ByteArray)) then (bif Nat.ble (r1.size + (⟨#[44, 32]⟩ : ByteArray).size) 9223372036854775807 then (bif Nat.ble ((r1 ++ (⟨#[44, 32]⟩ : ByteArray)).size + a0.suffix.size) 9223372036854775807 then (some ((r1 ++ (⟨#[44, 32]⟩ : ByteArray)) ++ a0.suffix)) else none) else none) else (some r1)))
def spec_l2Inverse.C (k : Nat) : Cal → Option CArm := fun c => match c with
  | .f 122 => some (.p [(.sl .str)] _ (fun x => spec_l2Join.F k x.1) (fun r => (.t .str r)))
  | .f 123 => some (.p [.name] _ (fun x => spec_l2Given.F k x.1) (fun r => (.t .str r)))
  | _ => none
theorem spec_l2Inverse.run (k : Nat) (a0 : Name) : runF envX (tabC (spec_l2Inverse.C k)) (tabL 33 0 (fun _ => none)) Tryz.f106 [.t .name a0] (viewR1 (.t .str)) = spec_l2Inverse.F k a0 := by kernel_rfl
theorem spec_l2Inverse.G (hE : EnvOk Tryz.prog envX) (pv : Nat → Value) (k : Nat) : ∀ cal A, spec_l2Inverse.C k cal = some A → ArmOk Tryz.prog envX pv cal A := by
  intro cal A h
  unfold spec_l2Inverse.C at h
  split at h
  · cases h; exact fun x y hy => spec_l2Join.good hE pv k x.1 hy
  · cases h; exact fun x y hy => spec_l2Given.good hE pv k x.1 hy
  · cases h
theorem spec_l2Inverse.good (hE : EnvOk Tryz.prog envX) (pv : Nat → Value) (k : Nat) (a0 : Name) {y : _} (h : spec_l2Inverse.F k a0 = some y) : Meets Tryz.prog envX pv (.f 106) (tvals [.name] (a0, ())) (.t .str y) :=
  fun_plain hE (spec_l2Inverse.G hE pv k) (f := 106) (fn := Tryz.f106) (by kernel_rfl) rfl (by kernel_rfl) (by kernel_rfl) ((spec_l2Inverse.run k a0).trans h) fun r hr => wk_view1 hr
/-! ### 87 loop.example/g00896/spec.l4Names -/
def spec_l4Names.l0 : Nat → (List Name) → ByteArray → Int → Option (ByteArray)
  | 0, _, _, _ => none
  | k + 1, x0, x3, x4 => bif (decide (x4 < (x0.length : Int))) then (bif (decide (x4 > 0)) then (bif Nat.ble (x3.size + (⟨#[59, 32]⟩ : ByteArray).size) 9223372036854775807 then (bif decide (0 ≤ x4) then (bif decide (x4 < (x0.length : Int)) then ((spec_l2Inverse.F k (x0.getD (x4 : Int).toNat (dflt .name))).bind fun r1 => bif Nat.ble ((x3 ++ (⟨#[59, 32]⟩ : ByteArray)).size + r1.size) 9223372036854775807 then (spec_l4Names.l0 k x0 ((x3 ++ (⟨#[59, 32]⟩ : ByteArray)) ++ r1) (IntKind.wrap .i64 (x4 + 1))) else none) else none) else none) else none) else (bif decide (0 ≤ x4) then (bif decide (x4 < (x0.length : Int)) then ((spec_l2Inverse.F k (x0.getD (x4 : Int).toNat (dflt .name))).bind fun r2 => bif Nat.ble (x3.size + r2.size) 9223372036854775807 then (spec_l4Names.l0 k x0 (x3 ++ r2) (IntKind.wrap .i64 (x4 + 1))) else none) else none) else none)) else (some x3)
def spec_l4Names.F (k : Nat) (a0 : List Name) : Option (ByteArray) := (spec_l4Names.l0 k a0 (⟨#[]⟩ : ByteArray) 0).bind fun y3 => some y3
def spec_l4Names.C (k : Nat) : Cal → Option CArm := fun c => match c with
  | .f 106 => some (.p [.name] _ (fun x => spec_l2Inverse.F k x.1) (fun r => (.t .str r)))
  | _ => none
def spec_l4Names.sp0 : List Sp := [.t 0 (.sl .name), .t 3 .str, .t 4 (.int .i64)]
def spec_l4Names.sp0_0 : List Sp := [.t 3 .str]
def spec_l4Names.A0 : LArm := .one spec_l4Names.sp0 spec_l4Names.sp0_0 (ByteArray) (fun k x => spec_l4Names.l0 k x.1 x.2.1 x.2.2.1) (.exit 0) (fun y => (y, ())) (fun x => x.1)
def spec_l4Names.L : Nat → Option LArm := fun b => match b with
  | 0 => some spec_l4Names.A0
  | _ => none
theorem spec_l4Names.run (k : Nat) (a0 : List Name) : runF envX (tabC (spec_l4Names.C k)) (tabL 23 k spec_l4Names.L) Tryz.f87 [.t (.sl .name) a0] (viewR1 (.t .str)) = spec_l4Names.F k a0 := by kernel_rfl
theorem spec_l4Names.step0 (k : Nat) (x0 : List Name) (x3 : ByteArray) (x4 : Int) : runC envX (tabC (spec_l4Names.C k)) (tabL 23 k spec_l4Names.L) 0 (loopAt Tryz.f87 0) (stOf 23 spec_l4Names.sp0 (x0, x3, x4, ())) (spec_l4Names.A0.cont 23 k) = spec_l4Names.l0 (k + 1) x0 x3 x4 := by kernel_rfl
theorem spec_l4Names.G (hE : EnvOk Tryz.prog envX) (pv : Nat → Value) (k : Nat) : ∀ cal A, spec_l4Names.C k cal = some A → ArmOk Tryz.prog envX pv cal A := by
  intro cal A h
  unfold spec_l4Names.C at h
  split at h
  · cases h; exact fun x y hy => spec_l2Inverse.good hE pv k x.1 hy
  · cases h
theorem spec_l4Names.good (hE : EnvOk Tryz.prog envX) (pv : Nat → Value) (k : Nat) (a0 : List Name) {y : _} (h : spec_l4Names.F k a0 = some y) : Meets Tryz.prog envX pv (.f 87) (tvals [(.sl .name)] (a0, ())) (.t .str y) :=
  fun_loops hE (t := spec_l4Names.C) k (fun k _ => spec_l4Names.G hE pv k) (f := 87) (fn := Tryz.f87) (by kernel_rfl) rfl (by kernel_rfl) (by kernel_rfl) (lt := spec_l4Names.L) (by kernel_rfl) (fun b A h => by
    unfold spec_l4Names.L at h; split at h
    · cases h; exact ⟨by kernel_rfl, by kernel_rfl, fun _ => rfl, fun _ => rfl⟩
    · cases h) (fun b A h => by
    unfold spec_l4Names.L at h; split at h
    · cases h; exact fun k x => spec_l4Names.step0 k x.1 x.2.1 x.2.2.1
    · cases h) ((spec_l4Names.run k a0).trans h) fun r hr => wk_view1 hr
/-! ### 89 loop.example/g00896/spec.l1Num -/
mutual
def spec_l1Num.F : Nat → Int → Option (ByteArray)
  | 0, _ => none
  | k + 1, a0 => bif (decide (a0 < 0)) then ((spec_l1Num.F k (IntKind.wrap .i64 (0 - a0))).bind fun r1 => bif Nat.ble ((⟨#[45]⟩ : ByteArray).size + r1.size) 9223372036854775807 then (some ((⟨#[45]⟩ : ByteArray) ++ r1)) else none) else (bif (decide (a0 < 10)) then (bif decide (0 ≤ (IntKind.wrap .i64 (a0 + 1))) then (bif decide ((IntKind.wrap .i64 (a0 + 1)) ≤ ((⟨#[48, 49, 50, 51, 52, 53, 54, 55, 56, 57]⟩ : ByteArray).size : Int)) then (bif decide (0 ≤ a0) then (bif decide (a0 ≤ (IntKind.wrap .i64 (a0 + 1))) then (some ((⟨#[48, 49, 50, 51, 52, 53, 54, 55, 56, 57]⟩ : ByteArray).extract (a0 : Int).toNat ((IntKind.wrap .i64 (a0 + 1)) : Int).toNat)) else none) else none) else none) else none) else (bif (10 == 0) then (none) else ((spec_l1Num.F k (IntKind.wrap .i64 (Int.tdiv a0 10))).bind fun r2 => bif (10 == 0) then (none) else (bif (10 == 0) then (none) else (bif decide (0 ≤ (IntKind.wrap .i64 ((Int.tmod a0 10) + 1))) then (bif decide ((IntKind.wrap .i64 ((Int.tmod a0 10) + 1)) ≤ ((⟨#[48, 49, 50, 51, 52, 53, 54, 55, 56, 57]⟩ : ByteArray).size : Int)) then (bif decide (0 ≤ (Int.tmod a0 10)) then (bif decide ((Int.tmod a0 10) ≤ (IntKind.wrap .i64 ((Int.tmod a0 10) + 1))) then (bif Nat.ble (r2.size + ((⟨#[48, 49, 50, 51, 52, 53, 54, 55, 56, 57]⟩ : ByteArray).extract ((Int.tmod a0 10) : Int).toNat ((IntKind.wrap .i64 ((Int.tmod a0 10) + 1)) : Int).toNat).size) 9223372036854775807 then (some (r2 ++ ((⟨#[48, 49, 50, 51, 52, 53, 54, 55, 56, 57]⟩ : ByteArray).extract ((Int.tmod a0 10) : Int).toNat ((IntKind.wrap .i64 ((Int.tmod a0 10) + 1)) : Int).toNat))) else none) else none) else none) else none) else none)))))
end
def spec_l1Num.C (k : Nat) : Cal → Option CArm := fun c => match c with
  | .f 89 => some (.p [(.int .i64)] _ (fun x => spec_l1Num.F k x.1) (fun r => (.t .str r)))
  | _ => none
theorem spec_l1Num.run (k : Nat) (a0 : Int) : runF envX (tabC (spec_l1Num.C k)) (tabL 25 0 (fun _ => none)) Tryz.f89 [.t (.int .i64) a0] (viewR1 (.t .str)) = spec_l1Num.F (k + 1) a0 := by kernel_rfl
def spec_l1Num.Gd (pv : Nat → Value) (k : Nat) : Prop := (∀ (a0 : Int) {y : _}, spec_l1Num.F k a0 = some y → Meets Tryz.prog envX pv (.f 89) (tvals [(.int .i64)] (a0, ())) (.t .str y))
theorem spec_l1Num.G (hE : EnvOk Tryz.prog envX) (pv : Nat → Value) (k : Nat) (hI : spec_l1Num.Gd pv k) : ∀ cal A, spec_l1Num.C k cal = some A → ArmOk Tryz.prog envX pv cal A := by
  intro cal A h
  unfold spec_l1Num.C at h
  split at h
  · cases h; exact fun x y hy => hI x.1 hy
  · cases h
theorem spec_l1Num.gd (hE : EnvOk Tryz.prog envX) (pv : Nat → Value) (k : Nat) (hI : ∀ k', k' ≤ k → spec_l1Num.Gd pv k') (a0 : Int) {y : _} (h : spec_l1Num.F (k + 1) a0 = some y) : Meets Tryz.prog envX pv (.f 89) (tvals [(.int .i64)] (a0, ())) (.t .str y) :=
  fun_plain hE (spec_l1Num.G hE pv k (hI k (Nat.le_refl k))) (f := 89) (fn := Tryz.f89) (by kernel_rfl) rfl (by kernel_rfl) (by kernel_rfl) ((spec_l1Num.run k a0).trans h) fun r hr => wk_view1 hr
theorem spec_l1Num.all (hE : EnvOk Tryz.prog envX) (pv : Nat → Value) : ∀ k k', k' ≤ k → spec_l1Num.Gd pv k' := by
  intro k
  induction k with
  | zero =>
    intro k' hk
    obtain rfl : k' = 0 := by omega
    exact fun _ y h => by cases (show (none : Option _) = some y from h)
  | succ k ih =>
    intro k' hk
    rcases Nat.lt_or_ge k' (k + 1) with hlt | hge
    · exact ih k' (by omega)
    · obtain rfl : k' = k + 1 := by omega
      exact fun a0 y h => spec_l1Num.gd hE pv k ih a0 h
theorem spec_l1Num.good (hE : EnvOk Tryz.prog envX) (pv : Nat → Value) (k : Nat) (a0 : Int) {y : _} (h : spec_l1Num.F k a0 = some y) : Meets Tryz.prog envX pv (.f 89) (tvals [(.int .i64)] (a0, ())) (.t .str y) :=
  (spec_l1Num.all hE pv k k (Nat.le_refl k)) a0 h
/-! ### 107 loop.example/g00896/spec.l3Pad -/
def spec_l3Pad.l0 : Nat → Int → ByteArray → Option (ByteArray)
  | 0, _, _ => none
  | k + 1, x1, x5 => bif (decide ((x5.size : Int) < x1)) then (bif Nat.ble ((⟨#[48]⟩ : ByteArray).size + x5.size) 9223372036854775807 then (spec_l3Pad.l0 k x1 ((⟨#[48]⟩ : ByteArray) ++ x5)) else none) else (some x5)
def spec_l3Pad.F (k : Nat) (a0 : Int) (a1 : Int) : Option (ByteArray) := (spec_l1Num.F k a0).bind fun r1 => (spec_l3Pad.l0 k a1 r1).bind fun y2 => some y2
def spec_l3Pad.C (k : Nat) : Cal → Option CArm := fun c => match c with
  | .f 89 => some (.p [(.int .i64)] _ (fun x => spec_l1Num.F k x.1) (fun r => (.t .str r)))
  | _ => none
def spec_l3Pad.sp0 : List Sp := [.t 1 (.int .i64), .t 5 .str]
def spec_l3Pad.sp0_0 : List Sp := [.t 5 .str]
def spec_l3Pad.A0 : LArm := .one spec_l3Pad.sp0 spec_l3Pad.sp0_0 (ByteArray) (fun k x => spec_l3Pad.l0 k x.1 x.2.1) (.exit 0) (fun y => (y, ())) (fun x => x.1)
def spec_l3Pad.L : Nat → Option LArm := fun b => match b with
  | 0 => some spec_l3Pad.A0
  | _ => none
theorem spec_l3Pad.run (k : Nat) (a0 : Int) (a1 : Int) : runF envX (tabC (spec_l3Pad.C k)) (tabL 15 k spec_l3Pad.L) Tryz.f107 [.t (.int .i64) a0, .t (.int .i64) a1] (viewR1 (.t .str)) = spec_l3Pad.F k a0 a1 := by kernel_rfl
theorem spec_l3Pad.step0 (k : Nat) (x1 : Int) (x5 : ByteArray) : runC envX (tabC (spec_l3Pad.C k)) (tabL 15 k spec_l3Pad.L) 0 (loopAt Tryz.f107 0) (stOf 15 spec_l3Pad.sp0 (x1, x5, ())) (spec_l3Pad.A0.cont 15 k) = spec_l3Pad.l0 (k + 1) x1 x5 := by kernel_rfl
theorem spec_l3Pad.G (hE : EnvOk Tryz.prog envX) (pv : Nat → Value) (k : Nat) : ∀ cal A, spec_l3Pad.C k cal = some A → ArmOk Tryz.prog envX pv cal A := by
  intro cal A h
  unfold spec_l3Pad.C at h
  split at h
  · cases h; exact fun x y hy => spec_l1Num.good hE pv k x.1 hy
  · cases h
theorem spec_l3Pad.good (hE : EnvOk Tryz.prog envX) (pv : Nat → Value) (k : Nat) (a0 : Int) (a1 : Int) {y : _} (h : spec_l3Pad.F k a0 a1 = some y) : Meets Tryz.prog envX pv (.f 107) (tvals [(.int .i64), (.int .i64)] (a0, a1, ())) (.t .str y) :=
  fun_loops hE (t := spec_l3Pad.C) k (fun k _ => spec_l3Pad.G hE pv k) (f := 107) (fn := Tryz.f107) (by kernel_rfl) rfl (by kernel_rfl) (by kernel_rfl) (lt := spec_l3Pad.L) (by kernel_rfl) (fun b A h => by
    unfold spec_l3Pad.L at h; split at h
    · cases h; exact ⟨by kernel_rfl, by kernel_rfl, fun _ => rfl, fun _ => rfl⟩
    · cases h) (fun b A h => by
    unfold spec_l3Pad.L at h; split at h
    · cases h; exact fun k x => spec_l3Pad.step0 k x.1 x.2.1
    · cases h) ((spec_l3Pad.run k a0 a1).trans h) fun r hr => wk_view1 hr
/-! ### 88 loop.example/g00896/spec.l3Text -/
def spec_l3Text.F (k : Nat) (a0 : Date) : Option (ByteArray) := bif (a0.y == 0) then (some (⟨#[117, 110, 107, 110, 111, 119, 110]⟩ : ByteArray)) else ((spec_l3Pad.F k a0.y 4).bind fun r1 => bif (decide (a0.m > 0)) then (bif Nat.ble (r1.size + (⟨#[45]⟩ : ByteArray).size) 9223372036854775807 then ((spec_l3Pad.F k a0.m 2).bind fun r2 => bif Nat.ble ((r1 ++ (⟨#[45]⟩ : ByteArray)).size + r2.size) 9223372036854775807 then (bif (decide (a0.d > 0)) then (bif Nat.ble (((r1 ++ (⟨#[45]⟩ : ByteArray)) ++ r2).size + (⟨#[45]⟩ : ByteArray).size) 9223372036854775807 then ((spec_l3Pad.F k a0.d 2).bind fun r3 => bif Nat.ble ((((r1 ++ (⟨#[45]⟩ : ByteArray)) ++ r2) ++ (⟨#[45]⟩ : ByteArray)).size + r3.size) 9223372036854775807 then (bif a0.c then (bif Nat.ble ((⟨#[99]⟩ : ByteArray).size + ((((r1 ++ (⟨#[45]⟩ : ByteArray)) ++ r2) ++ (⟨#[45]⟩ : ByteArray)) ++ r3).size) 9223372036854775807 then (some ((⟨#[99]⟩ : ByteArray) ++ ((((r1 ++ (⟨#[45]⟩ : ByteArray)) ++ r2) ++ (⟨#[45]⟩ : ByteArray)) ++ r3))) else none) else (some ((((r1 ++ (⟨#[45]⟩ : ByteArray)) ++ r2) ++ (⟨#[45]⟩ : ByteArray)) ++ r3))) else none) else none) else (bif a0.c then (bif Nat.ble ((⟨#[99]⟩ : ByteArray).size + ((r1 ++ (⟨#[45]⟩ : ByteArray)) ++ r2).size) 9223372036854775807 then (some ((⟨#[99]⟩ : ByteArray) ++ ((r1 ++ (⟨#[45]⟩ : ByteArray)) ++ r2))) else none) else (some ((r1 ++ (⟨#[45]⟩ : ByteArray)) ++ r2)))) else none) else none) else (bif (decide (a0.d > 0)) then (bif Nat.ble (r1.size + (⟨#[45]⟩ : ByteArray).size) 9223372036854775807 then ((spec_l3Pad.F k a0.d 2).bind fun r4 => bif Nat.ble ((r1 ++ (⟨#[45]⟩ : ByteArray)).size + r4.size) 9223372036854775807 then (bif a0.c then (bif Nat.ble ((⟨#[99]⟩ : ByteArray).size + ((r1 ++ (⟨#[45]⟩ : ByteArray)) ++ r4).size) 9223372036854775807 then (some ((⟨#[99]⟩ : ByteArray) ++ ((r1 ++ (⟨#[45]⟩ : ByteArray)) ++ r4))) else none) else (some ((r1 ++ (⟨#[45]⟩ : ByteArray)) ++ r4))) else none) else none) else (bif a0.c then (bif Nat.ble ((⟨#[99]⟩ : ByteArray).size + r1.size) 9223372036854775807 then (some ((⟨#[99]⟩ : ByteArray) ++ r1)) else none) else (some r1))))
def spec_l3Text.C (k : Nat) : Cal → Option CArm := fun c => match c with
  | .f 107 => some (.p [(.int .i64), (.int .i64)] _ (fun x => spec_l3Pad.F k x.1 x.2.1) (fun r => (.t .str r)))
  | _ => none
theorem spec_l3Text.run (k : Nat) (a0 : Date) : runF envX (tabC (spec_l3Text.C k)) (tabL 33 0 (fun _ => none)) Tryz.f88 [.t .date a0] (viewR1 (.t .str)) = spec_l3Text.F k a0 := by kernel_rfl
theorem spec_l3Text.G (hE : EnvOk Tryz.prog envX) (pv : Nat → Value) (k : Nat) : ∀ cal A, spec_l3Text.C k cal = some A → ArmOk Tryz.prog envX pv cal A := by
  intro cal A h
  unfold spec_l3Text.C at h
  split at h
  · cases h; exact fun x y hy => spec_l3Pad.good hE pv k x.1 x.2.1 hy
  · cases h
theorem spec_l3Text.good (hE : EnvOk Tryz.prog envX) (pv : Nat → Value) (k : Nat) (a0 : Date) {y : _} (h : spec_l3Text.F k a0 = some y) : Meets Tryz.prog envX pv (.f 88) (tvals [.date] (a0, ())) (.t .str y) :=
  fun_plain hE (spec_l3Text.G hE pv k) (f := 88) (fn := Tryz.f88) (by kernel_rfl) rfl (by kernel_rfl) (by kernel_rfl) ((spec_l3Text.run k a0).trans h) fun r hr => wk_view1 hr
/-! ### 61 loop.example/g00896/spec.l4Field -/
def spec_l4Field.F (k : Nat) (a0 : Entry) (a1 : ByteArray) : Option (ByteArray × Bool) := bif (beqS a1 (⟨#[97, 117, 116, 104, 111, 114, 115]⟩ : ByteArray)) then ((spec_l4Names.F k a0.authors).bind fun r1 => some (r1, true)) else (bif (beqS a1 (⟨#[101, 100, 105, 116, 111, 114, 115]⟩ : ByteArray)) then ((spec_l4Names.F k a0.editors).bind fun r2 => some (r2, true)) else (bif (beqS a1 (⟨#[116, 105, 116, 108, 101]⟩ : ByteArray)) then (some (a0.title, true)) else (bif (beqS a1 (⟨#[99, 111, 110, 116, 97, 105, 110, 101, 114]⟩ : ByteArray)) then (some (a0.container, true)) else (bif (beqS a1 (⟨#[112, 117, 98, 108, 105, 115, 104, 101, 114]⟩ : ByteArray)) then (some (a0.publisher, true)) else (bif (beqS a1 (⟨#[112, 97, 103, 101, 115]⟩ : ByteArray)) then (some (a0.pages, true)) else (bif (beqS a1 (⟨#[100, 97, 116, 101]⟩ : ByteArray)) then (bif (a0.date.y == 0) then (some ((⟨#[]⟩ : ByteArray), true)) else ((spec_l3Text.F k a0.date).bind fun r3 => some (r3, true))) else (bif (beqS a1 (⟨#[118, 111, 108, 117, 109, 101]⟩ : ByteArray)) then (bif (a0.volume == 0) then (some ((⟨#[]⟩ : ByteArray), true)) else ((spec_l1Num.F k a0.volume).bind fun r4 => some (r4, true))) else (some ((⟨#[]⟩ : ByteArray), false)))))))))
def spec_l4Field.C (k : Nat) : Cal → Option CArm := fun c => match c with
  | .f 87 => some (.p [(.sl .name)] _ (fun x => spec_l4Names.F k x.1) (fun r => (.t .str r)))
  | .f 88 => some (.p [.date] _ (fun x => spec_l3Text.F k x.1) (fun r => (.t .str r)))
  | .f 89 => some (.p [(.int .i64)] _ (fun x => spec_l1Num.F k x.1) (fun r => (.t .str r)))
  | _ => none
theorem spec_l4Field.run (k : Nat) (a0 : Entry) (a1 : ByteArray) : runF envX (tabC (spec_l4Field.C k)) (tabL 50 0 (fun _ => none)) Tryz.f61 [.t .entry a0, .t .str a1] (viewR2 (.t .str) (.t .bool)) = spec_l4Field.F k a0 a1 := by kernel_rfl
theorem spec_l4Field.G (hE : EnvOk Tryz.prog envX) (pv : Nat → Value) (k : Nat) : ∀ cal A, spec_l4Field.C k cal = some A → ArmOk Tryz.prog envX pv cal A := by
  intro cal A h
  unfold spec_l4Field.C at h
  split at h
  · cases h; exact fun x y hy => spec_l4Names.good hE pv k x.1 hy
  · cases h; exact fun x y hy => spec_l3Text.good hE pv k x.1 hy
  · cases h; exact fun x y hy => spec_l1Num.good hE pv k x.1 hy
  · cases h
theorem spec_l4Field.good (hE : EnvOk Tryz.prog envX) (pv : Nat → Value) (k : Nat) (a0 : Entry) (a1 : ByteArray) {y : _} (h : spec_l4Field.F k a0 a1 = some y) : Meets Tryz.prog envX pv (.f 61) (tvals [.entry, .str] (a0, a1, ())) (.tup [.t .str y.1, .t .bool y.2]) :=
  fun_plain hE (spec_l4Field.G hE pv k) (f := 61) (fn := Tryz.f61) (by kernel_rfl) rfl (by kernel_rfl) (by kernel_rfl) ((spec_l4Field.run k a0 a1).trans h) fun r hr => wk_view2 hr
/-! ### 31 loop.example/g00896/spec.FieldConflicts -/
def spec_FieldConflicts.l0 : Nat → Entry → Entry → (List ByteArray) → (List ByteArray) → Int → Option ((List ByteArray))
  | 0, _, _, _, _, _ => none
  | k + 1, x2, x3, x6, x7, x8 => bif (decide (x8 < (x7.length : Int))) then (bif decide (0 ≤ x8) then (bif decide (x8 < (x7.length : Int)) then ((spec_l4Field.F k x2 (x7.getD ((x8 : Int).toNat) (⟨#[]⟩ : ByteArray))).bind fun r3 => bif decide (0 ≤ x8) then (bif decide (x8 < (x7.length : Int)) then ((spec_l4Field.F k x3 (x7.getD ((x8 : Int).toNat) (⟨#[]⟩ : ByteArray))).bind fun r4 => bif (!beqS r3.1 (⟨#[]⟩ : ByteArray)) then (bif (!beqS r4.1 (⟨#[]⟩ : ByteArray)) then (bif (!beqS r3.1 r4.1) then (bif decide (0 ≤ x8) then (bif decide (x8 < (x7.length : Int)) then (bif room (x6.length + ([(x7.getD ((x8 : Int).toNat) (⟨#[]⟩ : ByteArray))] : List ByteArray).length) .str then (spec_FieldConflicts.l0 k x2 x3 (x6 ++ ([(x7.getD ((x8 : Int).toNat) (⟨#[]⟩ : ByteArray))] : List ByteArray)) x7 (IntKind.wrap .i64 (x8 + 1))) else none) else none) else none) else (spec_FieldConflicts.l0 k x2 x3 x6 x7 (IntKind.wrap .i64 (x8 + 1)))) else (spec_FieldConflicts.l0 k x2 x3 x6 x7 (IntKind.wrap .i64 (x8 + 1)))) else (spec_FieldConflicts.l0 k x2 x3 x6 x7 (IntKind.wrap .i64 (x8 + 1)))) else none) else none) else none) else none) else (some x6)
def spec_FieldConflicts.F (k : Nat) (a0 : Entry) (a1 : Entry) : Option ((List ByteArray) × Bool) := (spec_l4Entry.F k a0).bind fun r1 => bif (!r1) then (some (([] : List ByteArray), false)) else ((spec_l4Entry.F k a1).bind fun r2 => bif (!r2) then (some (([] : List ByteArray), false)) else ((spec_FieldConflicts.l0 k a0 a1 ([] : List ByteArray) ([(⟨#[97, 117, 116, 104, 111, 114, 115]⟩ : ByteArray), (⟨#[101, 100, 105, 116, 111, 114, 115]⟩ : ByteArray), (⟨#[116, 105, 116, 108, 101]⟩ : ByteArray), (⟨#[99, 111, 110, 116, 97, 105, 110, 101, 114]⟩ : ByteArray), (⟨#[112, 117, 98, 108, 105, 115, 104, 101, 114]⟩ : ByteArray), (⟨#[100, 97, 116, 101]⟩ : ByteArray), (⟨#[118, 111, 108, 117, 109, 101]⟩ : ByteArray), (⟨#[112, 97, 103, 101, 115]⟩ : ByteArray)] : List ByteArray) 0).bind fun y5 => some (y5, true)))
def spec_FieldConflicts.C (k : Nat) : Cal → Option CArm := fun c => match c with
  | .f 51 => some (.p [.entry] _ (fun x => spec_l4Entry.F k x.1) (fun r => (.t .bool r)))
  | .f 61 => some (.p [.entry, .str] _ (fun x => spec_l4Field.F k x.1 x.2.1) (fun r => (.tup [.t .str r.1, .t .bool r.2])))
  | _ => none
def spec_FieldConflicts.sp0 : List Sp := [.boxT 2 0 .entry, .boxT 3 4 .entry, .own 6 1024 9 .str false true, .own 7 4096 9 .str false true, .t 8 (.int .i64)]
def spec_FieldConflicts.sp0_0 : List Sp := [.own 6 1024 9 .str false true]
def spec_FieldConflicts.A0 : LArm := .one spec_FieldConflicts.sp0 spec_FieldConflicts.sp0_0 ((List ByteArray)) (fun k x => spec_FieldConflicts.l0 k x.1 x.2.1 x.2.2.1 x.2.2.2.1 x.2.2.2.2.1) (.exit 0) (fun y => (y, ())) (fun x => x.1)
def spec_FieldConflicts.L : Nat → Option LArm := fun b => match b with
  | 0 => some spec_FieldConflicts.A0
  | _ => none
theorem spec_FieldConflicts.run (k : Nat) (a0 : Entry) (a1 : Entry) : runF envX (tabC (spec_FieldConflicts.C k)) (tabL 67 k spec_FieldConflicts.L) Tryz.f31 [.t .entry a0, .t .entry a1] (viewR2 (.fr 9 .str) (.t .bool)) = spec_FieldConflicts.F k a0 a1 := by kernel_rfl
theorem spec_FieldConflicts.step0 (k : Nat) (x2 : Entry) (x3 : Entry) (x6 : List ByteArray) (x7 : List ByteArray) (x8 : Int) : runC envX (tabC (spec_FieldConflicts.C k)) (tabL 67 k spec_FieldConflicts.L) 0 (loopAt Tryz.f31 0) (stOf 67 spec_FieldConflicts.sp0 (x2, x3, x6, x7, x8, ())) (spec_FieldConflicts.A0.cont 67 k) = spec_FieldConflicts.l0 (k + 1) x2 x3 x6 x7 x8 := by kernel_rfl
theorem spec_FieldConflicts.G (hE : EnvOk Tryz.prog envX) (pv : Nat → Value) (k : Nat) : ∀ cal A, spec_FieldConflicts.C k cal = some A → ArmOk Tryz.prog envX pv cal A := by
  intro cal A h
  unfold spec_FieldConflicts.C at h
  split at h
  · cases h; exact fun x y hy => spec_l4Entry.good hE pv k x.1 hy
  · cases h; exact fun x y hy => spec_l4Field.good hE pv k x.1 x.2.1 hy
  · cases h
theorem spec_FieldConflicts.good (hE : EnvOk Tryz.prog envX) (pv : Nat → Value) (k : Nat) (a0 : Entry) (a1 : Entry) {y : _} (h : spec_FieldConflicts.F k a0 a1 = some y) : Meets Tryz.prog envX pv (.f 31) (tvals [.entry, .entry] (a0, a1, ())) (.tup [.fr 9 .str y.1, .t .bool y.2]) :=
  fun_loops hE (t := spec_FieldConflicts.C) k (fun k _ => spec_FieldConflicts.G hE pv k) (f := 31) (fn := Tryz.f31) (by kernel_rfl) rfl (by kernel_rfl) (by kernel_rfl) (lt := spec_FieldConflicts.L) (by kernel_rfl) (fun b A h => by
    unfold spec_FieldConflicts.L at h; split at h
    · cases h; exact ⟨by kernel_rfl, by kernel_rfl, fun _ => rfl, fun _ => rfl⟩
    · cases h) (fun b A h => by
    unfold spec_FieldConflicts.L at h; split at h
    · cases h; exact fun k x => spec_FieldConflicts.step0 k x.1 x.2.1 x.2.2.1 x.2.2.2.1 x.2.2.2.2.1
    · cases h) ((spec_FieldConflicts.run k a0 a1).trans h) fun r hr => wk_view2 hr
/-! ### 80 loop.example/g00896/impl.inside -/
def impl_inside.F (a0 : Int) (a1 : Int) (a2 : Int) : Option (Bool) := bif (decide (a0 ≥ a1)) then (some (decide (a0 ≤ a2))) else (some false)
def impl_inside.C : Cal → Option CArm := fun c => match c with
  | _ => none
theorem impl_inside.run (a0 : Int) (a1 : Int) (a2 : Int) : runF envX (tabC impl_inside.C) (tabL 15 0 (fun _ => none)) Tryz.f80 [.t (.int .i64) a0, .t (.int .i64) a1, .t (.int .i64) a2] (viewR1 (.t .bool)) = impl_inside.F a0 a1 a2 := by kernel_rfl
theorem impl_inside.G (hE : EnvOk Tryz.prog envX) (pv : Nat → Value) : ∀ cal A, impl_inside.C cal = some A → ArmOk Tryz.prog envX pv cal A := by
  intro cal A h
  unfold impl_inside.C at h
  cases h
theorem impl_inside.good (hE : EnvOk Tryz.prog envX) (pv : Nat → Value) (a0 : Int) (a1 : Int) (a2 : Int) {y : _} (h : impl_inside.F a0 a1 a2 = some y) : Meets Tryz.prog envX pv (.f 80) (tvals [(.int .i64), (.int .i64), (.int .i64)] (a0, a1, a2, ())) (.t .bool y) :=
  fun_plain hE (impl_inside.G hE pv) (f := 80) (fn := Tryz.f80) (by kernel_rfl) rfl (by kernel_rfl) (by kernel_rfl) ((impl_inside.run a0 a1 a2).trans h) fun r hr => wk_view1 hr
/-! ### 98 loop.example/g00896/impl.isLower -/
def impl_isLower.F (a0 : Int) : Option (Bool) := bif (decide (a0 ≥ 97)) then (some (decide (a0 ≤ 122))) else (some false)
def impl_isLower.C : Cal → Option CArm := fun c => match c with
  | _ => none
theorem impl_isLower.run (a0 : Int) : runF envX (tabC impl_isLower.C) (tabL 9 0 (fun _ => none)) Tryz.f98 [.t (.int .u8) a0] (viewR1 (.t .bool)) = impl_isLower.F a0 := by kernel_rfl
theorem impl_isLower.G (hE : EnvOk Tryz.prog envX) (pv : Nat → Value) : ∀ cal A, impl_isLower.C cal = some A → ArmOk Tryz.prog envX pv cal A := by
  intro cal A h
  unfold impl_isLower.C at h
  cases h
theorem impl_isLower.good (hE : EnvOk Tryz.prog envX) (pv : Nat → Value) (a0 : Int) {y : _} (h : impl_isLower.F a0 = some y) : Meets Tryz.prog envX pv (.f 98) (tvals [(.int .u8)] (a0, ())) (.t .bool y) :=
  fun_plain hE (impl_isLower.G hE pv) (f := 98) (fn := Tryz.f98) (by kernel_rfl) rfl (by kernel_rfl) (by kernel_rfl) ((impl_isLower.run a0).trans h) fun r hr => wk_view1 hr
/-! ### 99 loop.example/g00896/impl.isDigit -/
def impl_isDigit.F (a0 : Int) : Option (Bool) := bif (decide (a0 ≥ 48)) then (some (decide (a0 ≤ 57))) else (some false)
def impl_isDigit.C : Cal → Option CArm := fun c => match c with
  | _ => none
theorem impl_isDigit.run (a0 : Int) : runF envX (tabC impl_isDigit.C) (tabL 9 0 (fun _ => none)) Tryz.f99 [.t (.int .u8) a0] (viewR1 (.t .bool)) = impl_isDigit.F a0 := by kernel_rfl
theorem impl_isDigit.G (hE : EnvOk Tryz.prog envX) (pv : Nat → Value) : ∀ cal A, impl_isDigit.C cal = some A → ArmOk Tryz.prog envX pv cal A := by
  intro cal A h
  unfold impl_isDigit.C at h
  cases h
theorem impl_isDigit.good (hE : EnvOk Tryz.prog envX) (pv : Nat → Value) (a0 : Int) {y : _} (h : impl_isDigit.F a0 = some y) : Meets Tryz.prog envX pv (.f 99) (tvals [(.int .u8)] (a0, ())) (.t .bool y) :=
  fun_plain hE (impl_isDigit.G hE pv) (f := 99) (fn := Tryz.f99) (by kernel_rfl) rfl (by kernel_rfl) (by kernel_rfl) ((impl_isDigit.run a0).trans h) fun r hr => wk_view1 hr
/-! ### 76 loop.example/g00896/impl.isKey -/
def impl_isKey.l0 : Nat → ByteArray → Int → Option (Sum Bool Unit)
  | 0, _, _ => none
  | k + 1, x0, x3 => bif (decide (x3 < (x0.size : Int))) then (bif decide (0 ≤ x3) then (bif decide (x3 < (x0.size : Int)) then ((impl_isLower.F (bt x0 (x3 : Int).toNat)).bind fun r3 => bif (!r3) then (bif decide (0 ≤ x3) then (bif decide (x3 < (x0.size : Int)) then ((impl_isDigit.F (bt x0 (x3 : Int).toNat)).bind fun r4 => bif (!r4) then (some (.inl false)) else (impl_isKey.l0 k x0 (IntKind.wrap .i64 (x3 + 1)))) else none) else none) else (impl_isKey.l0 k x0 (IntKind.wrap .i64 (x3 + 1)))) else none) else none) else (some (.inr ()))
def impl_isKey.F (k : Nat) (a0 : ByteArray) : Option (Bool) := (impl_inside.F (a0.size : Int) 1 10).bind fun r1 => bif (!r1) then (some false) else (bif decide (0 ≤ 0) then (bif decide (0 < (a0.size : Int)) then ((impl_isLower.F (bt a0 (0 : Int).toNat)).bind fun r2 => bif (!r2) then (some false) else ((impl_isKey.l0 k a0 0).bind fun y5 => match y5 with | .inl z6 => some z6 | .inr z6 => some true)) else none) else none)
def impl_isKey.C (k : Nat) : Cal → Option CArm := fun c => match c with
  | .f 80 => some (.p [(.int .i64), (.int .i64), (.int .i64)] _ (fun x => impl_inside.F x.1 x.2.1 x.2.2.1) (fun r => (.t .bool r)))
  | .f 98 => some (.p [(.int .u8)] _ (fun x => impl_isLower.F x.1) (fun r => (.t .bool r)))
  | .f 99 => some (.p [(.int .u8)] _ (fun x => impl_isDigit.F x.1) (fun r => (.t .bool r)))
  | _ => none
def impl_isKey.sp0 : List Sp := [.t 0 .str, .t 3 (.int .i64)]
def impl_isKey.sp0_0 : List Sp := [.t 2 .bool]
def impl_isKey.sp0_1 : List Sp := []
def impl_isKey.A0 : LArm := .two impl_isKey.sp0 impl_isKey.sp0_0 impl_isKey.sp0_1 (Bool) (Unit) (fun k x => impl_isKey.l0 k x.1 x.2.1) .ret (.exit 0) (fun y => (y, ())) (fun x => x.1) (fun y => ()) (fun x => ())
def impl_isKey.L : Nat → Option LArm := fun b => match b with
  | 0 => some impl_isKey.A0
  | _ => none
theorem impl_isKey.run (k : Nat) (a0 : ByteArray) : runF envX (tabC (impl_isKey.C k)) (tabL 32 k impl_isKey.L) Tryz.f76 [.t .str a0] (viewR1 (.t .bool)) = impl_isKey.F k a0 := by kernel_rfl
theorem impl_isKey.step0 (k : Nat) (x0 : ByteArray) (x3 : Int) : runC envX (tabC (impl_isKey.C k)) (tabL 32 k impl_isKey.L) 0 (loopAt Tryz.f76 0) (stOf 32 impl_isKey.sp0 (x0, x3, ())) (impl_isKey.A0.cont 32 k) = impl_isKey.l0 (k + 1) x0 x3 := by kernel_rfl
theorem impl_isKey.G (hE : EnvOk Tryz.prog envX) (pv : Nat → Value) (k : Nat) : ∀ cal A, impl_isKey.C k cal = some A → ArmOk Tryz.prog envX pv cal A := by
  intro cal A h
  unfold impl_isKey.C at h
  split at h
  · cases h; exact fun x y hy => impl_inside.good hE pv x.1 x.2.1 x.2.2.1 hy
  · cases h; exact fun x y hy => impl_isLower.good hE pv x.1 hy
  · cases h; exact fun x y hy => impl_isDigit.good hE pv x.1 hy
  · cases h
theorem impl_isKey.good (hE : EnvOk Tryz.prog envX) (pv : Nat → Value) (k : Nat) (a0 : ByteArray) {y : _} (h : impl_isKey.F k a0 = some y) : Meets Tryz.prog envX pv (.f 76) (tvals [.str] (a0, ())) (.t .bool y) :=
  fun_loops hE (t := impl_isKey.C) k (fun k _ => impl_isKey.G hE pv k) (f := 76) (fn := Tryz.f76) (by kernel_rfl) rfl (by kernel_rfl) (by kernel_rfl) (lt := impl_isKey.L) (by kernel_rfl) (fun b A h => by
    unfold impl_isKey.L at h; split at h
    · cases h; exact ⟨by kernel_rfl, by kernel_rfl, by kernel_rfl, fun _ => rfl, fun _ => rfl, fun _ => rfl⟩
    · cases h) (fun b A h => by
    unfold impl_isKey.L at h; split at h
    · cases h; exact fun k x => impl_isKey.step0 k x.1 x.2.1
    · cases h) ((impl_isKey.run k a0).trans h) fun r hr => wk_view1 hr
/-! ### 77 loop.example/g00896/impl.isKind -/
def impl_isKind.F (a0 : Int) : Option (Bool) := (impl_inside.F a0 1 4).bind fun r1 => some r1
def impl_isKind.C : Cal → Option CArm := fun c => match c with
  | .f 80 => some (.p [(.int .i64), (.int .i64), (.int .i64)] _ (fun x => impl_inside.F x.1 x.2.1 x.2.2.1) (fun r => (.t .bool r)))
  | _ => none
theorem impl_isKind.run (a0 : Int) : runF envX (tabC impl_isKind.C) (tabL 5 0 (fun _ => none)) Tryz.f77 [.t (.int .i64) a0] (viewR1 (.t .bool)) = impl_isKind.F a0 := by kernel_rfl
theorem impl_isKind.G (hE : EnvOk Tryz.prog envX) (pv : Nat → Value) : ∀ cal A, impl_isKind.C cal = some A → ArmOk Tryz.prog envX pv cal A := by
  intro cal A h
  unfold impl_isKind.C at h
  split at h
  · cases h; exact fun x y hy => impl_inside.good hE pv x.1 x.2.1 x.2.2.1 hy
  · cases h
theorem impl_isKind.good (hE : EnvOk Tryz.prog envX) (pv : Nat → Value) (a0 : Int) {y : _} (h : impl_isKind.F a0 = some y) : Meets Tryz.prog envX pv (.f 77) (tvals [(.int .i64)] (a0, ())) (.t .bool y) :=
  fun_plain hE (impl_isKind.G hE pv) (f := 77) (fn := Tryz.f77) (by kernel_rfl) rfl (by kernel_rfl) (by kernel_rfl) ((impl_isKind.run a0).trans h) fun r hr => wk_view1 hr
-- NO 115 slices.IndexFunc[[]loop.example/g00896/impl.Name,loop.example/g00896/impl.Name]: a parameter's type
-- NO 100 slices.ContainsFunc[[]loop.example/g00896/impl.Name,loop.example/g00896/impl.Name]: a parameter's type
-- NO 131 slices.IndexFunc[[]string,string]: a parameter's type
-- NO 116 slices.ContainsFunc[[]string,string]: a parameter's type
/-! ### 132 loop.example/g00896/impl.isUpper -/
def impl_isUpper.F (a0 : Int) : Option (Bool) := bif (decide (a0 ≥ 65)) then (some (decide (a0 ≤ 90))) else (some false)
def impl_isUpper.C : Cal → Option CArm := fun c => match c with
  | _ => none
theorem impl_isUpper.run (a0 : Int) : runF envX (tabC impl_isUpper.C) (tabL 9 0 (fun _ => none)) Tryz.f132 [.t (.int .u8) a0] (viewR1 (.t .bool)) = impl_isUpper.F a0 := by kernel_rfl
theorem impl_isUpper.G (hE : EnvOk Tryz.prog envX) (pv : Nat → Value) : ∀ cal A, impl_isUpper.C cal = some A → ArmOk Tryz.prog envX pv cal A := by
  intro cal A h
  unfold impl_isUpper.C at h
  cases h
theorem impl_isUpper.good (hE : EnvOk Tryz.prog envX) (pv : Nat → Value) (a0 : Int) {y : _} (h : impl_isUpper.F a0 = some y) : Meets Tryz.prog envX pv (.f 132) (tvals [(.int .u8)] (a0, ())) (.t .bool y) :=
  fun_plain hE (impl_isUpper.G hE pv) (f := 132) (fn := Tryz.f132) (by kernel_rfl) rfl (by kernel_rfl) (by kernel_rfl) ((impl_isUpper.run a0).trans h) fun r hr => wk_view1 hr
/-! ### 134 loop.example/g00896/impl.isLetter -/
def impl_isLetter.F (a0 : Int) : Option (Bool) := (impl_isUpper.F a0).bind fun r1 => bif r1 then (some true) else ((impl_isLower.F a0).bind fun r2 => some r2)
def impl_isLetter.C : Cal → Option CArm := fun c => match c with
  | .f 132 => some (.p [(.int .u8)] _ (fun x => impl_isUpper.F x.1) (fun r => (.t .bool r)))
  | .f 98 => some (.p [(.int .u8)] _ (fun x => impl_isLower.F x.1) (fun r => (.t .bool r)))
  | _ => none
theorem impl_isLetter.run (a0 : Int) : runF envX (tabC impl_isLetter.C) (tabL 9 0 (fun _ => none)) Tryz.f134 [.t (.int .u8) a0] (viewR1 (.t .bool)) = impl_isLetter.F a0 := by kernel_rfl
theorem impl_isLetter.G (hE : EnvOk Tryz.prog envX) (pv : Nat → Value) : ∀ cal A, impl_isLetter.C cal = some A → ArmOk Tryz.prog envX pv cal A := by
  intro cal A h
  unfold impl_isLetter.C at h
  split at h
  · cases h; exact fun x y hy => impl_isUpper.good hE pv x.1 hy
  · cases h; exact fun x y hy => impl_isLower.good hE pv x.1 hy
  · cases h
theorem impl_isLetter.good (hE : EnvOk Tryz.prog envX) (pv : Nat → Value) (a0 : Int) {y : _} (h : impl_isLetter.F a0 = some y) : Meets Tryz.prog envX pv (.f 134) (tvals [(.int .u8)] (a0, ())) (.t .bool y) :=
  fun_plain hE (impl_isLetter.G hE pv) (f := 134) (fn := Tryz.f134) (by kernel_rfl) rfl (by kernel_rfl) (by kernel_rfl) ((impl_isLetter.run a0).trans h) fun r hr => wk_view1 hr
/-! ### 120 loop.example/g00896/impl.isNameWord -/
def impl_isNameWord.l0 : Nat → ByteArray → Int → Option (Sum Bool Unit)
  | 0, _, _ => none
  | k + 1, x0, x3 => bif (decide (x3 < (x0.size : Int))) then (bif decide (0 ≤ x3) then (bif decide (x3 < (x0.size : Int)) then ((impl_isLetter.F (bt x0 (x3 : Int).toNat)).bind fun r4 => bif (!r4) then (bif decide (0 ≤ x3) then (bif decide (x3 < (x0.size : Int)) then (bif ((bt x0 (x3 : Int).toNat) != 45) then (bif decide (0 ≤ x3) then (bif decide (x3 < (x0.size : Int)) then (bif ((bt x0 (x3 : Int).toNat) != 39) then (some (.inl false)) else (bif decide (0 ≤ (IntKind.wrap .i64 (x3 - 1))) then (bif decide ((IntKind.wrap .i64 (x3 - 1)) < (x0.size : Int)) then ((impl_isLetter.F (bt x0 ((IntKind.wrap .i64 (x3 - 1)) : Int).toNat)).bind fun r5 => bif (!r5) then (some (.inl false)) else (impl_isNameWord.l0 k x0 (IntKind.wrap .i64 (x3 + 1)))) else none) else none)) else none) else none) else (bif decide (0 ≤ (IntKind.wrap .i64 (x3 - 1))) then (bif decide ((IntKind.wrap .i64 (x3 - 1)) < (x0.size : Int)) then ((impl_isLetter.F (bt x0 ((IntKind.wrap .i64 (x3 - 1)) : Int).toNat)).bind fun r6 => bif (!r6) then (some (.inl false)) else (impl_isNameWord.l0 k x0 (IntKind.wrap .i64 (x3 + 1)))) else none) else none)) else none) else none) else (impl_isNameWord.l0 k x0 (IntKind.wrap .i64 (x3 + 1)))) else none) else none) else (some (.inr ()))
def impl_isNameWord.F (k : Nat) (a0 : ByteArray) : Option (Bool) := (impl_inside.F (a0.size : Int) 1 12).bind fun r1 => bif (!r1) then (some false) else (bif decide (0 ≤ (IntKind.wrap .i64 ((a0.size : Int) - 1))) then (bif decide ((IntKind.wrap .i64 ((a0.size : Int) - 1)) < (a0.size : Int)) then ((impl_isLetter.F (bt a0 ((IntKind.wrap .i64 ((a0.size : Int) - 1)) : Int).toNat)).bind fun r2 => bif (!r2) then (some false) else (bif decide (0 ≤ 0) then (bif decide (0 < (a0.size : Int)) then ((impl_isLetter.F (bt a0 (0 : Int).toNat)).bind fun r3 => bif (!r3) then (some false) else ((impl_isNameWord.l0 k a0 0).bind fun y7 => match y7 with | .inl z8 => some z8 | .inr z8 => some true)) else none) else none)) else none) else none)
def impl_isNameWord.C (k : Nat) : Cal → Option CArm := fun c => match c with
  | .f 80 => some (.p [(.int .i64), (.int .i64), (.int .i64)] _ (fun x => impl_inside.F x.1 x.2.1 x.2.2.1) (fun r => (.t .bool r)))
  | .f 134 => some (.p [(.int .u8)] _ (fun x => impl_isLetter.F x.1) (fun r => (.t .bool r)))
  | _ => none
def impl_isNameWord.sp0 : List Sp := [.t 0 .str, .t 3 (.int .i64)]
def impl_isNameWord.sp0_0 : List Sp := [.t 2 .bool]
def impl_isNameWord.sp0_1 : List Sp := []
def impl_isNameWord.A0 : LArm := .two impl_isNameWord.sp0 impl_isNameWord.sp0_0 impl_isNameWord.sp0_1 (Bool) (Unit) (fun k x => impl_isNameWord.l0 k x.1 x.2.1) .ret (.exit 0) (fun y => (y, ())) (fun x => x.1) (fun y => ()) (fun x => ())
def impl_isNameWord.L : Nat → Option LArm := fun b => match b with
  | 0 => some impl_isNameWord.A0
  | _ => none
theorem impl_isNameWord.run (k : Nat) (a0 : ByteArray) : runF envX (tabC (impl_isNameWord.C k)) (tabL 54 k impl_isNameWord.L) Tryz.f120 [.t .str a0] (viewR1 (.t .bool)) = impl_isNameWord.F k a0 := by kernel_rfl
theorem impl_isNameWord.step0 (k : Nat) (x0 : ByteArray) (x3 : Int) : runC envX (tabC (impl_isNameWord.C k)) (tabL 54 k impl_isNameWord.L) 0 (loopAt Tryz.f120 0) (stOf 54 impl_isNameWord.sp0 (x0, x3, ())) (impl_isNameWord.A0.cont 54 k) = impl_isNameWord.l0 (k + 1) x0 x3 := by kernel_rfl
theorem impl_isNameWord.G (hE : EnvOk Tryz.prog envX) (pv : Nat → Value) (k : Nat) : ∀ cal A, impl_isNameWord.C k cal = some A → ArmOk Tryz.prog envX pv cal A := by
  intro cal A h
  unfold impl_isNameWord.C at h
  split at h
  · cases h; exact fun x y hy => impl_inside.good hE pv x.1 x.2.1 x.2.2.1 hy
  · cases h; exact fun x y hy => impl_isLetter.good hE pv x.1 hy
  · cases h
theorem impl_isNameWord.good (hE : EnvOk Tryz.prog envX) (pv : Nat → Value) (k : Nat) (a0 : ByteArray) {y : _} (h : impl_isNameWord.F k a0 = some y) : Meets Tryz.prog envX pv (.f 120) (tvals [.str] (a0, ())) (.t .bool y) :=
  fun_loops hE (t := impl_isNameWord.C) k (fun k _ => impl_isNameWord.G hE pv k) (f := 120) (fn := Tryz.f120) (by kernel_rfl) rfl (by kernel_rfl) (by kernel_rfl) (lt := impl_isNameWord.L) (by kernel_rfl) (fun b A h => by
    unfold impl_isNameWord.L at h; split at h
    · cases h; exact ⟨by kernel_rfl, by kernel_rfl, by kernel_rfl, fun _ => rfl, fun _ => rfl, fun _ => rfl⟩
    · cases h) (fun b A h => by
    unfold impl_isNameWord.L at h; split at h
    · cases h; exact fun k x => impl_isNameWord.step0 k x.1 x.2.1
    · cases h) ((impl_isNameWord.run k a0).trans h) fun r hr => wk_view1 hr
/-! ### 118 loop.example/g00896/impl.isGreatWord -/
def impl_isGreatWord.F (k : Nat) (a0 : ByteArray) : Option (Bool) := (impl_isNameWord.F k a0).bind fun r1 => bif r1 then (bif decide (0 ≤ 0) then (bif decide (0 < (a0.size : Int)) then ((impl_isUpper.F (bt a0 (0 : Int).toNat)).bind fun r2 => some r2) else none) else none) else (some false)
def impl_isGreatWord.C (k : Nat) : Cal → Option CArm := fun c => match c with
  | .f 120 => some (.p [.str] _ (fun x => impl_isNameWord.F k x.1) (fun r => (.t .bool r)))
  | .f 132 => some (.p [(.int .u8)] _ (fun x => impl_isUpper.F x.1) (fun r => (.t .bool r)))
  | _ => none
theorem impl_isGreatWord.run (k : Nat) (a0 : ByteArray) : runF envX (tabC (impl_isGreatWord.C k)) (tabL 10 0 (fun _ => none)) Tryz.f118 [.t .str a0] (viewR1 (.t .bool)) = impl_isGreatWord.F k a0 := by kernel_rfl
theorem impl_isGreatWord.G (hE : EnvOk Tryz.prog envX) (pv : Nat → Value) (k : Nat) : ∀ cal A, impl_isGreatWord.C k cal = some A → ArmOk Tryz.prog envX pv cal A := by
  intro cal A h
  unfold impl_isGreatWord.C at h
  split at h
  · cases h; exact fun x y hy => impl_isNameWord.good hE pv k x.1 hy
  · cases h; exact fun x y hy => impl_isUpper.good hE pv x.1 hy
  · cases h
theorem impl_isGreatWord.good (hE : EnvOk Tryz.prog envX) (pv : Nat → Value) (k : Nat) (a0 : ByteArray) {y : _} (h : impl_isGreatWord.F k a0 = some y) : Meets Tryz.prog envX pv (.f 118) (tvals [.str] (a0, ())) (.t .bool y) :=
  fun_plain hE (impl_isGreatWord.G hE pv k) (f := 118) (fn := Tryz.f118) (by kernel_rfl) rfl (by kernel_rfl) (by kernel_rfl) ((impl_isGreatWord.run k a0).trans h) fun r hr => wk_view1 hr
/-! ### 117 loop.example/g00896/impl.IsValidName$1 -/
def impl_IsValidName_1.F (k : Nat) (a0 : ByteArray) : Option (Bool) := (impl_isGreatWord.F k a0).bind fun r1 => some (!r1)
def impl_IsValidName_1.C (k : Nat) : Cal → Option CArm := fun c => match c with
  | .f 118 => some (.p [.str] _ (fun x => impl_isGreatWord.F k x.1) (fun r => (.t .bool r)))
  | _ => none
theorem impl_IsValidName_1.run (k : Nat) (a0 : ByteArray) : runF envX (tabC (impl_IsValidName_1.C k)) (tabL 6 0 (fun _ => none)) Tryz.f117 [.t .str a0] (viewR1 (.t .bool)) = impl_IsValidName_1.F k a0 := by kernel_rfl
theorem impl_IsValidName_1.G (hE : EnvOk Tryz.prog envX) (pv : Nat → Value) (k : Nat) : ∀ cal A, impl_IsValidName_1.C k cal = some A → ArmOk Tryz.prog envX pv cal A := by
  intro cal A h
  unfold impl_IsValidName_1.C at h
  split at h
  · cases h; exact fun x y hy => impl_isGreatWord.good hE pv k x.1 hy
  · cases h
theorem impl_IsValidName_1.good (hE : EnvOk Tryz.prog envX) (pv : Nat → Value) (k : Nat) (a0 : ByteArray) {y : _} (h : impl_IsValidName_1.F k a0 = some y) : Meets Tryz.prog envX pv (.f 117) (tvals [.str] (a0, ())) (.t .bool y) :=
  fun_plain hE (impl_IsValidName_1.G hE pv k) (f := 117) (fn := Tryz.f117) (by kernel_rfl) rfl (by kernel_rfl) (by kernel_rfl) ((impl_IsValidName_1.run k a0).trans h) fun r hr => wk_view1 hr
/-! ### 133 strings.Split -/
def strings_Split.F (a0 : ByteArray) (a1 : ByteArray) : Option (List ByteArray) := xSplit a0 a1
theorem strings_Split.good (hE : EnvOk Tryz.prog envX) (pv : Nat → Value) (a0 : ByteArray) (a1 : ByteArray) {y : _} (h : strings_Split.F a0 a1 = some y) : Meets Tryz.prog envX pv (.f 133) (tvals [.str, .str] (a0, a1, ())) (.fr 9 .str y) :=
  ext_split (fn := Tryz.f133) (by kernel_rfl) rfl (by kernel_rfl) (mx := 2) (by kernel_rfl) Tryz.strings_Split h
/-! ### 119 loop.example/g00896/impl.isParticle -/
def impl_isParticle.l2 : Nat → (List ByteArray) → ByteArray → Int → Int → Int → Option (Sum Bool ((List ByteArray) × Int × Int))
  | 0, _, _, _, _, _ => none
  | k + 1, x3, x5, x6, x12, x13 => bif (decide (x6 < (x5.size : Int))) then (bif decide (0 ≤ x6) then (bif decide (x6 < (x5.size : Int)) then ((impl_isLower.F (bt x5 (x6 : Int).toNat)).bind fun r3 => bif (!r3) then (some (.inl false)) else (impl_isParticle.l2 k x3 x5 (IntKind.wrap .i64 (x6 + 1)) x12 x13)) else none) else none) else (some (.inr (x3, x12, x13)))
def impl_isParticle.l0 : Nat → (List ByteArray) → Int → Int → Option (Sum Bool (List ByteArray))
  | 0, _, _, _ => none
  | k + 1, x3, x12, x13 => bif (decide (x13 < x12)) then (bif decide (0 ≤ x13) then (bif decide (x13 < (x3.length : Int)) then ((impl_inside.F ((x3.getD ((x13 : Int).toNat) (⟨#[]⟩ : ByteArray)).size : Int) 1 12).bind fun r2 => bif (!r2) then (some (.inl false)) else ((impl_isParticle.l2 k x3 (x3.getD ((x13 : Int).toNat) (⟨#[]⟩ : ByteArray)) 0 x12 x13).bind fun y4 => match y4 with | .inl z5 => some (.inl z5) | .inr z5 => impl_isParticle.l0 k z5.1 z5.2.1 (IntKind.wrap .i64 (z5.2.2 + 1)))) else none) else none) else (some (.inr x3))
def impl_isParticle.F (k : Nat) (a0 : ByteArray) : Option (Bool) := bif (beqS a0 (⟨#[]⟩ : ByteArray)) then (some true) else ((strings_Split.F a0 (⟨#[32]⟩ : ByteArray)).bind fun r1 => (impl_isParticle.l0 k r1 (r1.length : Int) 0).bind fun y6 => match y6 with | .inl z7 => some z7 | .inr z7 => some (decide ((z7.length : Int) ≤ 2)))
def impl_isParticle.C (k : Nat) : Cal → Option CArm := fun c => match c with
  | .f 133 => some (.p [.str, .str] _ (fun x => strings_Split.F x.1 x.2.1) (fun r => (.fr 9 .str r)))
  | .f 80 => some (.p [(.int .i64), (.int .i64), (.int .i64)] _ (fun x => impl_inside.F x.1 x.2.1 x.2.2.1) (fun r => (.t .bool r)))
  | .f 98 => some (.p [(.int .u8)] _ (fun x => impl_isLower.F x.1) (fun r => (.t .bool r)))
  | _ => none
def impl_isParticle.sp2 : List Sp := [.own 3 3076 9 .str false true, .t 5 .str, .t 6 (.int .i64), .con 11 (.own 3076), .t 12 (.int .i64), .t 13 (.int .i64)]
def impl_isParticle.sp2_0 : List Sp := [.t 2 .bool]
def impl_isParticle.sp2_1 : List Sp := [.own 3 3076 9 .str false true, .con 11 (.own 3076), .t 12 (.int .i64), .t 13 (.int .i64)]
def impl_isParticle.A2 : LArm := .two impl_isParticle.sp2 impl_isParticle.sp2_0 impl_isParticle.sp2_1 (Bool) ((List ByteArray) × Int × Int) (fun k x => impl_isParticle.l2 k x.1 x.2.1 x.2.2.1 x.2.2.2.2.1 x.2.2.2.2.2.1) .ret (.exit 2) (fun y => (y, ())) (fun x => x.1) (fun y => (y.1, (), y.2.1, y.2.2, ())) (fun x => (x.1, x.2.2.1, x.2.2.2.1))
def impl_isParticle.sp0 : List Sp := [.own 3 3076 9 .str false true, .con 11 (.own 3076), .t 12 (.int .i64), .t 13 (.int .i64)]
def impl_isParticle.sp0_0 : List Sp := [.t 2 .bool]
def impl_isParticle.sp0_1 : List Sp := [.own 3 3076 9 .str false true]
def impl_isParticle.A0 : LArm := .two impl_isParticle.sp0 impl_isParticle.sp0_0 impl_isParticle.sp0_1 (Bool) ((List ByteArray)) (fun k x => impl_isParticle.l0 k x.1 x.2.2.1 x.2.2.2.1) .ret (.exit 0) (fun y => (y, ())) (fun x => x.1) (fun y => (y, ())) (fun x => x.1)
def impl_isParticle.L : Nat → Option LArm := fun b => match b with
  | 2 => some impl_isParticle.A2
  | 0 => some impl_isParticle.A0
  | _ => none
theorem impl_isParticle.run (k : Nat) (a0 : ByteArray) : runF envX (tabC (impl_isParticle.C k)) (tabL 36 k impl_isParticle.L) Tryz.f119 [.t .str a0] (viewR1 (.t .bool)) = impl_isParticle.F k a0 := by kernel_rfl
theorem impl_isParticle.step2 (k : Nat) (x3 : List ByteArray) (x5 : ByteArray) (x6 : Int) (x12 : Int) (x13 : Int) : runC envX (tabC (impl_isParticle.C k)) (tabL 36 k impl_isParticle.L) 2 (loopAt Tryz.f119 2) (stOf 36 impl_isParticle.sp2 (x3, x5, x6, (), x12, x13, ())) (impl_isParticle.A2.cont 36 k) = impl_isParticle.l2 (k + 1) x3 x5 x6 x12 x13 := by kernel_rfl
theorem impl_isParticle.step0 (k : Nat) (x3 : List ByteArray) (x12 : Int) (x13 : Int) : runC envX (tabC (impl_isParticle.C k)) (tabL 36 k impl_isParticle.L) 0 (loopAt Tryz.f119 0) (stOf 36 impl_isParticle.sp0 (x3, (), x12, x13, ())) (impl_isParticle.A0.cont 36 k) = impl_isParticle.l0 (k + 1) x3 x12 x13 := by kernel_rfl
theorem impl_isParticle.G (hE : EnvOk Tryz.prog envX) (pv : Nat → Value) (k : Nat) : ∀ cal A, impl_isParticle.C k cal = some A → ArmOk Tryz.prog envX pv cal A := by
  intro cal A h
  unfold impl_isParticle.C at h
  split at h
  · cases h; exact fun x y hy => strings_Split.good hE pv x.1 x.2.1 hy
  · cases h; exact fun x y hy => impl_inside.good hE pv x.1 x.2.1 x.2.2.1 hy
  · cases h; exact fun x y hy => impl_isLower.good hE pv x.1 hy
  · cases h
theorem impl_isParticle.good (hE : EnvOk Tryz.prog envX) (pv : Nat → Value) (k : Nat) (a0 : ByteArray) {y : _} (h : impl_isParticle.F k a0 = some y) : Meets Tryz.prog envX pv (.f 119) (tvals [.str] (a0, ())) (.t .bool y) :=
  fun_loops hE (t := impl_isParticle.C) k (fun k _ => impl_isParticle.G hE pv k) (f := 119) (fn := Tryz.f119) (by kernel_rfl) rfl (by kernel_rfl) (by kernel_rfl) (lt := impl_isParticle.L) (by kernel_rfl) (fun b A h => by
    unfold impl_isParticle.L at h; split at h
    · cases h; exact ⟨by kernel_rfl, by kernel_rfl, by kernel_rfl, fun _ => rfl, fun _ => rfl, fun _ => rfl⟩
    · cases h; exact ⟨by kernel_rfl, by kernel_rfl, by kernel_rfl, fun _ => rfl, fun _ => rfl, fun _ => rfl⟩
    · cases h) (fun b A h => by
    unfold impl_isParticle.L at h; split at h
    · cases h; exact fun k x => impl_isParticle.step2 k x.1 x.2.1 x.2.2.1 x.2.2.2.2.1 x.2.2.2.2.2.1
    · cases h; exact fun k x => impl_isParticle.step0 k x.1 x.2.2.1 x.2.2.2.1
    · cases h) ((impl_isParticle.run k a0).trans h) fun r hr => wk_view1 hr
/-! ### 131 slices.IndexFunc[[]string,string] at loop.example/g00896/impl.IsValidName$1 -/
def slices_IndexFunc_string_f117.l0 : Nat → (List ByteArray) → Int → Int → Option (Sum Int Unit)
  | 0, _, _, _ => none
  | k + 1, x0, x7, x8 => bif (decide (x8 < x7)) then (bif decide (0 ≤ x8) then (bif decide (x8 < (x0.length : Int)) then ((impl_IsValidName_1.F k (x0.getD (x8 : Int).toNat (⟨#[]⟩ : ByteArray))).bind fun r1 => bif r1 then (some (.inl x8)) else (slices_IndexFunc_string_f117.l0 k x0 x7 (IntKind.wrap .i64 (x8 + 1)))) else none) else none) else (some (.inr ()))
def slices_IndexFunc_string_f117.F (k : Nat) (a0 : List ByteArray) : Option (Int) := (slices_IndexFunc_string_f117.l0 k a0 (a0.length : Int) 0).bind fun y2 => match y2 with | .inl z3 => some z3 | .inr z3 => some (-1)
def slices_IndexFunc_string_f117.C (k : Nat) : Cal → Option CArm := fun c => match c with
  | .f 117 => some (.p [.str] _ (fun x => impl_IsValidName_1.F k x.1) (fun r => (.t .bool r)))
  | _ => none
def slices_IndexFunc_string_f117.sp0 : List Sp := [.t 0 (.sl .str), .con 1 (.clo 117), .t 7 (.int .i64), .t 8 (.int .i64)]
def slices_IndexFunc_string_f117.sp0_0 : List Sp := [.t 4 (.int .i64)]
def slices_IndexFunc_string_f117.sp0_1 : List Sp := []
def slices_IndexFunc_string_f117.A0 : LArm := .two slices_IndexFunc_string_f117.sp0 slices_IndexFunc_string_f117.sp0_0 slices_IndexFunc_string_f117.sp0_1 (Int) (Unit) (fun k x => slices_IndexFunc_string_f117.l0 k x.1 x.2.2.1 x.2.2.2.1) .ret (.exit 0) (fun y => (y, ())) (fun x => x.1) (fun y => ()) (fun x => ())
def slices_IndexFunc_string_f117.L : Nat → Option LArm := fun b => match b with
  | 0 => some slices_IndexFunc_string_f117.A0
  | _ => none
theorem slices_IndexFunc_string_f117.run (k : Nat) (a0 : List ByteArray) : runF envX (tabC (slices_IndexFunc_string_f117.C k)) (tabL 19 k slices_IndexFunc_string_f117.L) Tryz.f131 [.t (.sl .str) a0, .clo 117 []] (viewR1 (.t (.int .i64))) = slices_IndexFunc_string_f117.F k a0 := by kernel_rfl
theorem slices_IndexFunc_string_f117.step0 (k : Nat) (x0 : List ByteArray) (x7 : Int) (x8 : Int) : runC envX (tabC (slices_IndexFunc_string_f117.C k)) (tabL 19 k slices_IndexFunc_string_f117.L) 0 (loopAt Tryz.f131 0) (stOf 19 slices_IndexFunc_string_f117.sp0 (x0, (), x7, x8, ())) (slices_IndexFunc_string_f117.A0.cont 19 k) = slices_IndexFunc_string_f117.l0 (k + 1) x0 x7 x8 := by kernel_rfl
theorem slices_IndexFunc_string_f117.G (hE : EnvOk Tryz.prog envX) (pv : Nat → Value) (k : Nat) : ∀ cal A, slices_IndexFunc_string_f117.C k cal = some A → ArmOk Tryz.prog envX pv cal A := by
  intro cal A h
  unfold slices_IndexFunc_string_f117.C at h
  split at h
  · cases h; exact fun x y hy => impl_IsValidName_1.good hE pv k x.1 hy
  · cases h
theorem slices_IndexFunc_string_f117.good (hE : EnvOk Tryz.prog envX) (pv : Nat → Value) (k : Nat) (a0 : List ByteArray) {y : _} (h : slices_IndexFunc_string_f117.F k a0 = some y) : Meets Tryz.prog envX pv (.f 131) (pvals [.t (.sl .str), .clo 117 []] (a0, (()), ())) (.t (.int .i64) y) :=
  fun_loops hE (t := slices_IndexFunc_string_f117.C) k (fun k _ => slices_IndexFunc_string_f117.G hE pv k) (f := 131) (fn := Tryz.f131) (by kernel_rfl) rfl (by kernel_rfl) (by kernel_rfl) (lt := slices_IndexFunc_string_f117.L) (by kernel_rfl) (fun b A h => by
    unfold slices_IndexFunc_string_f117.L at h; split at h
    · cases h; exact ⟨by kernel_rfl, by kernel_rfl, by kernel_rfl, fun _ => rfl, fun _ => rfl, fun _ => rfl⟩
    · cases h) (fun b A h => by
    unfold slices_IndexFunc_string_f117.L at h; split at h
    · cases h; exact fun k x => slices_IndexFunc_string_f117.step0 k x.1 x.2.2.1 x.2.2.2.1
    · cases h) ((slices_IndexFunc_string_f117.run k a0).trans h) fun r hr => wk_view1 hr
/-! ### 116 slices.ContainsFunc[[]string,string] at loop.example/g00896/impl.IsValidName$1 -/
def slices_ContainsFunc_string_f117.F (k : Nat) (a0 : List ByteArray) : Option (Bool) := (slices_IndexFunc_string_f117.F k a0).bind fun r1 => some (decide (r1 ≥ 0))
def slices_ContainsFunc_string_f117.C (k : Nat) : Cal → Option CArm := fun c => match c with
  | .f 131 => some (.q [.t (.sl .str), .clo 117 []] _ (fun x => slices_IndexFunc_string_f117.F k x.1) (fun r => (.t (.int .i64) r)))
  | _ => none
theorem slices_ContainsFunc_string_f117.run (k : Nat) (a0 : List ByteArray) : runF envX (tabC (slices_ContainsFunc_string_f117.C k)) (tabL 9 0 (fun _ => none)) Tryz.f116 [.t (.sl .str) a0, .clo 117 []] (viewR1 (.t .bool)) = slices_ContainsFunc_string_f117.F k a0 := by kernel_rfl
theorem slices_ContainsFunc_string_f117.G (hE : EnvOk Tryz.prog envX) (pv : Nat → Value) (k : Nat) : ∀ cal A, slices_ContainsFunc_string_f117.C k cal = some A → ArmOk Tryz.prog envX pv cal A := by
  intro cal A h
  unfold slices_ContainsFunc_string_f117.C at h
  split at h
  · cases h; exact fun x y hy => slices_IndexFunc_string_f117.good hE pv k x.1 hy
  · cases h
theorem slices_ContainsFunc_string_f117.good (hE : EnvOk Tryz.prog envX) (pv : Nat → Value) (k : Nat) (a0 : List ByteArray) {y : _} (h : slices_ContainsFunc_string_f117.F k a0 = some y) : Meets Tryz.prog envX pv (.f 116) (pvals [.t (.sl .str), .clo 117 []] (a0, (()), ())) (.t .bool y) :=
  fun_plain hE (slices_ContainsFunc_string_f117.G hE pv k) (f := 116) (fn := Tryz.f116) (by kernel_rfl) rfl (by kernel_rfl) (by kernel_rfl) ((slices_ContainsFunc_string_f117.run k a0).trans h) fun r hr => wk_view1 hr
/-! ### 102 loop.example/g00896/impl.IsValidName -/
def impl_IsValidName.F (k : Nat) (a0 : Name) : Option (Bool) := bif (decide ((a0.given.length : Int) > 3)) then (some false) else ((slices_ContainsFunc_string_f117.F k a0.given).bind fun r1 => bif r1 then (some false) else ((impl_isParticle.F k a0.particle).bind fun r2 => bif r2 then ((impl_isGreatWord.F k a0.family).bind fun r3 => bif r3 then (bif (beqS a0.suffix (⟨#[]⟩ : ByteArray)) then (some true) else ((impl_isNameWord.F k a0.suffix).bind fun r4 => some r4)) else (some false)) else (some false)))
def impl_IsValidName.C (k : Nat) : Cal → Option CArm := fun c => match c with
  | .f 116 => some (.q [.t (.sl .str), .clo 117 []] _ (fun x => slices_ContainsFunc_string_f117.F k x.1) (fun r => (.t .bool r)))
  | .f 119 => some (.p [.str] _ (fun x => impl_isParticle.F k x.1) (fun r => (.t .bool r)))
  | .f 118 => some (.p [.str] _ (fun x => impl_isGreatWord.F k x.1) (fun r => (.t .bool r)))
  | .f 120 => some (.p [.str] _ (fun x => impl_isNameWord.F k x.1) (fun r => (.t .bool r)))
  | _ => none
theorem impl_IsValidName.run (k : Nat) (a0 : Name) : runF envX (tabC (impl_IsValidName.C k)) (tabL 30 0 (fun _ => none)) Tryz.f102 [.t .name a0] (viewR1 (.t .bool)) = impl_IsValidName.F k a0 := by kernel_rfl
theorem impl_IsValidName.G (hE : EnvOk Tryz.prog envX) (pv : Nat → Value) (k : Nat) : ∀ cal A, impl_IsValidName.C k cal = some A → ArmOk Tryz.prog envX pv cal A := by
  intro cal A h
  unfold impl_IsValidName.C at h
  split at h
  · cases h; exact fun x y hy => slices_ContainsFunc_string_f117.good hE pv k x.1 hy
  · cases h; exact fun x y hy => impl_isParticle.good hE pv k x.1 hy
  · cases h; exact fun x y hy => impl_isGreatWord.good hE pv k x.1 hy
  · cases h; exact fun x y hy => impl_isNameWord.good hE pv k x.1 hy
  · cases h
theorem impl_IsValidName.good (hE : EnvOk Tryz.prog envX) (pv : Nat → Value) (k : Nat) (a0 : Name) {y : _} (h : impl_IsValidName.F k a0 = some y) : Meets Tryz.prog envX pv (.f 102) (tvals [.name] (a0, ())) (.t .bool y) :=
  fun_plain hE (impl_IsValidName.G hE pv k) (f := 102) (fn := Tryz.f102) (by kernel_rfl) rfl (by kernel_rfl) (by kernel_rfl) ((impl_IsValidName.run k a0).trans h) fun r hr => wk_view1 hr
/-! ### 101 loop.example/g00896/impl.areNames$1 -/
def impl_areNames_1.F (k : Nat) (a0 : Name) : Option (Bool) := (impl_IsValidName.F k a0).bind fun r1 => some (!r1)
def impl_areNames_1.C (k : Nat) : Cal → Option CArm := fun c => match c with
  | .f 102 => some (.p [.name] _ (fun x => impl_IsValidName.F k x.1) (fun r => (.t .bool r)))
  | _ => none
theorem impl_areNames_1.run (k : Nat) (a0 : Name) : runF envX (tabC (impl_areNames_1.C k)) (tabL 6 0 (fun _ => none)) Tryz.f101 [.t .name a0] (viewR1 (.t .bool)) = impl_areNames_1.F k a0 := by kernel_rfl
theorem impl_areNames_1.G (hE : EnvOk Tryz.prog envX) (pv : Nat → Value) (k : Nat) : ∀ cal A, impl_areNames_1.C k cal = some A → ArmOk Tryz.prog envX pv cal A := by
  intro cal A h
  unfold impl_areNames_1.C at h
  split at h
  · cases h; exact fun x y hy => impl_IsValidName.good hE pv k x.1 hy
  · cases h
theorem impl_areNames_1.good (hE : EnvOk Tryz.prog envX) (pv : Nat → Value) (k : Nat) (a0 : Name) {y : _} (h : impl_areNames_1.F k a0 = some y) : Meets Tryz.prog envX pv (.f 101) (tvals [.name] (a0, ())) (.t .bool y) :=
  fun_plain hE (impl_areNames_1.G hE pv k) (f := 101) (fn := Tryz.f101) (by kernel_rfl) rfl (by kernel_rfl) (by kernel_rfl) ((impl_areNames_1.run k a0).trans h) fun r hr => wk_view1 hr
/-! ### 115 slices.IndexFunc[[]loop.example/g00896/impl.Name,loop.example/g00896/impl.Name] at loop.example/g00896/impl.areNames$1 -/
def slices_IndexFunc_Name_f101.l0 : Nat → (List Name) → Int → Int → Option (Sum Int Unit)
  | 0, _, _, _ => none
  | k + 1, x0, x7, x8 => bif (decide (x8 < x7)) then (bif decide (0 ≤ x8) then (bif decide (x8 < (x0.length : Int)) then ((impl_areNames_1.F k (x0.getD (x8 : Int).toNat (dflt .name))).bind fun r1 => bif r1 then (some (.inl x8)) else (slices_IndexFunc_Name_f101.l0 k x0 x7 (IntKind.wrap .i64 (x8 + 1)))) else none) else none) else (some (.inr ()))
def slices_IndexFunc_Name_f101.F (k : Nat) (a0 : List Name) : Option (Int) := (slices_IndexFunc_Name_f101.l0 k a0 (a0.length : Int) 0).bind fun y2 => match y2 with | .inl z3 => some z3 | .inr z3 => some (-1)
def slices_IndexFunc_Name_f101.C (k : Nat) : Cal → Option CArm := fun c => match c with
  | .f 101 => some (.p [.name] _ (fun x => impl_areNames_1.F k x.1) (fun r => (.t .bool r)))
  | _ => none
def slices_IndexFunc_Name_f101.sp0 : List Sp := [.t 0 (.sl .name), .con 1 (.clo 101), .t 7 (.int .i64), .t 8 (.int .i64)]
def slices_IndexFunc_Name_f101.sp0_0 : List Sp := [.t 4 (.int .i64)]
def slices_IndexFunc_Name_f101.sp0_1 : List Sp := []
def slices_IndexFunc_Name_f101.A0 : LArm := .two slices_IndexFunc_Name_f101.sp0 slices_IndexFunc_Name_f101.sp0_0 slices_IndexFunc_Name_f101.sp0_1 (Int) (Unit) (fun k x => slices_IndexFunc_Name_f101.l0 k x.1 x.2.2.1 x.2.2.2.1) .ret (.exit 0) (fun y => (y, ())) (fun x => x.1) (fun y => ()) (fun x => ())
def slices_IndexFunc_Name_f101.L : Nat → Option LArm := fun b => match b with
  | 0 => some slices_IndexFunc_Name_f101.A0
  | _ => none
theorem slices_IndexFunc_Name_f101.run (k : Nat) (a0 : List Name) : runF envX (tabC (slices_IndexFunc_Name_f101.C k)) (tabL 19 k slices_IndexFunc_Name_f101.L) Tryz.f115 [.t (.sl .name) a0, .clo 101 []] (viewR1 (.t (.int .i64))) = slices_IndexFunc_Name_f101.F k a0 := by kernel_rfl
theorem slices_IndexFunc_Name_f101.step0 (k : Nat) (x0 : List Name) (x7 : Int) (x8 : Int) : runC envX (tabC (slices_IndexFunc_Name_f101.C k)) (tabL 19 k slices_IndexFunc_Name_f101.L) 0 (loopAt Tryz.f115 0) (stOf 19 slices_IndexFunc_Name_f101.sp0 (x0, (), x7, x8, ())) (slices_IndexFunc_Name_f101.A0.cont 19 k) = slices_IndexFunc_Name_f101.l0 (k + 1) x0 x7 x8 := by kernel_rfl
theorem slices_IndexFunc_Name_f101.G (hE : EnvOk Tryz.prog envX) (pv : Nat → Value) (k : Nat) : ∀ cal A, slices_IndexFunc_Name_f101.C k cal = some A → ArmOk Tryz.prog envX pv cal A := by
  intro cal A h
  unfold slices_IndexFunc_Name_f101.C at h
  split at h
  · cases h; exact fun x y hy => impl_areNames_1.good hE pv k x.1 hy
  · cases h
theorem slices_IndexFunc_Name_f101.good (hE : EnvOk Tryz.prog envX) (pv : Nat → Value) (k : Nat) (a0 : List Name) {y : _} (h : slices_IndexFunc_Name_f101.F k a0 = some y) : Meets Tryz.prog envX pv (.f 115) (pvals [.t (.sl .name), .clo 101 []] (a0, (()), ())) (.t (.int .i64) y) :=
  fun_loops hE (t := slices_IndexFunc_Name_f101.C) k (fun k _ => slices_IndexFunc_Name_f101.G hE pv k) (f := 115) (fn := Tryz.f115) (by kernel_rfl) rfl (by kernel_rfl) (by kernel_rfl) (lt := slices_IndexFunc_Name_f101.L) (by kernel_rfl) (fun b A h => by
    unfold slices_IndexFunc_Name_f101.L at h; split at h
    · cases h; exact ⟨by kernel_rfl, by kernel_rfl, by kernel_rfl, fun _ => rfl, fun _ => rfl, fun _ => rfl⟩
    · cases h) (fun b A h => by
    unfold slices_IndexFunc_Name_f101.L at h; split at h
    · cases h; exact fun k x => slices_IndexFunc_Name_f101.step0 k x.1 x.2.2.1 x.2.2.2.1
    · cases h) ((slices_IndexFunc_Name_f101.run k a0).trans h) fun r hr => wk_view1 hr
/-! ### 100 slices.ContainsFunc[[]loop.example/g00896/impl.Name,loop.example/g00896/impl.Name] at loop.example/g00896/impl.areNames$1 -/
def slices_ContainsFunc_Name_f101.F (k : Nat) (a0 : List Name) : Option (Bool) := (slices_IndexFunc_Name_f101.F k a0).bind fun r1 => some (decide (r1 ≥ 0))
def slices_ContainsFunc_Name_f101.C (k : Nat) : Cal → Option CArm := fun c => match c with
  | .f 115 => some (.q [.t (.sl .name), .clo 101 []] _ (fun x => slices_IndexFunc_Name_f101.F k x.1) (fun r => (.t (.int .i64) r)))
  | _ => none
theorem slices_ContainsFunc_Name_f101.run (k : Nat) (a0 : List Name) : runF envX (tabC (slices_ContainsFunc_Name_f101.C k)) (tabL 9 0 (fun _ => none)) Tryz.f100 [.t (.sl .name) a0, .clo 101 []] (viewR1 (.t .bool)) = slices_ContainsFunc_Name_f101.F k a0 := by kernel_rfl
theorem slices_ContainsFunc_Name_f101.G (hE : EnvOk Tryz.prog envX) (pv : Nat → Value) (k : Nat) : ∀ cal A, slices_ContainsFunc_Name_f101.C k cal = some A → ArmOk Tryz.prog envX pv cal A := by
  intro cal A h
  unfold slices_ContainsFunc_Name_f101.C at h
  split at h
  · cases h; exact fun x y hy => slices_IndexFunc_Name_f101.good hE pv k x.1 hy
  · cases h
theorem slices_ContainsFunc_Name_f101.good (hE : EnvOk Tryz.prog envX) (pv : Nat → Value) (k : Nat) (a0 : List Name) {y : _} (h : slices_ContainsFunc_Name_f101.F k a0 = some y) : Meets Tryz.prog envX pv (.f 100) (pvals [.t (.sl .name), .clo 101 []] (a0, (()), ())) (.t .bool y) :=
  fun_plain hE (slices_ContainsFunc_Name_f101.G hE pv k) (f := 100) (fn := Tryz.f100) (by kernel_rfl) rfl (by kernel_rfl) (by kernel_rfl) ((slices_ContainsFunc_Name_f101.run k a0).trans h) fun r hr => wk_view1 hr
/-! ### 78 loop.example/g00896/impl.areNames -/
def impl_areNames.F (k : Nat) (a0 : List Name) : Option (Bool) := bif (decide ((a0.length : Int) ≤ 4)) then ((slices_ContainsFunc_Name_f101.F k a0).bind fun r1 => some (!r1)) else (some false)
def impl_areNames.C (k : Nat) : Cal → Option CArm := fun c => match c with
  | .f 100 => some (.q [.t (.sl .name), .clo 101 []] _ (fun x => slices_ContainsFunc_Name_f101.F k x.1) (fun r => (.t .bool r)))
  | _ => none
theorem impl_areNames.run (k : Nat) (a0 : List Name) : runF envX (tabC (impl_areNames.C k)) (tabL 11 0 (fun _ => none)) Tryz.f78 [.t (.sl .name) a0] (viewR1 (.t .bool)) = impl_areNames.F k a0 := by kernel_rfl
theorem impl_areNames.G (hE : EnvOk Tryz.prog envX) (pv : Nat → Value) (k : Nat) : ∀ cal A, impl_areNames.C k cal = some A → ArmOk Tryz.prog envX pv cal A := by
  intro cal A h
  unfold impl_areNames.C at h
  split at h
  · cases h; exact fun x y hy => slices_ContainsFunc_Name_f101.good hE pv k x.1 hy
  · cases h
theorem impl_areNames.good (hE : EnvOk Tryz.prog envX) (pv : Nat → Value) (k : Nat) (a0 : List Name) {y : _} (h : impl_areNames.F k a0 = some y) : Meets Tryz.prog envX pv (.f 78) (tvals [(.sl .name)] (a0, ())) (.t .bool y) :=
  fun_plain hE (impl_areNames.G hE pv k) (f := 78) (fn := Tryz.f78) (by kernel_rfl) rfl (by kernel_rfl) (by kernel_rfl) ((impl_areNames.run k a0).trans h) fun r hr => wk_view1 hr
/-! ### 103 loop.example/g00896/impl.daysInMonth -/
def impl_daysInMonth.F (a0 : Int) (a1 : Int) : Option (Int) := bif (a1 == 2) then (bif (4 == 0) then (none) else (bif ((Int.tmod a0 4) == 0) then (bif (100 == 0) then (none) else (bif ((Int.tmod a0 100) != 0) then (some 29) else (bif (400 == 0) then (none) else (bif ((Int.tmod a0 400) == 0) then (some 29) else (some 28))))) else (some 28))) else (bif (a1 == 4) then (bif (a1 == 4) then (some 30) else (some 31)) else (bif (a1 == 6) then (bif (a1 == 6) then (some 30) else (some 31)) else (bif (a1 == 9) then (bif (a1 == 9) then (some 30) else (some 31)) else (bif (a1 == 11) then (some 30) else (some 31)))))
def impl_daysInMonth.C : Cal → Option CArm := fun c => match c with
  | _ => none
theorem impl_daysInMonth.run (a0 : Int) (a1 : Int) : runF envX (tabC impl_daysInMonth.C) (tabL 26 0 (fun _ => none)) Tryz.f103 [.t (.int .i64) a0, .t (.int .i64) a1] (viewR1 (.t (.int .i64))) = impl_daysInMonth.F a0 a1 := by kernel_rfl
theorem impl_daysInMonth.G (hE : EnvOk Tryz.prog envX) (pv : Nat → Value) : ∀ cal A, impl_daysInMonth.C cal = some A → ArmOk Tryz.prog envX pv cal A := by
  intro cal A h
  unfold impl_daysInMonth.C at h
  cases h
theorem impl_daysInMonth.good (hE : EnvOk Tryz.prog envX) (pv : Nat → Value) (a0 : Int) (a1 : Int) {y : _} (h : impl_daysInMonth.F a0 a1 = some y) : Meets Tryz.prog envX pv (.f 103) (tvals [(.int .i64), (.int .i64)] (a0, a1, ())) (.t (.int .i64) y) :=
  fun_plain hE (impl_daysInMonth.G hE pv) (f := 103) (fn := Tryz.f103) (by kernel_rfl) rfl (by kernel_rfl) (by kernel_rfl) ((impl_daysInMonth.run a0 a1).trans h) fun r hr => wk_view1 hr
/-! ### 79 loop.example/g00896/impl.IsValidDate -/
def impl_IsValidDate.F (a0 : Date) : Option (Bool) := bif ((a0.y == 0 && (a0.m == 0 && (a0.d == 0 && a0.c == false)))) then (some true) else ((impl_inside.F a0.y 1 2999).bind fun r1 => bif (!r1) then (some false) else ((impl_inside.F a0.m 0 12).bind fun r2 => bif (!r2) then (some false) else (bif a0.c then (bif (a0.m != 0) then (some false) else (bif (a0.m == 0) then (some (a0.d == 0)) else ((impl_daysInMonth.F a0.y a0.m).bind fun r3 => (impl_inside.F a0.d 0 r3).bind fun r4 => some r4))) else (bif (a0.m == 0) then (some (a0.d == 0)) else ((impl_daysInMonth.F a0.y a0.m).bind fun r5 => (impl_inside.F a0.d 0 r5).bind fun r6 => some r6)))))
def impl_IsValidDate.C : Cal → Option CArm := fun c => match c with
  | .f 80 => some (.p [(.int .i64), (.int .i64), (.int .i64)] _ (fun x => impl_inside.F x.1 x.2.1 x.2.2.1) (fun r => (.t .bool r)))
  | .f 103 => some (.p [(.int .i64), (.int .i64)] _ (fun x => impl_daysInMonth.F x.1 x.2.1) (fun r => (.t (.int .i64) r)))
  | _ => none
theorem impl_IsValidDate.run (a0 : Date) : runF envX (tabC impl_IsValidDate.C) (tabL 39 0 (fun _ => none)) Tryz.f79 [.t .date a0] (viewR1 (.t .bool)) = impl_IsValidDate.F a0 := by kernel_rfl
theorem impl_IsValidDate.G (hE : EnvOk Tryz.prog envX) (pv : Nat → Value) : ∀ cal A, impl_IsValidDate.C cal = some A → ArmOk Tryz.prog envX pv cal A := by
  intro cal A h
  unfold impl_IsValidDate.C at h
  split at h
  · cases h; exact fun x y hy => impl_inside.good hE pv x.1 x.2.1 x.2.2.1 hy
  · cases h; exact fun x y hy => impl_daysInMonth.good hE pv x.1 x.2.1 hy
  · cases h
theorem impl_IsValidDate.good (hE : EnvOk Tryz.prog envX) (pv : Nat → Value) (a0 : Date) {y : _} (h : impl_IsValidDate.F a0 = some y) : Meets Tryz.prog envX pv (.f 79) (tvals [.date] (a0, ())) (.t .bool y) :=
  fun_plain hE (impl_IsValidDate.G hE pv) (f := 79) (fn := Tryz.f79) (by kernel_rfl) rfl (by kernel_rfl) (by kernel_rfl) ((impl_IsValidDate.run a0).trans h) fun r hr => wk_view1 hr
/-! ### 121 strings.Trim -/
def strings_Trim.F (a0 : ByteArray) (a1 : ByteArray) : Option (ByteArray) := xTrim1 a0 a1
theorem strings_Trim.good (hE : EnvOk Tryz.prog envX) (pv : Nat → Value) (a0 : ByteArray) (a1 : ByteArray) {y : _} (h : strings_Trim.F a0 a1 = some y) : Meets Tryz.prog envX pv (.f 121) (tvals [.str, .str] (a0, a1, ())) (.t .str y) :=
  ext_trim1 (fn := Tryz.f121) (by kernel_rfl) rfl (by kernel_rfl) Tryz.strings_Trim_one h
/-! ### 104 loop.example/g00896/impl.isPrintable -/
def impl_isPrintable.l0 : Nat → ByteArray → Int → Option (Sum Bool ByteArray)
  | 0, _, _ => none
  | k + 1, x0, x3 => bif (decide (x3 < (x0.size : Int))) then (bif decide (0 ≤ x3) then (bif decide (x3 < (x0.size : Int)) then (bif (decide ((bt x0 (x3 : Int).toNat) < 32)) then (some (.inl false)) else (bif decide (0 ≤ x3) then (bif decide (x3 < (x0.size : Int)) then (bif (decide ((bt x0 (x3 : Int).toNat) > 126)) then (some (.inl false)) else (impl_isPrintable.l0 k x0 (IntKind.wrap .i64 (x3 + 1)))) else none) else none)) else none) else none) else (some (.inr x0))
def impl_isPrintable.F (k : Nat) (a0 : ByteArray) : Option (Bool) := (impl_isPrintable.l0 k a0 0).bind fun y1 => match y1 with | .inl z2 => some z2 | .inr z2 => (strings_Trim.F z2 (⟨#[32]⟩ : ByteArray)).bind fun r3 => some (beqS r3 z2)
def impl_isPrintable.C (k : Nat) : Cal → Option CArm := fun c => match c with
  | .f 121 => some (.p [.str, .str] _ (fun x => strings_Trim.F x.1 x.2.1) (fun r => (.t .str r)))
  | _ => none
def impl_isPrintable.sp0 : List Sp := [.t 0 .str, .t 3 (.int .i64)]
def impl_isPrintable.sp0_0 : List Sp := [.t 2 .bool]
def impl_isPrintable.sp0_1 : List Sp := [.t 0 .str]
def impl_isPrintable.A0 : LArm := .two impl_isPrintable.sp0 impl_isPrintable.sp0_0 impl_isPrintable.sp0_1 (Bool) (ByteArray) (fun k x => impl_isPrintable.l0 k x.1 x.2.1) .ret (.exit 0) (fun y => (y, ())) (fun x => x.1) (fun y => (y, ())) (fun x => x.1)
def impl_isPrintable.L : Nat → Option LArm := fun b => match b with
  | 0 => some impl_isPrintable.A0
  | _ => none
theorem impl_isPrintable.run (k : Nat) (a0 : ByteArray) : runF envX (tabC (impl_isPrintable.C k)) (tabL 24 k impl_isPrintable.L) Tryz.f104 [.t .str a0] (viewR1 (.t .bool)) = impl_isPrintable.F k a0 := by kernel_rfl
theorem impl_isPrintable.step0 (k : Nat) (x0 : ByteArray) (x3 : Int) : runC envX (tabC (impl_isPrintable.C k)) (tabL 24 k impl_isPrintable.L) 0 (loopAt Tryz.f104 0) (stOf 24 impl_isPrintable.sp0 (x0, x3, ())) (impl_isPrintable.A0.cont 24 k) = impl_isPrintable.l0 (k + 1) x0 x3 := by kernel_rfl
theorem impl_isPrintable.G (hE : EnvOk Tryz.prog envX) (pv : Nat → Value) (k : Nat) : ∀ cal A, impl_isPrintable.C k cal = some A → ArmOk Tryz.prog envX pv cal A := by
  intro cal A h
  unfold impl_isPrintable.C at h
  split at h
  · cases h; exact fun x y hy => strings_Trim.good hE pv x.1 x.2.1 hy
  · cases h
theorem impl_isPrintable.good (hE : EnvOk Tryz.prog envX) (pv : Nat → Value) (k : Nat) (a0 : ByteArray) {y : _} (h : impl_isPrintable.F k a0 = some y) : Meets Tryz.prog envX pv (.f 104) (tvals [.str] (a0, ())) (.t .bool y) :=
  fun_loops hE (t := impl_isPrintable.C) k (fun k _ => impl_isPrintable.G hE pv k) (f := 104) (fn := Tryz.f104) (by kernel_rfl) rfl (by kernel_rfl) (by kernel_rfl) (lt := impl_isPrintable.L) (by kernel_rfl) (fun b A h => by
    unfold impl_isPrintable.L at h; split at h
    · cases h; exact ⟨by kernel_rfl, by kernel_rfl, by kernel_rfl, fun _ => rfl, fun _ => rfl, fun _ => rfl⟩
    · cases h) (fun b A h => by
    unfold impl_isPrintable.L at h; split at h
    · cases h; exact fun k x => impl_isPrintable.step0 k x.1 x.2.1
    · cases h) ((impl_isPrintable.run k a0).trans h) fun r hr => wk_view1 hr
/-! ### 81 loop.example/g00896/impl.isText -/
def impl_isText.F (k : Nat) (a0 : ByteArray) : Option (Bool) := bif (decide ((a0.size : Int) ≤ 40)) then ((impl_isPrintable.F k a0).bind fun r1 => some r1) else (some false)
def impl_isText.C (k : Nat) : Cal → Option CArm := fun c => match c with
  | .f 104 => some (.p [.str] _ (fun x => impl_isPrintable.F k x.1) (fun r => (.t .bool r)))
  | _ => none
theorem impl_isText.run (k : Nat) (a0 : ByteArray) : runF envX (tabC (impl_isText.C k)) (tabL 10 0 (fun _ => none)) Tryz.f81 [.t .str a0] (viewR1 (.t .bool)) = impl_isText.F k a0 := by kernel_rfl
theorem impl_isText.G (hE : EnvOk Tryz.prog envX) (pv : Nat → Value) (k : Nat) : ∀ cal A, impl_isText.C k cal = some A → ArmOk Tryz.prog envX pv cal A := by
  intro cal A h
  unfold impl_isText.C at h
  split at h
  · cases h; exact fun x y hy => impl_isPrintable.good hE pv k x.1 hy
  · cases h
theorem impl_isText.good (hE : EnvOk Tryz.prog envX) (pv : Nat → Value) (k : Nat) (a0 : ByteArray) {y : _} (h : impl_isText.F k a0 = some y) : Meets Tryz.prog envX pv (.f 81) (tvals [.str] (a0, ())) (.t .bool y) :=
  fun_plain hE (impl_isText.G hE pv k) (f := 81) (fn := Tryz.f81) (by kernel_rfl) rfl (by kernel_rfl) (by kernel_rfl) ((impl_isText.run k a0).trans h) fun r hr => wk_view1 hr
/-! ### 55 loop.example/g00896/impl.IsValidEntry -/
def impl_IsValidEntry.F (k : Nat) (a0 : Entry) : Option (Bool) := (impl_isKey.F k a0.key).bind fun r1 => bif (!r1) then (some false) else ((impl_isKind.F a0.kind).bind fun r2 => bif (!r2) then (some false) else ((impl_areNames.F k a0.authors).bind fun r3 => bif (!r3) then (some false) else ((impl_areNames.F k a0.editors).bind fun r4 => bif (!r4) then (some false) else ((impl_IsValidDate.F a0.date).bind fun r5 => bif (!r5) then (some false) else ((impl_inside.F a0.volume 0 9999).bind fun r6 => bif (!r6) then (some false) else ((impl_isText.F k a0.title).bind fun r7 => bif r7 then ((impl_isText.F k a0.container).bind fun r8 => bif r8 then ((impl_isText.F k a0.publisher).bind fun r9 => bif r9 then ((impl_isText.F k a0.pages).bind fun r10 => bif r10 then (bif (beqS a0.cross (⟨#[]⟩ : ByteArray)) then (some true) else ((impl_isKey.F k a0.cross).bind fun r11 => bif r11 then (some (!beqS a0.cross a0.key)) else (some false))) else (some false)) else (some false)) else (some false)) else (some false)))))))
def impl_IsValidEntry.C (k : Nat) : Cal → Option CArm := fun c => match c with
  | .f 76 => some (.p [.str] _ (fun x => impl_isKey.F k x.1) (fun r => (.t .bool r)))
  | .f 77 => some (.p [(.int .i64)] _ (fun x => impl_isKind.F x.1) (fun r => (.t .bool r)))
  | .f 78 => some (.p [(.sl .name)] _ (fun x => impl_areNames.F k x.1) (fun r => (.t .bool r)))
  | .f 79 => some (.p [.date] _ (fun x => impl_IsValidDate.F x.1) (fun r => (.t .bool r)))
  | .f 80 => some (.p [(.int .i64), (.int .i64), (.int .i64)] _ (fun x => impl_inside.F x.1 x.2.1 x.2.2.1) (fun r => (.t .bool r)))
  | .f 81 => some (.p [.str] _ (fun x => impl_isText.F k x.1) (fun r => (.t .bool r)))
  | _ => none
theorem impl_IsValidEntry.run (k : Nat) (a0 : Entry) : runF envX (tabC (impl_IsValidEntry.C k)) (tabL 72 0 (fun _ => none)) Tryz.f55 [.t .entry a0] (viewR1 (.t .bool)) = impl_IsValidEntry.F k a0 := by kernel_rfl
theorem impl_IsValidEntry.G (hE : EnvOk Tryz.prog envX) (pv : Nat → Value) (k : Nat) : ∀ cal A, impl_IsValidEntry.C k cal = some A → ArmOk Tryz.prog envX pv cal A := by
  intro cal A h
  unfold impl_IsValidEntry.C at h
  split at h
  · cases h; exact fun x y hy => impl_isKey.good hE pv k x.1 hy
  · cases h; exact fun x y hy => impl_isKind.good hE pv x.1 hy
  · cases h; exact fun x y hy => impl_areNames.good hE pv k x.1 hy
  · cases h; exact fun x y hy => impl_IsValidDate.good hE pv x.1 hy
  · cases h; exact fun x y hy => impl_inside.good hE pv x.1 x.2.1 x.2.2.1 hy
  · cases h; exact fun x y hy => impl_isText.good hE pv k x.1 hy
  · cases h
theorem impl_IsValidEntry.good (hE : EnvOk Tryz.prog envX) (pv : Nat → Value) (k : Nat) (a0 : Entry) {y : _} (h : impl_IsValidEntry.F k a0 = some y) : Meets Tryz.prog envX pv (.f 55) (tvals [.entry] (a0, ())) (.t .bool y) :=
  fun_plain hE (impl_IsValidEntry.G hE pv k) (f := 55) (fn := Tryz.f55) (by kernel_rfl) rfl (by kernel_rfl) (by kernel_rfl) ((impl_IsValidEntry.run k a0).trans h) fun r hr => wk_view1 hr
/-! ### 109 strings.Join -/
def strings_Join.F (a0 : List ByteArray) (a1 : ByteArray) : Option (ByteArray) := xJoin a0 a1
theorem strings_Join.good (hE : EnvOk Tryz.prog envX) (pv : Nat → Value) (a0 : List ByteArray) (a1 : ByteArray) {y : _} (h : strings_Join.F a0 a1 = some y) : Meets Tryz.prog envX pv (.f 109) (tvals [(.sl .str), .str] (a0, a1, ())) (.t .str y) :=
  ext_join (fn := Tryz.f109) (by kernel_rfl) rfl (by kernel_rfl) Tryz.strings_Join_none Tryz.strings_Join h
-- NO 142 slices.DeleteFunc[[]string,string]: a parameter's type
/-! ### 143 loop.example/g00896/impl.spaced$1 -/
def impl_spaced_1.F (a0 : ByteArray) : Option (Bool) := some (beqS a0 (⟨#[]⟩ : ByteArray))
def impl_spaced_1.C : Cal → Option CArm := fun c => match c with
  | _ => none
theorem impl_spaced_1.run (a0 : ByteArray) : runF envX (tabC impl_spaced_1.C) (tabL 5 0 (fun _ => none)) Tryz.f143 [.t .str a0] (viewR1 (.t .bool)) = impl_spaced_1.F a0 := by kernel_rfl
theorem impl_spaced_1.G (hE : EnvOk Tryz.prog envX) (pv : Nat → Value) : ∀ cal A, impl_spaced_1.C cal = some A → ArmOk Tryz.prog envX pv cal A := by
  intro cal A h
  unfold impl_spaced_1.C at h
  cases h
theorem impl_spaced_1.good (hE : EnvOk Tryz.prog envX) (pv : Nat → Value) (a0 : ByteArray) {y : _} (h : impl_spaced_1.F a0 = some y) : Meets Tryz.prog envX pv (.f 143) (tvals [.str] (a0, ())) (.t .bool y) :=
  fun_plain hE (impl_spaced_1.G hE pv) (f := 143) (fn := Tryz.f143) (by kernel_rfl) rfl (by kernel_rfl) (by kernel_rfl) ((impl_spaced_1.run a0).trans h) fun r hr => wk_view1 hr
/-! ### 131 slices.IndexFunc[[]string,string] at loop.example/g00896/impl.spaced$1 -/
def slices_IndexFunc_string_f143.l0 : Nat → (List ByteArray) → Int → Int → Option (Sum Int Unit)
  | 0, _, _, _ => none
  | k + 1, x0, x7, x8 => bif (decide (x8 < x7)) then (bif decide (0 ≤ x8) then (bif decide (x8 < (x0.length : Int)) then ((impl_spaced_1.F (x0.getD (x8 : Int).toNat (⟨#[]⟩ : ByteArray))).bind fun r1 => bif r1 then (some (.inl x8)) else (slices_IndexFunc_string_f143.l0 k x0 x7 (IntKind.wrap .i64 (x8 + 1)))) else none) else none) else (some (.inr ()))
def slices_IndexFunc_string_f143.F (k : Nat) (a0 : List ByteArray) : Option (Int) := (slices_IndexFunc_string_f143.l0 k a0 (a0.length : Int) 0).bind fun y2 => match y2 with | .inl z3 => some z3 | .inr z3 => some (-1)
def slices_IndexFunc_string_f143.C (k : Nat) : Cal → Option CArm := fun c => match c with
  | .f 143 => some (.p [.str] _ (fun x => impl_spaced_1.F x.1) (fun r => (.t .bool r)))
  | _ => none
def slices_IndexFunc_string_f143.sp0 : List Sp := [.t 0 (.sl .str), .con 1 (.clo 143), .t 7 (.int .i64), .t 8 (.int .i64)]
def slices_IndexFunc_string_f143.sp0_0 : List Sp := [.t 4 (.int .i64)]
def slices_IndexFunc_string_f143.sp0_1 : List Sp := []
def slices_IndexFunc_string_f143.A0 : LArm := .two slices_IndexFunc_string_f143.sp0 slices_IndexFunc_string_f143.sp0_0 slices_IndexFunc_string_f143.sp0_1 (Int) (Unit) (fun k x => slices_IndexFunc_string_f143.l0 k x.1 x.2.2.1 x.2.2.2.1) .ret (.exit 0) (fun y => (y, ())) (fun x => x.1) (fun y => ()) (fun x => ())
def slices_IndexFunc_string_f143.L : Nat → Option LArm := fun b => match b with
  | 0 => some slices_IndexFunc_string_f143.A0
  | _ => none
theorem slices_IndexFunc_string_f143.run (k : Nat) (a0 : List ByteArray) : runF envX (tabC (slices_IndexFunc_string_f143.C k)) (tabL 19 k slices_IndexFunc_string_f143.L) Tryz.f131 [.t (.sl .str) a0, .clo 143 []] (viewR1 (.t (.int .i64))) = slices_IndexFunc_string_f143.F k a0 := by kernel_rfl
theorem slices_IndexFunc_string_f143.step0 (k : Nat) (x0 : List ByteArray) (x7 : Int) (x8 : Int) : runC envX (tabC (slices_IndexFunc_string_f143.C k)) (tabL 19 k slices_IndexFunc_string_f143.L) 0 (loopAt Tryz.f131 0) (stOf 19 slices_IndexFunc_string_f143.sp0 (x0, (), x7, x8, ())) (slices_IndexFunc_string_f143.A0.cont 19 k) = slices_IndexFunc_string_f143.l0 (k + 1) x0 x7 x8 := by kernel_rfl
theorem slices_IndexFunc_string_f143.G (hE : EnvOk Tryz.prog envX) (pv : Nat → Value) (k : Nat) : ∀ cal A, slices_IndexFunc_string_f143.C k cal = some A → ArmOk Tryz.prog envX pv cal A := by
  intro cal A h
  unfold slices_IndexFunc_string_f143.C at h
  split at h
  · cases h; exact fun x y hy => impl_spaced_1.good hE pv x.1 hy
  · cases h
theorem slices_IndexFunc_string_f143.good (hE : EnvOk Tryz.prog envX) (pv : Nat → Value) (k : Nat) (a0 : List ByteArray) {y : _} (h : slices_IndexFunc_string_f143.F k a0 = some y) : Meets Tryz.prog envX pv (.f 131) (pvals [.t (.sl .str), .clo 143 []] (a0, (()), ())) (.t (.int .i64) y) :=
  fun_loops hE (t := slices_IndexFunc_string_f143.C) k (fun k _ => slices_IndexFunc_string_f143.G hE pv k) (f := 131) (fn := Tryz.f131) (by kernel_rfl) rfl (by kernel_rfl) (by kernel_rfl) (lt := slices_IndexFunc_string_f143.L) (by kernel_rfl) (fun b A h => by
    unfold slices_IndexFunc_string_f143.L at h; split at h
    · cases h; exact ⟨by kernel_rfl, by kernel_rfl, by kernel_rfl, fun _ => rfl, fun _ => rfl, fun _ => rfl⟩
    · cases h) (fun b A h => by
    unfold slices_IndexFunc_string_f143.L at h; split at h
    · cases h; exact fun k x => slices_IndexFunc_string_f143.step0 k x.1 x.2.2.1 x.2.2.2.1
    · cases h) ((slices_IndexFunc_string_f143.run k a0).trans h) fun r hr => wk_view1 hr
/-! ### 142 slices.DeleteFunc[[]string,string] at loop.example/g00896/impl.spaced$1 -/
def slices_DeleteFunc_string_f143.l0 : Nat → (List ByteArray) → Int → Int → Option ((List ByteArray) × Int)
  | 0, _, _, _ => none
  | k + 1, x0, x5, x6 => bif (decide (x6 < (x0.length : Int))) then (bif decide (0 ≤ x6) then (bif decide (x6 < (x0.length : Int)) then ((impl_spaced_1.F (x0.getD ((x6 : Int).toNat) (⟨#[]⟩ : ByteArray))).bind fun r2 => bif (!r2) then (bif decide (0 ≤ x5) then (bif decide (x5 < (x0.length : Int)) then (slices_DeleteFunc_string_f143.l0 k (x0.set ((x5 : Int).toNat) (x0.getD ((x6 : Int).toNat) (⟨#[]⟩ : ByteArray))) (IntKind.wrap .i64 (x5 + 1)) (IntKind.wrap .i64 (x6 + 1))) else none) else none) else (slices_DeleteFunc_string_f143.l0 k x0 x5 (IntKind.wrap .i64 (x6 + 1)))) else none) else none) else (some (x0, x5))
def slices_DeleteFunc_string_f143.F (k : Nat) (a0 : List ByteArray) : Option (List ByteArray) := (slices_IndexFunc_string_f143.F k a0).bind fun r1 => bif (r1 == (-1)) then (some a0) else ((slices_DeleteFunc_string_f143.l0 k a0 r1 (IntKind.wrap .i64 (r1 + 1))).bind fun y3 => bif decide (0 ≤ y3.2) then (bif decide (y3.2 ≤ (y3.1.length : Int)) then (bif decide (0 ≤ y3.2) then (bif decide (y3.2 ≤ ((y3.1.take ((y3.2 : Int).toNat) ++ List.replicate (y3.1.length - ((y3.2 : Int).toNat)) (⟨#[]⟩ : ByteArray)).length : Int)) then (some ((y3.1.take ((y3.2 : Int).toNat) ++ List.replicate (y3.1.length - ((y3.2 : Int).toNat)) (⟨#[]⟩ : ByteArray)).take (y3.2 : Int).toNat)) else none) else none) else none) else none)
def slices_DeleteFunc_string_f143.C (k : Nat) : Cal → Option CArm := fun c => match c with
  | .f 131 => some (.q [.t (.sl .str), .clo 143 []] _ (fun x => slices_IndexFunc_string_f143.F k x.1) (fun r => (.t (.int .i64) r)))
  | .f 143 => some (.p [.str] _ (fun x => impl_spaced_1.F x.1) (fun r => (.t .bool r)))
  | _ => none
def slices_DeleteFunc_string_f143.sp0 : List Sp := [.own 0 1099511627777 9 .str false true, .con 1 (.clo 143), .t 5 (.int .i64), .t 6 (.int .i64)]
def slices_DeleteFunc_string_f143.sp0_0 : List Sp := [.own 0 1099511627777 9 .str false true, .t 5 (.int .i64)]
def slices_DeleteFunc_string_f143.A0 : LArm := .one slices_DeleteFunc_string_f143.sp0 slices_DeleteFunc_string_f143.sp0_0 ((List ByteArray) × Int) (fun k x => slices_DeleteFunc_string_f143.l0 k x.1 x.2.2.1 x.2.2.2.1) (.exit 0) (fun y => (y.1, y.2, ())) (fun x => (x.1, x.2.1))
def slices_DeleteFunc_string_f143.L : Nat → Option LArm := fun b => match b with
  | 0 => some slices_DeleteFunc_string_f143.A0
  | _ => none
theorem slices_DeleteFunc_string_f143.run (k : Nat) (a0 : List ByteArray) : runM envX (tabC (slices_DeleteFunc_string_f143.C k)) (tabL 42 k slices_DeleteFunc_string_f143.L) Tryz.f142 mmove (.fr 9 .str a0) [.clo 143 []] (viewMov 9 .str) = slices_DeleteFunc_string_f143.F k a0 := by kernel_rfl
theorem slices_DeleteFunc_string_f143.step0 (k : Nat) (x0 : List ByteArray) (x5 : Int) (x6 : Int) : runC envX (tabC (slices_DeleteFunc_string_f143.C k)) (tabL 42 k slices_DeleteFunc_string_f143.L) 0 (loopAt Tryz.f142 0) (stOf 42 slices_DeleteFunc_string_f143.sp0 (x0, (), x5, x6, ())) (slices_DeleteFunc_string_f143.A0.cont 42 k) = slices_DeleteFunc_string_f143.l0 (k + 1) x0 x5 x6 := by kernel_rfl
theorem slices_DeleteFunc_string_f143.G (hE : EnvOk Tryz.prog envX) (pv : Nat → Value) (k : Nat) : ∀ cal A, slices_DeleteFunc_string_f143.C k cal = some A → ArmOk Tryz.prog envX pv cal A := by
  intro cal A h
  unfold slices_DeleteFunc_string_f143.C at h
  split at h
  · cases h; exact fun x y hy => slices_IndexFunc_string_f143.good hE pv k x.1 hy
  · cases h; exact fun x y hy => impl_spaced_1.good hE pv x.1 hy
  · cases h
theorem slices_DeleteFunc_string_f143.good (hE : EnvOk Tryz.prog envX) (pv : Nat → Value) (k : Nat) (a0 : List ByteArray) {y : _} (h : slices_DeleteFunc_string_f143.F k a0 = some y) : MeetsM Tryz.prog envX pv 142 (.fr 9 .str a0) (pvals [.clo 143 []] ((()), ())) (.mov 9 .str y) :=
  funM_loops hE (t := slices_DeleteFunc_string_f143.C) k (fun k _ => slices_DeleteFunc_string_f143.G hE pv k) (f := 142) (fn := Tryz.f142) (by kernel_rfl) rfl (by kernel_rfl) (.inr rfl) (by kernel_rfl) (lt := slices_DeleteFunc_string_f143.L) (by kernel_rfl) (fun b A h => by
    unfold slices_DeleteFunc_string_f143.L at h; split at h
    · cases h; exact ⟨by kernel_rfl, by kernel_rfl, fun _ => rfl, fun _ => rfl⟩
    · cases h) (fun b A h => by
    unfold slices_DeleteFunc_string_f143.L at h; split at h
    · cases h; exact fun k x => slices_DeleteFunc_string_f143.step0 k x.1 x.2.2.1 x.2.2.2.1
    · cases h) ((slices_DeleteFunc_string_f143.run k a0).trans h) fun r hr => wk_viewMov hr
/-! ### 124 loop.example/g00896/impl.spaced -/
def impl_spaced.F (k : Nat) (a0 : List ByteArray) : Option (ByteArray) := (slices_DeleteFunc_string_f143.F k a0).bind fun r1 => (strings_Join.F r1 (⟨#[32]⟩ : ByteArray)).bind fun r2 => some r2
def impl_spaced.C (k : Nat) : Cal → Option CArm := fun c => match c with
  | .f 142 => some (.mq (.fr 9 .str) [.clo 143 []] _ (fun x0 x => slices_DeleteFunc_string_f143.F k x0) (fun r => .mov 9 .str r))
  | .f 109 => some (.p [(.sl .str), .str] _ (fun x => strings_Join.F x.1 x.2.1) (fun r => (.t .str r)))
  | _ => none
theorem impl_spaced.run (k : Nat) (a0 : List ByteArray) : runM envX (tabC (impl_spaced.C k)) (tabL 6 0 (fun _ => none)) Tryz.f124 mmove (.fr 9 .str a0) [] (viewEat .str) = impl_spaced.F k a0 := by kernel_rfl
theorem impl_spaced.G (hE : EnvOk Tryz.prog envX) (pv : Nat → Value) (k : Nat) : ∀ cal A, impl_spaced.C k cal = some A → ArmOk Tryz.prog envX pv cal A := by
  intro cal A h
  unfold impl_spaced.C at h
  split at h
  · cases h; exact ⟨_, rfl, fun x0 x y hy => slices_DeleteFunc_string_f143.good hE pv k x0 hy⟩
  · cases h; exact fun x y hy => strings_Join.good hE pv x.1 x.2.1 hy
  · cases h
theorem impl_spaced.good (hE : EnvOk Tryz.prog envX) (pv : Nat → Value) (k : Nat) (a0 : List ByteArray) {y : _} (h : impl_spaced.F k a0 = some y) : MeetsM Tryz.prog envX pv 124 (.fr 9 .str a0) (tvals [] (())) (.pc false .str y) :=
  funM_plain hE (impl_spaced.G hE pv k) (f := 124) (fn := Tryz.f124) (by kernel_rfl) rfl (by kernel_rfl) (.inr rfl) (by kernel_rfl) ((impl_spaced.run k a0).trans h) fun r hr => wk_viewEat hr
/-! ### 108 loop.example/g00896/impl.inverseForm -/
def impl_inverseForm.F (k : Nat) (a0 : Name) : Option (ByteArray) := (impl_spaced.F k ([a0.particle, a0.family] : List ByteArray)).bind fun r1 => bif (decide ((a0.given.length : Int) > 0)) then ((strings_Join.F a0.given (⟨#[32]⟩ : ByteArray)).bind fun r2 => bif Nat.ble ((⟨#[44, 32]⟩ : ByteArray).size + r2.size) 9223372036854775807 then (bif Nat.ble (r1.size + ((⟨#[44, 32]⟩ : ByteArray) ++ r2).size) 9223372036854775807 then (bif (!beqS a0.suffix (⟨#[]⟩ : ByteArray)) then (bif Nat.ble ((⟨#[44, 32]⟩ : ByteArray).size + a0.suffix.size) 9223372036854775807 then (bif Nat.ble ((r1 ++ ((⟨#[44, 32]⟩ : ByteArray) ++ r2)).size + ((⟨#[44, 32]⟩ : ByteArray) ++ a0.suffix).size) 9223372036854775807 then (some ((r1 ++ ((⟨#[44, 32]⟩ : ByteArray) ++ r2)) ++ ((⟨#[44, 32]⟩ : ByteArray) ++ a0.suffix))) else none) else none) else (some (r1 ++ ((⟨#[44, 32]⟩ : ByteArray) ++ r2)))) else none) else none) else (bif (!beqS a0.suffix (⟨#[]⟩ : ByteArray)) then ((strings_Join.F a0.given (⟨#[32]⟩ : ByteArray)).bind fun r3 => bif Nat.ble ((⟨#[44, 32]⟩ : ByteArray).size + r3.size) 9223372036854775807 then (bif Nat.ble (r1.size + ((⟨#[44, 32]⟩ : ByteArray) ++ r3).size) 9223372036854775807 then (bif (!beqS a0.suffix (⟨#[]⟩ : ByteArray)) then (bif Nat.ble ((⟨#[44, 32]⟩ : ByteArray).size + a0.suffix.size) 9223372036854775807 then (bif Nat.ble ((r1 ++ ((⟨#[44, 32]⟩ : ByteArray) ++ r3)).size + ((⟨#[44, 32]⟩ : ByteArray) ++ a0.suffix).size) 9223372036854775807 then (some ((r1 ++ ((⟨#[44, 32]⟩ : ByteArray) ++ r3)) ++ ((⟨#[44, 32]⟩ : ByteArray) ++ a0.suffix))) else none) else none) else (some (r1 ++ ((⟨#[44, 32]⟩ : ByteArray) ++ r3)))) else none) else none) else (bif (!beqS a0.suffix (⟨#[]⟩ : ByteArray)) then (bif Nat.ble ((⟨#[44, 32]⟩ : ByteArray).size + a0.suffix.size) 9223372036854775807 then (bif Nat.ble (r1.size + ((⟨#[44, 32]⟩ : ByteArray) ++ a0.suffix).size) 9223372036854775807 then (some (r1 ++ ((⟨#[44, 32]⟩ : ByteArray) ++ a0.suffix))) else none) else none) else (some r1)))
def impl_inverseForm.C (k : Nat) : Cal → Option CArm := fun c => match c with
  | .f 124 => some (.m (.fr 9 .str) [] _ (fun x0 x => impl_spaced.F k x0) (fun r => .pc false .str r))
  | .f 109 => some (.p [(.sl .str), .str] _ (fun x => strings_Join.F x.1 x.2.1) (fun r => (.t .str r)))
  | _ => none
theorem impl_inverseForm.run (k : Nat) (a0 : Name) : runF envX (tabC (impl_inverseForm.C k)) (tabL 34 0 (fun _ => none)) Tryz.f108 [.t .name a0] (viewR1 (.t .str)) = impl_inverseForm.F k a0 := by kernel_rfl
theorem impl_inverseForm.G (hE : EnvOk Tryz.prog envX) (pv : Nat → Value) (k : Nat) : ∀ cal A, impl_inverseForm.C k cal = some A → ArmOk Tryz.prog envX pv cal A := by
  intro cal A h
  unfold impl_inverseForm.C at h
  split at h
  · cases h; exact ⟨_, rfl, fun x0 x y hy => impl_spaced.good hE pv k x0 hy⟩
  · cases h; exact fun x y hy => strings_Join.good hE pv x.1 x.2.1 hy
  · cases h
theorem impl_inverseForm.good (hE : EnvOk Tryz.prog envX) (pv : Nat → Value) (k : Nat) (a0 : Name) {y : _} (h : impl_inverseForm.F k a0 = some y) : Meets Tryz.prog envX pv (.f 108) (tvals [.name] (a0, ())) (.t .str y) :=
  fun_plain hE (impl_inverseForm.G hE pv k) (f := 108) (fn := Tryz.f108) (by kernel_rfl) rfl (by kernel_rfl) (by kernel_rfl) ((impl_inverseForm.run k a0).trans h) fun r hr => wk_view1 hr
/-! ### 90 loop.example/g00896/impl.namesText -/
def impl_namesText.l0 : Nat → (List ByteArray) → (List Name) → Int → Int → Option ((List ByteArray))
  | 0, _, _, _, _ => none
  | k + 1, x3, x7, x8, x9 => bif (decide (x9 < x8)) then (bif decide (0 ≤ x9) then (bif decide (x9 < (x7.length : Int)) then ((impl_inverseForm.F k (x7.getD (x9 : Int).toNat (dflt .name))).bind fun r1 => bif room (x3.length + ([r1] : List ByteArray).length) .str then (impl_namesText.l0 k (x3 ++ ([r1] : List ByteArray)) x7 x8 (IntKind.wrap .i64 (x9 + 1))) else none) else none) else none) else (some x3)
def impl_namesText.F (k : Nat) (a0 : List Name) : Option (ByteArray) := (impl_namesText.l0 k ([] : List ByteArray) a0 (a0.length : Int) 0).bind fun y2 => (strings_Join.F y2 (⟨#[59, 32]⟩ : ByteArray)).bind fun r3 => some r3
def impl_namesText.C (k : Nat) : Cal → Option CArm := fun c => match c with
  | .f 108 => some (.p [.name] _ (fun x => impl_inverseForm.F k x.1) (fun r => (.t .str r)))
  | .f 109 => some (.p [(.sl .str), .str] _ (fun x => strings_Join.F x.1 x.2.1) (fun r => (.t .str r)))
  | _ => none
def impl_namesText.sp0 : List Sp := [.own 3 1024 9 .str false true, .t 7 (.sl .name), .t 8 (.int .i64), .t 9 (.int .i64)]
def impl_namesText.sp0_0 : List Sp := [.own 3 1024 9 .str false true]
def impl_namesText.A0 : LArm := .one impl_namesText.sp0 impl_namesText.sp0_0 ((List ByteArray)) (fun k x => impl_namesText.l0 k x.1 x.2.1 x.2.2.1 x.2.2.2.1) (.exit 0) (fun y => (y, ())) (fun x => x.1)
def impl_namesText.L : Nat → Option LArm := fun b => match b with
  | 0 => some impl_namesText.A0
  | _ => none
theorem impl_namesText.run (k : Nat) (a0 : List Name) : runF envX (tabC (impl_namesText.C k)) (tabL 21 k impl_namesText.L) Tryz.f90 [.t (.sl .name) a0] (viewR1 (.t .str)) = impl_namesText.F k a0 := by kernel_rfl
theorem impl_namesText.step0 (k : Nat) (x3 : List ByteArray) (x7 : List Name) (x8 : Int) (x9 : Int) : runC envX (tabC (impl_namesText.C k)) (tabL 21 k impl_namesText.L) 0 (loopAt Tryz.f90 0) (stOf 21 impl_namesText.sp0 (x3, x7, x8, x9, ())) (impl_namesText.A0.cont 21 k) = impl_namesText.l0 (k + 1) x3 x7 x8 x9 := by kernel_rfl
theorem impl_namesText.G (hE : EnvOk Tryz.prog envX) (pv : Nat → Value) (k : Nat) : ∀ cal A, impl_namesText.C k cal = some A → ArmOk Tryz.prog envX pv cal A := by
  intro cal A h
  unfold impl_namesText.C at h
  split at h
  · cases h; exact fun x y hy => impl_inverseForm.good hE pv k x.1 hy
  · cases h; exact fun x y hy => strings_Join.good hE pv x.1 x.2.1 hy
  · cases h
theorem impl_namesText.good (hE : EnvOk Tryz.prog envX) (pv : Nat → Value) (k : Nat) (a0 : List Name) {y : _} (h : impl_namesText.F k a0 = some y) : Meets Tryz.prog envX pv (.f 90) (tvals [(.sl .name)] (a0, ())) (.t .str y) :=
  fun_loops hE (t := impl_namesText.C) k (fun k _ => impl_namesText.G hE pv k) (f := 90) (fn := Tryz.f90) (by kernel_rfl) rfl (by kernel_rfl) (by kernel_rfl) (lt := impl_namesText.L) (by kernel_rfl) (fun b A h => by
    unfold impl_namesText.L at h; split at h
    · cases h; exact ⟨by kernel_rfl, by kernel_rfl, fun _ => rfl, fun _ => rfl⟩
    · cases h) (fun b A h => by
    unfold impl_namesText.L at h; split at h
    · cases h; exact fun k x => impl_namesText.step0 k x.1 x.2.1 x.2.2.1 x.2.2.2.1
    · cases h) ((impl_namesText.run k a0).trans h) fun r hr => wk_view1 hr
/-! ### 92 strconv.Itoa -/
def strconv_Itoa.F (a0 : Int) : Option (ByteArray) := xItoaN a0
theorem strconv_Itoa.good (hE : EnvOk Tryz.prog envX) (pv : Nat → Value) (a0 : Int) {y : _} (h : strconv_Itoa.F a0 = some y) : Meets Tryz.prog envX pv (.f 92) (tvals [(.int .i64)] (a0, ())) (.t .str y) :=
  ext_itoaN (fn := Tryz.f92) (by kernel_rfl) rfl (by kernel_rfl) (g := 1) (by kernel_rfl) (by kernel_rfl) Tryz.strconv_Itoa h
/-! ### 110 loop.example/g00896/impl.digits -/
def impl_digits.l0 : Nat → Int → ByteArray → Option (ByteArray)
  | 0, _, _ => none
  | k + 1, x1, x5 => bif (decide ((x5.size : Int) < x1)) then (bif Nat.ble ((⟨#[48]⟩ : ByteArray).size + x5.size) 9223372036854775807 then (impl_digits.l0 k x1 ((⟨#[48]⟩ : ByteArray) ++ x5)) else none) else (some x5)
def impl_digits.F (k : Nat) (a0 : Int) (a1 : Int) : Option (ByteArray) := (strconv_Itoa.F a0).bind fun r1 => (impl_digits.l0 k a1 r1).bind fun y2 => some y2
def impl_digits.C (k : Nat) : Cal → Option CArm := fun c => match c with
  | .f 92 => some (.p [(.int .i64)] _ (fun x => strconv_Itoa.F x.1) (fun r => (.t .str r)))
  | _ => none
def impl_digits.sp0 : List Sp := [.t 1 (.int .i64), .t 5 .str]
def impl_digits.sp0_0 : List Sp := [.t 5 .str]
def impl_digits.A0 : LArm := .one impl_digits.sp0 impl_digits.sp0_0 (ByteArray) (fun k x => impl_digits.l0 k x.1 x.2.1) (.exit 0) (fun y => (y, ())) (fun x => x.1)
def impl_digits.L : Nat → Option LArm := fun b => match b with
  | 0 => some impl_digits.A0
  | _ => none
theorem impl_digits.run (k : Nat) (a0 : Int) (a1 : Int) : runF envX (tabC (impl_digits.C k)) (tabL 15 k impl_digits.L) Tryz.f110 [.t (.int .i64) a0, .t (.int .i64) a1] (viewR1 (.t .str)) = impl_digits.F k a0 a1 := by kernel_rfl
theorem impl_digits.step0 (k : Nat) (x1 : Int) (x5 : ByteArray) : runC envX (tabC (impl_digits.C k)) (tabL 15 k impl_digits.L) 0 (loopAt Tryz.f110 0) (stOf 15 impl_digits.sp0 (x1, x5, ())) (impl_digits.A0.cont 15 k) = impl_digits.l0 (k + 1) x1 x5 := by kernel_rfl
theorem impl_digits.G (hE : EnvOk Tryz.prog envX) (pv : Nat → Value) (k : Nat) : ∀ cal A, impl_digits.C k cal = some A → ArmOk Tryz.prog envX pv cal A := by
  intro cal A h
  unfold impl_digits.C at h
  split at h
  · cases h; exact fun x y hy => strconv_Itoa.good hE pv x.1 hy
  · cases h
theorem impl_digits.good (hE : EnvOk Tryz.prog envX) (pv : Nat → Value) (k : Nat) (a0 : Int) (a1 : Int) {y : _} (h : impl_digits.F k a0 a1 = some y) : Meets Tryz.prog envX pv (.f 110) (tvals [(.int .i64), (.int .i64)] (a0, a1, ())) (.t .str y) :=
  fun_loops hE (t := impl_digits.C) k (fun k _ => impl_digits.G hE pv k) (f := 110) (fn := Tryz.f110) (by kernel_rfl) rfl (by kernel_rfl) (by kernel_rfl) (lt := impl_digits.L) (by kernel_rfl) (fun b A h => by
    unfold impl_digits.L at h; split at h
    · cases h; exact ⟨by kernel_rfl, by kernel_rfl, fun _ => rfl, fun _ => rfl⟩
    · cases h) (fun b A h => by
    unfold impl_digits.L at h; split at h
    · cases h; exact fun k x => impl_digits.step0 k x.1 x.2.1
    · cases h) ((impl_digits.run k a0 a1).trans h) fun r hr => wk_view1 hr
/-! ### 91 loop.example/g00896/impl.formatDate -/
def impl_formatDate.F (k : Nat) (a0 : Date) : Option (ByteArray) := bif (a0.y == 0) then (some (⟨#[117, 110, 107, 110, 111, 119, 110]⟩ : ByteArray)) else ((impl_digits.F k a0.y 4).bind fun r1 => bif a0.c then (bif Nat.ble ((⟨#[99]⟩ : ByteArray).size + r1.size) 9223372036854775807 then (bif (decide (a0.m > 0)) then ((impl_digits.F k a0.m 2).bind fun r2 => bif Nat.ble ((⟨#[45]⟩ : ByteArray).size + r2.size) 9223372036854775807 then (bif Nat.ble (((⟨#[99]⟩ : ByteArray) ++ r1).size + ((⟨#[45]⟩ : ByteArray) ++ r2).size) 9223372036854775807 then (bif (decide (a0.d > 0)) then ((impl_digits.F k a0.d 2).bind fun r3 => bif Nat.ble ((⟨#[45]⟩ : ByteArray).size + r3.size) 9223372036854775807 then (bif Nat.ble ((((⟨#[99]⟩ : ByteArray) ++ r1) ++ ((⟨#[45]⟩ : ByteArray) ++ r2)).size + ((⟨#[45]⟩ : ByteArray) ++ r3).size) 9223372036854775807 then (some ((((⟨#[99]⟩ : ByteArray) ++ r1) ++ ((⟨#[45]⟩ : ByteArray) ++ r2)) ++ ((⟨#[45]⟩ : ByteArray) ++ r3))) else none) else none) else (some (((⟨#[99]⟩ : ByteArray) ++ r1) ++ ((⟨#[45]⟩ : ByteArray) ++ r2)))) else none) else none) else (bif (decide (a0.d > 0)) then ((impl_digits.F k a0.d 2).bind fun r4 => bif Nat.ble ((⟨#[45]⟩ : ByteArray).size + r4.size) 9223372036854775807 then (bif Nat.ble (((⟨#[99]⟩ : ByteArray) ++ r1).size + ((⟨#[45]⟩ : ByteArray) ++ r4).size) 9223372036854775807 then (some (((⟨#[99]⟩ : ByteArray) ++ r1) ++ ((⟨#[45]⟩ : ByteArray) ++ r4))) else none) else none) else (some ((⟨#[99]⟩ : ByteArray) ++ r1)))) else none) else (bif (decide (a0.m > 0)) then ((impl_digits.F k a0.m 2).bind fun r5 => bif Nat.ble ((⟨#[45]⟩ : ByteArray).size + r5.size) 9223372036854775807 then (bif Nat.ble (r1.size + ((⟨#[45]⟩ : ByteArray) ++ r5).size) 9223372036854775807 then (bif (decide (a0.d > 0)) then ((impl_digits.F k a0.d 2).bind fun r6 => bif Nat.ble ((⟨#[45]⟩ : ByteArray).size + r6.size) 9223372036854775807 then (bif Nat.ble ((r1 ++ ((⟨#[45]⟩ : ByteArray) ++ r5)).size + ((⟨#[45]⟩ : ByteArray) ++ r6).size) 9223372036854775807 then (some ((r1 ++ ((⟨#[45]⟩ : ByteArray) ++ r5)) ++ ((⟨#[45]⟩ : ByteArray) ++ r6))) else none) else none) else (some (r1 ++ ((⟨#[45]⟩ : ByteArray) ++ r5)))) else none) else none) else (bif (decide (a0.d > 0)) then ((impl_digits.F k a0.d 2).bind fun r7 => bif Nat.ble ((⟨#[45]⟩ : ByteArray).size + r7.size) 9223372036854775807 then (bif Nat.ble (r1.size + ((⟨#[45]⟩ : ByteArray) ++ r7).size) 9223372036854775807 then (some (r1 ++ ((⟨#[45]⟩ : ByteArray) ++ r7))) else none) else none) else (some r1))))
def impl_formatDate.C (k : Nat) : Cal → Option CArm := fun c => match c with
  | .f 110 => some (.p [(.int .i64), (.int .i64)] _ (fun x => impl_digits.F k x.1 x.2.1) (fun r => (.t .str r)))
  | _ => none
theorem impl_formatDate.run (k : Nat) (a0 : Date) : runF envX (tabC (impl_formatDate.C k)) (tabL 33 0 (fun _ => none)) Tryz.f91 [.t .date a0] (viewR1 (.t .str)) = impl_formatDate.F k a0 := by kernel_rfl
theorem impl_formatDate.G (hE : EnvOk Tryz.prog envX) (pv : Nat → Value) (k : Nat) : ∀ cal A, impl_formatDate.C k cal = some A → ArmOk Tryz.prog envX pv cal A := by
  intro cal A h
  unfold impl_formatDate.C at h
  split at h
  · cases h; exact fun x y hy => impl_digits.good hE pv k x.1 x.2.1 hy
  · cases h
theorem impl_formatDate.good (hE : EnvOk Tryz.prog envX) (pv : Nat → Value) (k : Nat) (a0 : Date) {y : _} (h : impl_formatDate.F k a0 = some y) : Meets Tryz.prog envX pv (.f 91) (tvals [.date] (a0, ())) (.t .str y) :=
  fun_plain hE (impl_formatDate.G hE pv k) (f := 91) (fn := Tryz.f91) (by kernel_rfl) rfl (by kernel_rfl) (by kernel_rfl) ((impl_formatDate.run k a0).trans h) fun r hr => wk_view1 hr
/-! ### 62 loop.example/g00896/impl.fieldText -/
def impl_fieldText.F (k : Nat) (a0 : Entry) (a1 : ByteArray) : Option (ByteArray) := bif (beqS a1 (⟨#[97, 117, 116, 104, 111, 114, 115]⟩ : ByteArray)) then ((impl_namesText.F k a0.authors).bind fun r1 => some r1) else (bif (beqS a1 (⟨#[101, 100, 105, 116, 111, 114, 115]⟩ : ByteArray)) then ((impl_namesText.F k a0.editors).bind fun r2 => some r2) else (bif (beqS a1 (⟨#[116, 105, 116, 108, 101]⟩ : ByteArray)) then (some a0.title) else (bif (beqS a1 (⟨#[99, 111, 110, 116, 97, 105, 110, 101, 114]⟩ : ByteArray)) then (some a0.container) else (bif (beqS a1 (⟨#[112, 117, 98, 108, 105, 115, 104, 101, 114]⟩ : ByteArray)) then (some a0.publisher) else (bif (beqS a1 (⟨#[100, 97, 116, 101]⟩ : ByteArray)) then (bif (decide (a0.date.y > 0)) then ((impl_formatDate.F k a0.date).bind fun r3 => some r3) else (some (⟨#[]⟩ : ByteArray))) else (bif (beqS a1 (⟨#[118, 111, 108, 117, 109, 101]⟩ : ByteArray)) then (bif (decide (a0.volume > 0)) then ((strconv_Itoa.F a0.volume).bind fun r4 => some r4) else (some (⟨#[]⟩ : ByteArray))) else (bif (beqS a1 (⟨#[112, 97, 103, 101, 115]⟩ : ByteArray)) then (some a0.pages) else (some (⟨#[]⟩ : ByteArray)))))))))
def impl_fieldText.C (k : Nat) : Cal → Option CArm := fun c => match c with
  | .f 90 => some (.p [(.sl .name)] _ (fun x => impl_namesText.F k x.1) (fun r => (.t .str r)))
  | .f 91 => some (.p [.date] _ (fun x => impl_formatDate.F k x.1) (fun r => (.t .str r)))
  | .f 92 => some (.p [(.int .i64)] _ (fun x => strconv_Itoa.F x.1) (fun r => (.t .str r)))
  | _ => none
theorem impl_fieldText.run (k : Nat) (a0 : Entry) (a1 : ByteArray) : runF envX (tabC (impl_fieldText.C k)) (tabL 49 0 (fun _ => none)) Tryz.f62 [.t .entry a0, .t .str a1] (viewR1 (.t .str)) = impl_fieldText.F k a0 a1 := by kernel_rfl
theorem impl_fieldText.G (hE : EnvOk Tryz.prog envX) (pv : Nat → Value) (k : Nat) : ∀ cal A, impl_fieldText.C k cal = some A → ArmOk Tryz.prog envX pv cal A := by
  intro cal A h
  unfold impl_fieldText.C at h
  split at h
  · cases h; exact fun x y hy => impl_namesText.good hE pv k x.1 hy
  · cases h; exact fun x y hy => impl_formatDate.good hE pv k x.1 hy
  · cases h; exact fun x y hy => strconv_Itoa.good hE pv x.1 hy
  · cases h
theorem impl_fieldText.good (hE : EnvOk Tryz.prog envX) (pv : Nat → Value) (k : Nat) (a0 : Entry) (a1 : ByteArray) {y : _} (h : impl_fieldText.F k a0 a1 = some y) : Meets Tryz.prog envX pv (.f 62) (tvals [.entry, .str] (a0, a1, ())) (.t .str y) :=
  fun_plain hE (impl_fieldText.G hE pv k) (f := 62) (fn := Tryz.f62) (by kernel_rfl) rfl (by kernel_rfl) (by kernel_rfl) ((impl_fieldText.run k a0 a1).trans h) fun r hr => wk_view1 hr
/-! ### 32 loop.example/g00896/impl.FieldConflicts -/
def impl_FieldConflicts.l0 : Nat → Entry → Entry → (List ByteArray) → (List ByteArray) → Int → Option ((List ByteArray))
  | 0, _, _, _, _, _ => none
  | k + 1, x2, x3, x6, x20, x21 => bif (decide (x21 < 8)) then (bif decide (0 ≤ x21) then (bif decide (x21 < (8 : Int)) then ((impl_fieldText.F k x2 (x20.getD (x21 : Int).toNat ⟨#[]⟩)).bind fun r3 => (impl_fieldText.F k x3 (x20.getD (x21 : Int).toNat ⟨#[]⟩)).bind fun r4 => bif (!beqS r3 (⟨#[]⟩ : ByteArray)) then (bif (!beqS r4 (⟨#[]⟩ : ByteArray)) then (bif (!beqS r3 r4) then (bif room (x6.length + ([(x20.getD (x21 : Int).toNat ⟨#[]⟩)] : List ByteArray).length) .str then (impl_FieldConflicts.l0 k x2 x3 (x6 ++ ([(x20.getD (x21 : Int).toNat ⟨#[]⟩)] : List ByteArray)) x20 (IntKind.wrap .i64 (x21 + 1))) else none) else (impl_FieldConflicts.l0 k x2 x3 x6 x20 (IntKind.wrap .i64 (x21 + 1)))) else (impl_FieldConflicts.l0 k x2 x3 x6 x20 (IntKind.wrap .i64 (x21 + 1)))) else (impl_FieldConflicts.l0 k x2 x3 x6 x20 (IntKind.wrap .i64 (x21 + 1)))) else none) else none) else (some x6)
def impl_FieldConflicts.F (k : Nat) (a0 : Entry) (a1 : Entry) : Option ((List ByteArray) × Bool) := (impl_IsValidEntry.F k a0).bind fun r1 => bif (!r1) then (some ([], false)) else ((impl_IsValidEntry.F k a1).bind fun r2 => bif (!r2) then (some ([], false)) else ((impl_FieldConflicts.l0 k a0 a1 ([] : List ByteArray) glV0 0).bind fun y5 => some (y5, true)))
def impl_FieldConflicts.C (k : Nat) : Cal → Option CArm := fun c => match c with
  | .f 55 => some (.p [.entry] _ (fun x => impl_IsValidEntry.F k x.1) (fun r => (.t .bool r)))
  | .f 62 => some (.p [.entry, .str] _ (fun x => impl_fieldText.F k x.1 x.2.1) (fun r => (.t .str r)))
  | _ => none
def impl_FieldConflicts.sp0 : List Sp := [.boxT 2 0 .entry, .boxT 3 4 .entry, .own 6 3072 9 .str false true, .t 20 (.arr 8 .str), .t 21 (.int .i64)]
def impl_FieldConflicts.sp0_0 : List Sp := [.own 6 3072 9 .str false true]
def impl_FieldConflicts.A0 : LArm := .one impl_FieldConflicts.sp0 impl_FieldConflicts.sp0_0 ((List ByteArray)) (fun k x => impl_FieldConflicts.l0 k x.1 x.2.1 x.2.2.1 x.2.2.2.1 x.2.2.2.2.1) (.exit 0) (fun y => (y, ())) (fun x => x.1)
def impl_FieldConflicts.L : Nat → Option LArm := fun b => match b with
  | 0 => some impl_FieldConflicts.A0
  | _ => none
theorem impl_FieldConflicts.run (k : Nat) (a0 : Entry) (a1 : Entry) : runF envX (tabC (impl_FieldConflicts.C k)) (tabL 47 k impl_FieldConflicts.L) Tryz.f32 [.t .entry a0, .t .entry a1] (viewR2 (.fr 9 .str) (.t .bool)) = impl_FieldConflicts.F k a0 a1 := by kernel_rfl
theorem impl_FieldConflicts.step0 (k : Nat) (x2 : Entry) (x3 : Entry) (x6 : List ByteArray) (x20 : List ByteArray) (x21 : Int) : runC envX (tabC (impl_FieldConflicts.C k)) (tabL 47 k impl_FieldConflicts.L) 0 (loopAt Tryz.f32 0) (stOf 47 impl_FieldConflicts.sp0 (x2, x3, x6, x20, x21, ())) (impl_FieldConflicts.A0.cont 47 k) = impl_FieldConflicts.l0 (k + 1) x2 x3 x6 x20 x21 := by kernel_rfl
theorem impl_FieldConflicts.G (hE : EnvOk Tryz.prog envX) (pv : Nat → Value) (k : Nat) : ∀ cal A, impl_FieldConflicts.C k cal = some A → ArmOk Tryz.prog envX pv cal A := by
  intro cal A h
  unfold impl_FieldConflicts.C at h
  split at h
  · cases h; exact fun x y hy => impl_IsValidEntry.good hE pv k x.1 hy
  · cases h; exact fun x y hy => impl_fieldText.good hE pv k x.1 x.2.1 hy
  · cases h
theorem impl_FieldConflicts.good (hE : EnvOk Tryz.prog envX) (pv : Nat → Value) (k : Nat) (a0 : Entry) (a1 : Entry) {y : _} (h : impl_FieldConflicts.F k a0 a1 = some y) : Meets Tryz.prog envX pv (.f 32) (tvals [.entry, .entry] (a0, a1, ())) (.tup [.fr 9 .str y.1, .t .bool y.2]) :=
  fun_loops hE (t := impl_FieldConflicts.C) k (fun k _ => impl_FieldConflicts.G hE pv k) (f := 32) (fn := Tryz.f32) (by kernel_rfl) rfl (by kernel_rfl) (by kernel_rfl) (lt := impl_FieldConflicts.L) (by kernel_rfl) (fun b A h => by
    unfold impl_FieldConflicts.L at h; split at h
    · cases h; exact ⟨by kernel_rfl, by kernel_rfl, fun _ => rfl, fun _ => rfl⟩
    · cases h) (fun b A h => by
    unfold impl_FieldConflicts.L at h; split at h
    · cases h; exact fun k x => impl_FieldConflicts.step0 k x.1 x.2.1 x.2.2.1 x.2.2.2.1 x.2.2.2.2.1
    · cases h) ((impl_FieldConflicts.run k a0 a1).trans h) fun r hr => wk_view2 hr
/-! ### 53 loop.example/g00896/laws.toNameS, with a mark -/
def laws_toNameS_p.l0 : Nat → (List Name) → (List Name) → Int → Option ((List Name))
  | 0, _, _, _ => none
  | k + 1, x0, x3, x4 => bif (decide (x4 < (x0.length : Int))) then (bif decide (0 ≤ x4) then (bif decide (x4 < (x0.length : Int)) then ((laws_toName_p.F k (x0.getD (x4 : Int).toNat (dflt .name))).bind fun r1 => bif decide (0 ≤ x4) then (bif decide (x4 < (x3.length : Int)) then (laws_toNameS_p.l0 k x0 (x3.set ((x4 : Int).toNat) r1) (IntKind.wrap .i64 (x4 + 1))) else none) else none) else none) else none) else (some x3)
def laws_toNameS_p.F (k : Nat) (a0 : List Name) : Option (List Name) := bif ((a0.length : Int) == (a0.length : Int)) then (bif decide (0 ≤ (a0.length : Int)) then (bif Nat.ble (((a0.length : Int) : Int).toNat * nb .name) 140737488355328 then ((laws_toNameS_p.l0 k a0 (List.replicate ((a0.length : Int) : Int).toNat (dflt .name)) 0).bind fun y2 => some y2) else none) else none) else none
def laws_toNameS_p.C (k : Nat) : Cal → Option CArm := fun c => match c with
  | .f 75 => some (.p [.name] _ (fun x => laws_toName_p.F k x.1) (fun r => (.pc true .name r)))
  | _ => none
def laws_toNameS_p.sp0 : List Sp := [.t 0 (.sl .name), .own 3 1032 97 .name false true, .t 4 (.int .i64)]
def laws_toNameS_p.sp0_0 : List Sp := [.own 3 1032 97 .name false true]
def laws_toNameS_p.A0 : LArm := .one laws_toNameS_p.sp0 laws_toNameS_p.sp0_0 ((List Name)) (fun k x => laws_toNameS_p.l0 k x.1 x.2.1 x.2.2.1) (.exit 0) (fun y => (y, ())) (fun x => x.1)
def laws_toNameS_p.L : Nat → Option LArm := fun b => match b with
  | 0 => some laws_toNameS_p.A0
  | _ => none
theorem laws_toNameS_p.run (k : Nat) (a0 : List Name) : runF envP (tabC (laws_toNameS_p.C k)) (tabL 23 k laws_toNameS_p.L) Tryz.f53 [.t (.sl .name) a0] (viewR1 (.fr 97 .name)) = laws_toNameS_p.F k a0 := by kernel_rfl
theorem laws_toNameS_p.step0 (k : Nat) (x0 : List Name) (x3 : List Name) (x4 : Int) : runC envP (tabC (laws_toNameS_p.C k)) (tabL 23 k laws_toNameS_p.L) 0 (loopAt Tryz.f53 0) (stOf 23 laws_toNameS_p.sp0 (x0, x3, x4, ())) (laws_toNameS_p.A0.cont 23 k) = laws_toNameS_p.l0 (k + 1) x0 x3 x4 := by kernel_rfl
theorem laws_toNameS_p.G (hE : EnvOk Tryz.prog envP) (pv : Nat → Value) (n : Nat) (k : Nat) : ∀ cal A, laws_toNameS_p.C k cal = some A → ArmOk Tryz.prog envP (mpv pv n) cal A := by
  intro cal A h
  unfold laws_toNameS_p.C at h
  split at h
  · cases h; exact fun x y hy => laws_toName_p.good hE pv n k x.1 hy
  · cases h
theorem laws_toNameS_p.good (hE : EnvOk Tryz.prog envP) (pv : Nat → Value) (n : Nat) (k : Nat) (a0 : List Name) {y : _} (h : laws_toNameS_p.F k a0 = some y) : Meets Tryz.prog envP (mpv pv n) (.f 53) (tvals [(.sl .name)] (a0, ())) (.fr 97 .name y) :=
  fun_loops hE (t := laws_toNameS_p.C) k (fun k _ => laws_toNameS_p.G hE pv n k) (f := 53) (fn := Tryz.f53) (by kernel_rfl) rfl (by kernel_rfl) (by kernel_rfl) (lt := laws_toNameS_p.L) (by kernel_rfl) (fun b A h => by
    unfold laws_toNameS_p.L at h; split at h
    · cases h; exact ⟨by kernel_rfl, by kernel_rfl, fun _ => rfl, fun _ => rfl⟩
    · cases h) (fun b A h => by
    unfold laws_toNameS_p.L at h; split at h
    · cases h; exact fun k x => laws_toNameS_p.step0 k x.1 x.2.1 x.2.2.1
    · cases h) ((laws_toNameS_p.run k a0).trans h) fun r hr => wk_view1 hr
/-! ### 54 loop.example/g00896/laws.toDate, with a mark -/
def laws_toDate_p.F (a0 : Date) : Option (Date) := some (⟨a0.y, a0.m, a0.d, a0.c⟩ : Date)
def laws_toDate_p.C : Cal → Option CArm := fun c => match c with
  | _ => none
theorem laws_toDate_p.run (a0 : Date) : runF envP (tabC laws_toDate_p.C) (tabL 17 0 (fun _ => none)) Tryz.f54 [.t .date a0] (viewR1 (.t .date)) = laws_toDate_p.F a0 := by kernel_rfl
theorem laws_toDate_p.G (hE : EnvOk Tryz.prog envP) (pv : Nat → Value) (n : Nat) : ∀ cal A, laws_toDate_p.C cal = some A → ArmOk Tryz.prog envP (mpv pv n) cal A := by
  intro cal A h
  unfold laws_toDate_p.C at h
  cases h
theorem laws_toDate_p.good (hE : EnvOk Tryz.prog envP) (pv : Nat → Value) (n : Nat) (a0 : Date) {y : _} (h : laws_toDate_p.F a0 = some y) : Meets Tryz.prog envP (mpv pv n) (.f 54) (tvals [.date] (a0, ())) (.t .date y) :=
  fun_plain hE (laws_toDate_p.G hE pv n) (f := 54) (fn := Tryz.f54) (by kernel_rfl) rfl (by kernel_rfl) (by kernel_rfl) ((laws_toDate_p.run a0).trans h) fun r hr => wk_view1 hr
/-! ### 26 loop.example/g00896/laws.toEntry, with a mark -/
def laws_toEntry_p.F (k : Nat) (a0 : Entry) : Option (Entry) := (laws_toNameS_p.F k a0.authors).bind fun r1 => (laws_toNameS_p.F k a0.editors).bind fun r2 => (laws_toDate_p.F a0.date).bind fun r3 => some (⟨a0.key, a0.kind, r1, r2, a0.title, a0.container, a0.publisher, r3, a0.volume, a0.pages, a0.cross⟩ : Entry)
def laws_toEntry_p.C (k : Nat) : Cal → Option CArm := fun c => match c with
  | .f 53 => some (.p [(.sl .name)] _ (fun x => laws_toNameS_p.F k x.1) (fun r => (.fr 97 .name r)))
  | .f 54 => some (.p [.date] _ (fun x => laws_toDate_p.F x.1) (fun r => (.t .date r)))
  | _ => none
theorem laws_toEntry_p.run (k : Nat) (a0 : Entry) : runPc envP (tabC (laws_toEntry_p.C k)) (tabL 41 0 (fun _ => none)) Tryz.f26 [.t .entry a0] (viewR1 (.pc .entry)) = laws_toEntry_p.F k a0 := by kernel_rfl
theorem laws_toEntry_p.G (hE : EnvOk Tryz.prog envP) (pv : Nat → Value) (n : Nat) (k : Nat) : ∀ cal A, laws_toEntry_p.C k cal = some A → ArmOk Tryz.prog envP (mpv pv n) cal A := by
  intro cal A h
  unfold laws_toEntry_p.C at h
  split at h
  · cases h; exact fun x y hy => laws_toNameS_p.good hE pv n k x.1 hy
  · cases h; exact fun x y hy => laws_toDate_p.good hE pv n x.1 hy
  · cases h
theorem laws_toEntry_p.good (hE : EnvOk Tryz.prog envP) (pv : Nat → Value) (n : Nat) (k : Nat) (a0 : Entry) {y : _} (h : laws_toEntry_p.F k a0 = some y) : Meets Tryz.prog envP (mpv pv n) (.f 26) (tvals [.entry] (a0, ())) (.pc true .entry y) :=
  funPc_plain hE (mpv_O pv n) (mpv_Q pv n) (laws_toEntry_p.G hE pv n k) (f := 26) (fn := Tryz.f26) (by kernel_rfl) rfl (by kernel_rfl) (by kernel_rfl) ((laws_toEntry_p.run k a0).trans h) fun r hr => wk_view1 hr
/-! ### 16 loop.example/g00896/laws.markStringS, marking deep down -/
def laws_markStringS_d.l0 : Nat → (List ByteArray) → Int → Int → Option ((List ByteArray) × Int)
  | 0, _, _, _ => none
  | k + 1, x0, x1, x5 => bif (decide (x5 < (x0.length : Int))) then ((laws_markText.F k x1).bind fun r1 => bif decide (0 ≤ x5) then (bif decide (x5 < (x0.length : Int)) then (laws_markStringS_d.l0 k x0 (IntKind.wrap .i64 (x1 + 1)) (IntKind.wrap .i64 (x5 + 1))) else none) else none) else (some (x0, x1))
def laws_markStringS_d.F (k : Nat) (a0 : List ByteArray) (a1 : Int) : Option (Int) := (laws_markStringS_d.l0 k a0 a1 0).bind fun y2 => some y2.2
def laws_markStringS_d.C (k : Nat) : Cal → Option CArm := fun c => match c with
  | .f 40 => some (.p [(.int .i64)] _ (fun x => laws_markText.F k x.1) (fun r => (.t .str r)))
  | _ => none
def laws_markStringS_d.sp0 : List Sp := [.ds 0 1099511627776 (.sl .str) (.sl .str), .t 1 (.int .i64), .t 5 (.int .i64)]
def laws_markStringS_d.sp0_0 : List Sp := [.ds 0 1099511627776 (.sl .str) (.sl .str), .t 1 (.int .i64)]
def laws_markStringS_d.A0 : LArm := .one laws_markStringS_d.sp0 laws_markStringS_d.sp0_0 ((List ByteArray) × Int) (fun k x => laws_markStringS_d.l0 k x.1 x.2.1 x.2.2.1) (.exit 0) (fun y => (y.1, y.2, ())) (fun x => (x.1, x.2.1))
def laws_markStringS_d.L : Nat → Option LArm := fun b => match b with
  | 0 => some laws_markStringS_d.A0
  | _ => none
theorem laws_markStringS_d.run (k : Nat) (a0 : List ByteArray) (a1 : Int) : runD envX (tabC (laws_markStringS_d.C k)) (tabL 20 k laws_markStringS_d.L) Tryz.f16 (.sl .str) a0 a1 (viewR1 (.t (.int .i64))) = laws_markStringS_d.F k a0 a1 := by kernel_rfl
theorem laws_markStringS_d.step0 (k : Nat) (x0 : List ByteArray) (x1 : Int) (x5 : Int) : runC envX (tabC (laws_markStringS_d.C k)) (tabL 20 k laws_markStringS_d.L) 0 (loopAt Tryz.f16 0) (stOf 20 laws_markStringS_d.sp0 (x0, x1, x5, ())) (laws_markStringS_d.A0.cont 20 k) = laws_markStringS_d.l0 (k + 1) x0 x1 x5 := by kernel_rfl
theorem laws_markStringS_d.G (hE : EnvOk Tryz.prog envX) (pv : Nat → Value) (k : Nat) : ∀ cal A, laws_markStringS_d.C k cal = some A → ArmOk Tryz.prog envX pv cal A := by
  intro cal A h
  unfold laws_markStringS_d.C at h
  split at h
  · cases h; exact fun x y hy => laws_markText.good hE pv k x.1 hy
  · cases h
theorem laws_markStringS_d.good (hE : EnvOk Tryz.prog envX) (pv : Nat → Value) (k : Nat) (a0 : List ByteArray) (a1 : Int) {y : _} (h : laws_markStringS_d.F k a0 a1 = some y) : MeetsD Tryz.prog envX pv 16 (.sl .str) a0 a1 y :=
  funD_loops hE (t := laws_markStringS_d.C) k (fun k _ => laws_markStringS_d.G hE pv k) (f := 16) (fn := Tryz.f16) (by kernel_rfl) rfl (by kernel_rfl) (by kernel_rfl) (lt := laws_markStringS_d.L) (by kernel_rfl) (fun b A h => by
    unfold laws_markStringS_d.L at h; split at h
    · cases h; exact ⟨by kernel_rfl, by kernel_rfl, fun _ => rfl, fun _ => rfl⟩
    · cases h) (fun b A h => by
    unfold laws_markStringS_d.L at h; split at h
    · cases h; exact fun k x => laws_markStringS_d.step0 k x.1 x.2.1 x.2.2.1
    · cases h) rfl ((laws_markStringS_d.run k a0 a1).trans h) fun r hr => view_int hr
/-! ### 59 loop.example/g00896/laws.markNameS, marking deep down -/
def laws_markNameS_d.l0 : Nat → (List Name) → Int → Int → Option ((List Name) × Int)
  | 0, _, _, _ => none
  | k + 1, x0, x1, x5 => bif (decide (x5 < (x0.length : Int))) then (bif decide (0 ≤ x5) then (bif decide (x5 < (x0.length : Int)) then ((laws_markStringS_d.F k ((x0.getD (x5 : Int).toNat (dflt .name)).given) x1).bind fun r1 => (laws_markText.F k r1).bind fun r2 => bif decide (0 ≤ x5) then (bif decide (x5 < (x0.length : Int)) then ((laws_markText.F k (IntKind.wrap .i64 (r1 + 1))).bind fun r3 => bif decide (0 ≤ x5) then (bif decide (x5 < (x0.length : Int)) then ((laws_markText.F k (IntKind.wrap .i64 ((IntKind.wrap .i64 (r1 + 1)) + 1))).bind fun r4 => bif decide (0 ≤ x5) then (bif decide (x5 < (x0.length : Int)) then (laws_markNameS_d.l0 k x0 (IntKind.wrap .i64 ((IntKind.wrap .i64 ((IntKind.wrap .i64 (r1 + 1)) + 1)) + 1)) (IntKind.wrap .i64 (x5 + 1))) else none) else none) else none) else none) else none) else none) else none) else none) else (some (x0, x1))
def laws_markNameS_d.F (k : Nat) (a0 : List Name) (a1 : Int) : Option (Int) := (laws_markNameS_d.l0 k a0 a1 0).bind fun y5 => some y5.2
def laws_markNameS_d.C (k : Nat) : Cal → Option CArm := fun c => match c with
  | .f 16 => some (.d (.sl .str) (fun x q => laws_markStringS_d.F k x q))
  | .f 40 => some (.p [(.int .i64)] _ (fun x => laws_markText.F k x.1) (fun r => (.t .str r)))
  | _ => none
def laws_markNameS_d.sp0 : List Sp := [.ds 0 1099511627776 (.sl .name) (.sl .name), .t 1 (.int .i64), .t 5 (.int .i64)]
def laws_markNameS_d.sp0_0 : List Sp := [.ds 0 1099511627776 (.sl .name) (.sl .name), .t 1 (.int .i64)]
def laws_markNameS_d.A0 : LArm := .one laws_markNameS_d.sp0 laws_markNameS_d.sp0_0 ((List Name) × Int) (fun k x => laws_markNameS_d.l0 k x.1 x.2.1 x.2.2.1) (.exit 0) (fun y => (y.1, y.2, ())) (fun x => (x.1, x.2.1))
def laws_markNameS_d.L : Nat → Option LArm := fun b => match b with
  | 0 => some laws_markNameS_d.A0
  | _ => none
theorem laws_markNameS_d.run (k : Nat) (a0 : List Name) (a1 : Int) : runD envX (tabC (laws_markNameS_d.C k)) (tabL 44 k laws_markNameS_d.L) Tryz.f59 (.sl .name) a0 a1 (viewR1 (.t (.int .i64))) = laws_markNameS_d.F k a0 a1 := by kernel_rfl
theorem laws_markNameS_d.step0 (k : Nat) (x0 : List Name) (x1 : Int) (x5 : Int) : runC envX (tabC (laws_markNameS_d.C k)) (tabL 44 k laws_markNameS_d.L) 0 (loopAt Tryz.f59 0) (stOf 44 laws_markNameS_d.sp0 (x0, x1, x5, ())) (laws_markNameS_d.A0.cont 44 k) = laws_markNameS_d.l0 (k + 1) x0 x1 x5 := by kernel_rfl
theorem laws_markNameS_d.G (hE : EnvOk Tryz.prog envX) (pv : Nat → Value) (k : Nat) : ∀ cal A, laws_markNameS_d.C k cal = some A → ArmOk Tryz.prog envX pv cal A := by
  intro cal A h
  unfold laws_markNameS_d.C at h
  split at h
  · cases h; exact ⟨_, rfl, fun x q y hy => laws_markStringS_d.good hE pv k x q hy⟩
  · cases h; exact fun x y hy => laws_markText.good hE pv k x.1 hy
  · cases h
theorem laws_markNameS_d.good (hE : EnvOk Tryz.prog envX) (pv : Nat → Value) (k : Nat) (a0 : List Name) (a1 : Int) {y : _} (h : laws_markNameS_d.F k a0 a1 = some y) : MeetsD Tryz.prog envX pv 59 (.sl .name) a0 a1 y :=
  funD_loops hE (t := laws_markNameS_d.C) k (fun k _ => laws_markNameS_d.G hE pv k) (f := 59) (fn := Tryz.f59) (by kernel_rfl) rfl (by kernel_rfl) (by kernel_rfl) (lt := laws_markNameS_d.L) (by kernel_rfl) (fun b A h => by
    unfold laws_markNameS_d.L at h; split at h
    · cases h; exact ⟨by kernel_rfl, by kernel_rfl, fun _ => rfl, fun _ => rfl⟩
    · cases h) (fun b A h => by
    unfold laws_markNameS_d.L at h; split at h
    · cases h; exact fun k x => laws_markNameS_d.step0 k x.1 x.2.1 x.2.2.1
    · cases h) rfl ((laws_markNameS_d.run k a0 a1).trans h) fun r hr => view_int hr
/-! ### 29 loop.example/g00896/laws.markEntry, marking deep down -/
def laws_markEntry_d.F (k : Nat) (a0 : Entry) (a1 : Int) : Option (Int) := (laws_markNameS_d.F k a0.authors a1).bind fun r1 => (laws_markNameS_d.F k a0.editors r1).bind fun r2 => some r2
def laws_markEntry_d.C (k : Nat) : Cal → Option CArm := fun c => match c with
  | .f 59 => some (.d (.sl .name) (fun x q => laws_markNameS_d.F k x q))
  | _ => none
theorem laws_markEntry_d.run (k : Nat) (a0 : Entry) (a1 : Int) : runD envX (tabC (laws_markEntry_d.C k)) (tabL 14 0 (fun _ => none)) Tryz.f29 .entry a0 a1 (viewR1 (.t (.int .i64))) = laws_markEntry_d.F k a0 a1 := by kernel_rfl
theorem laws_markEntry_d.G (hE : EnvOk Tryz.prog envX) (pv : Nat → Value) (k : Nat) : ∀ cal A, laws_markEntry_d.C k cal = some A → ArmOk Tryz.prog envX pv cal A := by
  intro cal A h
  unfold laws_markEntry_d.C at h
  split at h
  · cases h; exact ⟨_, rfl, fun x q y hy => laws_markNameS_d.good hE pv k x q hy⟩
  · cases h
theorem laws_markEntry_d.good (hE : EnvOk Tryz.prog envX) (pv : Nat → Value) (k : Nat) (a0 : Entry) (a1 : Int) {y : _} (h : laws_markEntry_d.F k a0 a1 = some y) : MeetsD Tryz.prog envX pv 29 .entry a0 a1 y :=
  funD_plain hE (laws_markEntry_d.G hE pv k) (f := 29) (fn := Tryz.f29) (by kernel_rfl) rfl (by kernel_rfl) (by kernel_rfl) rfl ((laws_markEntry_d.run k a0 a1).trans h) fun r hr => view_int hr
/-! ### 8 loop.example/g00896/laws.FnExactFieldConflicts -/
def laws_FnExactFieldConflicts.F (k : Nat) (a0 : Entry) (a1 : Entry) : Option (Bool) := (laws_szEntry.F k a0 1048576).bind fun r1 => bif (decide (r1 < 0)) then (some true) else ((laws_szEntry.F k a1 r1).bind fun r2 => bif (decide (r2 < 0)) then (some true) else ((laws_toEntry_p.F k a0).bind fun r3 => (laws_toEntry_p.F k a1).bind fun r4 => (spec_FieldConflicts.F k r3 r4).bind fun r5 => (laws_toEntry_p.F k a0).bind fun r6 => (laws_toEntry_p.F k a1).bind fun r7 => (impl_FieldConflicts.F k r6 r7).bind fun r8 => (laws_eqStringS.F k r8.1 r5.1).bind fun r9 => bif (!r9) then (some false) else (bif (!(r8.2 == r5.2)) then (some false) else ((laws_toEntry_p.F k a0).bind fun r10 => (laws_eqEntry.F k r6 r10).bind fun r11 => bif (!r11) then (some false) else ((laws_toEntry_p.F k a1).bind fun r12 => (laws_eqEntry.F k r7 r12).bind fun r13 => bif (!r13) then (some false) else ((laws_markEntry_d.F k r6 1).bind fun r14 => (laws_markEntry_d.F k r7 r14).bind fun r15 => bif (decide (r15 < 0)) then (some false) else ((laws_eqStringS.F k r8.1 r5.1).bind fun r16 => bif (!r16) then (some false) else (bif (!(r8.2 == r5.2)) then (some false) else ((laws_markStringS.F k r8.1 1).bind fun r17 => (laws_heldStringS.F k r17.1 1).bind fun r18 => bif (decide (r18 < 0)) then (some false) else (bif (r18 != r17.2) then (some false) else ((laws_toEntry_p.F k a0).bind fun r19 => (laws_toEntry_p.F k a1).bind fun r20 => (impl_FieldConflicts.F k r19 r20).bind fun r21 => (laws_eqStringS.F k r21.1 r5.1).bind fun r22 => bif (!r22) then (some false) else (bif (!(r21.2 == r5.2)) then (some false) else ((laws_heldStringS.F k r17.1 1).bind fun r23 => bif (decide (r23 < 0)) then (some false) else (bif (r23 != r17.2) then (some false) else (some true)))))))))))))))
def laws_FnExactFieldConflicts.C (k : Nat) : Cal → Option CArm := fun c => match c with
  | .f 24 => some (.p [.entry, (.int .i64)] _ (fun x => laws_szEntry.F k x.1 x.2.1) (fun r => (.t (.int .i64) r)))
  | .f 26 => some (.pp [.entry] .entry (fun x => laws_toEntry_p.F k x.1))
  | .f 31 => some (.p [.entry, .entry] _ (fun x => spec_FieldConflicts.F k x.1 x.2.1) (fun r => (.tup [.fr 9 .str r.1, .t .bool r.2])))
  | .f 32 => some (.p [.entry, .entry] _ (fun x => impl_FieldConflicts.F k x.1 x.2.1) (fun r => (.tup [.fr 9 .str r.1, .t .bool r.2])))
  | .f 13 => some (.p [(.sl .str), (.sl .str)] _ (fun x => laws_eqStringS.F k x.1 x.2.1) (fun r => (.t .bool r)))
  | .f 28 => some (.p [.entry, .entry] _ (fun x => laws_eqEntry.F k x.1 x.2.1) (fun r => (.t .bool r)))
  | .f 29 => some (.d .entry (fun x q => laws_markEntry_d.F k x q))
  | .f 16 => some (.m (.fr 9 .str) [(.int .i64)] _ (fun x0 x => laws_markStringS.F k x0 x.1) (fun r => .kep (.fr 9 .str r.1) (.t (.int .i64) r.2)))
  | .f 17 => some (.p [(.sl .str), (.int .i64)] _ (fun x => laws_heldStringS.F k x.1 x.2.1) (fun r => (.t (.int .i64) r)))
  | _ => none
theorem laws_FnExactFieldConflicts.run (k : Nat) (a0 : Entry) (a1 : Entry) : runF envX (tabC (laws_FnExactFieldConflicts.C k)) (tabL 119 0 (fun _ => none)) Tryz.f8 [.t .entry a0, .t .entry a1] (viewR1 (.t .bool)) = laws_FnExactFieldConflicts.F k a0 a1 := by kernel_rfl
theorem laws_FnExactFieldConflicts.G (hE : EnvOk Tryz.prog envX) (pv : Nat → Value) (k : Nat) : ∀ cal A, laws_FnExactFieldConflicts.C k cal = some A → ArmOk Tryz.prog envX pv cal A := by
  intro cal A h
  unfold laws_FnExactFieldConflicts.C at h
  split at h
  · cases h; exact fun x y hy => laws_szEntry.good hE pv k x.1 x.2.1 hy
  · cases h; exact ⟨_, rfl, fun x y hy => meetsP_of (E := envX) (E' := envP) rfl rfl rfl fun n => laws_toEntry_p.good envOkP pv n k x.1 hy⟩
  · cases h; exact fun x y hy => spec_FieldConflicts.good hE pv k x.1 x.2.1 hy
  · cases h; exact fun x y hy => impl_FieldConflicts.good hE pv k x.1 x.2.1 hy
  · cases h; exact fun x y hy => laws_eqStringS.good hE pv k x.1 x.2.1 hy
  · cases h; exact fun x y hy => laws_eqEntry.good hE pv k x.1 x.2.1 hy
  · cases h; exact ⟨_, rfl, fun x q y hy => laws_markEntry_d.good hE pv k x q hy⟩
  · cases h; exact ⟨_, rfl, fun x0 x y hy => laws_markStringS.good hE pv k x0 x.1 hy⟩
  · cases h; exact fun x y hy => laws_heldStringS.good hE pv k x.1 x.2.1 hy
  · cases h
theorem laws_FnExactFieldConflicts.good (hE : EnvOk Tryz.prog envX) (pv : Nat → Value) (k : Nat) (a0 : Entry) (a1 : Entry) {y : _} (h : laws_FnExactFieldConflicts.F k a0 a1 = some y) : Meets Tryz.prog envX pv (.f 8) (tvals [.entry, .entry] (a0, a1, ())) (.t .bool y) :=
  fun_plain hE (laws_FnExactFieldConflicts.G hE pv k) (f := 8) (fn := Tryz.f8) (by kernel_rfl) rfl (by kernel_rfl) (by kernel_rfl) ((laws_FnExactFieldConflicts.run k a0 a1).trans h) fun r hr => wk_view1 hr
end Go.Proofs.YtfnibdpepbgamaaGreatDoor
end
section
/- Plain laws: bytes, pieces, edges of a text; no function of the program. -/
namespace Go.Proofs.YtfnibdpepbgamaaGreatDoor
open Go.Gx
set_option linter.unusedVariables false
set_option linter.unusedSimpArgs false

theorem getD_at {α : Type} {xs : List α} {i : Nat} (h : i < xs.length) (d : α) : xs.getD i d = xs[i] := by simp [List.getD, List.getElem?_eq_getElem h]
theorem wf_len {e : Ty} {xs : List (den e)} (h : WF (.sl e) xs) : xs.length ≤ 9223372036854775807 := by
  cases h with | sl _ _ h _ => exact maxLen_eq ▸ h
theorem size_pos {s : ByteArray} : (!beqS s ⟨#[]⟩) = decide (0 < s.size) := by
  rw [beqS_eq]
  have : L ⟨#[]⟩ = [] := rfl
  rw [this, ← L_size]
  cases L s <;> rfl
theorem size_app (s t : ByteArray) : (s ++ t).size = s.size + t.size := by
  rw [← L_size, L_append, List.length_append, L_size, L_size]
theorem bytesL_len (s : ByteArray) : (bytesL s).length = s.size := by
  simp only [bytesL, List.length_map, Array.length_toList]; rfl
theorem bytesL_map (s : ByteArray) : bytesL s = (L s).map fun b => (b.toNat : Int) := rfl
theorem bt_bytes (s : ByteArray) (i : Nat) (h : i < (bytesL s).length) : bt s i = (bytesL s)[i] := by
  rw [L_bt]
  have h' : i < (L s).length := by simpa [bytesL_map] using h
  simp [bytesL_map, List.getD, h']
theorem bytes_range (s : ByteArray) (i : Nat) (h : i < (bytesL s).length) : 0 ≤ (bytesL s)[i] ∧ (bytesL s)[i] ≤ 255 := by
  rw [← bt_bytes s i h]; exact bt_range s i
theorem all_bytes {s : ByteArray} {i : Nat} (h : i < (bytesL s).length) (p : Int → Bool) : ((bytesL s).drop i).all p = (p (bytesL s)[i] && ((bytesL s).drop (i + 1)).all p) := by
  rw [List.drop_eq_getElem_cons h]; rfl
theorem sub_tail (s : ByteArray) (st a : Nat) : (s.extract st s.size).extract a (s.extract st s.size).size = s.extract (st + a) s.size := by
  apply L_inj
  have e : (L s).take s.size = L s := List.take_of_length_le (Nat.le_refl _)
  rw [L_extract, L_extract s (st + a), ← L_size (s.extract st s.size), L_extract, List.take_length, List.drop_drop, e]
theorem sub_head (s : ByteArray) (st i : Nat) (h : st ≤ i) (hi : i ≤ s.size) : (s.extract st s.size).extract 0 (i - st) = s.extract st i := by
  apply L_inj
  rw [L_extract, L_extract, L_extract, List.drop_zero, List.take_of_length_le (show (L s).length ≤ s.size from Nat.le_refl _), List.drop_take]
def sp : ByteArray := ⟨#[32]⟩
theorem ib_hit {l : List UInt8} {c : UInt8} {i : Nat} (h : l[i]? = some c) (hn : ∀ j, j < i → l[j]? ≠ some c) : Lib.indexByte l c = i := by
  have hg := Lib.indexByte_ge l c
  by_cases e : Lib.indexByte l c = -1
  · exact absurd h (Lib.indexByte_none e i)
  · obtain ⟨o, ho⟩ : ∃ o : Nat, Lib.indexByte l c = o := ⟨(Lib.indexByte l c).toNat, by omega⟩
    obtain ⟨h1, h2⟩ := Lib.indexByte_some ho
    rcases Nat.lt_trichotomy o i with h3 | h3 | h3
    · exact absurd h1 (hn o h3)
    · rw [ho, h3]
    · exact absurd h (h2 i h3)
theorem ib_miss {l : List UInt8} {c : UInt8} (hn : ∀ j : Nat, l[j]? ≠ some c) : Lib.indexByte l c = -1 := by
  have hg := Lib.indexByte_ge l c
  by_cases e : Lib.indexByte l c = -1
  · exact e
  · obtain ⟨o, ho⟩ : ∃ o : Nat, Lib.indexByte l c = o := ⟨(Lib.indexByte l c).toNat, by omega⟩
    exact absurd (Lib.indexByte_some ho).1 (hn o)
theorem indexB_sp (s : ByteArray) : Lib.indexB s sp = Lib.indexByte (L s) 32 := Lib.one s sp rfl
theorem sub_at (s : ByteArray) (st j : Nat) : (L (s.extract st s.size))[j]? = (L s)[st + j]? := by
  rw [L_extract, List.take_of_length_le (show (L s).length ≤ s.size from Nat.le_refl _), List.getElem?_drop]
def wordsFrom (s : ByteArray) (st : Nat) : List ByteArray := Lib.splitB sp 0 (Lib.countB (s.extract st s.size) sp) (s.extract st s.size)
theorem words_end (s : ByteArray) (st : Nat) (h : ∀ j, st ≤ j → (L s)[j]? ≠ some 32) : wordsFrom s st = [s.extract st s.size] := by
  unfold wordsFrom
  rw [Lib.countB_miss _ _ ((indexB_sp _).trans (ib_miss fun j => by rw [sub_at]; exact h _ (by omega)))]
  rfl
theorem words_hit (s : ByteArray) (st i : Nat) (h1 : st ≤ i) (hi : i < s.size) (hb : (L s)[i]? = some 32) (h : ∀ j, st ≤ j → j < i → (L s)[j]? ≠ some 32) : wordsFrom s st = s.extract st i :: wordsFrom s (i + 1) := by
  have e : Lib.indexB (s.extract st s.size) sp = ((i - st : Nat) : Int) := (indexB_sp _).trans (ib_hit (by rw [sub_at, show st + (i - st) = i by omega]; exact hb) fun j hj => by rw [sub_at]; exact h _ (by omega) (by omega))
  have e1 : sp.size = 1 := rfl
  unfold wordsFrom
  rw [Lib.countB_hit _ _ _ (by rw [e1]; exact Nat.le_refl _) e, Nat.add_comm 1, Lib.splitB_hit _ _ _ _ _ e, Nat.add_zero, sub_head s st i h1 (by omega), e1, sub_tail, show st + (i - st + 1) = i + 1 by omega]
theorem sub_self (s : ByteArray) : s.extract 0 s.size = s := by
  apply L_inj
  rw [L_extract, List.take_of_length_le (show (L s).length ≤ s.size from Nat.le_refl _), List.drop_zero]
def words (s : ByteArray) : List ByteArray := Lib.splitB sp 0 (Lib.countB s sp) s
theorem words_from (s : ByteArray) : wordsFrom s 0 = words s := by unfold wordsFrom words; rw [sub_self]
theorem words_small : ∀ (k : Nat) (s : ByteArray), ∀ x ∈ Lib.splitB sp 0 k s, x.size ≤ s.size
  | 0, s, x, hx => by
    rw [Lib.splitB_zero] at hx
    simp only [List.mem_singleton] at hx
    rw [hx]; exact Nat.le_refl _
  | k + 1, s, x, hx => by
    unfold Lib.splitB at hx
    split at hx
    · simp only [List.mem_singleton] at hx
      rw [hx]; exact Nat.le_refl _
    · rcases List.mem_cons.1 hx with rfl | hx
      · rw [ByteArray.size_extract]; omega
      · have := words_small k _ x hx
        rw [ByteArray.size_extract] at this
        omega
theorem words_len (s : ByteArray) : 1 ≤ (words s).length ∧ (words s).length ≤ s.size + 1 := by
  unfold words
  have h1 : 1 ≤ sp.size := Nat.le_refl 1
  rw [Lib.splitB_all sp h1 0 _ s rfl]
  have := Lib.countB_le sp h1 s.size s (Nat.le_refl _)
  omega
theorem dropWhile_self {α : Type} (p : α → Bool) : ∀ l : List α, l.dropWhile p = l ↔ (∀ a, l.head? = some a → p a = false)
  | [] => by simp
  | a :: l => by
    have hl : (l.dropWhile p).length ≤ l.length := (List.dropWhile_sublist p).length_le
    cases h : p a with
    | true =>
      rw [List.dropWhile_cons_of_pos h]
      constructor
      · intro e
        have := congrArg List.length e
        simp at this
        omega
      · intro e
        have := e a rfl
        rw [h] at this; cases this
    | false =>
      rw [List.dropWhile_cons_of_neg (by rw [h]; exact Bool.noConfusion)]
      simp [h]
theorem trimB_self (l : List UInt8) (c : UInt8) : Lib.trimB l c = l ↔ l.head? ≠ some c ∧ l.getLast? ≠ some c := by
  unfold Lib.trimB Lib.trimLeftB Lib.trimRightB
  have h1 : ∀ m : List UInt8, m.dropWhile (· == c) = m ↔ m.head? ≠ some c := fun m => by
    rw [dropWhile_self]
    constructor
    · intro h e; have := h c e; simp at this
    · intro h a e
      have : a ≠ c := fun e' => h (e' ▸ e)
      simpa using this
  constructor
  · intro h
    have h2 : ((l.reverse.dropWhile (· == c)).reverse).length ≤ l.length := by
      have := (List.dropWhile_sublist (p := (· == c)) (l := l.reverse)).length_le
      simpa using this
    have h3 := (List.dropWhile_sublist (p := (· == c)) (l := (l.reverse.dropWhile (· == c)).reverse))
    have h4 : (l.reverse.dropWhile (· == c)).reverse = l := by
      have h5 : (l.reverse.dropWhile (· == c)).reverse.length = l.length := by
        have := h3.length_le
        rw [h] at this
        omega
      have h6 : l.reverse.dropWhile (· == c) = l.reverse := (List.dropWhile_sublist (p := (· == c)) (l := l.reverse)).eq_of_length (by simpa using h5)
      rw [h6, List.reverse_reverse]
    rw [h4] at h
    refine ⟨(h1 l).1 h, ?_⟩
    have h6 : l.reverse.dropWhile (· == c) = l.reverse := by rw [← List.reverse_inj, h4, List.reverse_reverse]
    have := (h1 _).1 h6
    simpa using this
  · rintro ⟨ha, hb⟩
    have h6 : l.reverse.dropWhile (· == c) = l.reverse := (h1 _).2 (by simpa using hb)
    rw [h6, List.reverse_reverse]
    exact (h1 l).2 ha
def vis (lo b : Int) : Bool := decide (lo ≤ b) && decide (b ≤ 126)
theorem bt_sp {s : ByteArray} {i : Nat} (hi : i < s.size) : bt s i = 32 ↔ (L s)[i]? = some 32 := by
  have hi' : i < (L s).length := hi
  have hbt : bt s i = ((L s)[i].toNat : Int) := by rw [L_bt, getD_at hi']
  rw [List.getElem?_eq_getElem hi', hbt]
  have : (32 : UInt8).toNat = 32 := rfl
  constructor
  · intro h
    congr 1
    apply UInt8.toNat_inj.1
    omega
  · intro h
    rw [Option.some.inj h]; rfl
def edge (s : ByteArray) : Bool := (decide (s.size = 0)) || (bt s 0 != 32 && bt s (s.size - 1) != 32)
theorem edge_eq (s : ByteArray) : beqS ⟨(Lib.trimB (L s) 32).toArray⟩ s = edge s := by
  rw [Bool.eq_iff_iff, beqS_iff]
  have h1 : (⟨(Lib.trimB (L s) 32).toArray⟩ : ByteArray) = s ↔ Lib.trimB (L s) 32 = L s := by
    constructor
    · intro h
      have := congrArg L h
      rwa [L_mk] at this
    · intro h
      apply L_inj
      rw [L_mk, h]
  rw [h1, trimB_self]
  unfold edge
  by_cases hz : s.size = 0
  · have : L s = [] := List.eq_nil_of_length_eq_zero hz
    rw [this]
    simp [hz]
  · have h2 : (L s).head? = (L s)[0]? := List.head?_eq_getElem?
    have h3 : (L s).getLast? = (L s)[s.size - 1]? := by rw [List.getLast?_eq_getElem?]; rfl
    rw [h2, h3, Bool.or_eq_true, decide_eq_true_eq, Bool.and_eq_true, bne_iff_ne, bne_iff_ne, Ne, Ne, Ne, Ne, bt_sp (by omega), bt_sp (by omega)]
    simp [hz]
def pos (s : ByteArray) : Bool := decide (0 < s.size)
theorem ext_size {s : ByteArray} {a b : Nat} (h : a ≤ b) (hb : b ≤ s.size) : (s.extract a b).size = b - a := by
  rw [ByteArray.size_extract]; omega
theorem room_s {n : Nat} (h : n ≤ 8192) : room n .str = true := by
  unfold room
  rw [Nat.ble_eq]
  have : nb .str = 16 := rfl
  rw [this]
  omega
theorem fpos_one (s : ByteArray) (a b : Nat) (hab : a ≤ b) (hb : b ≤ s.size) (l : List ByteArray) : (s.extract a b :: l).filter pos = (if a < b then [s.extract a b] else []) ++ l.filter pos := by
  rw [List.filter_cons]
  unfold pos
  rw [ext_size hab hb]
  by_cases c : a < b
  · rw [if_pos c, decide_eq_true (by omega)]; rfl
  · rw [if_neg c, decide_eq_false (by omega)]; rfl
theorem tail_cons (x : List UInt8) (r : List (List UInt8)) : Lib.joinTail [32] (x :: r) = 32 :: (x ++ Lib.joinTail [32] r) := by simp [Lib.joinTail]
theorem e32 : (⟨#[32]⟩ : ByteArray).size = 1 := rfl
theorem L32 : L ⟨#[32]⟩ = [32] := rfl
/-! ### A list, changed from its begin -/
def ms {α : Type} (f : α → α) (W : List α) (i : Nat) : List α := (W.take i).map f ++ W.drop i
section
variable {α : Type} (f : α → α) (W : List α)
theorem ms_len (i : Nat) : (ms f W i).length = W.length := by unfold ms; simp; omega
theorem ms_zero : ms f W 0 = W := by simp [ms]
theorem ms_all : ms f W W.length = W.map f := by simp [ms]
theorem ms_at {i : Nat} (h : i < W.length) (d : α) : (ms f W i).getD i d = W[i] := by
  unfold ms
  rw [List.getD_eq_getElem?_getD, List.getElem?_append_right (by simp; omega)]
  simp [Nat.min_eq_left (Nat.le_of_lt h), h]
theorem ms_set {i : Nat} (h : i < W.length) : (ms f W i).set i (f W[i]) = ms f W (i + 1) := by
  unfold ms
  rw [List.set_append_right _ _ (by simp; omega)]
  simp only [List.length_map, List.length_take, Nat.min_eq_left (Nat.le_of_lt h), Nat.sub_self]
  rw [List.drop_eq_getElem_cons h, List.set_cons_zero, List.take_add_one, List.getElem?_eq_getElem h]
  simp only [Option.toList_some, List.map_append, List.map_cons, List.map_nil, List.append_assoc, List.cons_append, List.nil_append]
end
end Go.Proofs.YtfnibdpepbgamaaGreatDoor
end
section
/- Plain laws: texts of an entry. -/
namespace Go.Proofs.YtfnibdpepbgamaaGreatDoor
open Go.Gx
set_option linter.unusedVariables false
set_option linter.unusedSimpArgs false

theorem edge_trim (s : ByteArray) (hs : s.size ≤ 1048576) : strings_Trim.F s ⟨#[32]⟩ = some ⟨(Lib.trimB (L s) 32).toArray⟩ := by
  unfold strings_Trim.F xTrim1
  rw [Nat.ble_eq_true_of_le (by omega)]
  rfl
theorem specText_l0 (s : ByteArray) (hs : s.size ≤ 1048576) : ∀ n i : Nat, i + n = s.size → Ev (fun k => spec_l4Text.l0 k s i) (if ((bytesL s).drop i).all (vis 32) = true then .inr s else .inl false)
  | 0, i, h => by
    refine Ev.step (fun k => by rw [spec_l4Text.l0]) ?_
    simp (disch := omega) only [cneg]
    rw [List.drop_eq_nil_of_le (by rw [bytesL_len]; omega)]
    exact Ev.pure _
  | n + 1, i, h => by
    have hl := bytesL_len s
    have hi : i < (bytesL s).length := by omega
    refine Ev.step (fun k => by rw [spec_l4Text.l0]) ?_
    simp (disch := omega) only [cpos, Int.toNat_natCast, bt_bytes s i hi]
    rw [all_bytes hi]
    unfold vis
    by_cases c1 : (bytesL s)[i] < 32
    · simp (disch := omega) only [cpos, dneg, Bool.false_and]; exact Ev.pure _
    · by_cases c2 : (bytesL s)[i] > 126
      · simp (disch := omega) only [cpos, cneg, dneg, Bool.and_false, Bool.false_and]; exact Ev.pure _
      · simp (disch := omega) only [cpos, cneg, dpos, Bool.and_self, Bool.true_and, wrap_in]
        exact specText_l0 s hs n (i + 1) (by omega)
theorem isPrint_l0 (s : ByteArray) (hs : s.size ≤ 1048576) : ∀ n i : Nat, i + n = s.size → Ev (fun k => impl_isPrintable.l0 k s i) (if ((bytesL s).drop i).all (vis 32) = true then .inr s else .inl false)
  | 0, i, h => by
    refine Ev.step (fun k => by rw [impl_isPrintable.l0]) ?_
    simp (disch := omega) only [cneg]
    rw [List.drop_eq_nil_of_le (by rw [bytesL_len]; omega)]
    exact Ev.pure _
  | n + 1, i, h => by
    have hl := bytesL_len s
    have hi : i < (bytesL s).length := by omega
    refine Ev.step (fun k => by rw [impl_isPrintable.l0]) ?_
    simp (disch := omega) only [cpos, Int.toNat_natCast, bt_bytes s i hi]
    rw [all_bytes hi]
    unfold vis
    by_cases c1 : (bytesL s)[i] < 32
    · simp (disch := omega) only [cpos, dneg, Bool.false_and]; exact Ev.pure _
    · by_cases c2 : (bytesL s)[i] > 126
      · simp (disch := omega) only [cpos, cneg, dneg, Bool.and_false, Bool.false_and]; exact Ev.pure _
      · simp (disch := omega) only [cpos, cneg, dpos, Bool.and_self, Bool.true_and, wrap_in]
        exact isPrint_l0 s hs n (i + 1) (by omega)
def textB (s : ByteArray) : Bool := decide (s.size ≤ 40) && ((bytesL s).all (vis 32) && edge s)
theorem specText_ev (s : ByteArray) : Ev (fun k => spec_l4Text.F k s) (textB s) := by
  unfold spec_l4Text.F textB
  by_cases c : (s.size : Int) > 40
  · simp (disch := omega) only [cpos, dneg, Bool.false_and]
    exact Ev.pure _
  · simp (disch := omega) only [cneg, dpos, Bool.true_and]
    have := specText_l0 s (by omega) s.size 0 (by omega)
    rw [List.drop_zero] at this
    cases h : (bytesL s).all (vis 32) with
    | false => rw [h] at this; exact Ev.bind this (Ev.pure _)
    | true =>
      rw [h] at this
      refine Ev.bind (a := .inr s) this ?_
      dsimp only
      have he : beqS s ⟨#[]⟩ = decide (s.size = 0) := by
        rw [← Bool.not_not (b := beqS s ⟨#[]⟩), size_pos]
        by_cases hz : s.size = 0
        · simp [hz]
        · rw [decide_eq_true (by omega : 0 < s.size), decide_eq_false hz]; rfl
      rw [he]
      unfold edge
      by_cases hz : s.size = 0
      · rw [decide_eq_true hz]; exact Ev.pure _
      · rw [decide_eq_false hz]
        simp (disch := omega) only [cond_false, cond_true, cpos, wrap_in]
        rw [show ((s.size : Int) - 1).toNat = s.size - 1 by omega, show (0 : Int).toNat = 0 from rfl, Bool.false_or, Bool.true_and]
        cases (bt s 0 != 32) with
        | true => exact Ev.pure _
        | false => exact Ev.pure _
theorem isText_ev (s : ByteArray) : Ev (fun k => impl_isText.F k s) (textB s) := by
  unfold impl_isText.F textB
  by_cases c : (s.size : Int) ≤ 40
  · simp (disch := omega) only [cpos, dpos, Bool.true_and]
    refine Ev.bind ?_ (Ev.pure _)
    unfold impl_isPrintable.F
    have := isPrint_l0 s (by omega) s.size 0 (by omega)
    rw [List.drop_zero] at this
    cases h : (bytesL s).all (vis 32) with
    | false => rw [h] at this; exact Ev.bind this (Ev.pure _)
    | true =>
      rw [h] at this
      refine Ev.bind (a := .inr s) this ?_
      dsimp only
      refine Ev.bind0 (edge_trim s (by omega)) ?_
      simp only [edge_eq, Bool.true_and]
      exact Ev.pure _
  · simp (disch := omega) only [cneg, dneg, Bool.false_and]
    exact Ev.pure _
end Go.Proofs.YtfnibdpepbgamaaGreatDoor
end
section
/- Plain laws: a text split at its spaces. -/
namespace Go.Proofs.YtfnibdpepbgamaaGreatDoor
open Go.Gx
set_option linter.unusedVariables false
set_option linter.unusedSimpArgs false

theorem split_ev (s : ByteArray) (hs : s.size ≤ 1048576) : strings_Split.F s ⟨#[32]⟩ = some (words s) := by
  unfold strings_Split.F xSplit
  rw [Nat.ble_eq_true_of_le (by omega)]
  rfl
end Go.Proofs.YtfnibdpepbgamaaGreatDoor
end
section
/- Plain laws: a text split at its spaces, the other way. -/
namespace Go.Proofs.YtfnibdpepbgamaaGreatDoor
open Go.Gx
set_option linter.unusedVariables false
set_option linter.unusedSimpArgs false

theorem split_l0 (s : ByteArray) (hs : s.size ≤ 1048576) : ∀ n i : Nat, i + n = s.size → ∀ st : Nat, st ≤ i → (∀ j, st ≤ j → j < i → (L s)[j]? ≠ some 32) → ∀ acc : List ByteArray, acc.length ≤ i →
    ∃ acc' st', Ev (fun k => spec_l1Split.l0 k s 32 acc st i) (s, acc', ((st' : Nat) : Int)) ∧ st' ≤ s.size ∧ acc'.length ≤ s.size ∧ acc' ++ [s.extract st' s.size] = acc ++ wordsFrom s st
  | 0, i, h, st, h1, hn, acc, ha => by
    refine ⟨acc, st, Ev.step (fun k => by rw [spec_l1Split.l0]) ?_, by omega, by omega, ?_⟩
    · simp (disch := omega) only [cneg]
      exact Ev.pure _
    · rw [words_end s st fun j hj => ?_]
      by_cases hj2 : j < i
      · exact hn j hj hj2
      · rw [List.getElem?_eq_none (by rw [L_size]; omega)]; exact fun h => by cases h
  | n + 1, i, h, st, h1, hn, acc, ha => by
    have hi : i < (L s).length := by rw [L_size]; omega
    have hbt : bt s i = ((L s)[i].toNat : Int) := by rw [L_bt, getD_at hi]
    by_cases c : bt s i = 32
    · have hb : (L s)[i]? = some 32 := by
        rw [List.getElem?_eq_getElem hi]
        congr 1
        apply UInt8.toNat_inj.1
        have : (32 : UInt8).toNat = 32 := rfl
        omega
      obtain ⟨acc', st', r1, r2, r3, r4⟩ := split_l0 s hs n (i + 1) (by omega) (i + 1) (Nat.le_refl _) (fun j h1 h2 => by omega) (acc ++ [s.extract st i]) (by simp; omega)
      refine ⟨acc', st', Ev.step (fun k => by rw [spec_l1Split.l0]) ?_, r2, r3, ?_⟩
      · have hr : room (acc.length + ([s.extract st i] : List ByteArray).length) .str = true := by
          unfold room
          rw [Nat.ble_eq]
          have : nb .str = 16 := rfl
          rw [this]
          simp; omega
        simp (disch := omega) only [cpos, Int.toNat_natCast, ceq, hr, cond_true, wrap_in]
        exact r1
      · rw [r4, words_hit s st i h1 (by omega) hb hn]; simp
    · obtain ⟨acc', st', r1, r2, r3, r4⟩ := split_l0 s hs n (i + 1) (by omega) st (by omega) (fun j h1 h2 => by
        rcases Nat.lt_or_ge j i with h3 | h3
        · exact hn j h1 h3
        · obtain rfl : j = i := by omega
          rw [List.getElem?_eq_getElem hi]
          intro e
          apply c
          rw [hbt, Option.some.inj e]; rfl) acc (by omega)
      refine ⟨acc', st', Ev.step (fun k => by rw [spec_l1Split.l0]) ?_, r2, r3, r4⟩
      simp (disch := omega) only [cpos, Int.toNat_natCast, cne, wrap_in]
      exact r1
theorem specSplit_ev (s : ByteArray) (hs : s.size ≤ 1048576) : Ev (fun k => spec_l1Split.F k s 32) (words s) := by
  unfold spec_l1Split.F
  obtain ⟨acc', st', r1, r2, r3, r4⟩ := split_l0 s hs s.size 0 (by omega) 0 (Nat.le_refl _) (fun j h1 h2 => by omega) [] (Nat.le_refl _)
  refine Ev.bind r1 ?_
  have hr : room (acc'.length + ([s.extract st' s.size] : List ByteArray).length) .str = true := by
    unfold room
    rw [Nat.ble_eq]
    have : nb .str = 16 := rfl
    rw [this]
    simp; omega
  simp (disch := omega) only [cpos, Int.toNat_natCast, hr, cond_true, r4, words_from, List.nil_append]
  exact Ev.pure _
end Go.Proofs.YtfnibdpepbgamaaGreatDoor
end
section
/- Plain laws: lists of texts: size, copy, equality. -/
namespace Go.Proofs.YtfnibdpepbgamaaGreatDoor
open Go.Gx
set_option linter.unusedVariables false
set_option linter.unusedSimpArgs false

def totS (xs : List ByteArray) : Nat := (xs.map ByteArray.size).sum
theorem szS_l0 (xs : List ByteArray) (hw : WF (.sl .str) xs) (hlen : xs.length ≤ 1048576) : ∀ n i : Nat, i + n = xs.length → ∀ l : Int, 0 ≤ l → l ≤ 1048576 →
    Ev (fun k => laws_szStringS.l0 k xs l i) (if l - totS (xs.drop i) < 0 then .inl (-1) else .inr (l - totS (xs.drop i)))
  | 0, i, h, l, h0, h1 => by
    refine Ev.step (fun k => by rw [laws_szStringS.l0]) ?_
    simp (disch := omega) only [cneg]
    rw [List.drop_eq_nil_of_le (by omega)]
    simp only [totS, List.map_nil, List.sum_nil]
    rw [if_neg (by omega)]
    exact (Ev.pure _).eq (by congr 1; omega)
  | n + 1, i, h, l, h0, h1 => by
    have hi : i < xs.length := by omega
    have hwi : xs[i].size ≤ 9223372036854775807 := by cases hw with | sl _ _ _ h => exact wf_str (h i hi)
    have hd : totS (xs.drop i) = xs[i].size + totS (xs.drop (i + 1)) := by
      rw [List.drop_eq_getElem_cons hi]; unfold totS; rw [List.map_cons, List.sum_cons]
    refine Ev.step (fun k => by rw [laws_szStringS.l0]) ?_
    simp (disch := omega) only [cpos, Int.toNat_natCast, getD_at hi]
    by_cases c : l - (xs[i].size : Int) < 0
    · simp (disch := omega) only [wrap_in, cpos]
      rw [if_pos (by omega)]
      exact Ev.pure _
    · simp (disch := omega) only [wrap_in, cneg]
      have := szS_l0 xs hw hlen n (i + 1) (by omega) (l - xs[i].size) (by omega) (by omega)
      refine this.eq ?_
      rw [hd]
      by_cases c2 : l - (xs[i].size : Int) - (totS (xs.drop (i + 1)) : Int) < 0
      · rw [if_pos c2, if_pos (by omega)]
      · rw [if_neg c2, if_neg (by omega)]; congr 1; omega
theorem szS_ev (xs : List ByteArray) (l : Int) (h0 : 0 ≤ l) (h1 : l ≤ 1048576) (hw : WF (.sl .str) xs) : ∃ r, Ev (fun k => laws_szStringS.F k xs l) r ∧ (0 ≤ r → (xs.length : Int) + totS xs + r = l) := by
  have hl : xs.length ≤ 9223372036854775807 := wf_len hw
  unfold laws_szStringS.F
  by_cases c : l - (xs.length : Int) < 0
  · simp (disch := omega) only [wrap_in, cpos]
    exact ⟨-1, Ev.pure _, fun h => by omega⟩
  · simp (disch := omega) only [wrap_in, cneg]
    have := szS_l0 xs hw (by omega) xs.length 0 (by omega) (l - xs.length) (by omega) (by omega)
    simp only [List.drop_zero] at this
    by_cases c2 : l - (xs.length : Int) - (totS xs : Int) < 0
    · rw [if_pos c2] at this
      exact ⟨-1, Ev.bind this (Ev.pure _), fun h => by omega⟩
    · rw [if_neg c2] at this
      exact ⟨l - (xs.length : Int) - (totS xs : Int), Ev.bind this (Ev.pure _), fun h => by omega⟩
theorem totS_mem {xs : List ByteArray} {x : ByteArray} (h : x ∈ xs) : x.size ≤ totS xs := by
  unfold totS
  induction xs with
  | nil => cases h
  | cons b l ih =>
    simp only [List.map_cons, List.sum_cons]
    rcases List.mem_cons.1 h with rfl | h
    · omega
    · have := ih h; omega
theorem toS_l0 (xs : List ByteArray) (hlen : xs.length ≤ 1048576) : ∀ n i : Nat, i + n = xs.length → ∀ ys : List ByteArray, ys.length = xs.length → ys.take i = xs.take i → Ev (fun k => laws_toStringS.l0 k xs ys i) xs
  | 0, i, h, ys, hy, ht => by
    refine Ev.step (fun k => by rw [laws_toStringS.l0]) ?_
    simp (disch := omega) only [cneg]
    have : ys = xs := by
      rw [List.take_of_length_le (by omega), List.take_of_length_le (by omega)] at ht
      exact ht
    rw [this]; exact Ev.pure _
  | n + 1, i, h, ys, hy, ht => by
    have hi : i < xs.length := by omega
    refine Ev.step (fun k => by rw [laws_toStringS.l0]) ?_
    simp (disch := omega) only [cpos, Int.toNat_natCast, getD_at hi, wrap_in]
    exact toS_l0 xs hlen n (i + 1) (by omega) (ys.set i xs[i]) (by simpa using hy) (by
      rw [List.take_add_one, List.take_add_one, List.take_set_of_le (Nat.le_refl i), ht]
      simp [show i < ys.length by omega, hi])
theorem toS_ev (xs : List ByteArray) (hlen : xs.length ≤ 1048576) : Ev (fun k => laws_toStringS.F k xs) xs := by
  unfold laws_toStringS.F
  have hn : nb .str = 16 := rfl
  simp (disch := first | omega | (simp only [hn, Int.toNat_natCast]; omega)) only [ceq, cpos, cble]
  exact Ev.bind (a := xs) (toS_l0 xs hlen xs.length 0 (by omega) _ (by simp) (by simp)) (Ev.pure _)
theorem eqS_l0 (xs : List ByteArray) (hlen : xs.length ≤ 1048576) : ∀ n i : Nat, i + n = xs.length → Ev (fun k => laws_eqStringS.l0 k xs xs i) (.inr ())
  | 0, i, h => by
    refine Ev.step (fun k => by rw [laws_eqStringS.l0]) ?_
    simp (disch := omega) only [cneg]
    exact Ev.pure _
  | n + 1, i, h => by
    refine Ev.step (fun k => by rw [laws_eqStringS.l0]) ?_
    simp (disch := omega) only [cpos, Int.toNat_natCast, beqS_self, Bool.not_true, cond_false, wrap_in]
    exact eqS_l0 xs hlen n (i + 1) (by omega)
theorem eqS_ev (xs : List ByteArray) (hlen : xs.length ≤ 1048576) : Ev (fun k => laws_eqStringS.F k xs xs) true := by
  unfold laws_eqStringS.F
  simp (disch := omega) only [cbeq]
  exact Ev.bind (eqS_l0 xs hlen xs.length 0 (by omega)) (Ev.pure _)
end Go.Proofs.YtfnibdpepbgamaaGreatDoor
end
section
/- Plain laws: names, entries, libraries: size, copy, equality. -/
namespace Go.Proofs.YtfnibdpepbgamaaGreatDoor
open Go.Gx
set_option linter.unusedVariables false
set_option linter.unusedSimpArgs false

def totN (n : Name) : Nat := n.given.length + totS n.given + n.particle.size + n.family.size + n.suffix.size
def totNs (xs : List Name) : Nat := xs.length + (xs.map totN).sum
def totE (e : Entry) : Nat := e.key.size + totNs e.authors + totNs e.editors + e.title.size + e.container.size + e.publisher.size + e.pages.size + e.cross.size
def totEs (xs : List Entry) : Nat := xs.length + (xs.map totE).sum
theorem sum_mem {α : Type} (f : α → Nat) {xs : List α} {x : α} (h : x ∈ xs) : f x ≤ (xs.map f).sum := by
  induction xs with
  | nil => cases h
  | cons b l ih =>
    simp only [List.map_cons, List.sum_cons]
    rcases List.mem_cons.1 h with rfl | h
    · omega
    · have := ih h; omega
def smallN (n : Name) : Prop := totN n ≤ 1048576
def smallE (e : Entry) : Prop := totE e ≤ 1048576
def smallL (l : Library) : Prop := totEs l.entries ≤ 1048576
theorem smallL_at {l : Library} (h : smallL l) {e : Entry} (he : e ∈ l.entries) : smallE e := by
  have := sum_mem totE he
  unfold smallL totEs at h
  unfold smallE
  omega
theorem smallNs_at {xs : List Name} (h : totNs xs ≤ 1048576) {n : Name} (hn : n ∈ xs) : smallN n := by
  have := sum_mem totN hn
  unfold totNs at h
  unfold smallN
  omega
theorem smallE_a {e : Entry} (h : smallE e) : totNs e.authors ≤ 1048576 := by unfold smallE totE at h; omega
theorem smallE_e {e : Entry} (h : smallE e) : totNs e.editors ≤ 1048576 := by unfold smallE totE at h; omega
theorem smallNs_len {xs : List Name} (h : totNs xs ≤ 1048576) : xs.length ≤ 1048576 := by unfold totNs at h; omega
theorem smallL_len {l : Library} (h : smallL l) : l.entries.length ≤ 1048576 := by unfold smallL totEs at h; omega
theorem szN_ev (a : Name) (l : Int) (h0 : 0 ≤ l) (h1 : l ≤ 1048576) (hw : WF .name a) : EvP (fun k => laws_szName.F k a l) fun r => 0 ≤ r → (totN a : Int) + r = l := by
  obtain ⟨w1, w2, w3, w4⟩ : WF (.sl .str) a.given ∧ a.particle.size ≤ 9223372036854775807 ∧ a.family.size ≤ 9223372036854775807 ∧ a.suffix.size ≤ 9223372036854775807 := by
    cases hw with | name _ h1 h2 h3 h4 => exact ⟨h1, wf_str h2, wf_str h3, wf_str h4⟩
  unfold laws_szName.F totN
  obtain ⟨r, r1, r2⟩ := szS_ev a.given l h0 h1 w1
  refine EvP.of r1 ?_
  by_cases c : r < 0
  · simp (disch := omega) only [cpos]
    exact EvP.pure _ (fun h => by omega)
  simp (disch := omega) only [cneg]
  have r3 := r2 (by omega)
  by_cases c1 : r - (a.particle.size : Int) < 0
  · simp (disch := omega) only [wrap_in, cpos]
    exact EvP.pure _ (fun h => by omega)
  simp (disch := omega) only [wrap_in, cneg]
  by_cases c2 : r - (a.particle.size : Int) - (a.family.size : Int) < 0
  · simp (disch := omega) only [wrap_in, cpos]
    exact EvP.pure _ (fun h => by omega)
  simp (disch := omega) only [wrap_in, cneg]
  by_cases c3 : r - (a.particle.size : Int) - (a.family.size : Int) - (a.suffix.size : Int) < 0
  · simp (disch := omega) only [wrap_in, cpos]
    exact EvP.pure _ (fun h => by omega)
  simp (disch := omega) only [wrap_in, cneg]
  exact EvP.pure _ (fun h => by omega)
theorem szNs_l0 (xs : List Name) (hw : WF (.sl .name) xs) (hlen : xs.length ≤ 1048576) : ∀ n i : Nat, i + n = xs.length → ∀ l : Int, 0 ≤ l → l ≤ 1048576 →
    EvP (fun k => laws_szNameS.l0 k xs l i) fun r => r = .inl (-1) ∨ ∃ q : Int, r = .inr q ∧ 0 ≤ q ∧ (((xs.drop i).map totN).sum : Int) + q = l
  | 0, i, h, l, h0, h1 => by
    refine EvP.step (fun k => by rw [laws_szNameS.l0]) ?_
    simp (disch := omega) only [cneg]
    rw [List.drop_eq_nil_of_le (by omega)]
    exact EvP.pure _ (.inr ⟨l, rfl, h0, by simp⟩)
  | n + 1, i, h, l, h0, h1 => by
    have hi : i < xs.length := by omega
    have hwi : WF .name xs[i] := by cases hw with | sl _ _ _ h => exact h i hi
    refine EvP.step (fun k => by rw [laws_szNameS.l0]) ?_
    simp (disch := omega) only [cpos, Int.toNat_natCast, getD_at hi]
    refine EvP.bind (szN_ev _ l h0 h1 hwi) fun r hr => ?_
    by_cases c : r < 0
    · simp (disch := omega) only [cpos]
      exact EvP.pure _ (.inl rfl)
    · have hr := hr (by omega)
      simp (disch := omega) only [cneg, wrap_in]
      refine EvP.mono (szNs_l0 xs hw hlen n (i + 1) (by omega) r (by omega) (by omega)) fun q hq => ?_
      rcases hq with rfl | ⟨q, rfl, h2, h3⟩
      · exact .inl rfl
      · refine .inr ⟨q, rfl, h2, ?_⟩
        rw [List.drop_eq_getElem_cons hi, List.map_cons, List.sum_cons]
        omega
theorem szNs_ev (xs : List Name) (l : Int) (h0 : 0 ≤ l) (h1 : l ≤ 1048576) (hw : WF (.sl .name) xs) : EvP (fun k => laws_szNameS.F k xs l) fun r => 0 ≤ r → (totNs xs : Int) + r = l := by
  have hl : xs.length ≤ 9223372036854775807 := wf_len hw
  unfold laws_szNameS.F totNs
  by_cases c : l - (xs.length : Int) < 0
  · simp (disch := omega) only [wrap_in, cpos]
    exact EvP.pure _ fun h => by omega
  · simp (disch := omega) only [wrap_in, cneg]
    refine EvP.bind (szNs_l0 xs hw (by omega) xs.length 0 (by omega) (l - xs.length) (by omega) (by omega)) fun r hr => ?_
    rcases hr with rfl | ⟨q, rfl, h2, h3⟩
    · exact EvP.pure _ fun h => by omega
    · rw [List.drop_zero] at h3
      exact EvP.pure _ fun h => by omega
theorem szE_ev (a : Entry) (l : Int) (h0 : 0 ≤ l) (h1 : l ≤ 1048576) (hw : WF .entry a) : EvP (fun k => laws_szEntry.F k a l) fun r => 0 ≤ r → (totE a : Int) + r = l := by
  obtain ⟨w1, w2, w3, w4, w5, w6, w7, w8⟩ : a.key.size ≤ 9223372036854775807 ∧ WF (.sl .name) a.authors ∧ WF (.sl .name) a.editors ∧ a.title.size ≤ 9223372036854775807 ∧ a.container.size ≤ 9223372036854775807 ∧ a.publisher.size ≤ 9223372036854775807 ∧ a.pages.size ≤ 9223372036854775807 ∧ a.cross.size ≤ 9223372036854775807 := by
    cases hw with | entry _ h1 h2 h3 h4 h5 h6 h7 h8 h9 h10 h11 => exact ⟨wf_str h1, h3, h4, wf_str h5, wf_str h6, wf_str h7, wf_str h10, wf_str h11⟩
  unfold laws_szEntry.F totE
  by_cases c0 : l - (a.key.size : Int) < 0
  · simp (disch := omega) only [wrap_in, cpos]
    exact EvP.pure _ (fun h => by omega)
  simp (disch := omega) only [wrap_in, cneg]
  refine EvP.bind (szNs_ev a.authors _ (by omega) (by omega) w2) fun r hr => ?_
  by_cases c : r < 0
  · simp (disch := omega) only [cpos]
    exact EvP.pure _ (fun h => by omega)
  simp (disch := omega) only [cneg]
  have hr := hr (by omega)
  refine EvP.bind (szNs_ev a.editors r (by omega) (by omega) w3) fun q hq => ?_
  by_cases c' : q < 0
  · simp (disch := omega) only [cpos]
    exact EvP.pure _ (fun h => by omega)
  simp (disch := omega) only [cneg]
  have hq := hq (by omega)
  by_cases c1 : q - (a.title.size : Int) < 0
  · simp (disch := omega) only [wrap_in, cpos]
    exact EvP.pure _ (fun h => by omega)
  simp (disch := omega) only [wrap_in, cneg]
  by_cases c2 : q - (a.title.size : Int) - (a.container.size : Int) < 0
  · simp (disch := omega) only [wrap_in, cpos]
    exact EvP.pure _ (fun h => by omega)
  simp (disch := omega) only [wrap_in, cneg]
  by_cases c3 : q - (a.title.size : Int) - (a.container.size : Int) - (a.publisher.size : Int) < 0
  · simp (disch := omega) only [wrap_in, cpos]
    exact EvP.pure _ (fun h => by omega)
  simp (disch := omega) only [wrap_in, cneg]
  by_cases c4 : q - (a.title.size : Int) - (a.container.size : Int) - (a.publisher.size : Int) - (a.pages.size : Int) < 0
  · simp (disch := omega) only [wrap_in, cpos]
    exact EvP.pure _ (fun h => by omega)
  simp (disch := omega) only [wrap_in, cneg]
  by_cases c5 : q - (a.title.size : Int) - (a.container.size : Int) - (a.publisher.size : Int) - (a.pages.size : Int) - (a.cross.size : Int) < 0
  · simp (disch := omega) only [wrap_in, cpos]
    exact EvP.pure _ (fun h => by omega)
  simp (disch := omega) only [wrap_in, cneg]
  exact EvP.pure _ (fun h => by omega)
/-! ### Copies -/
theorem toSp_l0 (xs : List ByteArray) (hlen : xs.length ≤ 1048576) : ∀ n i : Nat, i + n = xs.length → ∀ ys : List ByteArray, ys.length = xs.length → ys.take i = xs.take i → Ev (fun k => laws_toStringS_p.l0 k xs ys i) xs
  | 0, i, h, ys, hy, ht => by
    refine Ev.step (fun k => by rw [laws_toStringS_p.l0]) ?_
    simp (disch := omega) only [cneg]
    have : ys = xs := by
      rw [List.take_of_length_le (by omega), List.take_of_length_le (by omega)] at ht
      exact ht
    rw [this]; exact Ev.pure _
  | n + 1, i, h, ys, hy, ht => by
    have hi : i < xs.length := by omega
    refine Ev.step (fun k => by rw [laws_toStringS_p.l0]) ?_
    simp (disch := omega) only [cpos, Int.toNat_natCast, getD_at hi, wrap_in]
    exact toSp_l0 xs hlen n (i + 1) (by omega) (ys.set i xs[i]) (by simpa using hy) (by
      rw [List.take_add_one, List.take_add_one, List.take_set_of_le (Nat.le_refl i), ht]
      simp [show i < ys.length by omega, hi])
theorem toSp_ev (xs : List ByteArray) (hlen : xs.length ≤ 1048576) : Ev (fun k => laws_toStringS_p.F k xs) xs := by
  unfold laws_toStringS_p.F
  have hn : nb .str = 16 := rfl
  simp (disch := first | omega | (simp only [hn, Int.toNat_natCast]; omega)) only [ceq, cpos, cble]
  exact Ev.bind (a := xs) (toSp_l0 xs hlen xs.length 0 (by omega) _ (by simp) (by simp)) (Ev.pure _)
theorem toN_ev (a : Name) (hs : smallN a) : Ev (fun k => laws_toName_p.F k a) a := by
  unfold laws_toName_p.F
  exact Ev.bind (toSp_ev a.given (by unfold smallN totN at hs; omega)) (Ev.pure _)
theorem toNs_l0 (xs : List Name) (hs : ∀ x ∈ xs, smallN x) (hlen : xs.length ≤ 1048576) : ∀ n i : Nat, i + n = xs.length → ∀ ys : List Name, ys.length = xs.length → ys.take i = xs.take i → Ev (fun k => laws_toNameS_p.l0 k xs ys i) xs
  | 0, i, h, ys, hy, ht => by
    refine Ev.step (fun k => by rw [laws_toNameS_p.l0]) ?_
    simp (disch := omega) only [cneg]
    have : ys = xs := by
      rw [List.take_of_length_le (by omega), List.take_of_length_le (by omega)] at ht
      exact ht
    rw [this]; exact Ev.pure _
  | n + 1, i, h, ys, hy, ht => by
    have hi : i < xs.length := by omega
    refine Ev.step (fun k => by rw [laws_toNameS_p.l0]) ?_
    simp (disch := omega) only [cpos, Int.toNat_natCast, getD_at hi]
    refine Ev.bind (toN_ev _ (hs _ (List.getElem_mem hi))) ?_
    simp (disch := omega) only [cpos, wrap_in]
    exact toNs_l0 xs hs hlen n (i + 1) (by omega) (ys.set i xs[i]) (by simpa using hy) (by
      rw [List.take_add_one, List.take_add_one, List.take_set_of_le (Nat.le_refl i), ht]
      simp [show i < ys.length by omega, hi])
theorem toNs_ev (xs : List Name) (hs : ∀ x ∈ xs, smallN x) (hlen : xs.length ≤ 1048576) : Ev (fun k => laws_toNameS_p.F k xs) xs := by
  unfold laws_toNameS_p.F
  have hn : nb .name = 72 := rfl
  simp (disch := first | omega | (simp only [hn, Int.toNat_natCast]; omega)) only [ceq, cpos, cble]
  exact Ev.bind (a := xs) (toNs_l0 xs hs hlen xs.length 0 (by omega) _ (by simp) (by simp)) (Ev.pure _)
theorem toE_ev (a : Entry) (hs : smallE a) : Ev (fun k => laws_toEntry_p.F k a) a := by
  unfold laws_toEntry_p.F
  have ha := smallE_a hs
  have he := smallE_e hs
  exact Ev.bind (toNs_ev a.authors (fun x hx => smallNs_at ha hx) (smallNs_len ha)) (Ev.bind (toNs_ev a.editors (fun x hx => smallNs_at he hx) (smallNs_len he)) (Ev.pure _))
/-! ### Equality -/
theorem eqN_ev (a : Name) (hs : smallN a) : Ev (fun k => laws_eqName.F k a a) true := by
  unfold laws_eqName.F
  refine Ev.bind (eqS_ev a.given (by unfold smallN totN at hs; omega)) ?_
  simp only [beqS_self, Bool.not_true, cond_false]
  exact Ev.pure _
theorem eqD_ev (a : Date) : laws_eqDate.F a a = some true := by
  unfold laws_eqDate.F
  simp only [bne_self_eq_false, beq_self_eq_true, Bool.not_true, cond_false]
theorem eqNs_l0 (xs : List Name) (hs : ∀ x ∈ xs, smallN x) (hlen : xs.length ≤ 1048576) : ∀ n i : Nat, i + n = xs.length → Ev (fun k => laws_eqNameS.l0 k xs xs i) (.inr ())
  | 0, i, h => by
    refine Ev.step (fun k => by rw [laws_eqNameS.l0]) ?_
    simp (disch := omega) only [cneg]
    exact Ev.pure _
  | n + 1, i, h => by
    have hi : i < xs.length := by omega
    refine Ev.step (fun k => by rw [laws_eqNameS.l0]) ?_
    simp (disch := omega) only [cpos, Int.toNat_natCast, getD_at hi]
    refine Ev.bind (eqN_ev _ (hs _ (List.getElem_mem hi))) ?_
    simp (disch := omega) only [Bool.not_true, cond_false, wrap_in]
    exact eqNs_l0 xs hs hlen n (i + 1) (by omega)
theorem eqNs_ev (xs : List Name) (hs : ∀ x ∈ xs, smallN x) (hlen : xs.length ≤ 1048576) : Ev (fun k => laws_eqNameS.F k xs xs) true := by
  unfold laws_eqNameS.F
  simp (disch := omega) only [cbeq]
  exact Ev.bind (eqNs_l0 xs hs hlen xs.length 0 (by omega)) (Ev.pure _)
theorem eqE_ev (a : Entry) (hs : smallE a) : Ev (fun k => laws_eqEntry.F k a a) true := by
  unfold laws_eqEntry.F
  have ha := smallE_a hs
  have he := smallE_e hs
  simp only [beqS_self, bne_self_eq_false, Bool.not_true, cond_false]
  refine Ev.bind (eqNs_ev a.authors (fun x hx => smallNs_at ha hx) (smallNs_len ha)) ?_
  simp only [Bool.not_true, cond_false]
  refine Ev.bind (eqNs_ev a.editors (fun x hx => smallNs_at he hx) (smallNs_len he)) ?_
  simp only [Bool.not_true, cond_false]
  refine Ev.bind0 (eqD_ev _) ?_
  simp only [Bool.not_true, cond_false]
  exact Ev.pure _
end Go.Proofs.YtfnibdpepbgamaaGreatDoor
end
