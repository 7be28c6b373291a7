/- Library functions: their contracts, proved once for any program, as what a callee keeps to. By an AI agent's session. -/
import Derived.Test.YtnffgabfibafjaaDoorMu3
import Derived.Shelf.Vars
import Derived.Below
import Derived.Lib.IndexMore
import Derived.Lib.Split
import Derived.Lib.SplitLaws
import Derived.Lib.Repeat
import Derived.Deep.Draws
import Derived.Lib.Join
import Derived.Lib.SlTrimSet
import Derived.Lib.IndexAny
import Derived.Lib.TrimByte
import Derived.Laws.AppendOwn
import Derived.Test.YtnffgabfibafjaaDoorMu4
import Derived.Test.YtnffgabfibafjaaDoorProg
import Derived.KernelRfl
import Derived.Lib.IndexBytes
import Derived.Lib.IndexLaws
import Derived.Lib.CountLaws
section
namespace Go.Gx
open Go.RowKit Go.Lib
set_option linter.unusedVariables false
theorem ext_goes {P : Program} {f : FuncId} {fn : Func} {c : Code} (hf : P.funcs[f]? = some fn) (hb : fn.body = some c) (hname : (fn.name == "runtime.NumGoroutine") = false) {args : Array Value} {w : World} {R : Value → World → Prop}
    (h : Calls P f args w fun e w' => ∃ v, e = .returned v ∧ R v w') : Goes P f args w R := by
  have hcall : (callFunc f args).run P w = .ok (.enter f args) w := by
    have hn' : fn.name ≠ "runtime.NumGoroutine" := by simpa using hname
    simp [callFunc, hf, hn', hb]
  unfold Goes
  rw [hcall]
  exact h
theorem args_nil {S : Nat → Prop} {w : World} {pv : Nat → Value} {vs : List Value} (h : ArgsOk S w pv [] vs) : vs = [] := List.eq_nil_of_length_eq_zero h.1
theorem args_cons {S : Nat → Prop} {w : World} {pv : Nat → Value} {a : AV} {al : List AV} {vs : List Value} (h : ArgsOk S w pv (a :: al) vs) : ∃ cs vs', AR S w (fun _ => none) (fun _ => none) pv a cs ∧ vs = valOf a cs :: vs' ∧ ArgsOk S w pv al vs' := by
  match vs, h with
  | [], h => cases h.1
  | v :: vs', ⟨h1, h2⟩ =>
    obtain ⟨cs, hc, rfl⟩ := h2 0 a v rfl rfl
    exact ⟨cs, vs', hc, rfl, by simpa using h1, fun i b u hb hu => h2 (i + 1) b u (by simpa using hb) (by simpa using hu)⟩
theorem args_str {S : Nat → Prop} {w : World} {pv : Nat → Value} {s : ByteArray} {al : List AV} {vs : List Value} (h : ArgsOk S w pv (.t .str s :: al) vs) : ∃ vs', vs = .string s :: vs' ∧ ArgsOk S w pv al vs' := by
  obtain ⟨cs, vs', hc, rfl, h'⟩ := args_cons h
  cases hc with | t _ _ _ hc => cases hc; exact ⟨vs', rfl, h'⟩
theorem args_int {S : Nat → Prop} {w : World} {pv : Nat → Value} {k : IntKind} {n : Int} {al : List AV} {vs : List Value} (h : ArgsOk S w pv (.t (.int k) n :: al) vs) : ∃ vs', vs = .int k n :: vs' ∧ ArgsOk S w pv al vs' := by
  obtain ⟨cs, vs', hc, rfl, h'⟩ := args_cons h
  cases hc with | t _ _ _ hc => cases hc; exact ⟨vs', rfl, h'⟩
section
variable {P : Program} {E : Env} {pv : Nat → Value} {f : FuncId} {fn : Func} {c : Code}
/-- An answer that leads nowhere. -/
theorem ext_flat (hf : P.funcs[f]? = some fn) (hb : fn.body = some c) (hname : (fn.name == "runtime.NumGoroutine") = false) {args : List AV} {τ : Ty} {y : den τ} {v : Value} (hy : ∀ S w, ∃ cs, CR S w τ y cs ∧ v = valOf (.t τ y) cs)
    (h : ∀ S w vs, (∀ b, S b → b < w.heap.size) → GlOk E S w → ArgsOk S w pv args vs → Calls P f vs.toArray w fun e w' => e = .returned v ∧ Below w.heap.size w w') : Meets P E pv (.f f) args (.t τ y) := by
  intro S w vs hS hgl hargs
  refine ext_goes hf hb hname ((h S w vs hS hgl hargs).mono fun e w' ⟨he, hbl⟩ => ⟨v, he, hbl, S, fun b hb => hb, fun b hb => .inl hb, ?_⟩)
  obtain ⟨cs, hc, rfl⟩ := hy S w'
  exact ⟨none, .plain _ _ (.t _ _ _ hc)⟩
/-- New texts in a block of their own. -/
theorem ext_strs (hf : P.funcs[f]? = some fn) (hb : fn.body = some c) (hname : (fn.name == "runtime.NumGoroutine") = false) {args : List AV} {te : Nat} {xs : List ByteArray} (hx : xs.length ≤ maxLen)
    (h : ∀ S w vs, (∀ b, S b → b < w.heap.size) → GlOk E S w → ArgsOk S w pv args vs → Calls P f vs.toArray w fun e w' => e = .returned (.slice (some ⟨w.heap.size, 0, none⟩) xs.length xs.length) ∧ w' = w.alloc (.cells (xs.map Value.string).toArray te)) : Meets P E pv (.f f) args (.fr te .str xs) := by
  intro S w vs hS hgl hargs
  refine ext_goes hf hb hname ((h S w vs hS hgl hargs).mono fun e w' ⟨he, hw⟩ => ⟨_, he, ?_⟩)
  subst hw
  refine ⟨(Below.refl _ w).alloc (Nat.le_refl _) _, S, fun b hb => hb, fun b hb => .inl hb, some w.heap.size, .fr te .str xs w.heap.size xs.length (Nat.le_refl _) (fun hs => absurd (hS _ hs) (Nat.lt_irrefl _)) ⟨(xs.map Value.string).toArray, (0, 0), ?_, ?_, Nat.le_refl _, hx, fun _ => rfl, .inl (Nat.le_refl _), by decide, fun i hi => ⟨[.string xs[i]], .str _, fun j v hj => ?_⟩⟩⟩
  · show (w.heap.push _)[w.heap.size]? = _
    simp
  · simp [nc]
  · cases j with
    | zero =>
      simp only [List.getElem?_cons_zero, Option.some.injEq] at hj
      subst hj
      simp [nc, hi]
    | succ j => simp at hj
end
/-! ### The functions -/
def xContains (s sub : ByteArray) : Option Bool := bif Nat.ble s.size 4294967280 then some (Lib.contains s.data.toList sub.data.toList) else none
theorem ext_contains {P : Program} {E : Env} {pv : Nat → Value} {f : FuncId} {fn : Func} {c : Code} (hf : P.funcs[f]? = some fn) (hb : fn.body = some c) (hname : (fn.name == "runtime.NumGoroutine") = false) {mx : Nat} (hmx : E.gi mx = true)
    (hc : ∀ (s sub : ByteArray) (m : Int) (w : World), s.size < 4294967281 → w.cell? ⟨mx, 0, none⟩ = some (.int .i64 m) → Calls P f #[.string s, .string sub] w fun e w' => e = .returned (.bool (Lib.contains s.data.toList sub.data.toList)) ∧ w' = w)
    {s sub : ByteArray} {y : Bool} (h : xContains s sub = some y) : Meets P E pv (.f f) (tvals [.str, .str] (s, sub, ())) (.t .bool y) := by
  unfold xContains at h
  cases hs : Nat.ble s.size 4294967280 with
  | false => rw [hs] at h; cases h
  | true =>
    rw [hs] at h
    cases h
    refine ext_flat hf hb hname (v := .bool _) (fun S w => ⟨_, .bool _, rfl⟩) fun S w vs hS hgl ha => ?_
    obtain ⟨_, rfl, ha1⟩ := args_str ha
    obtain ⟨_, rfl, ha2⟩ := args_str ha1
    obtain rfl := args_nil ha2
    obtain ⟨_, m, hm⟩ := hgl.2 mx hmx
    refine (hc s sub m w (Nat.lt_succ_of_le (Nat.le_of_ble_eq_true hs)) hm).mono fun e w' ⟨he, hw⟩ => ⟨he, ?_⟩
    subst hw
    exact Below.refl _ _
def xSplit (s sep : ByteArray) : Option (List ByteArray) := bif Nat.ble s.size 4294967280 && Nat.ble 1 sep.size then some (Lib.splitB sep 0 (Lib.countB s sep) s) else none
theorem ext_split {P : Program} {E : Env} {pv : Nat → Value} {f : FuncId} {fn : Func} {c : Code} (hf : P.funcs[f]? = some fn) (hb : fn.body = some c) (hname : (fn.name == "runtime.NumGoroutine") = false) {mx : Nat} (hmx : E.gi mx = true) {te : Nat}
    (hc : ∀ (s sep : ByteArray) (m : Int) (w : World), s.size < 4294967281 → w.cell? ⟨mx, 0, none⟩ = some (.int .i64 m) → 1 ≤ sep.size → Calls P f #[.string s, .string sep] w fun e w' =>
      e = .returned (.slice (some ⟨w.heap.size, 0, none⟩) (Lib.countB s sep + 1) (Lib.countB s sep + 1)) ∧ w' = w.alloc (.cells ((Lib.splitB sep 0 (Lib.countB s sep) s).map Value.string).toArray te))
    {s sep : ByteArray} {y : List ByteArray} (h : xSplit s sep = some y) : Meets P E pv (.f f) (tvals [.str, .str] (s, sep, ())) (.fr te .str y) := by
  unfold xSplit at h
  cases hs : Nat.ble s.size 4294967280 && Nat.ble 1 sep.size with
  | false => rw [hs] at h; cases h
  | true =>
    rw [hs] at h
    cases h
    rw [Bool.and_eq_true] at hs
    have h1 := Nat.le_of_ble_eq_true hs.1
    have h2 := Nat.le_of_ble_eq_true hs.2
    have hl := Lib.splitB_all sep h2 0 _ s rfl
    have hle := Lib.countB_le sep h2 s.size s (Nat.le_refl _)
    have hm : maxLen = 9223372036854775807 := by decide
    refine ext_strs hf hb hname (by rw [hl, hm]; omega) fun S w vs hS hgl ha => ?_
    obtain ⟨_, rfl, ha1⟩ := args_str ha
    obtain ⟨_, rfl, ha2⟩ := args_str ha1
    obtain rfl := args_nil ha2
    obtain ⟨_, m, hm⟩ := hgl.2 mx hmx
    rw [hl]
    exact hc s sep m w (by omega) hm h2
def xRepeat (s : ByteArray) (n : Int) : Option ByteArray := bif decide (0 ≤ n) && (decide (n ≤ 9223372036854775807) && Nat.ble (s.size * n.toNat) 140737488355328) then some ⟨(Lib.repeatL s.data.toList n.toNat).toArray⟩ else none
theorem ext_repeat {P : Program} {E : Env} {pv : Nat → Value} {f : FuncId} {fn : Func} {c : Code} (hf : P.funcs[f]? = some fn) (hb : fn.body = some c) (hname : (fn.name == "runtime.NumGoroutine") = false)
    (hc : ∀ (s : ByteArray) (c : Nat) (w : World), c ≤ 9223372036854775807 → s.size * c ≤ 140737488355328 → Calls P f #[.string s, .int .i64 c] w fun e w' => e = .returned (.string ⟨(Lib.repeatL s.data.toList c).toArray⟩) ∧ Below w.heap.size w w')
    {s : ByteArray} {n : Int} {y : ByteArray} (h : xRepeat s n = some y) : Meets P E pv (.f f) (tvals [.str, .int .i64] (s, n, ())) (.t .str y) := by
  unfold xRepeat at h
  cases hs : decide (0 ≤ n) && (decide (n ≤ 9223372036854775807) && Nat.ble (s.size * n.toNat) 140737488355328) with
  | false => rw [hs] at h; cases h
  | true =>
    rw [hs] at h
    cases h
    simp only [Bool.and_eq_true, decide_eq_true_eq] at hs
    refine ext_flat hf hb hname (v := .string _) (fun S w => ⟨_, .str _, rfl⟩) fun S w vs hS hgl ha => ?_
    obtain ⟨_, rfl, ha1⟩ := args_str ha
    obtain ⟨_, rfl, ha2⟩ := args_int ha1
    obtain rfl := args_nil ha2
    have e : n = (n.toNat : Int) := by omega
    have := hc s n.toNat w (by omega) (Nat.le_of_ble_eq_true hs.2.2)
    rw [← e] at this
    exact this
def ascii (s : ByteArray) : Bool := s.data.toList.all fun b => decide (b.toNat < 128)
theorem ascii_at {s : ByteArray} (h : ascii s = true) : ∀ (j : Nat) b, s.data.toList[j]? = some b → b.toNat < 128 := fun j b hj => by
  unfold ascii at h
  rw [List.all_eq_true] at h
  exact of_decide_eq_true (h b (List.mem_of_getElem? hj))
def xTrim (s cs : ByteArray) : Option ByteArray := bif Nat.ble s.size 9223372036854775807 && (Nat.ble cs.size 4294967280 && ascii cs) then some ⟨(Lib.trimS s.data.toList cs.data.toList).toArray⟩ else none
theorem ext_trim {P : Program} {E : Env} {pv : Nat → Value} {f : FuncId} {fn : Func} {c : Code} (hf : P.funcs[f]? = some fn) (hb : fn.body = some c) (hname : (fn.name == "runtime.NumGoroutine") = false)
    (hc : ∀ (s cs : ByteArray) (w : World), s.size ≤ 9223372036854775807 → cs.size < 4294967281 → (∀ (j : Nat) b, cs.data.toList[j]? = some b → b.toNat < 128) → Calls P f #[.string s, .string cs] w fun e w' => e = .returned (.string ⟨(Lib.trimS s.data.toList cs.data.toList).toArray⟩) ∧ Below w.heap.size w w')
    {s cs : ByteArray} {y : ByteArray} (h : xTrim s cs = some y) : Meets P E pv (.f f) (tvals [.str, .str] (s, cs, ())) (.t .str y) := by
  unfold xTrim at h
  cases hs : Nat.ble s.size 9223372036854775807 && (Nat.ble cs.size 4294967280 && ascii cs) with
  | false => rw [hs] at h; cases h
  | true =>
    rw [hs] at h
    cases h
    simp only [Bool.and_eq_true] at hs
    refine ext_flat hf hb hname (v := .string _) (fun S w => ⟨_, .str _, rfl⟩) fun S w vs hS hgl ha => ?_
    obtain ⟨_, rfl, ha1⟩ := args_str ha
    obtain ⟨_, rfl, ha2⟩ := args_str ha1
    obtain rfl := args_nil ha2
    exact hc s cs w (Nat.le_of_ble_eq_true hs.1) (Nat.lt_succ_of_le (Nat.le_of_ble_eq_true hs.2.1)) (ascii_at hs.2.2)
def xIndexAny (s cs : ByteArray) : Option Int := bif Nat.ble s.size 4294967280 && (Nat.ble cs.size 4294967280 && (ascii s && ascii cs)) then some (Lib.indexAny s.data.toList cs.data.toList) else none
theorem ext_indexAny {P : Program} {E : Env} {pv : Nat → Value} {f : FuncId} {fn : Func} {c : Code} (hf : P.funcs[f]? = some fn) (hb : fn.body = some c) (hname : (fn.name == "runtime.NumGoroutine") = false)
    (hc : ∀ (s cs : ByteArray) (w : World), s.size < 4294967281 → cs.size < 4294967281 → (∀ (j : Nat) b, s.data.toList[j]? = some b → b.toNat < 128) → (∀ (j : Nat) b, cs.data.toList[j]? = some b → b.toNat < 128) → Calls P f #[.string s, .string cs] w fun e w' => e = .returned (.int .i64 (Lib.indexAny s.data.toList cs.data.toList)) ∧ Below w.heap.size w w')
    {s cs : ByteArray} {y : Int} (h : xIndexAny s cs = some y) : Meets P E pv (.f f) (tvals [.str, .str] (s, cs, ())) (.t (.int .i64) y) := by
  unfold xIndexAny at h
  cases hs : Nat.ble s.size 4294967280 && (Nat.ble cs.size 4294967280 && (ascii s && ascii cs)) with
  | false => rw [hs] at h; cases h
  | true =>
    rw [hs] at h
    cases h
    simp only [Bool.and_eq_true] at hs
    refine ext_flat hf hb hname (v := .int .i64 _) (fun S w => ⟨_, .int _ _, rfl⟩) fun S w vs hS hgl ha => ?_
    obtain ⟨_, rfl, ha1⟩ := args_str ha
    obtain ⟨_, rfl, ha2⟩ := args_str ha1
    obtain rfl := args_nil ha2
    exact hc s cs w (Nat.lt_succ_of_le (Nat.le_of_ble_eq_true hs.1)) (Nat.lt_succ_of_le (Nat.le_of_ble_eq_true hs.2.1)) (ascii_at hs.2.2.1) (ascii_at hs.2.2.2)
/-- The pieces before and behind, and whether there is one. -/
def xCut (s sep : ByteArray) : Option (ByteArray × ByteArray × Bool) := bif Nat.ble s.size 4294967280 then some (⟨(Lib.cut s.data.toList sep.data.toList).1.toArray⟩, ⟨(Lib.cut s.data.toList sep.data.toList).2.1.toArray⟩, (Lib.cut s.data.toList sep.data.toList).2.2) else none
theorem drewN_below (w : World) (n : Nat) : Below w.heap.size w (w.drewN n) := ⟨rfl, rfl, rfl, Nat.le_refl _, fun _ _ => rfl⟩
theorem ext_cut {P : Program} {E : Env} {pv : Nat → Value} {f : FuncId} {fn : Func} {c : Code} (hf : P.funcs[f]? = some fn) (hb : fn.body = some c) (hname : (fn.name == "runtime.NumGoroutine") = false) {mx : Nat} (hmx : E.gi mx = true)
    (hc : ∀ (s sep : ByteArray) (m : Int) (w : World), s.size < 4294967281 → w.cell? ⟨mx, 0, none⟩ = some (.int .i64 m) → Calls P f #[.string s, .string sep] w fun e w' =>
      e = .returned (.tuple #[.string ⟨(Lib.cut s.data.toList sep.data.toList).1.toArray⟩, .string ⟨(Lib.cut s.data.toList sep.data.toList).2.1.toArray⟩, .bool (Lib.cut s.data.toList sep.data.toList).2.2]) ∧ ∃ n, w' = w.drewN n)
    {s sep : ByteArray} {y : ByteArray × ByteArray × Bool} (h : xCut s sep = some y) : Meets P E pv (.f f) (tvals [.str, .str] (s, sep, ())) (.tup [.t .str y.1, .t .str y.2.1, .t .bool y.2.2]) := by
  unfold xCut at h
  cases hs : Nat.ble s.size 4294967280 with
  | false => rw [hs] at h; cases h
  | true =>
    rw [hs] at h
    cases h
    intro S w vs hS hgl ha
    obtain ⟨_, rfl, ha1⟩ := args_str ha
    obtain ⟨_, rfl, ha2⟩ := args_str ha1
    obtain rfl := args_nil ha2
    obtain ⟨_, m, hm⟩ := hgl.2 mx hmx
    refine ext_goes hf hb hname ((hc s sep m w (Nat.lt_succ_of_le (Nat.le_of_ble_eq_true hs)) hm).mono fun e w' ⟨he, n, hw⟩ => ⟨_, he, hw ▸ drewN_below w n, S, fun b hb => hb, fun b hb => .inl hb, ?_⟩)
    refine ⟨[.string _, .string _, .bool _], [none, none, none], rfl, rfl, rfl, fun i r v g h1 h2 h3 => ?_, fun i j g hne h1 => ?_⟩
    · match i, h1, h2, h3 with
      | 0, h1, h2, h3 => cases h1; cases h2; cases h3; exact .plain _ _ (.t _ _ _ (.str _))
      | 1, h1, h2, h3 => cases h1; cases h2; cases h3; exact .plain _ _ (.t _ _ _ (.str _))
      | 2, h1, h2, h3 => cases h1; cases h2; cases h3; exact .plain _ _ (.t _ _ _ (.bool _))
      | n + 3, h1, _, _ => simp at h1
    · match i, h1 with
      | 0, h1 => cases h1
      | 1, h1 => cases h1
      | 2, h1 => cases h1
      | n + 3, h1 => simp at h1
def xJoin (xs : List ByteArray) (sep : ByteArray) : Option ByteArray := bif Nat.ble xs.length 140737488355328 && Nat.ble (Lib.join (xs.map (·.data.toList)) sep.data.toList).length 140737488355328 then some ⟨(Lib.join (xs.map (·.data.toList)) sep.data.toList).toArray⟩ else none
theorem ext_join {P : Program} {E : Env} {pv : Nat → Value} {f : FuncId} {fn : Func} {c : Code} (hf : P.funcs[f]? = some fn) (hb : fn.body = some c) (hname : (fn.name == "runtime.NumGoroutine") = false)
    (hc0 : ∀ (a : Option Addr) (c : Nat) (sep : ByteArray) (w : World), Calls P f #[.slice a 0 c, .string sep] w fun e w' => e = .returned (.string ⟨#[]⟩) ∧ w' = w)
    (hc : ∀ (bk o c : Nat) (xs : List ByteArray) (sep : ByteArray) (w : World), (∀ (j : Nat) x, xs[j]? = some x → w.cell? ⟨bk, o + j, none⟩ = some (.string x)) → bk < w.heap.size → xs.length ≤ 140737488355328 → xs.length ≤ c →
      (Lib.join (xs.map (·.data.toList)) sep.data.toList).length ≤ 140737488355328 → Calls P f #[.slice (some ⟨bk, o, none⟩) xs.length c, .string sep] w fun e w' => e = .returned (.string ⟨(Lib.join (xs.map (·.data.toList)) sep.data.toList).toArray⟩) ∧ Below w.heap.size w w')
    {xs : List ByteArray} {sep : ByteArray} {y : ByteArray} (h : xJoin xs sep = some y) : Meets P E pv (.f f) (tvals [.sl .str, .str] (xs, sep, ())) (.t .str y) := by
  unfold xJoin at h
  cases hs : Nat.ble xs.length 140737488355328 && Nat.ble (Lib.join (xs.map (·.data.toList)) sep.data.toList).length 140737488355328 with
  | false => rw [hs] at h; cases h
  | true =>
    rw [hs] at h
    cases h
    rw [Bool.and_eq_true] at hs
    refine ext_flat hf hb hname (v := .string _) (fun S w => ⟨_, .str _, rfl⟩) fun S w vs hS hgl ha => ?_
    obtain ⟨cs, _, hcr, rfl, ha1⟩ := args_cons ha
    obtain ⟨_, rfl, ha2⟩ := args_str ha1
    obtain rfl := args_nil ha2
    cases hcr with
    | t _ _ _ hcr =>
      cases hcr with
      | sl e xs A c cv hle hm h1 h2 =>
        match xs, A, hle, h1, h2, hs with
        | [], A, _, _, _, _ => exact (hc0 A c sep w).mono fun e w' ⟨he, hw⟩ => ⟨he, hw ▸ Below.refl _ _⟩
        | x :: l, A, hle, h1, h2, hs =>
          obtain ⟨g, o, rfl, hg, _⟩ := h2 0 (Nat.succ_pos _)
          refine hc g o c (x :: l) sep w (fun j z hj => ?_) (hS g hg) (Nat.le_of_ble_eq_true hs.1) hle (Nat.le_of_ble_eq_true hs.2)
          obtain ⟨hj', hz⟩ := List.getElem?_eq_some_iff.1 hj
          obtain ⟨g', o', e', _, hcell⟩ := h2 j hj'
          cases e'
          have hcv := h1 j hj'
          rw [hz] at hcv
          have hq : ∀ q, CR S w .str z q → q[0]? = some (.string z) := fun q hq => by cases hq; rfl
          have := hcell 0 (.string z) (hq _ hcv)
          simpa [nc] using this
def xTrim1 (s cs : ByteArray) : Option ByteArray := match cs with
  | ⟨⟨[c]⟩⟩ => bif Nat.ble s.size 9223372036854775807 && Nat.blt c.toNat 128 then some ⟨(Lib.trimB s.data.toList c).toArray⟩ else none
  | _ => none
theorem ext_trim1 {P : Program} {E : Env} {pv : Nat → Value} {f : FuncId} {fn : Func} {c : Code} (hf : P.funcs[f]? = some fn) (hb : fn.body = some c) (hname : (fn.name == "runtime.NumGoroutine") = false)
    (hc : ∀ (s : ByteArray) (c : UInt8), c.toNat < 128 → ∀ (w : World), s.size ≤ 9223372036854775807 → Calls P f #[.string s, .string ⟨#[c]⟩] w fun e w' => e = .returned (.string ⟨(Lib.trimB s.data.toList c).toArray⟩) ∧ (w' = w ∨ w' = w.drew))
    {s cs : ByteArray} {y : ByteArray} (h : xTrim1 s cs = some y) : Meets P E pv (.f f) (tvals [.str, .str] (s, cs, ())) (.t .str y) := by
  unfold xTrim1 at h
  split at h
  · rename_i c0
    cases hs : Nat.ble s.size 9223372036854775807 && Nat.blt c0.toNat 128 with
    | false => rw [hs] at h; cases h
    | true =>
      rw [hs] at h
      cases h
      rw [Bool.and_eq_true] at hs
      refine ext_flat hf hb hname (v := .string _) (fun S w => ⟨_, .str _, rfl⟩) fun S w vs hS hgl ha => ?_
      obtain ⟨_, rfl, ha1⟩ := args_str ha
      obtain ⟨_, rfl, ha2⟩ := args_str ha1
      obtain rfl := args_nil ha2
      refine (hc s c0 (Nat.le_of_ble_eq_true hs.2) w (Nat.le_of_ble_eq_true hs.1)).mono fun e w' ⟨he, hw⟩ => ⟨he, ?_⟩
      rcases hw with rfl | rfl
      · exact Below.refl _ _
      · exact (Below.refl _ _).drew
  · cases h
def xClone (xs : List ByteArray) : Option (List ByteArray) := bif Nat.ble (xs.length * 16) 140737488355328 then some xs else none
theorem ext_clone {P : Program} {E : Env} {pv : Nat → Value} {f : FuncId} {fn : Func} {c : Code} (hf : P.funcs[f]? = some fn) (hb : fn.body = some c) (hname : (fn.name == "runtime.NumGoroutine") = false) {te : Nat}
    (hc : ∀ (b off n c : Nat) (zs : List ByteArray) (w : World), n ≤ zs.length → n * 16 ≤ 140737488355328 → (∀ j, j < zs.length → w.cell? ⟨b, off + j, none⟩ = some (.string (zs.getD j ByteArray.empty))) →
      Calls P f #[.slice (some ⟨b, off, none⟩) n c] w fun e w' => ∃ v', e = .returned v' ∧ w'.ownsRow w.heap.size te 1 v' n ((zs.take n).map Value.string) ∧ v' ≠ .slice none 0 0 ∧ Below w.heap.size w w')
    (hcn : ∀ (n c : Nat) (w : World), Calls P f #[.slice none n c] w fun e w' => e = .returned (.slice none 0 0) ∧ w' = w)
    (hcz : ∀ (a : Addr) (c : Nat) (w : World), Calls P f #[.slice (some a) 0 c] w fun e w' => ∃ v', e = .returned v' ∧ w'.ownsRow w.heap.size te 1 v' 0 [] ∧ v' ≠ .slice none 0 0 ∧ Below w.heap.size w w')
    {xs : List ByteArray} {y : List ByteArray} (h : xClone xs = some y) : Meets P E pv (.f f) (tvals [.sl .str] (xs, ())) (.fr te .str y) := by
  have hc0 : ∀ (A : Option Addr) (c : Nat) (w : World), Calls P f #[.slice A 0 c] w fun e w' => ∃ v', e = .returned v' ∧ w'.ownsRow w.heap.size te 1 v' 0 [] ∧ Below w.heap.size w w' := fun A c w => by
    cases A with
    | none => exact (hcn 0 c w).mono fun e w' ⟨he, hw⟩ => ⟨_, he, ⟨rfl, .inl ⟨rfl, rfl⟩⟩, hw ▸ Below.refl _ _⟩
    | some a => exact (hcz a c w).mono fun e w' ⟨v, he, ho, _, hb⟩ => ⟨v, he, ho, hb⟩
  unfold xClone at h
  cases hs : Nat.ble (xs.length * 16) 140737488355328 with
  | false => rw [hs] at h; cases h
  | true =>
    rw [hs] at h
    cases h
    have hs := Nat.le_of_ble_eq_true hs
    intro S w vs hS hgl ha
    have fin : ∀ (v' : Value) (w' : World), w'.ownsRow w.heap.size te 1 v' xs.length (xs.map Value.string) → Below w.heap.size w w' → Below w.heap.size w w' ∧ ∃ S' : Nat → Prop, (∀ b, S b → S' b) ∧ (∀ b, S' b → S b ∨ (w.heap.size ≤ b ∧ b < w'.heap.size)) ∧ RR S' w' w.heap.size pv (.fr te .str xs) v' := fun v' w' ho hbl => by
      refine ⟨hbl, S, fun b hb => hb, fun b hb => .inl hb, ?_⟩
      obtain ⟨h1, ⟨rfl, h2⟩ | ⟨g, cap, cur, rfl, h3, h4, h5, h6, h7, h8⟩⟩ := ho
      · obtain rfl : xs = [] := List.eq_nil_of_length_eq_zero h2
        exact ⟨none, .frNil te .str (by decide)⟩
      · refine ⟨some g, .fr te .str xs g cap h3 (fun hs => absurd (hS _ hs) (by omega)) ⟨cur, (0, 0), h4, h7, h5, h6, fun _ => rfl, .inl (Nat.le_refl _), by decide, fun i hi => ⟨[.string xs[i]], .str _, fun j v hj => ?_⟩⟩⟩
        cases j with
        | zero =>
          simp only [List.getElem?_cons_zero, Option.some.injEq] at hj
          subst hj
          have h9 := congrArg (·[i]?) h8
          simp only [Nat.mul_one, List.getElem?_take, if_pos hi, List.getElem?_map, List.getElem?_eq_getElem hi, Option.map_some] at h9
          simpa [nc] using h9
        | succ j => simp at hj
    obtain ⟨cs, _, hcr, rfl, ha1⟩ := args_cons ha
    obtain rfl := args_nil ha1
    cases hcr with
    | t _ _ _ hcr =>
      cases hcr with
      | sl e xs A c cv hle hm h1 h2 =>
        match xs, A, hle, h1, h2, hs, fin with
        | [], A, _, _, _, _, fin => exact ext_goes hf hb hname ((hc0 A c w).mono fun e w' ⟨v', he, ho, hbl⟩ => ⟨v', he, fin _ _ ho hbl⟩)
        | x :: l, A, hle, h1, h2, hs, fin =>
          obtain ⟨g, o, rfl, hg, _⟩ := h2 0 (Nat.succ_pos _)
          refine ext_goes hf hb hname ((hc g o (x :: l).length c (x :: l) w (Nat.le_refl _) hs fun j hj => ?_).mono fun e w' ⟨v', he, ho, _, hbl⟩ => ⟨v', he, fin _ _ (by rw [List.take_length] at ho; exact ho) hbl⟩)
          obtain ⟨g', o', e', _, hcell⟩ := h2 j hj
          cases e'
          have hcv := h1 j hj
          have hq : ∀ z q, CR S w .str z q → q[0]? = some (.string z) := fun z q hq => by cases hq; rfl
          have := hcell 0 _ (hq _ _ hcv)
          rw [List.getD_eq_getElem?_getD, List.getElem?_eq_getElem hj, Option.getD_some]
          simpa [nc] using this
end Go.Gx
end
section
namespace Go.Proofs.YtnffgabfibafjaaDoor
open Go.Gx
set_option linter.unusedVariables false
set_option maxRecDepth 100000
def tyT (t : Nat) : Option Ty := match t with
  | 2 => some (.int .i64)
  | 3 => some (.int .i64)
  | 4 => some .bool
  | 5 => some (.int .u8)
  | 6 => some (.int .u8)
  | 9 => some .str
  | 10 => some .str
  | 11 => some .str
  | 21 => some (.int .i32)
  | 22 => some (.sl .query)
  | 24 => some .query
  | 26 => some (.sl .str)
  | 29 => some (.sl .query)
  | 31 => some .query
  | 38 => some (.sl .abbr)
  | 41 => some (.sl .abbr)
  | 51 => some (.sl .entry)
  | 53 => some .lib
  | 57 => some (.sl .entry)
  | 59 => some .lib
  | 74 => some .abbr
  | 79 => some .abbr
  | 84 => some (.sl (.int .i64))
  | 94 => some (.sl .name)
  | 96 => some .date
  | 98 => some .entry
  | 108 => some (.int .u64)
  | 109 => some (.sl (.int .u8))
  | 123 => some (.sl .name)
  | 124 => some .date
  | 126 => some .entry
  | 132 => some (.int .i64)
  | 139 => some (.int .u32)
  | 141 => some (.int .u64)
  | 165 => some (.arr 8 .str)
  | 166 => some (.int .u64)
  | 173 => some (.arr 256 .bool)
  | 182 => some .name
  | 183 => some .name
  | 206 => some (.arr 256 (.int .u8))
  | 222 => some (.int .u8)
  | _ => none
def elT (t : Nat) : Nat := match t with
  | 22 => 24
  | 26 => 9
  | 29 => 31
  | 38 => 74
  | 41 => 79
  | 51 => 126
  | 57 => 98
  | 84 => 3
  | 94 => 183
  | 109 => 5
  | 123 => 182
  | _ => 0
def mdT (f : Nat) : Bool := match f with
  | 15 => true
  | 22 => true
  | 41 => true
  | 43 => true
  | 54 => true
  | _ => false
def glT (g : Nat) : Option AV := match g with
  | _ => none
def giT (g : Nat) : Bool := match g with
  | 1 => true
  | _ => false
def envX : Env := ⟨tyT, elT, glT, mdT, giT⟩
theorem env_ty : ∀ T τ, envX.ty T = some τ → TyOk Tryd.prog envX T τ := fun T τ h => by
  dsimp only [envX, tyT] at h
  split at h <;> first
    | (cases h; done)
    | (cases h; exact tyOk_of (by kernel_rfl) (by kernel_rfl))
theorem envOk : EnvOk Tryd.prog envX := ⟨env_ty, by kernel_rfl, fun T h => by
  dsimp only [envX, tyT] at h
  split at h <;> first
    | (cases h; done)
    | exact date_eq env_ty rfl (by kernel_rfl) (by kernel_rfl) (by kernel_rfl), fun T h => by
  dsimp only [envX, tyT] at h
  split at h <;> first
    | (cases h; done)
    | exact abbr_eq env_ty rfl (by kernel_rfl) (by kernel_rfl) (by kernel_rfl)⟩
/-! ### 12 loop.example/g00896/laws.eqStringS -/
def laws_eqStringS.l0 : Nat → (List ByteArray) → (List ByteArray) → Int → Option (Sum Bool Unit)
  | 0, _, _, _ => none
  | k + 1, x0, x1, x5 => bif (decide (x5 < (x0.length : Int))) then (bif decide (0 ≤ x5) then (bif decide (x5 < (x0.length : Int)) then (bif decide (0 ≤ x5) then (bif decide (x5 < (x1.length : Int)) then (bif (!beqS (x0.getD (x5 : Int).toNat (⟨#[]⟩ : ByteArray)) (x1.getD (x5 : Int).toNat (⟨#[]⟩ : ByteArray))) then (some (.inl false)) else (laws_eqStringS.l0 k x0 x1 (IntKind.wrap .i64 (x5 + 1)))) else none) else none) else none) else none) else (some (.inr ()))
def laws_eqStringS.F (k : Nat) (a0 : List ByteArray) (a1 : List ByteArray) : Option (Bool) := bif ((a0.length : Int) != (a1.length : Int)) then (some false) else ((laws_eqStringS.l0 k a0 a1 0).bind fun y1 => match y1 with | .inl z2 => some z2 | .inr z2 => some true)
def laws_eqStringS.C (k : Nat) : Cal → Option CArm := fun c => match c with
  | _ => none
def laws_eqStringS.sp0 : List Sp := [.t 0 (.sl .str), .t 1 (.sl .str), .t 5 (.int .i64)]
def laws_eqStringS.sp0_0 : List Sp := [.t 4 .bool]
def laws_eqStringS.sp0_1 : List Sp := []
def laws_eqStringS.A0 : LArm := .two laws_eqStringS.sp0 laws_eqStringS.sp0_0 laws_eqStringS.sp0_1 (Bool) (Unit) (fun k x => laws_eqStringS.l0 k x.1 x.2.1 x.2.2.1) .ret (.exit 0) (fun y => (y, ())) (fun x => x.1) (fun y => ()) (fun x => ())
def laws_eqStringS.L : Nat → Option LArm := fun b => match b with
  | 0 => some laws_eqStringS.A0
  | _ => none
theorem laws_eqStringS.run (k : Nat) (a0 : List ByteArray) (a1 : List ByteArray) : runF envX (tabC (laws_eqStringS.C k)) (tabL 26 k laws_eqStringS.L) Tryd.f12 [.t (.sl .str) a0, .t (.sl .str) a1] (viewR1 (.t .bool)) = laws_eqStringS.F k a0 a1 := by kernel_rfl
theorem laws_eqStringS.step0 (k : Nat) (x0 : List ByteArray) (x1 : List ByteArray) (x5 : Int) : runC envX (tabC (laws_eqStringS.C k)) (tabL 26 k laws_eqStringS.L) 0 (loopAt Tryd.f12 0) (stOf 26 laws_eqStringS.sp0 (x0, x1, x5, ())) (laws_eqStringS.A0.cont 26 k) = laws_eqStringS.l0 (k + 1) x0 x1 x5 := by kernel_rfl
theorem laws_eqStringS.G (hE : EnvOk Tryd.prog envX) (pv : Nat → Value) (k : Nat) : ∀ cal A, laws_eqStringS.C k cal = some A → ArmOk Tryd.prog envX pv cal A := by
  intro cal A h
  unfold laws_eqStringS.C at h
  cases h
theorem laws_eqStringS.good (hE : EnvOk Tryd.prog envX) (pv : Nat → Value) (k : Nat) (a0 : List ByteArray) (a1 : List ByteArray) {y : _} (h : laws_eqStringS.F k a0 a1 = some y) : Meets Tryd.prog envX pv (.f 12) (tvals [(.sl .str), (.sl .str)] (a0, a1, ())) (.t .bool y) :=
  fun_loops hE (t := laws_eqStringS.C) k (fun k _ => laws_eqStringS.G hE pv k) (f := 12) (fn := Tryd.f12) (by kernel_rfl) rfl (by kernel_rfl) (by kernel_rfl) (lt := laws_eqStringS.L) (by kernel_rfl) (fun b A h => by
    unfold laws_eqStringS.L at h; split at h
    · cases h; exact ⟨by kernel_rfl, by kernel_rfl, by kernel_rfl, fun _ => rfl, fun _ => rfl, fun _ => rfl⟩
    · cases h) (fun b A h => by
    unfold laws_eqStringS.L at h; split at h
    · cases h; exact fun k x => laws_eqStringS.step0 k x.1 x.2.1 x.2.2.1
    · cases h) ((laws_eqStringS.run k a0 a1).trans h) fun r hr => wk_view1 hr
/-! ### 44 loop.example/g00896/laws.markText -/
def laws_markText.l0 : Nat → Int → ByteArray → Option (ByteArray)
  | 0, _, _ => none
  | k + 1, x0, x3 => bif (decide (x0 > 0)) then (bif (10 == 0) then (none) else (bif Nat.ble ((strL ([(IntKind.wrap .u8 (IntKind.wrap .i64 (48 + (Int.tmod x0 10))))] : List Int)).size + x3.size) 9223372036854775807 then (bif (10 == 0) then (none) else (laws_markText.l0 k (IntKind.wrap .i64 (Int.tdiv x0 10)) ((strL ([(IntKind.wrap .u8 (IntKind.wrap .i64 (48 + (Int.tmod x0 10))))] : List Int)) ++ x3))) else none)) else (some x3)
def laws_markText.F (k : Nat) (a0 : Int) : Option (ByteArray) := bif (decide (a0 ≤ 0)) then (some (⟨#[109, 48]⟩ : ByteArray)) else ((laws_markText.l0 k a0 (⟨#[]⟩ : ByteArray)).bind fun y1 => bif Nat.ble ((⟨#[109]⟩ : ByteArray).size + y1.size) 9223372036854775807 then (some ((⟨#[109]⟩ : ByteArray) ++ y1)) else none)
def laws_markText.C (k : Nat) : Cal → Option CArm := fun c => match c with
  | _ => none
def laws_markText.sp0 : List Sp := [.t 0 (.int .i64), .t 3 .str]
def laws_markText.sp0_0 : List Sp := [.t 3 .str]
def laws_markText.A0 : LArm := .one laws_markText.sp0 laws_markText.sp0_0 (ByteArray) (fun k x => laws_markText.l0 k x.1 x.2.1) (.exit 0) (fun y => (y, ())) (fun x => x.1)
def laws_markText.L : Nat → Option LArm := fun b => match b with
  | 0 => some laws_markText.A0
  | _ => none
theorem laws_markText.run (k : Nat) (a0 : Int) : runF envX (tabC (laws_markText.C k)) (tabL 20 k laws_markText.L) Tryd.f44 [.t (.int .i64) a0] (viewR1 (.t .str)) = laws_markText.F k a0 := by kernel_rfl
theorem laws_markText.step0 (k : Nat) (x0 : Int) (x3 : ByteArray) : runC envX (tabC (laws_markText.C k)) (tabL 20 k laws_markText.L) 0 (loopAt Tryd.f44 0) (stOf 20 laws_markText.sp0 (x0, x3, ())) (laws_markText.A0.cont 20 k) = laws_markText.l0 (k + 1) x0 x3 := by kernel_rfl
theorem laws_markText.G (hE : EnvOk Tryd.prog envX) (pv : Nat → Value) (k : Nat) : ∀ cal A, laws_markText.C k cal = some A → ArmOk Tryd.prog envX pv cal A := by
  intro cal A h
  unfold laws_markText.C at h
  cases h
theorem laws_markText.good (hE : EnvOk Tryd.prog envX) (pv : Nat → Value) (k : Nat) (a0 : Int) {y : _} (h : laws_markText.F k a0 = some y) : Meets Tryd.prog envX pv (.f 44) (tvals [(.int .i64)] (a0, ())) (.t .str y) :=
  fun_loops hE (t := laws_markText.C) k (fun k _ => laws_markText.G hE pv k) (f := 44) (fn := Tryd.f44) (by kernel_rfl) rfl (by kernel_rfl) (by kernel_rfl) (lt := laws_markText.L) (by kernel_rfl) (fun b A h => by
    unfold laws_markText.L at h; split at h
    · cases h; exact ⟨by kernel_rfl, by kernel_rfl, fun _ => rfl, fun _ => rfl⟩
    · cases h) (fun b A h => by
    unfold laws_markText.L at h; split at h
    · cases h; exact fun k x => laws_markText.step0 k x.1 x.2.1
    · cases h) ((laws_markText.run k a0).trans h) fun r hr => wk_view1 hr
/-! ### 15 loop.example/g00896/laws.markStringS -/
def laws_markStringS.l0 : Nat → (List ByteArray) → Int → Int → Option ((List ByteArray) × Int)
  | 0, _, _, _ => none
  | k + 1, x0, x1, x5 => bif (decide (x5 < (x0.length : Int))) then ((laws_markText.F k x1).bind fun r1 => bif decide (0 ≤ x5) then (bif decide (x5 < (x0.length : Int)) then (laws_markStringS.l0 k (x0.set ((x5 : Int).toNat) r1) (IntKind.wrap .i64 (x1 + 1)) (IntKind.wrap .i64 (x5 + 1))) else none) else none) else (some (x0, x1))
def laws_markStringS.F (k : Nat) (a0 : List ByteArray) (a1 : Int) : Option ((List ByteArray) × Int) := (laws_markStringS.l0 k a0 a1 0).bind fun y2 => bif Nat.beq (y2.1).length a0.length then (some (y2.1, y2.2)) else none
def laws_markStringS.C (k : Nat) : Cal → Option CArm := fun c => match c with
  | .f 44 => some (.p [(.int .i64)] _ (fun x => laws_markText.F k x.1) (fun r => (.t .str r)))
  | _ => none
def laws_markStringS.sp0 : List Sp := [.own 0 1099511627776 9 .str false true, .t 1 (.int .i64), .t 5 (.int .i64)]
def laws_markStringS.sp0_0 : List Sp := [.own 0 1099511627776 9 .str false true, .t 1 (.int .i64)]
def laws_markStringS.A0 : LArm := .one laws_markStringS.sp0 laws_markStringS.sp0_0 ((List ByteArray) × Int) (fun k x => laws_markStringS.l0 k x.1 x.2.1 x.2.2.1) (.exit 0) (fun y => (y.1, y.2, ())) (fun x => (x.1, x.2.1))
def laws_markStringS.L : Nat → Option LArm := fun b => match b with
  | 0 => some laws_markStringS.A0
  | _ => none
theorem laws_markStringS.run (k : Nat) (a0 : List ByteArray) (a1 : Int) : runM envX (tabC (laws_markStringS.C k)) (tabL 20 k laws_markStringS.L) Tryd.f15 mbase (.fr 9 .str a0) [.t (.int .i64) a1] (viewK (.fr 9 .str) (viewR1 (.t (.int .i64)))) = laws_markStringS.F k a0 a1 := by kernel_rfl
theorem laws_markStringS.step0 (k : Nat) (x0 : List ByteArray) (x1 : Int) (x5 : Int) : runC envX (tabC (laws_markStringS.C k)) (tabL 20 k laws_markStringS.L) 0 (loopAt Tryd.f15 0) (stOf 20 laws_markStringS.sp0 (x0, x1, x5, ())) (laws_markStringS.A0.cont 20 k) = laws_markStringS.l0 (k + 1) x0 x1 x5 := by kernel_rfl
theorem laws_markStringS.G (hE : EnvOk Tryd.prog envX) (pv : Nat → Value) (k : Nat) : ∀ cal A, laws_markStringS.C k cal = some A → ArmOk Tryd.prog envX pv cal A := by
  intro cal A h
  unfold laws_markStringS.C at h
  split at h
  · cases h; exact fun x y hy => laws_markText.good hE pv k x.1 hy
  · cases h
theorem laws_markStringS.good (hE : EnvOk Tryd.prog envX) (pv : Nat → Value) (k : Nat) (a0 : List ByteArray) (a1 : Int) {y : _} (h : laws_markStringS.F k a0 a1 = some y) : MeetsM Tryd.prog envX pv 15 (.fr 9 .str a0) (tvals [(.int .i64)] (a1, ())) (.kep (.fr 9 .str y.1) (.t (.int .i64) y.2)) :=
  funM_loops hE (t := laws_markStringS.C) k (fun k _ => laws_markStringS.G hE pv k) (f := 15) (fn := Tryd.f15) (by kernel_rfl) rfl (by kernel_rfl) (.inl rfl) (by kernel_rfl) (lt := laws_markStringS.L) (by kernel_rfl) (fun b A h => by
    unfold laws_markStringS.L at h; split at h
    · cases h; exact ⟨by kernel_rfl, by kernel_rfl, fun _ => rfl, fun _ => rfl⟩
    · cases h) (fun b A h => by
    unfold laws_markStringS.L at h; split at h
    · cases h; exact fun k x => laws_markStringS.step0 k x.1 x.2.1 x.2.2.1
    · cases h) ((laws_markStringS.run k a0 a1).trans h) fun r hr => wk_viewK (fun r y h => wk_view1 h) hr
/-! ### 16 loop.example/g00896/laws.heldStringS -/
def laws_heldStringS.l0 : Nat → (List ByteArray) → Int → Int → Option (Sum Int Int)
  | 0, _, _, _ => none
  | k + 1, x0, x1, x5 => bif (decide (x5 < (x0.length : Int))) then (bif decide (0 ≤ x5) then (bif decide (x5 < (x0.length : Int)) then ((laws_markText.F k x1).bind fun r1 => bif (!beqS (x0.getD (x5 : Int).toNat (⟨#[]⟩ : ByteArray)) r1) then (some (.inl (-1))) else (laws_heldStringS.l0 k x0 (IntKind.wrap .i64 (x1 + 1)) (IntKind.wrap .i64 (x5 + 1)))) else none) else none) else (some (.inr x1))
def laws_heldStringS.F (k : Nat) (a0 : List ByteArray) (a1 : Int) : Option (Int) := (laws_heldStringS.l0 k a0 a1 0).bind fun y2 => match y2 with | .inl z3 => some z3 | .inr z3 => some z3
def laws_heldStringS.C (k : Nat) : Cal → Option CArm := fun c => match c with
  | .f 44 => some (.p [(.int .i64)] _ (fun x => laws_markText.F k x.1) (fun r => (.t .str r)))
  | _ => none
def laws_heldStringS.sp0 : List Sp := [.t 0 (.sl .str), .t 1 (.int .i64), .t 5 (.int .i64)]
def laws_heldStringS.sp0_0 : List Sp := [.t 4 (.int .i64)]
def laws_heldStringS.sp0_1 : List Sp := [.t 1 (.int .i64)]
def laws_heldStringS.A0 : LArm := .two laws_heldStringS.sp0 laws_heldStringS.sp0_0 laws_heldStringS.sp0_1 (Int) (Int) (fun k x => laws_heldStringS.l0 k x.1 x.2.1 x.2.2.1) .ret (.exit 0) (fun y => (y, ())) (fun x => x.1) (fun y => (y, ())) (fun x => x.1)
def laws_heldStringS.L : Nat → Option LArm := fun b => match b with
  | 0 => some laws_heldStringS.A0
  | _ => none
theorem laws_heldStringS.run (k : Nat) (a0 : List ByteArray) (a1 : Int) : runF envX (tabC (laws_heldStringS.C k)) (tabL 22 k laws_heldStringS.L) Tryd.f16 [.t (.sl .str) a0, .t (.int .i64) a1] (viewR1 (.t (.int .i64))) = laws_heldStringS.F k a0 a1 := by kernel_rfl
theorem laws_heldStringS.step0 (k : Nat) (x0 : List ByteArray) (x1 : Int) (x5 : Int) : runC envX (tabC (laws_heldStringS.C k)) (tabL 22 k laws_heldStringS.L) 0 (loopAt Tryd.f16 0) (stOf 22 laws_heldStringS.sp0 (x0, x1, x5, ())) (laws_heldStringS.A0.cont 22 k) = laws_heldStringS.l0 (k + 1) x0 x1 x5 := by kernel_rfl
theorem laws_heldStringS.G (hE : EnvOk Tryd.prog envX) (pv : Nat → Value) (k : Nat) : ∀ cal A, laws_heldStringS.C k cal = some A → ArmOk Tryd.prog envX pv cal A := by
  intro cal A h
  unfold laws_heldStringS.C at h
  split at h
  · cases h; exact fun x y hy => laws_markText.good hE pv k x.1 hy
  · cases h
theorem laws_heldStringS.good (hE : EnvOk Tryd.prog envX) (pv : Nat → Value) (k : Nat) (a0 : List ByteArray) (a1 : Int) {y : _} (h : laws_heldStringS.F k a0 a1 = some y) : Meets Tryd.prog envX pv (.f 16) (tvals [(.sl .str), (.int .i64)] (a0, a1, ())) (.t (.int .i64) y) :=
  fun_loops hE (t := laws_heldStringS.C) k (fun k _ => laws_heldStringS.G hE pv k) (f := 16) (fn := Tryd.f16) (by kernel_rfl) rfl (by kernel_rfl) (by kernel_rfl) (lt := laws_heldStringS.L) (by kernel_rfl) (fun b A h => by
    unfold laws_heldStringS.L at h; split at h
    · cases h; exact ⟨by kernel_rfl, by kernel_rfl, by kernel_rfl, fun _ => rfl, fun _ => rfl, fun _ => rfl⟩
    · cases h) (fun b A h => by
    unfold laws_heldStringS.L at h; split at h
    · cases h; exact fun k x => laws_heldStringS.step0 k x.1 x.2.1 x.2.2.1
    · cases h) ((laws_heldStringS.run k a0 a1).trans h) fun r hr => wk_view1 hr
/-! ### 45 loop.example/g00896/laws.szAbbreviation -/
def laws_szAbbreviation.F (a0 : Abbr) (a1 : Int) : Option (Int) := bif (decide ((IntKind.wrap .i64 (a1 - (a0.word.size : Int))) < 0)) then (some (-1)) else (bif (decide ((IntKind.wrap .i64 ((IntKind.wrap .i64 (a1 - (a0.word.size : Int))) - (a0.short.size : Int))) < 0)) then (some (-1)) else (some (IntKind.wrap .i64 ((IntKind.wrap .i64 (a1 - (a0.word.size : Int))) - (a0.short.size : Int)))))
def laws_szAbbreviation.C : Cal → Option CArm := fun c => match c with
  | _ => none
theorem laws_szAbbreviation.run (a0 : Abbr) (a1 : Int) : runF envX (tabC laws_szAbbreviation.C) (tabL 20 0 (fun _ => none)) Tryd.f45 [.t .abbr a0, .t (.int .i64) a1] (viewR1 (.t (.int .i64))) = laws_szAbbreviation.F a0 a1 := by kernel_rfl
theorem laws_szAbbreviation.G (hE : EnvOk Tryd.prog envX) (pv : Nat → Value) : ∀ cal A, laws_szAbbreviation.C cal = some A → ArmOk Tryd.prog envX pv cal A := by
  intro cal A h
  unfold laws_szAbbreviation.C at h
  cases h
theorem laws_szAbbreviation.good (hE : EnvOk Tryd.prog envX) (pv : Nat → Value) (a0 : Abbr) (a1 : Int) {y : _} (h : laws_szAbbreviation.F a0 a1 = some y) : Meets Tryd.prog envX pv (.f 45) (tvals [.abbr, (.int .i64)] (a0, a1, ())) (.t (.int .i64) y) :=
  fun_plain hE (laws_szAbbreviation.G hE pv) (f := 45) (fn := Tryd.f45) (by kernel_rfl) rfl (by kernel_rfl) (by kernel_rfl) ((laws_szAbbreviation.run a0 a1).trans h) fun r hr => wk_view1 hr
/-! ### 17 loop.example/g00896/laws.szAbbreviationS -/
def laws_szAbbreviationS.l0 : Nat → (List Abbr) → Int → Int → Option (Sum Int Int)
  | 0, _, _, _ => none
  | k + 1, x0, x1, x5 => bif (decide (x5 < (x0.length : Int))) then (bif decide (0 ≤ x5) then (bif decide (x5 < (x0.length : Int)) then ((laws_szAbbreviation.F (x0.getD (x5 : Int).toNat (dflt .abbr)) x1).bind fun r1 => bif (decide (r1 < 0)) then (some (.inl (-1))) else (laws_szAbbreviationS.l0 k x0 r1 (IntKind.wrap .i64 (x5 + 1)))) else none) else none) else (some (.inr x1))
def laws_szAbbreviationS.F (k : Nat) (a0 : List Abbr) (a1 : Int) : Option (Int) := bif (decide ((IntKind.wrap .i64 (a1 - (a0.length : Int))) < 0)) then (some (-1)) else ((laws_szAbbreviationS.l0 k a0 (IntKind.wrap .i64 (a1 - (a0.length : Int))) 0).bind fun y2 => match y2 with | .inl z3 => some z3 | .inr z3 => some z3)
def laws_szAbbreviationS.C (k : Nat) : Cal → Option CArm := fun c => match c with
  | .f 45 => some (.p [.abbr, (.int .i64)] _ (fun x => laws_szAbbreviation.F x.1 x.2.1) (fun r => (.t (.int .i64) r)))
  | _ => none
def laws_szAbbreviationS.sp0 : List Sp := [.t 0 (.sl .abbr), .t 1 (.int .i64), .t 5 (.int .i64)]
def laws_szAbbreviationS.sp0_0 : List Sp := [.t 4 (.int .i64)]
def laws_szAbbreviationS.sp0_1 : List Sp := [.t 1 (.int .i64)]
def laws_szAbbreviationS.A0 : LArm := .two laws_szAbbreviationS.sp0 laws_szAbbreviationS.sp0_0 laws_szAbbreviationS.sp0_1 (Int) (Int) (fun k x => laws_szAbbreviationS.l0 k x.1 x.2.1 x.2.2.1) .ret (.exit 0) (fun y => (y, ())) (fun x => x.1) (fun y => (y, ())) (fun x => x.1)
def laws_szAbbreviationS.L : Nat → Option LArm := fun b => match b with
  | 0 => some laws_szAbbreviationS.A0
  | _ => none
theorem laws_szAbbreviationS.run (k : Nat) (a0 : List Abbr) (a1 : Int) : runF envX (tabC (laws_szAbbreviationS.C k)) (tabL 27 k laws_szAbbreviationS.L) Tryd.f17 [.t (.sl .abbr) a0, .t (.int .i64) a1] (viewR1 (.t (.int .i64))) = laws_szAbbreviationS.F k a0 a1 := by kernel_rfl
theorem laws_szAbbreviationS.step0 (k : Nat) (x0 : List Abbr) (x1 : Int) (x5 : Int) : runC envX (tabC (laws_szAbbreviationS.C k)) (tabL 27 k laws_szAbbreviationS.L) 0 (loopAt Tryd.f17 0) (stOf 27 laws_szAbbreviationS.sp0 (x0, x1, x5, ())) (laws_szAbbreviationS.A0.cont 27 k) = laws_szAbbreviationS.l0 (k + 1) x0 x1 x5 := by kernel_rfl
theorem laws_szAbbreviationS.G (hE : EnvOk Tryd.prog envX) (pv : Nat → Value) (k : Nat) : ∀ cal A, laws_szAbbreviationS.C k cal = some A → ArmOk Tryd.prog envX pv cal A := by
  intro cal A h
  unfold laws_szAbbreviationS.C at h
  split at h
  · cases h; exact fun x y hy => laws_szAbbreviation.good hE pv x.1 x.2.1 hy
  · cases h
theorem laws_szAbbreviationS.good (hE : EnvOk Tryd.prog envX) (pv : Nat → Value) (k : Nat) (a0 : List Abbr) (a1 : Int) {y : _} (h : laws_szAbbreviationS.F k a0 a1 = some y) : Meets Tryd.prog envX pv (.f 17) (tvals [(.sl .abbr), (.int .i64)] (a0, a1, ())) (.t (.int .i64) y) :=
  fun_loops hE (t := laws_szAbbreviationS.C) k (fun k _ => laws_szAbbreviationS.G hE pv k) (f := 17) (fn := Tryd.f17) (by kernel_rfl) rfl (by kernel_rfl) (by kernel_rfl) (lt := laws_szAbbreviationS.L) (by kernel_rfl) (fun b A h => by
    unfold laws_szAbbreviationS.L at h; split at h
    · cases h; exact ⟨by kernel_rfl, by kernel_rfl, by kernel_rfl, fun _ => rfl, fun _ => rfl, fun _ => rfl⟩
    · cases h) (fun b A h => by
    unfold laws_szAbbreviationS.L at h; split at h
    · cases h; exact fun k x => laws_szAbbreviationS.step0 k x.1 x.2.1 x.2.2.1
    · cases h) ((laws_szAbbreviationS.run k a0 a1).trans h) fun r hr => wk_view1 hr
/-! ### 95 loop.example/g00896/spec.l19Cut -/
def spec_l19Cut.F (a0 : ByteArray) (a1 : Int) : Option (ByteArray) := bif (!beqS a0 (⟨#[]⟩ : ByteArray)) then (bif decide (0 ≤ (IntKind.wrap .i64 ((a0.size : Int) - 1))) then (bif decide ((IntKind.wrap .i64 ((a0.size : Int) - 1)) < (a0.size : Int)) then (bif ((bt a0 ((IntKind.wrap .i64 ((a0.size : Int) - 1)) : Int).toNat) == a1) then (bif decide (0 ≤ (IntKind.wrap .i64 ((a0.size : Int) - 1))) then (bif decide ((IntKind.wrap .i64 ((a0.size : Int) - 1)) ≤ (a0.size : Int)) then (some (a0.extract 0 ((IntKind.wrap .i64 ((a0.size : Int) - 1)) : Int).toNat)) else none) else none) else (some a0)) else none) else none) else (some a0)
def spec_l19Cut.C : Cal → Option CArm := fun c => match c with
  | _ => none
theorem spec_l19Cut.run (a0 : ByteArray) (a1 : Int) : runF envX (tabC spec_l19Cut.C) (tabL 22 0 (fun _ => none)) Tryd.f95 [.t .str a0, .t (.int .u8) a1] (viewR1 (.t .str)) = spec_l19Cut.F a0 a1 := by kernel_rfl
theorem spec_l19Cut.G (hE : EnvOk Tryd.prog envX) (pv : Nat → Value) : ∀ cal A, spec_l19Cut.C cal = some A → ArmOk Tryd.prog envX pv cal A := by
  intro cal A h
  unfold spec_l19Cut.C at h
  cases h
theorem spec_l19Cut.good (hE : EnvOk Tryd.prog envX) (pv : Nat → Value) (a0 : ByteArray) (a1 : Int) {y : _} (h : spec_l19Cut.F a0 a1 = some y) : Meets Tryd.prog envX pv (.f 95) (tvals [.str, (.int .u8)] (a0, a1, ())) (.t .str y) :=
  fun_plain hE (spec_l19Cut.G hE pv) (f := 95) (fn := Tryd.f95) (by kernel_rfl) rfl (by kernel_rfl) (by kernel_rfl) ((spec_l19Cut.run a0 a1).trans h) fun r hr => wk_view1 hr
/-! ### 161 loop.example/g00896/spec.l1In -/
def spec_l1In.F (a0 : Int) (a1 : Int) (a2 : Int) : Option (Bool) := bif (decide (a0 ≥ a1)) then (some (decide (a0 ≤ a2))) else (some false)
def spec_l1In.C : Cal → Option CArm := fun c => match c with
  | _ => none
theorem spec_l1In.run (a0 : Int) (a1 : Int) (a2 : Int) : runF envX (tabC spec_l1In.C) (tabL 15 0 (fun _ => none)) Tryd.f161 [.t (.int .i64) a0, .t (.int .i64) a1, .t (.int .i64) a2] (viewR1 (.t .bool)) = spec_l1In.F a0 a1 a2 := by kernel_rfl
theorem spec_l1In.G (hE : EnvOk Tryd.prog envX) (pv : Nat → Value) : ∀ cal A, spec_l1In.C cal = some A → ArmOk Tryd.prog envX pv cal A := by
  intro cal A h
  unfold spec_l1In.C at h
  cases h
theorem spec_l1In.good (hE : EnvOk Tryd.prog envX) (pv : Nat → Value) (a0 : Int) (a1 : Int) (a2 : Int) {y : _} (h : spec_l1In.F a0 a1 a2 = some y) : Meets Tryd.prog envX pv (.f 161) (tvals [(.int .i64), (.int .i64), (.int .i64)] (a0, a1, a2, ())) (.t .bool y) :=
  fun_plain hE (spec_l1In.G hE pv) (f := 161) (fn := Tryd.f161) (by kernel_rfl) rfl (by kernel_rfl) (by kernel_rfl) ((spec_l1In.run a0 a1 a2).trans h) fun r hr => wk_view1 hr
/-! ### 125 loop.example/g00896/spec.l19Letters -/
def spec_l19Letters.l0 : Nat → ByteArray → Int → Int → Int → Option (Sum Bool (ByteArray × Int × Int))
  | 0, _, _, _, _ => none
  | k + 1, x0, x1, x2, x7 => bif (decide (x7 < (x0.size : Int))) then (bif decide (0 ≤ x7) then (bif decide (x7 < (x0.size : Int)) then (bif (decide ((bt x0 (x7 : Int).toNat) < 97)) then (some (.inl false)) else (bif decide (0 ≤ x7) then (bif decide (x7 < (x0.size : Int)) then (bif (decide ((bt x0 (x7 : Int).toNat) > 122)) then (some (.inl false)) else (spec_l19Letters.l0 k x0 x1 x2 (IntKind.wrap .i64 (x7 + 1)))) else none) else none)) else none) else none) else (some (.inr (x0, x1, x2)))
def spec_l19Letters.F (k : Nat) (a0 : ByteArray) (a1 : Int) (a2 : Int) : Option (Bool) := (spec_l19Letters.l0 k a0 a1 a2 0).bind fun y1 => match y1 with | .inl z2 => some z2 | .inr z2 => (spec_l1In.F (z2.1.size : Int) z2.2.1 z2.2.2).bind fun r3 => some r3
def spec_l19Letters.C (k : Nat) : Cal → Option CArm := fun c => match c with
  | .f 161 => some (.p [(.int .i64), (.int .i64), (.int .i64)] _ (fun x => spec_l1In.F x.1 x.2.1 x.2.2.1) (fun r => (.t .bool r)))
  | _ => none
def spec_l19Letters.sp0 : List Sp := [.t 0 .str, .t 1 (.int .i64), .t 2 (.int .i64), .t 7 (.int .i64)]
def spec_l19Letters.sp0_0 : List Sp := [.t 6 .bool]
def spec_l19Letters.sp0_1 : List Sp := [.t 0 .str, .t 1 (.int .i64), .t 2 (.int .i64)]
def spec_l19Letters.A0 : LArm := .two spec_l19Letters.sp0 spec_l19Letters.sp0_0 spec_l19Letters.sp0_1 (Bool) (ByteArray × Int × Int) (fun k x => spec_l19Letters.l0 k x.1 x.2.1 x.2.2.1 x.2.2.2.1) .ret (.exit 0) (fun y => (y, ())) (fun x => x.1) (fun y => (y.1, y.2.1, y.2.2, ())) (fun x => (x.1, x.2.1, x.2.2.1))
def spec_l19Letters.L : Nat → Option LArm := fun b => match b with
  | 0 => some spec_l19Letters.A0
  | _ => none
theorem spec_l19Letters.run (k : Nat) (a0 : ByteArray) (a1 : Int) (a2 : Int) : runF envX (tabC (spec_l19Letters.C k)) (tabL 29 k spec_l19Letters.L) Tryd.f125 [.t .str a0, .t (.int .i64) a1, .t (.int .i64) a2] (viewR1 (.t .bool)) = spec_l19Letters.F k a0 a1 a2 := by kernel_rfl
theorem spec_l19Letters.step0 (k : Nat) (x0 : ByteArray) (x1 : Int) (x2 : Int) (x7 : Int) : runC envX (tabC (spec_l19Letters.C k)) (tabL 29 k spec_l19Letters.L) 0 (loopAt Tryd.f125 0) (stOf 29 spec_l19Letters.sp0 (x0, x1, x2, x7, ())) (spec_l19Letters.A0.cont 29 k) = spec_l19Letters.l0 (k + 1) x0 x1 x2 x7 := by kernel_rfl
theorem spec_l19Letters.G (hE : EnvOk Tryd.prog envX) (pv : Nat → Value) (k : Nat) : ∀ cal A, spec_l19Letters.C k cal = some A → ArmOk Tryd.prog envX pv cal A := by
  intro cal A h
  unfold spec_l19Letters.C at h
  split at h
  · cases h; exact fun x y hy => spec_l1In.good hE pv x.1 x.2.1 x.2.2.1 hy
  · cases h
theorem spec_l19Letters.good (hE : EnvOk Tryd.prog envX) (pv : Nat → Value) (k : Nat) (a0 : ByteArray) (a1 : Int) (a2 : Int) {y : _} (h : spec_l19Letters.F k a0 a1 a2 = some y) : Meets Tryd.prog envX pv (.f 125) (tvals [.str, (.int .i64), (.int .i64)] (a0, a1, a2, ())) (.t .bool y) :=
  fun_loops hE (t := spec_l19Letters.C) k (fun k _ => spec_l19Letters.G hE pv k) (f := 125) (fn := Tryd.f125) (by kernel_rfl) rfl (by kernel_rfl) (by kernel_rfl) (lt := spec_l19Letters.L) (by kernel_rfl) (fun b A h => by
    unfold spec_l19Letters.L at h; split at h
    · cases h; exact ⟨by kernel_rfl, by kernel_rfl, by kernel_rfl, fun _ => rfl, fun _ => rfl, fun _ => rfl⟩
    · cases h) (fun b A h => by
    unfold spec_l19Letters.L at h; split at h
    · cases h; exact fun k x => spec_l19Letters.step0 k x.1 x.2.1 x.2.2.1 x.2.2.2.1
    · cases h) ((spec_l19Letters.run k a0 a1 a2).trans h) fun r hr => wk_view1 hr
/-! ### 81 loop.example/g00896/spec.l19One -/
def spec_l19One.F (k : Nat) (a0 : Abbr) : Option (Bool) := (spec_l19Cut.F a0.word 45).bind fun r1 => (spec_l19Letters.F k r1 2 15).bind fun r2 => bif r2 then ((spec_l19Cut.F a0.short 46).bind fun r3 => (spec_l19Letters.F k r3 1 12).bind fun r4 => some r4) else (some false)
def spec_l19One.C (k : Nat) : Cal → Option CArm := fun c => match c with
  | .f 95 => some (.p [.str, (.int .u8)] _ (fun x => spec_l19Cut.F x.1 x.2.1) (fun r => (.t .str r)))
  | .f 125 => some (.p [.str, (.int .i64), (.int .i64)] _ (fun x => spec_l19Letters.F k x.1 x.2.1 x.2.2.1) (fun r => (.t .bool r)))
  | _ => none
theorem spec_l19One.run (k : Nat) (a0 : Abbr) : runF envX (tabC (spec_l19One.C k)) (tabL 13 0 (fun _ => none)) Tryd.f81 [.t .abbr a0] (viewR1 (.t .bool)) = spec_l19One.F k a0 := by kernel_rfl
theorem spec_l19One.G (hE : EnvOk Tryd.prog envX) (pv : Nat → Value) (k : Nat) : ∀ cal A, spec_l19One.C k cal = some A → ArmOk Tryd.prog envX pv cal A := by
  intro cal A h
  unfold spec_l19One.C at h
  split at h
  · cases h; exact fun x y hy => spec_l19Cut.good hE pv x.1 x.2.1 hy
  · cases h; exact fun x y hy => spec_l19Letters.good hE pv k x.1 x.2.1 x.2.2.1 hy
  · cases h
theorem spec_l19One.good (hE : EnvOk Tryd.prog envX) (pv : Nat → Value) (k : Nat) (a0 : Abbr) {y : _} (h : spec_l19One.F k a0 = some y) : Meets Tryd.prog envX pv (.f 81) (tvals [.abbr] (a0, ())) (.t .bool y) :=
  fun_plain hE (spec_l19One.G hE pv k) (f := 81) (fn := Tryd.f81) (by kernel_rfl) rfl (by kernel_rfl) (by kernel_rfl) ((spec_l19One.run k a0).trans h) fun r hr => wk_view1 hr
/-! ### 46 loop.example/g00896/spec.l19Good -/
def spec_l19Good.l0 : Nat → (List Abbr) → Int → Option (Sum Bool (List Abbr))
  | 0, _, _ => none
  | k + 1, x0, x3 => bif (decide (x3 < (x0.length : Int))) then (bif (decide (x3 ≤ 15)) then (bif decide (0 ≤ x3) then (bif decide (x3 < (x0.length : Int)) then ((spec_l19One.F k (x0.getD (x3 : Int).toNat (dflt .abbr))).bind fun r1 => bif (!r1) then (some (.inl false)) else (bif (decide (x3 > 0)) then (bif decide (0 ≤ (IntKind.wrap .i64 (x3 - 1))) then (bif decide ((IntKind.wrap .i64 (x3 - 1)) < (x0.length : Int)) then (bif decide (0 ≤ x3) then (bif decide (x3 < (x0.length : Int)) then (bif (!ltS ((x0.getD ((IntKind.wrap .i64 (x3 - 1)) : Int).toNat (dflt .abbr)).word) ((x0.getD (x3 : Int).toNat (dflt .abbr)).word)) then (some (.inl false)) else (spec_l19Good.l0 k x0 (IntKind.wrap .i64 (x3 + 1)))) else none) else none) else none) else none) else (spec_l19Good.l0 k x0 (IntKind.wrap .i64 (x3 + 1))))) else none) else none) else (some (.inr x0))) else (some (.inr x0))
def spec_l19Good.F (k : Nat) (a0 : List Abbr) : Option (Bool) := (spec_l19Good.l0 k a0 0).bind fun y2 => match y2 with | .inl z3 => some z3 | .inr z3 => some (decide ((z3.length : Int) ≤ 15))
def spec_l19Good.C (k : Nat) : Cal → Option CArm := fun c => match c with
  | .f 81 => some (.p [.abbr] _ (fun x => spec_l19One.F k x.1) (fun r => (.t .bool r)))
  | _ => none
def spec_l19Good.sp0 : List Sp := [.t 0 (.sl .abbr), .t 3 (.int .i64)]
def spec_l19Good.sp0_0 : List Sp := [.t 2 .bool]
def spec_l19Good.sp0_1 : List Sp := [.t 0 (.sl .abbr)]
def spec_l19Good.A0 : LArm := .two spec_l19Good.sp0 spec_l19Good.sp0_0 spec_l19Good.sp0_1 (Bool) ((List Abbr)) (fun k x => spec_l19Good.l0 k x.1 x.2.1) .ret (.exit 0) (fun y => (y, ())) (fun x => x.1) (fun y => (y, ())) (fun x => x.1)
def spec_l19Good.L : Nat → Option LArm := fun b => match b with
  | 0 => some spec_l19Good.A0
  | _ => none
theorem spec_l19Good.run (k : Nat) (a0 : List Abbr) : runF envX (tabC (spec_l19Good.C k)) (tabL 41 k spec_l19Good.L) Tryd.f46 [.t (.sl .abbr) a0] (viewR1 (.t .bool)) = spec_l19Good.F k a0 := by kernel_rfl
theorem spec_l19Good.step0 (k : Nat) (x0 : List Abbr) (x3 : Int) : runC envX (tabC (spec_l19Good.C k)) (tabL 41 k spec_l19Good.L) 0 (loopAt Tryd.f46 0) (stOf 41 spec_l19Good.sp0 (x0, x3, ())) (spec_l19Good.A0.cont 41 k) = spec_l19Good.l0 (k + 1) x0 x3 := by kernel_rfl
theorem spec_l19Good.G (hE : EnvOk Tryd.prog envX) (pv : Nat → Value) (k : Nat) : ∀ cal A, spec_l19Good.C k cal = some A → ArmOk Tryd.prog envX pv cal A := by
  intro cal A h
  unfold spec_l19Good.C at h
  split at h
  · cases h; exact fun x y hy => spec_l19One.good hE pv k x.1 hy
  · cases h
theorem spec_l19Good.good (hE : EnvOk Tryd.prog envX) (pv : Nat → Value) (k : Nat) (a0 : List Abbr) {y : _} (h : spec_l19Good.F k a0 = some y) : Meets Tryd.prog envX pv (.f 46) (tvals [(.sl .abbr)] (a0, ())) (.t .bool y) :=
  fun_loops hE (t := spec_l19Good.C) k (fun k _ => spec_l19Good.G hE pv k) (f := 46) (fn := Tryd.f46) (by kernel_rfl) rfl (by kernel_rfl) (by kernel_rfl) (lt := spec_l19Good.L) (by kernel_rfl) (fun b A h => by
    unfold spec_l19Good.L at h; split at h
    · cases h; exact ⟨by kernel_rfl, by kernel_rfl, by kernel_rfl, fun _ => rfl, fun _ => rfl, fun _ => rfl⟩
    · cases h) (fun b A h => by
    unfold spec_l19Good.L at h; split at h
    · cases h; exact fun k x => spec_l19Good.step0 k x.1 x.2.1
    · cases h) ((spec_l19Good.run k a0).trans h) fun r hr => wk_view1 hr
/-! ### 47 loop.example/g00896/spec.l4Text -/
def spec_l4Text.l0 : Nat → ByteArray → Int → Option (Sum Bool ByteArray)
  | 0, _, _ => none
  | k + 1, x0, x3 => bif (decide (x3 < (x0.size : Int))) then (bif decide (0 ≤ x3) then (bif decide (x3 < (x0.size : Int)) then (bif (decide ((bt x0 (x3 : Int).toNat) < 32)) then (some (.inl false)) else (bif decide (0 ≤ x3) then (bif decide (x3 < (x0.size : Int)) then (bif (decide ((bt x0 (x3 : Int).toNat) > 126)) then (some (.inl false)) else (spec_l4Text.l0 k x0 (IntKind.wrap .i64 (x3 + 1)))) else none) else none)) else none) else none) else (some (.inr x0))
def spec_l4Text.F (k : Nat) (a0 : ByteArray) : Option (Bool) := bif (decide ((a0.size : Int) > 40)) then (some false) else ((spec_l4Text.l0 k a0 0).bind fun y1 => match y1 with | .inl z2 => some z2 | .inr z2 => bif (beqS z2 (⟨#[]⟩ : ByteArray)) then (some true) else (bif decide (0 ≤ 0) then (bif decide (0 < (z2.size : Int)) then (bif ((bt z2 (0 : Int).toNat) != 32) then (bif decide (0 ≤ (IntKind.wrap .i64 ((z2.size : Int) - 1))) then (bif decide ((IntKind.wrap .i64 ((z2.size : Int) - 1)) < (z2.size : Int)) then (some ((bt z2 ((IntKind.wrap .i64 ((z2.size : Int) - 1)) : Int).toNat) != 32)) else none) else none) else (some false)) else none) else none))
def spec_l4Text.C (k : Nat) : Cal → Option CArm := fun c => match c with
  | _ => none
def spec_l4Text.sp0 : List Sp := [.t 0 .str, .t 3 (.int .i64)]
def spec_l4Text.sp0_0 : List Sp := [.t 2 .bool]
def spec_l4Text.sp0_1 : List Sp := [.t 0 .str]
def spec_l4Text.A0 : LArm := .two spec_l4Text.sp0 spec_l4Text.sp0_0 spec_l4Text.sp0_1 (Bool) (ByteArray) (fun k x => spec_l4Text.l0 k x.1 x.2.1) .ret (.exit 0) (fun y => (y, ())) (fun x => x.1) (fun y => (y, ())) (fun x => x.1)
def spec_l4Text.L : Nat → Option LArm := fun b => match b with
  | 0 => some spec_l4Text.A0
  | _ => none
theorem spec_l4Text.run (k : Nat) (a0 : ByteArray) : runF envX (tabC (spec_l4Text.C k)) (tabL 38 k spec_l4Text.L) Tryd.f47 [.t .str a0] (viewR1 (.t .bool)) = spec_l4Text.F k a0 := by kernel_rfl
theorem spec_l4Text.step0 (k : Nat) (x0 : ByteArray) (x3 : Int) : runC envX (tabC (spec_l4Text.C k)) (tabL 38 k spec_l4Text.L) 0 (loopAt Tryd.f47 0) (stOf 38 spec_l4Text.sp0 (x0, x3, ())) (spec_l4Text.A0.cont 38 k) = spec_l4Text.l0 (k + 1) x0 x3 := by kernel_rfl
theorem spec_l4Text.G (hE : EnvOk Tryd.prog envX) (pv : Nat → Value) (k : Nat) : ∀ cal A, spec_l4Text.C k cal = some A → ArmOk Tryd.prog envX pv cal A := by
  intro cal A h
  unfold spec_l4Text.C at h
  cases h
theorem spec_l4Text.good (hE : EnvOk Tryd.prog envX) (pv : Nat → Value) (k : Nat) (a0 : ByteArray) {y : _} (h : spec_l4Text.F k a0 = some y) : Meets Tryd.prog envX pv (.f 47) (tvals [.str] (a0, ())) (.t .bool y) :=
  fun_loops hE (t := spec_l4Text.C) k (fun k _ => spec_l4Text.G hE pv k) (f := 47) (fn := Tryd.f47) (by kernel_rfl) rfl (by kernel_rfl) (by kernel_rfl) (lt := spec_l4Text.L) (by kernel_rfl) (fun b A h => by
    unfold spec_l4Text.L at h; split at h
    · cases h; exact ⟨by kernel_rfl, by kernel_rfl, by kernel_rfl, fun _ => rfl, fun _ => rfl, fun _ => rfl⟩
    · cases h) (fun b A h => by
    unfold spec_l4Text.L at h; split at h
    · cases h; exact fun k x => spec_l4Text.step0 k x.1 x.2.1
    · cases h) ((spec_l4Text.run k a0).trans h) fun r hr => wk_view1 hr
/-! ### 82 loop.example/g00896/spec.l19Words -/
def spec_l19Words.l0 : Nat → ByteArray → (List ByteArray) → Int → Int → Option ((List ByteArray))
  | 0, _, _, _, _ => none
  | k + 1, x0, x3, x4, x5 => bif (decide (x5 ≤ (x0.size : Int))) then (bif (x5 == (x0.size : Int)) then (bif (decide (x5 > x4)) then (bif decide (0 ≤ x5) then (bif decide (x5 ≤ (x0.size : Int)) then (bif decide (0 ≤ x4) then (bif decide (x4 ≤ x5) then (bif room (x3.length + ([(x0.extract (x4 : Int).toNat (x5 : Int).toNat)] : List ByteArray).length) .str then (spec_l19Words.l0 k x0 (x3 ++ ([(x0.extract (x4 : Int).toNat (x5 : Int).toNat)] : List ByteArray)) (IntKind.wrap .i64 (x5 + 1)) (IntKind.wrap .i64 (x5 + 1))) else none) else none) else none) else none) else none) else (spec_l19Words.l0 k x0 x3 (IntKind.wrap .i64 (x5 + 1)) (IntKind.wrap .i64 (x5 + 1)))) else (bif decide (0 ≤ x5) then (bif decide (x5 < (x0.size : Int)) then (bif ((bt x0 (x5 : Int).toNat) == 32) then (bif (decide (x5 > x4)) then (bif decide (0 ≤ x5) then (bif decide (x5 ≤ (x0.size : Int)) then (bif decide (0 ≤ x4) then (bif decide (x4 ≤ x5) then (bif room (x3.length + ([(x0.extract (x4 : Int).toNat (x5 : Int).toNat)] : List ByteArray).length) .str then (spec_l19Words.l0 k x0 (x3 ++ ([(x0.extract (x4 : Int).toNat (x5 : Int).toNat)] : List ByteArray)) (IntKind.wrap .i64 (x5 + 1)) (IntKind.wrap .i64 (x5 + 1))) else none) else none) else none) else none) else none) else (spec_l19Words.l0 k x0 x3 (IntKind.wrap .i64 (x5 + 1)) (IntKind.wrap .i64 (x5 + 1)))) else (spec_l19Words.l0 k x0 x3 x4 (IntKind.wrap .i64 (x5 + 1)))) else none) else none)) else (some x3)
def spec_l19Words.F (k : Nat) (a0 : ByteArray) : Option (List ByteArray) := (spec_l19Words.l0 k a0 ([] : List ByteArray) 0 0).bind fun y1 => some y1
def spec_l19Words.C (k : Nat) : Cal → Option CArm := fun c => match c with
  | _ => none
def spec_l19Words.sp0 : List Sp := [.t 0 .str, .own 3 1024 9 .str false true, .t 4 (.int .i64), .t 5 (.int .i64)]
def spec_l19Words.sp0_0 : List Sp := [.own 3 1024 9 .str false true]
def spec_l19Words.A0 : LArm := .one spec_l19Words.sp0 spec_l19Words.sp0_0 ((List ByteArray)) (fun k x => spec_l19Words.l0 k x.1 x.2.1 x.2.2.1 x.2.2.2.1) (.exit 0) (fun y => (y, ())) (fun x => x.1)
def spec_l19Words.L : Nat → Option LArm := fun b => match b with
  | 0 => some spec_l19Words.A0
  | _ => none
theorem spec_l19Words.run (k : Nat) (a0 : ByteArray) : runF envX (tabC (spec_l19Words.C k)) (tabL 36 k spec_l19Words.L) Tryd.f82 [.t .str a0] (viewR1 (.fr 9 .str)) = spec_l19Words.F k a0 := by kernel_rfl
theorem spec_l19Words.step0 (k : Nat) (x0 : ByteArray) (x3 : List ByteArray) (x4 : Int) (x5 : Int) : runC envX (tabC (spec_l19Words.C k)) (tabL 36 k spec_l19Words.L) 0 (loopAt Tryd.f82 0) (stOf 36 spec_l19Words.sp0 (x0, x3, x4, x5, ())) (spec_l19Words.A0.cont 36 k) = spec_l19Words.l0 (k + 1) x0 x3 x4 x5 := by kernel_rfl
theorem spec_l19Words.G (hE : EnvOk Tryd.prog envX) (pv : Nat → Value) (k : Nat) : ∀ cal A, spec_l19Words.C k cal = some A → ArmOk Tryd.prog envX pv cal A := by
  intro cal A h
  unfold spec_l19Words.C at h
  cases h
theorem spec_l19Words.good (hE : EnvOk Tryd.prog envX) (pv : Nat → Value) (k : Nat) (a0 : ByteArray) {y : _} (h : spec_l19Words.F k a0 = some y) : Meets Tryd.prog envX pv (.f 82) (tvals [.str] (a0, ())) (.fr 9 .str y) :=
  fun_loops hE (t := spec_l19Words.C) k (fun k _ => spec_l19Words.G hE pv k) (f := 82) (fn := Tryd.f82) (by kernel_rfl) rfl (by kernel_rfl) (by kernel_rfl) (lt := spec_l19Words.L) (by kernel_rfl) (fun b A h => by
    unfold spec_l19Words.L at h; split at h
    · cases h; exact ⟨by kernel_rfl, by kernel_rfl, fun _ => rfl, fun _ => rfl⟩
    · cases h) (fun b A h => by
    unfold spec_l19Words.L at h; split at h
    · cases h; exact fun k x => spec_l19Words.step0 k x.1 x.2.1 x.2.2.1 x.2.2.2.1
    · cases h) ((spec_l19Words.run k a0).trans h) fun r hr => wk_view1 hr
/-! ### 135 loop.example/g00896/spec.l6LowerByte -/
def spec_l6LowerByte.F (a0 : Int) : Option (Int) := bif (decide (a0 ≥ 65)) then (bif (decide (a0 ≤ 90)) then (some (IntKind.wrap .u8 (a0 + 32))) else (some a0)) else (some a0)
def spec_l6LowerByte.C : Cal → Option CArm := fun c => match c with
  | _ => none
theorem spec_l6LowerByte.run (a0 : Int) : runF envX (tabC spec_l6LowerByte.C) (tabL 12 0 (fun _ => none)) Tryd.f135 [.t (.int .u8) a0] (viewR1 (.t (.int .u8))) = spec_l6LowerByte.F a0 := by kernel_rfl
theorem spec_l6LowerByte.G (hE : EnvOk Tryd.prog envX) (pv : Nat → Value) : ∀ cal A, spec_l6LowerByte.C cal = some A → ArmOk Tryd.prog envX pv cal A := by
  intro cal A h
  unfold spec_l6LowerByte.C at h
  cases h
theorem spec_l6LowerByte.good (hE : EnvOk Tryd.prog envX) (pv : Nat → Value) (a0 : Int) {y : _} (h : spec_l6LowerByte.F a0 = some y) : Meets Tryd.prog envX pv (.f 135) (tvals [(.int .u8)] (a0, ())) (.t (.int .u8) y) :=
  fun_plain hE (spec_l6LowerByte.G hE pv) (f := 135) (fn := Tryd.f135) (by kernel_rfl) rfl (by kernel_rfl) (by kernel_rfl) ((spec_l6LowerByte.run a0).trans h) fun r hr => wk_view1 hr
/-! ### 94 loop.example/g00896/spec.l6Lower -/
def spec_l6Lower.l0 : Nat → ByteArray → (List Int) → Int → Option ((List Int))
  | 0, _, _, _ => none
  | k + 1, x0, x3, x4 => bif (decide (x4 < (x0.size : Int))) then (bif decide (0 ≤ x4) then (bif decide (x4 < (x0.size : Int)) then ((spec_l6LowerByte.F (bt x0 (x4 : Int).toNat)).bind fun r1 => bif room (x3.length + ([r1] : List Int).length) (.int .u8) then (spec_l6Lower.l0 k x0 (x3 ++ ([r1] : List Int)) (IntKind.wrap .i64 (x4 + 1))) else none) else none) else none) else (some x3)
def spec_l6Lower.F (k : Nat) (a0 : ByteArray) : Option (ByteArray) := (spec_l6Lower.l0 k a0 ([] : List Int) 0).bind fun y2 => some (strL y2)
def spec_l6Lower.C (k : Nat) : Cal → Option CArm := fun c => match c with
  | .f 135 => some (.p [(.int .u8)] _ (fun x => spec_l6LowerByte.F x.1) (fun r => (.t (.int .u8) r)))
  | _ => none
def spec_l6Lower.sp0 : List Sp := [.t 0 .str, .own 3 1024 5 (.int .u8) false true, .t 4 (.int .i64)]
def spec_l6Lower.sp0_0 : List Sp := [.own 3 1024 5 (.int .u8) false true]
def spec_l6Lower.A0 : LArm := .one spec_l6Lower.sp0 spec_l6Lower.sp0_0 ((List Int)) (fun k x => spec_l6Lower.l0 k x.1 x.2.1 x.2.2.1) (.exit 0) (fun y => (y, ())) (fun x => x.1)
def spec_l6Lower.L : Nat → Option LArm := fun b => match b with
  | 0 => some spec_l6Lower.A0
  | _ => none
theorem spec_l6Lower.run (k : Nat) (a0 : ByteArray) : runF envX (tabC (spec_l6Lower.C k)) (tabL 21 k spec_l6Lower.L) Tryd.f94 [.t .str a0] (viewR1 (.t .str)) = spec_l6Lower.F k a0 := by kernel_rfl
theorem spec_l6Lower.step0 (k : Nat) (x0 : ByteArray) (x3 : List Int) (x4 : Int) : runC envX (tabC (spec_l6Lower.C k)) (tabL 21 k spec_l6Lower.L) 0 (loopAt Tryd.f94 0) (stOf 21 spec_l6Lower.sp0 (x0, x3, x4, ())) (spec_l6Lower.A0.cont 21 k) = spec_l6Lower.l0 (k + 1) x0 x3 x4 := by kernel_rfl
theorem spec_l6Lower.G (hE : EnvOk Tryd.prog envX) (pv : Nat → Value) (k : Nat) : ∀ cal A, spec_l6Lower.C k cal = some A → ArmOk Tryd.prog envX pv cal A := by
  intro cal A h
  unfold spec_l6Lower.C at h
  split at h
  · cases h; exact fun x y hy => spec_l6LowerByte.good hE pv x.1 hy
  · cases h
theorem spec_l6Lower.good (hE : EnvOk Tryd.prog envX) (pv : Nat → Value) (k : Nat) (a0 : ByteArray) {y : _} (h : spec_l6Lower.F k a0 = some y) : Meets Tryd.prog envX pv (.f 94) (tvals [.str] (a0, ())) (.t .str y) :=
  fun_loops hE (t := spec_l6Lower.C) k (fun k _ => spec_l6Lower.G hE pv k) (f := 94) (fn := Tryd.f94) (by kernel_rfl) rfl (by kernel_rfl) (by kernel_rfl) (lt := spec_l6Lower.L) (by kernel_rfl) (fun b A h => by
    unfold spec_l6Lower.L at h; split at h
    · cases h; exact ⟨by kernel_rfl, by kernel_rfl, fun _ => rfl, fun _ => rfl⟩
    · cases h) (fun b A h => by
    unfold spec_l6Lower.L at h; split at h
    · cases h; exact fun k x => spec_l6Lower.step0 k x.1 x.2.1 x.2.2.1
    · cases h) ((spec_l6Lower.run k a0).trans h) fun r hr => wk_view1 hr
/-! ### 83 loop.example/g00896/spec.l19Small -/
def spec_l19Small.F (k : Nat) (a0 : ByteArray) : Option (Bool) := (spec_l6Lower.F k a0).bind fun r1 => bif (beqS r1 (⟨#[97]⟩ : ByteArray)) then (bif (beqS r1 (⟨#[97]⟩ : ByteArray)) then (some true) else (some false)) else (bif (beqS r1 (⟨#[97, 110]⟩ : ByteArray)) then (bif (beqS r1 (⟨#[97, 110]⟩ : ByteArray)) then (some true) else (some false)) else (bif (beqS r1 (⟨#[97, 110, 100]⟩ : ByteArray)) then (bif (beqS r1 (⟨#[97, 110, 100]⟩ : ByteArray)) then (some true) else (some false)) else (bif (beqS r1 (⟨#[102, 111, 114]⟩ : ByteArray)) then (bif (beqS r1 (⟨#[102, 111, 114]⟩ : ByteArray)) then (some true) else (some false)) else (bif (beqS r1 (⟨#[105, 110]⟩ : ByteArray)) then (bif (beqS r1 (⟨#[105, 110]⟩ : ByteArray)) then (some true) else (some false)) else (bif (beqS r1 (⟨#[111, 102]⟩ : ByteArray)) then (bif (beqS r1 (⟨#[111, 102]⟩ : ByteArray)) then (some true) else (some false)) else (bif (beqS r1 (⟨#[111, 110]⟩ : ByteArray)) then (bif (beqS r1 (⟨#[111, 110]⟩ : ByteArray)) then (some true) else (some false)) else (bif (beqS r1 (⟨#[116, 104, 101]⟩ : ByteArray)) then (some true) else (some false))))))))
def spec_l19Small.C (k : Nat) : Cal → Option CArm := fun c => match c with
  | .f 94 => some (.p [.str] _ (fun x => spec_l6Lower.F k x.1) (fun r => (.t .str r)))
  | _ => none
theorem spec_l19Small.run (k : Nat) (a0 : ByteArray) : runF envX (tabC (spec_l19Small.C k)) (tabL 14 0 (fun _ => none)) Tryd.f83 [.t .str a0] (viewR1 (.t .bool)) = spec_l19Small.F k a0 := by kernel_rfl
theorem spec_l19Small.G (hE : EnvOk Tryd.prog envX) (pv : Nat → Value) (k : Nat) : ∀ cal A, spec_l19Small.C k cal = some A → ArmOk Tryd.prog envX pv cal A := by
  intro cal A h
  unfold spec_l19Small.C at h
  split at h
  · cases h; exact fun x y hy => spec_l6Lower.good hE pv k x.1 hy
  · cases h
theorem spec_l19Small.good (hE : EnvOk Tryd.prog envX) (pv : Nat → Value) (k : Nat) (a0 : ByteArray) {y : _} (h : spec_l19Small.F k a0 = some y) : Meets Tryd.prog envX pv (.f 83) (tvals [.str] (a0, ())) (.t .bool y) :=
  fun_plain hE (spec_l19Small.G hE pv k) (f := 83) (fn := Tryd.f83) (by kernel_rfl) rfl (by kernel_rfl) (by kernel_rfl) ((spec_l19Small.run k a0).trans h) fun r hr => wk_view1 hr
/-! ### 48 loop.example/g00896/spec.l19Kept -/
def spec_l19Kept.l0 : Nat → (List ByteArray) → (List ByteArray) → Int → Option ((List ByteArray) × (List ByteArray))
  | 0, _, _, _ => none
  | k + 1, x4, x5, x6 => bif (decide (x6 < (x4.length : Int))) then (bif decide (0 ≤ x6) then (bif decide (x6 < (x4.length : Int)) then ((spec_l19Small.F k (x4.getD ((x6 : Int).toNat) (⟨#[]⟩ : ByteArray))).bind fun r2 => bif (!r2) then (bif decide (0 ≤ x6) then (bif decide (x6 < (x4.length : Int)) then (bif room (x5.length + ([(x4.getD ((x6 : Int).toNat) (⟨#[]⟩ : ByteArray))] : List ByteArray).length) .str then (spec_l19Kept.l0 k x4 (x5 ++ ([(x4.getD ((x6 : Int).toNat) (⟨#[]⟩ : ByteArray))] : List ByteArray)) (IntKind.wrap .i64 (x6 + 1))) else none) else none) else none) else (spec_l19Kept.l0 k x4 x5 (IntKind.wrap .i64 (x6 + 1)))) else none) else none) else (some (x4, x5))
def spec_l19Kept.F (k : Nat) (a0 : ByteArray) : Option ((List ByteArray) × Bool) := (spec_l19Words.F k a0).bind fun r1 => (spec_l19Kept.l0 k r1 ([] : List ByteArray) 0).bind fun y3 => bif ((y3.2.length : Int) == 0) then (bif (decide ((y3.1.length : Int) < 2)) then (some (y3.1, false)) else (some (y3.1, true))) else (bif (decide ((y3.1.length : Int) < 2)) then (some (y3.1, false)) else (some (y3.2, true)))
def spec_l19Kept.C (k : Nat) : Cal → Option CArm := fun c => match c with
  | .f 82 => some (.p [.str] _ (fun x => spec_l19Words.F k x.1) (fun r => (.fr 9 .str r)))
  | .f 83 => some (.p [.str] _ (fun x => spec_l19Small.F k x.1) (fun r => (.t .bool r)))
  | _ => none
def spec_l19Kept.sp0 : List Sp := [.own 4 1028 9 .str false true, .own 5 2048 9 .str false true, .t 6 (.int .i64)]
def spec_l19Kept.sp0_0 : List Sp := [.own 4 1028 9 .str false true, .own 5 2048 9 .str false true]
def spec_l19Kept.A0 : LArm := .one spec_l19Kept.sp0 spec_l19Kept.sp0_0 ((List ByteArray) × (List ByteArray)) (fun k x => spec_l19Kept.l0 k x.1 x.2.1 x.2.2.1) (.exit 0) (fun y => (y.1, y.2, ())) (fun x => (x.1, x.2.1))
def spec_l19Kept.L : Nat → Option LArm := fun b => match b with
  | 0 => some spec_l19Kept.A0
  | _ => none
theorem spec_l19Kept.run (k : Nat) (a0 : ByteArray) : runF envX (tabC (spec_l19Kept.C k)) (tabL 38 k spec_l19Kept.L) Tryd.f48 [.t .str a0] (viewR2 (.fr 9 .str) (.t .bool)) = spec_l19Kept.F k a0 := by kernel_rfl
theorem spec_l19Kept.step0 (k : Nat) (x4 : List ByteArray) (x5 : List ByteArray) (x6 : Int) : runC envX (tabC (spec_l19Kept.C k)) (tabL 38 k spec_l19Kept.L) 0 (loopAt Tryd.f48 0) (stOf 38 spec_l19Kept.sp0 (x4, x5, x6, ())) (spec_l19Kept.A0.cont 38 k) = spec_l19Kept.l0 (k + 1) x4 x5 x6 := by kernel_rfl
theorem spec_l19Kept.G (hE : EnvOk Tryd.prog envX) (pv : Nat → Value) (k : Nat) : ∀ cal A, spec_l19Kept.C k cal = some A → ArmOk Tryd.prog envX pv cal A := by
  intro cal A h
  unfold spec_l19Kept.C at h
  split at h
  · cases h; exact fun x y hy => spec_l19Words.good hE pv k x.1 hy
  · cases h; exact fun x y hy => spec_l19Small.good hE pv k x.1 hy
  · cases h
theorem spec_l19Kept.good (hE : EnvOk Tryd.prog envX) (pv : Nat → Value) (k : Nat) (a0 : ByteArray) {y : _} (h : spec_l19Kept.F k a0 = some y) : Meets Tryd.prog envX pv (.f 48) (tvals [.str] (a0, ())) (.tup [.fr 9 .str y.1, .t .bool y.2]) :=
  fun_loops hE (t := spec_l19Kept.C) k (fun k _ => spec_l19Kept.G hE pv k) (f := 48) (fn := Tryd.f48) (by kernel_rfl) rfl (by kernel_rfl) (by kernel_rfl) (lt := spec_l19Kept.L) (by kernel_rfl) (fun b A h => by
    unfold spec_l19Kept.L at h; split at h
    · cases h; exact ⟨by kernel_rfl, by kernel_rfl, fun _ => rfl, fun _ => rfl⟩
    · cases h) (fun b A h => by
    unfold spec_l19Kept.L at h; split at h
    · cases h; exact fun k x => spec_l19Kept.step0 k x.1 x.2.1 x.2.2.1
    · cases h) ((spec_l19Kept.run k a0).trans h) fun r hr => wk_view2 hr
/-! ### 93 loop.example/g00896/spec.l6Letter -/
def spec_l6Letter.F (a0 : Int) : Option (Bool) := bif (decide (a0 ≥ 65)) then (bif (decide (a0 ≤ 90)) then (some true) else (bif (decide (a0 ≥ 97)) then (some (decide (a0 ≤ 122))) else (some false))) else (bif (decide (a0 ≥ 97)) then (some (decide (a0 ≤ 122))) else (some false))
def spec_l6Letter.C : Cal → Option CArm := fun c => match c with
  | _ => none
theorem spec_l6Letter.run (a0 : Int) : runF envX (tabC spec_l6Letter.C) (tabL 17 0 (fun _ => none)) Tryd.f93 [.t (.int .u8) a0] (viewR1 (.t .bool)) = spec_l6Letter.F a0 := by kernel_rfl
theorem spec_l6Letter.G (hE : EnvOk Tryd.prog envX) (pv : Nat → Value) : ∀ cal A, spec_l6Letter.C cal = some A → ArmOk Tryd.prog envX pv cal A := by
  intro cal A h
  unfold spec_l6Letter.C at h
  cases h
theorem spec_l6Letter.good (hE : EnvOk Tryd.prog envX) (pv : Nat → Value) (a0 : Int) {y : _} (h : spec_l6Letter.F a0 = some y) : Meets Tryd.prog envX pv (.f 93) (tvals [(.int .u8)] (a0, ())) (.t .bool y) :=
  fun_plain hE (spec_l6Letter.G hE pv) (f := 93) (fn := Tryd.f93) (by kernel_rfl) rfl (by kernel_rfl) (by kernel_rfl) ((spec_l6Letter.run a0).trans h) fun r hr => wk_view1 hr
/-! ### 59 loop.example/g00896/spec.l19Find -/
def spec_l19Find.l0 : Nat → (List Abbr) → ByteArray → Int → Option (Sum Int ((List Abbr) × ByteArray))
  | 0, _, _, _ => none
  | k + 1, x0, x1, x5 => bif (decide (x5 < (x1.size : Int))) then (bif decide (0 ≤ x5) then (bif decide (x5 < (x1.size : Int)) then ((spec_l6Letter.F (bt x1 (x5 : Int).toNat)).bind fun r1 => bif (!r1) then (some (.inl (-1))) else (spec_l19Find.l0 k x0 x1 (IntKind.wrap .i64 (x5 + 1)))) else none) else none) else (some (.inr (x0, x1)))
def spec_l19Find.l2 : Nat → (List Abbr) → ByteArray → Int → Int → Option (Sum Int Int)
  | 0, _, _, _, _ => none
  | k + 1, x0, x6, x7, x8 => bif (decide (x8 < (x0.length : Int))) then (bif decide (0 ≤ x8) then (bif decide (x8 < (x0.length : Int)) then (bif (beqS ((x0.getD (x8 : Int).toNat (dflt .abbr)).word) x6) then (some (.inl x8)) else ((spec_l19Cut.F ((x0.getD (x8 : Int).toNat (dflt .abbr)).word) 45).bind fun r5 => bif (!beqS r5 ((x0.getD (x8 : Int).toNat (dflt .abbr)).word)) then (bif (decide ((r5.size : Int) ≤ (x6.size : Int))) then (bif decide (0 ≤ (r5.size : Int)) then (bif decide ((r5.size : Int) ≤ (x6.size : Int)) then (bif (beqS (x6.extract 0 ((r5.size : Int) : Int).toNat) r5) then (bif (decide (x7 < 0)) then (spec_l19Find.l2 k x0 x6 x8 (IntKind.wrap .i64 (x8 + 1))) else (bif decide (0 ≤ x7) then (bif decide (x7 < (x0.length : Int)) then (bif (decide ((((x0.getD (x8 : Int).toNat (dflt .abbr)).word).size : Int) > (((x0.getD (x7 : Int).toNat (dflt .abbr)).word).size : Int))) then (spec_l19Find.l2 k x0 x6 x8 (IntKind.wrap .i64 (x8 + 1))) else (spec_l19Find.l2 k x0 x6 x7 (IntKind.wrap .i64 (x8 + 1)))) else none) else none)) else (spec_l19Find.l2 k x0 x6 x7 (IntKind.wrap .i64 (x8 + 1)))) else none) else none) else (spec_l19Find.l2 k x0 x6 x7 (IntKind.wrap .i64 (x8 + 1)))) else (spec_l19Find.l2 k x0 x6 x7 (IntKind.wrap .i64 (x8 + 1))))) else none) else none) else (some (.inr x7))
def spec_l19Find.F (k : Nat) (a0 : List Abbr) (a1 : ByteArray) : Option (Int) := (spec_l19Find.l0 k a0 a1 0).bind fun y2 => match y2 with | .inl z3 => some z3 | .inr z3 => (spec_l6Lower.F k z3.2).bind fun r4 => (spec_l19Find.l2 k z3.1 r4 (-1) 0).bind fun y6 => match y6 with | .inl z7 => some z7 | .inr z7 => some z7
def spec_l19Find.C (k : Nat) : Cal → Option CArm := fun c => match c with
  | .f 93 => some (.p [(.int .u8)] _ (fun x => spec_l6Letter.F x.1) (fun r => (.t .bool r)))
  | .f 94 => some (.p [.str] _ (fun x => spec_l6Lower.F k x.1) (fun r => (.t .str r)))
  | .f 95 => some (.p [.str, (.int .u8)] _ (fun x => spec_l19Cut.F x.1 x.2.1) (fun r => (.t .str r)))
  | _ => none
def spec_l19Find.sp0 : List Sp := [.t 0 (.sl .abbr), .t 1 .str, .t 5 (.int .i64)]
def spec_l19Find.sp0_0 : List Sp := [.t 4 (.int .i64)]
def spec_l19Find.sp0_1 : List Sp := [.t 0 (.sl .abbr), .t 1 .str]
def spec_l19Find.A0 : LArm := .two spec_l19Find.sp0 spec_l19Find.sp0_0 spec_l19Find.sp0_1 (Int) ((List Abbr) × ByteArray) (fun k x => spec_l19Find.l0 k x.1 x.2.1 x.2.2.1) .ret (.exit 0) (fun y => (y, ())) (fun x => x.1) (fun y => (y.1, y.2, ())) (fun x => (x.1, x.2.1))
def spec_l19Find.sp2 : List Sp := [.t 0 (.sl .abbr), .t 6 .str, .t 7 (.int .i64), .t 8 (.int .i64)]
def spec_l19Find.sp2_0 : List Sp := [.t 4 (.int .i64)]
def spec_l19Find.sp2_1 : List Sp := [.t 7 (.int .i64)]
def spec_l19Find.A2 : LArm := .two spec_l19Find.sp2 spec_l19Find.sp2_0 spec_l19Find.sp2_1 (Int) (Int) (fun k x => spec_l19Find.l2 k x.1 x.2.1 x.2.2.1 x.2.2.2.1) .ret (.exit 2) (fun y => (y, ())) (fun x => x.1) (fun y => (y, ())) (fun x => x.1)
def spec_l19Find.L : Nat → Option LArm := fun b => match b with
  | 0 => some spec_l19Find.A0
  | 2 => some spec_l19Find.A2
  | _ => none
theorem spec_l19Find.run (k : Nat) (a0 : List Abbr) (a1 : ByteArray) : runF envX (tabC (spec_l19Find.C k)) (tabL 76 k spec_l19Find.L) Tryd.f59 [.t (.sl .abbr) a0, .t .str a1] (viewR1 (.t (.int .i64))) = spec_l19Find.F k a0 a1 := by kernel_rfl
theorem spec_l19Find.step0 (k : Nat) (x0 : List Abbr) (x1 : ByteArray) (x5 : Int) : runC envX (tabC (spec_l19Find.C k)) (tabL 76 k spec_l19Find.L) 0 (loopAt Tryd.f59 0) (stOf 76 spec_l19Find.sp0 (x0, x1, x5, ())) (spec_l19Find.A0.cont 76 k) = spec_l19Find.l0 (k + 1) x0 x1 x5 := by kernel_rfl
theorem spec_l19Find.step2 (k : Nat) (x0 : List Abbr) (x6 : ByteArray) (x7 : Int) (x8 : Int) : runC envX (tabC (spec_l19Find.C k)) (tabL 76 k spec_l19Find.L) 2 (loopAt Tryd.f59 2) (stOf 76 spec_l19Find.sp2 (x0, x6, x7, x8, ())) (spec_l19Find.A2.cont 76 k) = spec_l19Find.l2 (k + 1) x0 x6 x7 x8 := by kernel_rfl
theorem spec_l19Find.G (hE : EnvOk Tryd.prog envX) (pv : Nat → Value) (k : Nat) : ∀ cal A, spec_l19Find.C k cal = some A → ArmOk Tryd.prog envX pv cal A := by
  intro cal A h
  unfold spec_l19Find.C at h
  split at h
  · cases h; exact fun x y hy => spec_l6Letter.good hE pv x.1 hy
  · cases h; exact fun x y hy => spec_l6Lower.good hE pv k x.1 hy
  · cases h; exact fun x y hy => spec_l19Cut.good hE pv x.1 x.2.1 hy
  · cases h
theorem spec_l19Find.good (hE : EnvOk Tryd.prog envX) (pv : Nat → Value) (k : Nat) (a0 : List Abbr) (a1 : ByteArray) {y : _} (h : spec_l19Find.F k a0 a1 = some y) : Meets Tryd.prog envX pv (.f 59) (tvals [(.sl .abbr), .str] (a0, a1, ())) (.t (.int .i64) y) :=
  fun_loops hE (t := spec_l19Find.C) k (fun k _ => spec_l19Find.G hE pv k) (f := 59) (fn := Tryd.f59) (by kernel_rfl) rfl (by kernel_rfl) (by kernel_rfl) (lt := spec_l19Find.L) (by kernel_rfl) (fun b A h => by
    unfold spec_l19Find.L at h; split at h
    · cases h; exact ⟨by kernel_rfl, by kernel_rfl, by kernel_rfl, fun _ => rfl, fun _ => rfl, fun _ => rfl⟩
    · cases h; exact ⟨by kernel_rfl, by kernel_rfl, by kernel_rfl, fun _ => rfl, fun _ => rfl, fun _ => rfl⟩
    · cases h) (fun b A h => by
    unfold spec_l19Find.L at h; split at h
    · cases h; exact fun k x => spec_l19Find.step0 k x.1 x.2.1 x.2.2.1
    · cases h; exact fun k x => spec_l19Find.step2 k x.1 x.2.1 x.2.2.1 x.2.2.2.1
    · cases h) ((spec_l19Find.run k a0 a1).trans h) fun r hr => wk_view1 hr
/-! ### 126 loop.example/g00896/spec.l6UpperByte -/
def spec_l6UpperByte.F (a0 : Int) : Option (Int) := bif (decide (a0 ≥ 97)) then (bif (decide (a0 ≤ 122)) then (some (IntKind.wrap .u8 (a0 - 32))) else (some a0)) else (some a0)
def spec_l6UpperByte.C : Cal → Option CArm := fun c => match c with
  | _ => none
theorem spec_l6UpperByte.run (a0 : Int) : runF envX (tabC spec_l6UpperByte.C) (tabL 12 0 (fun _ => none)) Tryd.f126 [.t (.int .u8) a0] (viewR1 (.t (.int .u8))) = spec_l6UpperByte.F a0 := by kernel_rfl
theorem spec_l6UpperByte.G (hE : EnvOk Tryd.prog envX) (pv : Nat → Value) : ∀ cal A, spec_l6UpperByte.C cal = some A → ArmOk Tryd.prog envX pv cal A := by
  intro cal A h
  unfold spec_l6UpperByte.C at h
  cases h
theorem spec_l6UpperByte.good (hE : EnvOk Tryd.prog envX) (pv : Nat → Value) (a0 : Int) {y : _} (h : spec_l6UpperByte.F a0 = some y) : Meets Tryd.prog envX pv (.f 126) (tvals [(.int .u8)] (a0, ())) (.t (.int .u8) y) :=
  fun_plain hE (spec_l6UpperByte.G hE pv) (f := 126) (fn := Tryd.f126) (by kernel_rfl) rfl (by kernel_rfl) (by kernel_rfl) ((spec_l6UpperByte.run a0).trans h) fun r hr => wk_view1 hr
/-! ### 84 loop.example/g00896/spec.l6Raise -/
def spec_l6Raise.l0 : Nat → ByteArray → Int → Option (Sum ByteArray ByteArray)
  | 0, _, _ => none
  | k + 1, x0, x3 => bif (decide (x3 < (x0.size : Int))) then (bif decide (0 ≤ x3) then (bif decide (x3 < (x0.size : Int)) then ((spec_l6Letter.F (bt x0 (x3 : Int).toNat)).bind fun r1 => bif r1 then (bif decide (0 ≤ x3) then (bif decide (x3 ≤ (x0.size : Int)) then (bif decide (0 ≤ x3) then (bif decide (x3 < (x0.size : Int)) then ((spec_l6UpperByte.F (bt x0 (x3 : Int).toNat)).bind fun r2 => bif Nat.ble ((x0.extract 0 (x3 : Int).toNat).size + (strL ([r2] : List Int)).size) 9223372036854775807 then (bif decide (0 ≤ (IntKind.wrap .i64 (x3 + 1))) then (bif decide ((IntKind.wrap .i64 (x3 + 1)) ≤ (x0.size : Int)) then (bif Nat.ble (((x0.extract 0 (x3 : Int).toNat) ++ (strL ([r2] : List Int))).size + (x0.extract ((IntKind.wrap .i64 (x3 + 1)) : Int).toNat x0.size).size) 9223372036854775807 then (some (.inl (((x0.extract 0 (x3 : Int).toNat) ++ (strL ([r2] : List Int))) ++ (x0.extract ((IntKind.wrap .i64 (x3 + 1)) : Int).toNat x0.size)))) else none) else none) else none) else none) else none) else none) else none) else none) else (spec_l6Raise.l0 k x0 (IntKind.wrap .i64 (x3 + 1)))) else none) else none) else (some (.inr x0))
def spec_l6Raise.F (k : Nat) (a0 : ByteArray) : Option (ByteArray) := (spec_l6Raise.l0 k a0 0).bind fun y3 => match y3 with | .inl z4 => some z4 | .inr z4 => some z4
def spec_l6Raise.C (k : Nat) : Cal → Option CArm := fun c => match c with
  | .f 93 => some (.p [(.int .u8)] _ (fun x => spec_l6Letter.F x.1) (fun r => (.t .bool r)))
  | .f 126 => some (.p [(.int .u8)] _ (fun x => spec_l6UpperByte.F x.1) (fun r => (.t (.int .u8) r)))
  | _ => none
def spec_l6Raise.sp0 : List Sp := [.t 0 .str, .t 3 (.int .i64)]
def spec_l6Raise.sp0_0 : List Sp := [.t 2 .str]
def spec_l6Raise.sp0_1 : List Sp := [.t 0 .str]
def spec_l6Raise.A0 : LArm := .two spec_l6Raise.sp0 spec_l6Raise.sp0_0 spec_l6Raise.sp0_1 (ByteArray) (ByteArray) (fun k x => spec_l6Raise.l0 k x.1 x.2.1) .ret (.exit 0) (fun y => (y, ())) (fun x => x.1) (fun y => (y, ())) (fun x => x.1)
def spec_l6Raise.L : Nat → Option LArm := fun b => match b with
  | 0 => some spec_l6Raise.A0
  | _ => none
theorem spec_l6Raise.run (k : Nat) (a0 : ByteArray) : runF envX (tabC (spec_l6Raise.C k)) (tabL 30 k spec_l6Raise.L) Tryd.f84 [.t .str a0] (viewR1 (.t .str)) = spec_l6Raise.F k a0 := by kernel_rfl
theorem spec_l6Raise.step0 (k : Nat) (x0 : ByteArray) (x3 : Int) : runC envX (tabC (spec_l6Raise.C k)) (tabL 30 k spec_l6Raise.L) 0 (loopAt Tryd.f84 0) (stOf 30 spec_l6Raise.sp0 (x0, x3, ())) (spec_l6Raise.A0.cont 30 k) = spec_l6Raise.l0 (k + 1) x0 x3 := by kernel_rfl
theorem spec_l6Raise.G (hE : EnvOk Tryd.prog envX) (pv : Nat → Value) (k : Nat) : ∀ cal A, spec_l6Raise.C k cal = some A → ArmOk Tryd.prog envX pv cal A := by
  intro cal A h
  unfold spec_l6Raise.C at h
  split at h
  · cases h; exact fun x y hy => spec_l6Letter.good hE pv x.1 hy
  · cases h; exact fun x y hy => spec_l6UpperByte.good hE pv x.1 hy
  · cases h
theorem spec_l6Raise.good (hE : EnvOk Tryd.prog envX) (pv : Nat → Value) (k : Nat) (a0 : ByteArray) {y : _} (h : spec_l6Raise.F k a0 = some y) : Meets Tryd.prog envX pv (.f 84) (tvals [.str] (a0, ())) (.t .str y) :=
  fun_loops hE (t := spec_l6Raise.C) k (fun k _ => spec_l6Raise.G hE pv k) (f := 84) (fn := Tryd.f84) (by kernel_rfl) rfl (by kernel_rfl) (by kernel_rfl) (lt := spec_l6Raise.L) (by kernel_rfl) (fun b A h => by
    unfold spec_l6Raise.L at h; split at h
    · cases h; exact ⟨by kernel_rfl, by kernel_rfl, by kernel_rfl, fun _ => rfl, fun _ => rfl, fun _ => rfl⟩
    · cases h) (fun b A h => by
    unfold spec_l6Raise.L at h; split at h
    · cases h; exact fun k x => spec_l6Raise.step0 k x.1 x.2.1
    · cases h) ((spec_l6Raise.run k a0).trans h) fun r hr => wk_view1 hr
/-! ### 49 loop.example/g00896/spec.l19Short -/
def spec_l19Short.F (k : Nat) (a0 : List Abbr) (a1 : ByteArray) : Option (ByteArray) := (spec_l19Find.F k a0 a1).bind fun r1 => bif (decide (r1 < 0)) then (some a1) else (bif decide (0 ≤ 0) then (bif decide (0 < (a1.size : Int)) then (bif (decide ((bt a1 (0 : Int).toNat) ≥ 65)) then (bif decide (0 ≤ 0) then (bif decide (0 < (a1.size : Int)) then (bif (decide ((bt a1 (0 : Int).toNat) ≤ 90)) then (bif decide (0 ≤ r1) then (bif decide (r1 < (a0.length : Int)) then ((spec_l6Raise.F k ((a0.getD (r1 : Int).toNat (dflt .abbr)).short)).bind fun r2 => some r2) else none) else none) else (bif decide (0 ≤ r1) then (bif decide (r1 < (a0.length : Int)) then (some ((a0.getD (r1 : Int).toNat (dflt .abbr)).short)) else none) else none)) else none) else none) else (bif decide (0 ≤ r1) then (bif decide (r1 < (a0.length : Int)) then (some ((a0.getD (r1 : Int).toNat (dflt .abbr)).short)) else none) else none)) else none) else none)
def spec_l19Short.C (k : Nat) : Cal → Option CArm := fun c => match c with
  | .f 59 => some (.p [(.sl .abbr), .str] _ (fun x => spec_l19Find.F k x.1 x.2.1) (fun r => (.t (.int .i64) r)))
  | .f 84 => some (.p [.str] _ (fun x => spec_l6Raise.F k x.1) (fun r => (.t .str r)))
  | _ => none
theorem spec_l19Short.run (k : Nat) (a0 : List Abbr) (a1 : ByteArray) : runF envX (tabC (spec_l19Short.C k)) (tabL 31 0 (fun _ => none)) Tryd.f49 [.t (.sl .abbr) a0, .t .str a1] (viewR1 (.t .str)) = spec_l19Short.F k a0 a1 := by kernel_rfl
theorem spec_l19Short.G (hE : EnvOk Tryd.prog envX) (pv : Nat → Value) (k : Nat) : ∀ cal A, spec_l19Short.C k cal = some A → ArmOk Tryd.prog envX pv cal A := by
  intro cal A h
  unfold spec_l19Short.C at h
  split at h
  · cases h; exact fun x y hy => spec_l19Find.good hE pv k x.1 x.2.1 hy
  · cases h; exact fun x y hy => spec_l6Raise.good hE pv k x.1 hy
  · cases h
theorem spec_l19Short.good (hE : EnvOk Tryd.prog envX) (pv : Nat → Value) (k : Nat) (a0 : List Abbr) (a1 : ByteArray) {y : _} (h : spec_l19Short.F k a0 a1 = some y) : Meets Tryd.prog envX pv (.f 49) (tvals [(.sl .abbr), .str] (a0, a1, ())) (.t .str y) :=
  fun_plain hE (spec_l19Short.G hE pv k) (f := 49) (fn := Tryd.f49) (by kernel_rfl) rfl (by kernel_rfl) (by kernel_rfl) ((spec_l19Short.run k a0 a1).trans h) fun r hr => wk_view1 hr
/-! ### 18 loop.example/g00896/spec.UnabbreviatedWords -/
def spec_UnabbreviatedWords.l0 : Nat → (List Abbr) → (List ByteArray) → (List ByteArray) → Bool → Int → Option ((List ByteArray))
  | 0, _, _, _, _, _ => none
  | k + 1, x0, x6, x7, x8, x9 => bif (decide (x9 < (x7.length : Int))) then (bif (!x8) then (bif decide (0 ≤ x9) then (bif decide (x9 < (x7.length : Int)) then (bif room (x6.length + ([(x7.getD ((x9 : Int).toNat) (⟨#[]⟩ : ByteArray))] : List ByteArray).length) .str then (spec_UnabbreviatedWords.l0 k x0 (x6 ++ ([(x7.getD ((x9 : Int).toNat) (⟨#[]⟩ : ByteArray))] : List ByteArray)) x7 x8 (IntKind.wrap .i64 (x9 + 1))) else none) else none) else none) else (bif decide (0 ≤ x9) then (bif decide (x9 < (x7.length : Int)) then ((spec_l19Short.F k x0 (x7.getD ((x9 : Int).toNat) (⟨#[]⟩ : ByteArray))).bind fun r4 => bif decide (0 ≤ x9) then (bif decide (x9 < (x7.length : Int)) then (bif (beqS r4 (x7.getD ((x9 : Int).toNat) (⟨#[]⟩ : ByteArray))) then (bif decide (0 ≤ x9) then (bif decide (x9 < (x7.length : Int)) then (bif room (x6.length + ([(x7.getD ((x9 : Int).toNat) (⟨#[]⟩ : ByteArray))] : List ByteArray).length) .str then (spec_UnabbreviatedWords.l0 k x0 (x6 ++ ([(x7.getD ((x9 : Int).toNat) (⟨#[]⟩ : ByteArray))] : List ByteArray)) x7 x8 (IntKind.wrap .i64 (x9 + 1))) else none) else none) else none) else (spec_UnabbreviatedWords.l0 k x0 x6 x7 x8 (IntKind.wrap .i64 (x9 + 1)))) else none) else none) else none) else none)) else (some x6)
def spec_UnabbreviatedWords.F (k : Nat) (a0 : List Abbr) (a1 : ByteArray) : Option ((List ByteArray) × Bool) := (spec_l19Good.F k a0).bind fun r1 => bif (!r1) then (some (([] : List ByteArray), false)) else ((spec_l4Text.F k a1).bind fun r2 => bif (!r2) then (some (([] : List ByteArray), false)) else ((spec_l19Kept.F k a1).bind fun r3 => (spec_UnabbreviatedWords.l0 k a0 ([] : List ByteArray) r3.1 r3.2 0).bind fun y5 => some (y5, true)))
def spec_UnabbreviatedWords.C (k : Nat) : Cal → Option CArm := fun c => match c with
  | .f 46 => some (.p [(.sl .abbr)] _ (fun x => spec_l19Good.F k x.1) (fun r => (.t .bool r)))
  | .f 47 => some (.p [.str] _ (fun x => spec_l4Text.F k x.1) (fun r => (.t .bool r)))
  | .f 48 => some (.p [.str] _ (fun x => spec_l19Kept.F k x.1) (fun r => (.tup [.fr 9 .str r.1, .t .bool r.2])))
  | .f 49 => some (.p [(.sl .abbr), .str] _ (fun x => spec_l19Short.F k x.1 x.2.1) (fun r => (.t .str r)))
  | _ => none
def spec_UnabbreviatedWords.sp0 : List Sp := [.t 0 (.sl .abbr), .own 6 1024 9 .str false true, .own 7 4100 9 .str false true, .t 8 .bool, .t 9 (.int .i64)]
def spec_UnabbreviatedWords.sp0_0 : List Sp := [.own 6 1024 9 .str false true]
def spec_UnabbreviatedWords.A0 : LArm := .one spec_UnabbreviatedWords.sp0 spec_UnabbreviatedWords.sp0_0 ((List ByteArray)) (fun k x => spec_UnabbreviatedWords.l0 k x.1 x.2.1 x.2.2.1 x.2.2.2.1 x.2.2.2.2.1) (.exit 0) (fun y => (y, ())) (fun x => x.1)
def spec_UnabbreviatedWords.L : Nat → Option LArm := fun b => match b with
  | 0 => some spec_UnabbreviatedWords.A0
  | _ => none
theorem spec_UnabbreviatedWords.run (k : Nat) (a0 : List Abbr) (a1 : ByteArray) : runF envX (tabC (spec_UnabbreviatedWords.C k)) (tabL 54 k spec_UnabbreviatedWords.L) Tryd.f18 [.t (.sl .abbr) a0, .t .str a1] (viewR2 (.fr 9 .str) (.t .bool)) = spec_UnabbreviatedWords.F k a0 a1 := by kernel_rfl
theorem spec_UnabbreviatedWords.step0 (k : Nat) (x0 : List Abbr) (x6 : List ByteArray) (x7 : List ByteArray) (x8 : Bool) (x9 : Int) : runC envX (tabC (spec_UnabbreviatedWords.C k)) (tabL 54 k spec_UnabbreviatedWords.L) 0 (loopAt Tryd.f18 0) (stOf 54 spec_UnabbreviatedWords.sp0 (x0, x6, x7, x8, x9, ())) (spec_UnabbreviatedWords.A0.cont 54 k) = spec_UnabbreviatedWords.l0 (k + 1) x0 x6 x7 x8 x9 := by kernel_rfl
theorem spec_UnabbreviatedWords.G (hE : EnvOk Tryd.prog envX) (pv : Nat → Value) (k : Nat) : ∀ cal A, spec_UnabbreviatedWords.C k cal = some A → ArmOk Tryd.prog envX pv cal A := by
  intro cal A h
  unfold spec_UnabbreviatedWords.C at h
  split at h
  · cases h; exact fun x y hy => spec_l19Good.good hE pv k x.1 hy
  · cases h; exact fun x y hy => spec_l4Text.good hE pv k x.1 hy
  · cases h; exact fun x y hy => spec_l19Kept.good hE pv k x.1 hy
  · cases h; exact fun x y hy => spec_l19Short.good hE pv k x.1 x.2.1 hy
  · cases h
theorem spec_UnabbreviatedWords.good (hE : EnvOk Tryd.prog envX) (pv : Nat → Value) (k : Nat) (a0 : List Abbr) (a1 : ByteArray) {y : _} (h : spec_UnabbreviatedWords.F k a0 a1 = some y) : Meets Tryd.prog envX pv (.f 18) (tvals [(.sl .abbr), .str] (a0, a1, ())) (.tup [.fr 9 .str y.1, .t .bool y.2]) :=
  fun_loops hE (t := spec_UnabbreviatedWords.C) k (fun k _ => spec_UnabbreviatedWords.G hE pv k) (f := 18) (fn := Tryd.f18) (by kernel_rfl) rfl (by kernel_rfl) (by kernel_rfl) (lt := spec_UnabbreviatedWords.L) (by kernel_rfl) (fun b A h => by
    unfold spec_UnabbreviatedWords.L at h; split at h
    · cases h; exact ⟨by kernel_rfl, by kernel_rfl, fun _ => rfl, fun _ => rfl⟩
    · cases h) (fun b A h => by
    unfold spec_UnabbreviatedWords.L at h; split at h
    · cases h; exact fun k x => spec_UnabbreviatedWords.step0 k x.1 x.2.1 x.2.2.1 x.2.2.2.1 x.2.2.2.2.1
    · cases h) ((spec_UnabbreviatedWords.run k a0 a1).trans h) fun r hr => wk_view2 hr
/-! ### 50 loop.example/g00896/laws.toAbbreviation -/
def laws_toAbbreviation.F (a0 : Abbr) : Option (Abbr) := some (⟨a0.word, a0.short⟩ : Abbr)
def laws_toAbbreviation.C : Cal → Option CArm := fun c => match c with
  | _ => none
theorem laws_toAbbreviation.run (a0 : Abbr) : runF envX (tabC laws_toAbbreviation.C) (tabL 11 0 (fun _ => none)) Tryd.f50 [.t .abbr a0] (viewR1 (.t .abbr)) = laws_toAbbreviation.F a0 := by kernel_rfl
theorem laws_toAbbreviation.G (hE : EnvOk Tryd.prog envX) (pv : Nat → Value) : ∀ cal A, laws_toAbbreviation.C cal = some A → ArmOk Tryd.prog envX pv cal A := by
  intro cal A h
  unfold laws_toAbbreviation.C at h
  cases h
theorem laws_toAbbreviation.good (hE : EnvOk Tryd.prog envX) (pv : Nat → Value) (a0 : Abbr) {y : _} (h : laws_toAbbreviation.F a0 = some y) : Meets Tryd.prog envX pv (.f 50) (tvals [.abbr] (a0, ())) (.t .abbr y) :=
  fun_plain hE (laws_toAbbreviation.G hE pv) (f := 50) (fn := Tryd.f50) (by kernel_rfl) rfl (by kernel_rfl) (by kernel_rfl) ((laws_toAbbreviation.run a0).trans h) fun r hr => wk_view1 hr
/-! ### 19 loop.example/g00896/laws.toAbbreviationS -/
def laws_toAbbreviationS.l0 : Nat → (List Abbr) → (List Abbr) → Int → Option ((List Abbr))
  | 0, _, _, _ => none
  | k + 1, x0, x3, x4 => bif (decide (x4 < (x0.length : Int))) then (bif decide (0 ≤ x4) then (bif decide (x4 < (x0.length : Int)) then ((laws_toAbbreviation.F (x0.getD (x4 : Int).toNat (dflt .abbr))).bind fun r1 => bif decide (0 ≤ x4) then (bif decide (x4 < (x3.length : Int)) then (laws_toAbbreviationS.l0 k x0 (x3.set ((x4 : Int).toNat) r1) (IntKind.wrap .i64 (x4 + 1))) else none) else none) else none) else none) else (some x3)
def laws_toAbbreviationS.F (k : Nat) (a0 : List Abbr) : Option (List Abbr) := bif ((a0.length : Int) == (a0.length : Int)) then (bif decide (0 ≤ (a0.length : Int)) then (bif Nat.ble (((a0.length : Int) : Int).toNat * nb .abbr) 140737488355328 then ((laws_toAbbreviationS.l0 k a0 (List.replicate ((a0.length : Int) : Int).toNat (dflt .abbr)) 0).bind fun y2 => some y2) else none) else none) else none
def laws_toAbbreviationS.C (k : Nat) : Cal → Option CArm := fun c => match c with
  | .f 50 => some (.p [.abbr] _ (fun x => laws_toAbbreviation.F x.1) (fun r => (.t .abbr r)))
  | _ => none
def laws_toAbbreviationS.sp0 : List Sp := [.t 0 (.sl .abbr), .own 3 1032 79 .abbr false true, .t 4 (.int .i64)]
def laws_toAbbreviationS.sp0_0 : List Sp := [.own 3 1032 79 .abbr false true]
def laws_toAbbreviationS.A0 : LArm := .one laws_toAbbreviationS.sp0 laws_toAbbreviationS.sp0_0 ((List Abbr)) (fun k x => laws_toAbbreviationS.l0 k x.1 x.2.1 x.2.2.1) (.exit 0) (fun y => (y, ())) (fun x => x.1)
def laws_toAbbreviationS.L : Nat → Option LArm := fun b => match b with
  | 0 => some laws_toAbbreviationS.A0
  | _ => none
theorem laws_toAbbreviationS.run (k : Nat) (a0 : List Abbr) : runF envX (tabC (laws_toAbbreviationS.C k)) (tabL 23 k laws_toAbbreviationS.L) Tryd.f19 [.t (.sl .abbr) a0] (viewR1 (.fr 79 .abbr)) = laws_toAbbreviationS.F k a0 := by kernel_rfl
theorem laws_toAbbreviationS.step0 (k : Nat) (x0 : List Abbr) (x3 : List Abbr) (x4 : Int) : runC envX (tabC (laws_toAbbreviationS.C k)) (tabL 23 k laws_toAbbreviationS.L) 0 (loopAt Tryd.f19 0) (stOf 23 laws_toAbbreviationS.sp0 (x0, x3, x4, ())) (laws_toAbbreviationS.A0.cont 23 k) = laws_toAbbreviationS.l0 (k + 1) x0 x3 x4 := by kernel_rfl
theorem laws_toAbbreviationS.G (hE : EnvOk Tryd.prog envX) (pv : Nat → Value) (k : Nat) : ∀ cal A, laws_toAbbreviationS.C k cal = some A → ArmOk Tryd.prog envX pv cal A := by
  intro cal A h
  unfold laws_toAbbreviationS.C at h
  split at h
  · cases h; exact fun x y hy => laws_toAbbreviation.good hE pv x.1 hy
  · cases h
theorem laws_toAbbreviationS.good (hE : EnvOk Tryd.prog envX) (pv : Nat → Value) (k : Nat) (a0 : List Abbr) {y : _} (h : laws_toAbbreviationS.F k a0 = some y) : Meets Tryd.prog envX pv (.f 19) (tvals [(.sl .abbr)] (a0, ())) (.fr 79 .abbr y) :=
  fun_loops hE (t := laws_toAbbreviationS.C) k (fun k _ => laws_toAbbreviationS.G hE pv k) (f := 19) (fn := Tryd.f19) (by kernel_rfl) rfl (by kernel_rfl) (by kernel_rfl) (lt := laws_toAbbreviationS.L) (by kernel_rfl) (fun b A h => by
    unfold laws_toAbbreviationS.L at h; split at h
    · cases h; exact ⟨by kernel_rfl, by kernel_rfl, fun _ => rfl, fun _ => rfl⟩
    · cases h) (fun b A h => by
    unfold laws_toAbbreviationS.L at h; split at h
    · cases h; exact fun k x => laws_toAbbreviationS.step0 k x.1 x.2.1 x.2.2.1
    · cases h) ((laws_toAbbreviationS.run k a0).trans h) fun r hr => wk_view1 hr
/-! ### 171 internal/stringslite.HasSuffix -/
def stringslite_HasSuffix.F (a0 : ByteArray) (a1 : ByteArray) : Option (Bool) := bif (decide ((a0.size : Int) ≥ (a1.size : Int))) then (bif decide (0 ≤ (IntKind.wrap .i64 ((a0.size : Int) - (a1.size : Int)))) then (bif decide ((IntKind.wrap .i64 ((a0.size : Int) - (a1.size : Int))) ≤ (a0.size : Int)) then (some (beqS (a0.extract ((IntKind.wrap .i64 ((a0.size : Int) - (a1.size : Int))) : Int).toNat a0.size) a1)) else none) else none) else (some false)
def stringslite_HasSuffix.C : Cal → Option CArm := fun c => match c with
  | _ => none
theorem stringslite_HasSuffix.run (a0 : ByteArray) (a1 : ByteArray) : runF envX (tabC stringslite_HasSuffix.C) (tabL 21 0 (fun _ => none)) Tryd.f171 [.t .str a0, .t .str a1] (viewR1 (.t .bool)) = stringslite_HasSuffix.F a0 a1 := by kernel_rfl
theorem stringslite_HasSuffix.G (hE : EnvOk Tryd.prog envX) (pv : Nat → Value) : ∀ cal A, stringslite_HasSuffix.C cal = some A → ArmOk Tryd.prog envX pv cal A := by
  intro cal A h
  unfold stringslite_HasSuffix.C at h
  cases h
theorem stringslite_HasSuffix.good (hE : EnvOk Tryd.prog envX) (pv : Nat → Value) (a0 : ByteArray) (a1 : ByteArray) {y : _} (h : stringslite_HasSuffix.F a0 a1 = some y) : Meets Tryd.prog envX pv (.f 171) (tvals [.str, .str] (a0, a1, ())) (.t .bool y) :=
  fun_plain hE (stringslite_HasSuffix.G hE pv) (f := 171) (fn := Tryd.f171) (by kernel_rfl) rfl (by kernel_rfl) (by kernel_rfl) ((stringslite_HasSuffix.run a0 a1).trans h) fun r hr => wk_view1 hr
/-! ### 162 internal/stringslite.TrimSuffix -/
def stringslite_TrimSuffix.F (a0 : ByteArray) (a1 : ByteArray) : Option (ByteArray) := (stringslite_HasSuffix.F a0 a1).bind fun r1 => bif r1 then (bif decide (0 ≤ (IntKind.wrap .i64 ((a0.size : Int) - (a1.size : Int)))) then (bif decide ((IntKind.wrap .i64 ((a0.size : Int) - (a1.size : Int))) ≤ (a0.size : Int)) then (some (a0.extract 0 ((IntKind.wrap .i64 ((a0.size : Int) - (a1.size : Int))) : Int).toNat)) else none) else none) else (some a0)
def stringslite_TrimSuffix.C : Cal → Option CArm := fun c => match c with
  | .f 171 => some (.p [.str, .str] _ (fun x => stringslite_HasSuffix.F x.1 x.2.1) (fun r => (.t .bool r)))
  | _ => none
theorem stringslite_TrimSuffix.run (a0 : ByteArray) (a1 : ByteArray) : runF envX (tabC stringslite_TrimSuffix.C) (tabL 16 0 (fun _ => none)) Tryd.f162 [.t .str a0, .t .str a1] (viewR1 (.t .str)) = stringslite_TrimSuffix.F a0 a1 := by kernel_rfl
theorem stringslite_TrimSuffix.G (hE : EnvOk Tryd.prog envX) (pv : Nat → Value) : ∀ cal A, stringslite_TrimSuffix.C cal = some A → ArmOk Tryd.prog envX pv cal A := by
  intro cal A h
  unfold stringslite_TrimSuffix.C at h
  split at h
  · cases h; exact fun x y hy => stringslite_HasSuffix.good hE pv x.1 x.2.1 hy
  · cases h
theorem stringslite_TrimSuffix.good (hE : EnvOk Tryd.prog envX) (pv : Nat → Value) (a0 : ByteArray) (a1 : ByteArray) {y : _} (h : stringslite_TrimSuffix.F a0 a1 = some y) : Meets Tryd.prog envX pv (.f 162) (tvals [.str, .str] (a0, a1, ())) (.t .str y) :=
  fun_plain hE (stringslite_TrimSuffix.G hE pv) (f := 162) (fn := Tryd.f162) (by kernel_rfl) rfl (by kernel_rfl) (by kernel_rfl) ((stringslite_TrimSuffix.run a0 a1).trans h) fun r hr => wk_view1 hr
/-! ### 127 strings.TrimSuffix -/
def strings_TrimSuffix.F (a0 : ByteArray) (a1 : ByteArray) : Option (ByteArray) := (stringslite_TrimSuffix.F a0 a1).bind fun r1 => some r1
def strings_TrimSuffix.C : Cal → Option CArm := fun c => match c with
  | .f 162 => some (.p [.str, .str] _ (fun x => stringslite_TrimSuffix.F x.1 x.2.1) (fun r => (.t .str r)))
  | _ => none
theorem strings_TrimSuffix.run (a0 : ByteArray) (a1 : ByteArray) : runF envX (tabC strings_TrimSuffix.C) (tabL 8 0 (fun _ => none)) Tryd.f127 [.t .str a0, .t .str a1] (viewR1 (.t .str)) = strings_TrimSuffix.F a0 a1 := by kernel_rfl
theorem strings_TrimSuffix.G (hE : EnvOk Tryd.prog envX) (pv : Nat → Value) : ∀ cal A, strings_TrimSuffix.C cal = some A → ArmOk Tryd.prog envX pv cal A := by
  intro cal A h
  unfold strings_TrimSuffix.C at h
  split at h
  · cases h; exact fun x y hy => stringslite_TrimSuffix.good hE pv x.1 x.2.1 hy
  · cases h
theorem strings_TrimSuffix.good (hE : EnvOk Tryd.prog envX) (pv : Nat → Value) (a0 : ByteArray) (a1 : ByteArray) {y : _} (h : strings_TrimSuffix.F a0 a1 = some y) : Meets Tryd.prog envX pv (.f 127) (tvals [.str, .str] (a0, a1, ())) (.t .str y) :=
  fun_plain hE (strings_TrimSuffix.G hE pv) (f := 127) (fn := Tryd.f127) (by kernel_rfl) rfl (by kernel_rfl) (by kernel_rfl) ((strings_TrimSuffix.run a0 a1).trans h) fun r hr => wk_view1 hr
/-! ### 128 loop.example/g00896/impl.isLower -/
def impl_isLower.F (a0 : Int) : Option (Bool) := bif (decide (a0 ≥ 97)) then (some (decide (a0 ≤ 122))) else (some false)
def impl_isLower.C : Cal → Option CArm := fun c => match c with
  | _ => none
theorem impl_isLower.run (a0 : Int) : runF envX (tabC impl_isLower.C) (tabL 9 0 (fun _ => none)) Tryd.f128 [.t (.int .u8) a0] (viewR1 (.t .bool)) = impl_isLower.F a0 := by kernel_rfl
theorem impl_isLower.G (hE : EnvOk Tryd.prog envX) (pv : Nat → Value) : ∀ cal A, impl_isLower.C cal = some A → ArmOk Tryd.prog envX pv cal A := by
  intro cal A h
  unfold impl_isLower.C at h
  cases h
theorem impl_isLower.good (hE : EnvOk Tryd.prog envX) (pv : Nat → Value) (a0 : Int) {y : _} (h : impl_isLower.F a0 = some y) : Meets Tryd.prog envX pv (.f 128) (tvals [(.int .u8)] (a0, ())) (.t .bool y) :=
  fun_plain hE (impl_isLower.G hE pv) (f := 128) (fn := Tryd.f128) (by kernel_rfl) rfl (by kernel_rfl) (by kernel_rfl) ((impl_isLower.run a0).trans h) fun r hr => wk_view1 hr
/-! ### 129 loop.example/g00896/impl.inside -/
def impl_inside.F (a0 : Int) (a1 : Int) (a2 : Int) : Option (Bool) := bif (decide (a0 ≥ a1)) then (some (decide (a0 ≤ a2))) else (some false)
def impl_inside.C : Cal → Option CArm := fun c => match c with
  | _ => none
theorem impl_inside.run (a0 : Int) (a1 : Int) (a2 : Int) : runF envX (tabC impl_inside.C) (tabL 15 0 (fun _ => none)) Tryd.f129 [.t (.int .i64) a0, .t (.int .i64) a1, .t (.int .i64) a2] (viewR1 (.t .bool)) = impl_inside.F a0 a1 a2 := by kernel_rfl
theorem impl_inside.G (hE : EnvOk Tryd.prog envX) (pv : Nat → Value) : ∀ cal A, impl_inside.C cal = some A → ArmOk Tryd.prog envX pv cal A := by
  intro cal A h
  unfold impl_inside.C at h
  cases h
theorem impl_inside.good (hE : EnvOk Tryd.prog envX) (pv : Nat → Value) (a0 : Int) (a1 : Int) (a2 : Int) {y : _} (h : impl_inside.F a0 a1 a2 = some y) : Meets Tryd.prog envX pv (.f 129) (tvals [(.int .i64), (.int .i64), (.int .i64)] (a0, a1, a2, ())) (.t .bool y) :=
  fun_plain hE (impl_inside.G hE pv) (f := 129) (fn := Tryd.f129) (by kernel_rfl) rfl (by kernel_rfl) (by kernel_rfl) ((impl_inside.run a0 a1 a2).trans h) fun r hr => wk_view1 hr
/-! ### 85 loop.example/g00896/impl.isSmall -/
def impl_isSmall.l0 : Nat → ByteArray → Int → Int → Int → Option (Sum Bool (ByteArray × Int × Int))
  | 0, _, _, _, _ => none
  | k + 1, x0, x1, x2, x9 => bif (decide (x9 < (x0.size : Int))) then (bif decide (0 ≤ x9) then (bif decide (x9 < (x0.size : Int)) then ((impl_isLower.F (bt x0 (x9 : Int).toNat)).bind fun r2 => bif (!r2) then (some (.inl false)) else (impl_isSmall.l0 k x0 x1 x2 (IntKind.wrap .i64 (x9 + 1)))) else none) else none) else (some (.inr (x0, x1, x2)))
def impl_isSmall.F (k : Nat) (a0 : ByteArray) (a1 : Int) (a2 : Int) (a3 : ByteArray) : Option (Bool) := (strings_TrimSuffix.F a0 a3).bind fun r1 => (impl_isSmall.l0 k r1 a1 a2 0).bind fun y3 => match y3 with | .inl z4 => some z4 | .inr z4 => (impl_inside.F (z4.1.size : Int) z4.2.1 z4.2.2).bind fun r5 => some r5
def impl_isSmall.C (k : Nat) : Cal → Option CArm := fun c => match c with
  | .f 127 => some (.p [.str, .str] _ (fun x => strings_TrimSuffix.F x.1 x.2.1) (fun r => (.t .str r)))
  | .f 128 => some (.p [(.int .u8)] _ (fun x => impl_isLower.F x.1) (fun r => (.t .bool r)))
  | .f 129 => some (.p [(.int .i64), (.int .i64), (.int .i64)] _ (fun x => impl_inside.F x.1 x.2.1 x.2.2.1) (fun r => (.t .bool r)))
  | _ => none
def impl_isSmall.sp0 : List Sp := [.t 0 .str, .t 1 (.int .i64), .t 2 (.int .i64), .t 9 (.int .i64)]
def impl_isSmall.sp0_0 : List Sp := [.t 8 .bool]
def impl_isSmall.sp0_1 : List Sp := [.t 0 .str, .t 1 (.int .i64), .t 2 (.int .i64)]
def impl_isSmall.A0 : LArm := .two impl_isSmall.sp0 impl_isSmall.sp0_0 impl_isSmall.sp0_1 (Bool) (ByteArray × Int × Int) (fun k x => impl_isSmall.l0 k x.1 x.2.1 x.2.2.1 x.2.2.2.1) .ret (.exit 0) (fun y => (y, ())) (fun x => x.1) (fun y => (y.1, y.2.1, y.2.2, ())) (fun x => (x.1, x.2.1, x.2.2.1))
def impl_isSmall.L : Nat → Option LArm := fun b => match b with
  | 0 => some impl_isSmall.A0
  | _ => none
theorem impl_isSmall.run (k : Nat) (a0 : ByteArray) (a1 : Int) (a2 : Int) (a3 : ByteArray) : runF envX (tabC (impl_isSmall.C k)) (tabL 29 k impl_isSmall.L) Tryd.f85 [.t .str a0, .t (.int .i64) a1, .t (.int .i64) a2, .t .str a3] (viewR1 (.t .bool)) = impl_isSmall.F k a0 a1 a2 a3 := by kernel_rfl
theorem impl_isSmall.step0 (k : Nat) (x0 : ByteArray) (x1 : Int) (x2 : Int) (x9 : Int) : runC envX (tabC (impl_isSmall.C k)) (tabL 29 k impl_isSmall.L) 0 (loopAt Tryd.f85 0) (stOf 29 impl_isSmall.sp0 (x0, x1, x2, x9, ())) (impl_isSmall.A0.cont 29 k) = impl_isSmall.l0 (k + 1) x0 x1 x2 x9 := by kernel_rfl
theorem impl_isSmall.G (hE : EnvOk Tryd.prog envX) (pv : Nat → Value) (k : Nat) : ∀ cal A, impl_isSmall.C k cal = some A → ArmOk Tryd.prog envX pv cal A := by
  intro cal A h
  unfold impl_isSmall.C at h
  split at h
  · cases h; exact fun x y hy => strings_TrimSuffix.good hE pv x.1 x.2.1 hy
  · cases h; exact fun x y hy => impl_isLower.good hE pv x.1 hy
  · cases h; exact fun x y hy => impl_inside.good hE pv x.1 x.2.1 x.2.2.1 hy
  · cases h
theorem impl_isSmall.good (hE : EnvOk Tryd.prog envX) (pv : Nat → Value) (k : Nat) (a0 : ByteArray) (a1 : Int) (a2 : Int) (a3 : ByteArray) {y : _} (h : impl_isSmall.F k a0 a1 a2 a3 = some y) : Meets Tryd.prog envX pv (.f 85) (tvals [.str, (.int .i64), (.int .i64), .str] (a0, a1, a2, a3, ())) (.t .bool y) :=
  fun_loops hE (t := impl_isSmall.C) k (fun k _ => impl_isSmall.G hE pv k) (f := 85) (fn := Tryd.f85) (by kernel_rfl) rfl (by kernel_rfl) (by kernel_rfl) (lt := impl_isSmall.L) (by kernel_rfl) (fun b A h => by
    unfold impl_isSmall.L at h; split at h
    · cases h; exact ⟨by kernel_rfl, by kernel_rfl, by kernel_rfl, fun _ => rfl, fun _ => rfl, fun _ => rfl⟩
    · cases h) (fun b A h => by
    unfold impl_isSmall.L at h; split at h
    · cases h; exact fun k x => impl_isSmall.step0 k x.1 x.2.1 x.2.2.1 x.2.2.2.1
    · cases h) ((impl_isSmall.run k a0 a1 a2 a3).trans h) fun r hr => wk_view1 hr
/-! ### 51 loop.example/g00896/impl.IsValidAbbreviations -/
def impl_IsValidAbbreviations.l0 : Nat → (List Abbr) → (List Abbr) → Int → Int → Option (Sum Bool (List Abbr))
  | 0, _, _, _, _ => none
  | k + 1, x0, x5, x6, x7 => bif (decide (x7 < x6)) then (bif decide (0 ≤ x7) then (bif decide (x7 < (x5.length : Int)) then ((impl_isSmall.F k ((x5.getD (x7 : Int).toNat (dflt .abbr)).word) 2 15 (⟨#[45]⟩ : ByteArray)).bind fun r1 => bif (!r1) then (some (.inl false)) else ((impl_isSmall.F k ((x5.getD (x7 : Int).toNat (dflt .abbr)).short) 1 12 (⟨#[46]⟩ : ByteArray)).bind fun r2 => bif (!r2) then (some (.inl false)) else (bif (decide (x7 > 0)) then (bif decide (0 ≤ (IntKind.wrap .i64 (x7 - 1))) then (bif decide ((IntKind.wrap .i64 (x7 - 1)) < (x0.length : Int)) then (bif (!ltS ((x0.getD ((IntKind.wrap .i64 (x7 - 1)) : Int).toNat (dflt .abbr)).word) ((x5.getD (x7 : Int).toNat (dflt .abbr)).word)) then (some (.inl false)) else (impl_IsValidAbbreviations.l0 k x0 x5 x6 (IntKind.wrap .i64 (x7 + 1)))) else none) else none) else (impl_IsValidAbbreviations.l0 k x0 x5 x6 (IntKind.wrap .i64 (x7 + 1)))))) else none) else none) else (some (.inr x0))
def impl_IsValidAbbreviations.F (k : Nat) (a0 : List Abbr) : Option (Bool) := (impl_IsValidAbbreviations.l0 k a0 a0 (a0.length : Int) 0).bind fun y3 => match y3 with | .inl z4 => some z4 | .inr z4 => some (decide ((z4.length : Int) ≤ 15))
def impl_IsValidAbbreviations.C (k : Nat) : Cal → Option CArm := fun c => match c with
  | .f 85 => some (.p [.str, (.int .i64), (.int .i64), .str] _ (fun x => impl_isSmall.F k x.1 x.2.1 x.2.2.1 x.2.2.2.1) (fun r => (.t .bool r)))
  | _ => none
def impl_IsValidAbbreviations.sp0 : List Sp := [.t 0 (.sl .abbr), .t 5 (.sl .abbr), .t 6 (.int .i64), .t 7 (.int .i64)]
def impl_IsValidAbbreviations.sp0_0 : List Sp := [.t 2 .bool]
def impl_IsValidAbbreviations.sp0_1 : List Sp := [.t 0 (.sl .abbr)]
def impl_IsValidAbbreviations.A0 : LArm := .two impl_IsValidAbbreviations.sp0 impl_IsValidAbbreviations.sp0_0 impl_IsValidAbbreviations.sp0_1 (Bool) ((List Abbr)) (fun k x => impl_IsValidAbbreviations.l0 k x.1 x.2.1 x.2.2.1 x.2.2.2.1) .ret (.exit 0) (fun y => (y, ())) (fun x => x.1) (fun y => (y, ())) (fun x => x.1)
def impl_IsValidAbbreviations.L : Nat → Option LArm := fun b => match b with
  | 0 => some impl_IsValidAbbreviations.A0
  | _ => none
theorem impl_IsValidAbbreviations.run (k : Nat) (a0 : List Abbr) : runF envX (tabC (impl_IsValidAbbreviations.C k)) (tabL 41 k impl_IsValidAbbreviations.L) Tryd.f51 [.t (.sl .abbr) a0] (viewR1 (.t .bool)) = impl_IsValidAbbreviations.F k a0 := by kernel_rfl
theorem impl_IsValidAbbreviations.step0 (k : Nat) (x0 : List Abbr) (x5 : List Abbr) (x6 : Int) (x7 : Int) : runC envX (tabC (impl_IsValidAbbreviations.C k)) (tabL 41 k impl_IsValidAbbreviations.L) 0 (loopAt Tryd.f51 0) (stOf 41 impl_IsValidAbbreviations.sp0 (x0, x5, x6, x7, ())) (impl_IsValidAbbreviations.A0.cont 41 k) = impl_IsValidAbbreviations.l0 (k + 1) x0 x5 x6 x7 := by kernel_rfl
theorem impl_IsValidAbbreviations.G (hE : EnvOk Tryd.prog envX) (pv : Nat → Value) (k : Nat) : ∀ cal A, impl_IsValidAbbreviations.C k cal = some A → ArmOk Tryd.prog envX pv cal A := by
  intro cal A h
  unfold impl_IsValidAbbreviations.C at h
  split at h
  · cases h; exact fun x y hy => impl_isSmall.good hE pv k x.1 x.2.1 x.2.2.1 x.2.2.2.1 hy
  · cases h
theorem impl_IsValidAbbreviations.good (hE : EnvOk Tryd.prog envX) (pv : Nat → Value) (k : Nat) (a0 : List Abbr) {y : _} (h : impl_IsValidAbbreviations.F k a0 = some y) : Meets Tryd.prog envX pv (.f 51) (tvals [(.sl .abbr)] (a0, ())) (.t .bool y) :=
  fun_loops hE (t := impl_IsValidAbbreviations.C) k (fun k _ => impl_IsValidAbbreviations.G hE pv k) (f := 51) (fn := Tryd.f51) (by kernel_rfl) rfl (by kernel_rfl) (by kernel_rfl) (lt := impl_IsValidAbbreviations.L) (by kernel_rfl) (fun b A h => by
    unfold impl_IsValidAbbreviations.L at h; split at h
    · cases h; exact ⟨by kernel_rfl, by kernel_rfl, by kernel_rfl, fun _ => rfl, fun _ => rfl, fun _ => rfl⟩
    · cases h) (fun b A h => by
    unfold impl_IsValidAbbreviations.L at h; split at h
    · cases h; exact fun k x => impl_IsValidAbbreviations.step0 k x.1 x.2.1 x.2.2.1 x.2.2.2.1
    · cases h) ((impl_IsValidAbbreviations.run k a0).trans h) fun r hr => wk_view1 hr
/-! ### 130 strings.Trim -/
def strings_Trim.F (a0 : ByteArray) (a1 : ByteArray) : Option (ByteArray) := xTrim1 a0 a1
theorem strings_Trim.good (hE : EnvOk Tryd.prog envX) (pv : Nat → Value) (a0 : ByteArray) (a1 : ByteArray) {y : _} (h : strings_Trim.F a0 a1 = some y) : Meets Tryd.prog envX pv (.f 130) (tvals [.str, .str] (a0, a1, ())) (.t .str y) :=
  ext_trim1 (fn := Tryd.f130) (by kernel_rfl) rfl (by kernel_rfl) Tryd.strings_Trim_one h
/-! ### 86 loop.example/g00896/impl.isPrintable -/
def impl_isPrintable.l0 : Nat → ByteArray → Int → Option (Sum Bool ByteArray)
  | 0, _, _ => none
  | k + 1, x0, x3 => bif (decide (x3 < (x0.size : Int))) then (bif decide (0 ≤ x3) then (bif decide (x3 < (x0.size : Int)) then (bif (decide ((bt x0 (x3 : Int).toNat) < 32)) then (some (.inl false)) else (bif decide (0 ≤ x3) then (bif decide (x3 < (x0.size : Int)) then (bif (decide ((bt x0 (x3 : Int).toNat) > 126)) then (some (.inl false)) else (impl_isPrintable.l0 k x0 (IntKind.wrap .i64 (x3 + 1)))) else none) else none)) else none) else none) else (some (.inr x0))
def impl_isPrintable.F (k : Nat) (a0 : ByteArray) : Option (Bool) := (impl_isPrintable.l0 k a0 0).bind fun y1 => match y1 with | .inl z2 => some z2 | .inr z2 => (strings_Trim.F z2 (⟨#[32]⟩ : ByteArray)).bind fun r3 => some (beqS r3 z2)
def impl_isPrintable.C (k : Nat) : Cal → Option CArm := fun c => match c with
  | .f 130 => some (.p [.str, .str] _ (fun x => strings_Trim.F x.1 x.2.1) (fun r => (.t .str r)))
  | _ => none
def impl_isPrintable.sp0 : List Sp := [.t 0 .str, .t 3 (.int .i64)]
def impl_isPrintable.sp0_0 : List Sp := [.t 2 .bool]
def impl_isPrintable.sp0_1 : List Sp := [.t 0 .str]
def impl_isPrintable.A0 : LArm := .two impl_isPrintable.sp0 impl_isPrintable.sp0_0 impl_isPrintable.sp0_1 (Bool) (ByteArray) (fun k x => impl_isPrintable.l0 k x.1 x.2.1) .ret (.exit 0) (fun y => (y, ())) (fun x => x.1) (fun y => (y, ())) (fun x => x.1)
def impl_isPrintable.L : Nat → Option LArm := fun b => match b with
  | 0 => some impl_isPrintable.A0
  | _ => none
theorem impl_isPrintable.run (k : Nat) (a0 : ByteArray) : runF envX (tabC (impl_isPrintable.C k)) (tabL 24 k impl_isPrintable.L) Tryd.f86 [.t .str a0] (viewR1 (.t .bool)) = impl_isPrintable.F k a0 := by kernel_rfl
theorem impl_isPrintable.step0 (k : Nat) (x0 : ByteArray) (x3 : Int) : runC envX (tabC (impl_isPrintable.C k)) (tabL 24 k impl_isPrintable.L) 0 (loopAt Tryd.f86 0) (stOf 24 impl_isPrintable.sp0 (x0, x3, ())) (impl_isPrintable.A0.cont 24 k) = impl_isPrintable.l0 (k + 1) x0 x3 := by kernel_rfl
theorem impl_isPrintable.G (hE : EnvOk Tryd.prog envX) (pv : Nat → Value) (k : Nat) : ∀ cal A, impl_isPrintable.C k cal = some A → ArmOk Tryd.prog envX pv cal A := by
  intro cal A h
  unfold impl_isPrintable.C at h
  split at h
  · cases h; exact fun x y hy => strings_Trim.good hE pv x.1 x.2.1 hy
  · cases h
theorem impl_isPrintable.good (hE : EnvOk Tryd.prog envX) (pv : Nat → Value) (k : Nat) (a0 : ByteArray) {y : _} (h : impl_isPrintable.F k a0 = some y) : Meets Tryd.prog envX pv (.f 86) (tvals [.str] (a0, ())) (.t .bool y) :=
  fun_loops hE (t := impl_isPrintable.C) k (fun k _ => impl_isPrintable.G hE pv k) (f := 86) (fn := Tryd.f86) (by kernel_rfl) rfl (by kernel_rfl) (by kernel_rfl) (lt := impl_isPrintable.L) (by kernel_rfl) (fun b A h => by
    unfold impl_isPrintable.L at h; split at h
    · cases h; exact ⟨by kernel_rfl, by kernel_rfl, by kernel_rfl, fun _ => rfl, fun _ => rfl, fun _ => rfl⟩
    · cases h) (fun b A h => by
    unfold impl_isPrintable.L at h; split at h
    · cases h; exact fun k x => impl_isPrintable.step0 k x.1 x.2.1
    · cases h) ((impl_isPrintable.run k a0).trans h) fun r hr => wk_view1 hr
/-! ### 52 loop.example/g00896/impl.isText -/
def impl_isText.F (k : Nat) (a0 : ByteArray) : Option (Bool) := bif (decide ((a0.size : Int) ≤ 40)) then ((impl_isPrintable.F k a0).bind fun r1 => some r1) else (some false)
def impl_isText.C (k : Nat) : Cal → Option CArm := fun c => match c with
  | .f 86 => some (.p [.str] _ (fun x => impl_isPrintable.F k x.1) (fun r => (.t .bool r)))
  | _ => none
theorem impl_isText.run (k : Nat) (a0 : ByteArray) : runF envX (tabC (impl_isText.C k)) (tabL 10 0 (fun _ => none)) Tryd.f52 [.t .str a0] (viewR1 (.t .bool)) = impl_isText.F k a0 := by kernel_rfl
theorem impl_isText.G (hE : EnvOk Tryd.prog envX) (pv : Nat → Value) (k : Nat) : ∀ cal A, impl_isText.C k cal = some A → ArmOk Tryd.prog envX pv cal A := by
  intro cal A h
  unfold impl_isText.C at h
  split at h
  · cases h; exact fun x y hy => impl_isPrintable.good hE pv k x.1 hy
  · cases h
theorem impl_isText.good (hE : EnvOk Tryd.prog envX) (pv : Nat → Value) (k : Nat) (a0 : ByteArray) {y : _} (h : impl_isText.F k a0 = some y) : Meets Tryd.prog envX pv (.f 52) (tvals [.str] (a0, ())) (.t .bool y) :=
  fun_plain hE (impl_isText.G hE pv k) (f := 52) (fn := Tryd.f52) (by kernel_rfl) rfl (by kernel_rfl) (by kernel_rfl) ((impl_isText.run k a0).trans h) fun r hr => wk_view1 hr
-- NO 90 slices.IndexFunc[[]string,string]: a parameter's type
-- NO 54 slices.DeleteFunc[[]string,string]: a parameter's type
/-! ### 131 strings.Split -/
def strings_Split.F (a0 : ByteArray) (a1 : ByteArray) : Option (List ByteArray) := xSplit a0 a1
theorem strings_Split.good (hE : EnvOk Tryd.prog envX) (pv : Nat → Value) (a0 : ByteArray) (a1 : ByteArray) {y : _} (h : strings_Split.F a0 a1 = some y) : Meets Tryd.prog envX pv (.f 131) (tvals [.str, .str] (a0, a1, ())) (.fr 9 .str y) :=
  ext_split (fn := Tryd.f131) (by kernel_rfl) rfl (by kernel_rfl) (mx := 1) (by kernel_rfl) Tryd.strings_Split h
/-! ### 132 loop.example/g00896/impl.wordsOf$1 -/
def impl_wordsOf_1.F (a0 : ByteArray) : Option (Bool) := some (beqS a0 (⟨#[]⟩ : ByteArray))
def impl_wordsOf_1.C : Cal → Option CArm := fun c => match c with
  | _ => none
theorem impl_wordsOf_1.run (a0 : ByteArray) : runF envX (tabC impl_wordsOf_1.C) (tabL 5 0 (fun _ => none)) Tryd.f132 [.t .str a0] (viewR1 (.t .bool)) = impl_wordsOf_1.F a0 := by kernel_rfl
theorem impl_wordsOf_1.G (hE : EnvOk Tryd.prog envX) (pv : Nat → Value) : ∀ cal A, impl_wordsOf_1.C cal = some A → ArmOk Tryd.prog envX pv cal A := by
  intro cal A h
  unfold impl_wordsOf_1.C at h
  cases h
theorem impl_wordsOf_1.good (hE : EnvOk Tryd.prog envX) (pv : Nat → Value) (a0 : ByteArray) {y : _} (h : impl_wordsOf_1.F a0 = some y) : Meets Tryd.prog envX pv (.f 132) (tvals [.str] (a0, ())) (.t .bool y) :=
  fun_plain hE (impl_wordsOf_1.G hE pv) (f := 132) (fn := Tryd.f132) (by kernel_rfl) rfl (by kernel_rfl) (by kernel_rfl) ((impl_wordsOf_1.run a0).trans h) fun r hr => wk_view1 hr
/-! ### 90 slices.IndexFunc[[]string,string] at loop.example/g00896/impl.wordsOf$1 -/
def slices_IndexFunc_string_f132.l0 : Nat → (List ByteArray) → Int → Int → Option (Sum Int Unit)
  | 0, _, _, _ => none
  | k + 1, x0, x7, x8 => bif (decide (x8 < x7)) then (bif decide (0 ≤ x8) then (bif decide (x8 < (x0.length : Int)) then ((impl_wordsOf_1.F (x0.getD (x8 : Int).toNat (⟨#[]⟩ : ByteArray))).bind fun r1 => bif r1 then (some (.inl x8)) else (slices_IndexFunc_string_f132.l0 k x0 x7 (IntKind.wrap .i64 (x8 + 1)))) else none) else none) else (some (.inr ()))
def slices_IndexFunc_string_f132.F (k : Nat) (a0 : List ByteArray) : Option (Int) := (slices_IndexFunc_string_f132.l0 k a0 (a0.length : Int) 0).bind fun y2 => match y2 with | .inl z3 => some z3 | .inr z3 => some (-1)
def slices_IndexFunc_string_f132.C (k : Nat) : Cal → Option CArm := fun c => match c with
  | .f 132 => some (.p [.str] _ (fun x => impl_wordsOf_1.F x.1) (fun r => (.t .bool r)))
  | _ => none
def slices_IndexFunc_string_f132.sp0 : List Sp := [.t 0 (.sl .str), .con 1 (.clo 132), .t 7 (.int .i64), .t 8 (.int .i64)]
def slices_IndexFunc_string_f132.sp0_0 : List Sp := [.t 4 (.int .i64)]
def slices_IndexFunc_string_f132.sp0_1 : List Sp := []
def slices_IndexFunc_string_f132.A0 : LArm := .two slices_IndexFunc_string_f132.sp0 slices_IndexFunc_string_f132.sp0_0 slices_IndexFunc_string_f132.sp0_1 (Int) (Unit) (fun k x => slices_IndexFunc_string_f132.l0 k x.1 x.2.2.1 x.2.2.2.1) .ret (.exit 0) (fun y => (y, ())) (fun x => x.1) (fun y => ()) (fun x => ())
def slices_IndexFunc_string_f132.L : Nat → Option LArm := fun b => match b with
  | 0 => some slices_IndexFunc_string_f132.A0
  | _ => none
theorem slices_IndexFunc_string_f132.run (k : Nat) (a0 : List ByteArray) : runF envX (tabC (slices_IndexFunc_string_f132.C k)) (tabL 19 k slices_IndexFunc_string_f132.L) Tryd.f90 [.t (.sl .str) a0, .clo 132 []] (viewR1 (.t (.int .i64))) = slices_IndexFunc_string_f132.F k a0 := by kernel_rfl
theorem slices_IndexFunc_string_f132.step0 (k : Nat) (x0 : List ByteArray) (x7 : Int) (x8 : Int) : runC envX (tabC (slices_IndexFunc_string_f132.C k)) (tabL 19 k slices_IndexFunc_string_f132.L) 0 (loopAt Tryd.f90 0) (stOf 19 slices_IndexFunc_string_f132.sp0 (x0, (), x7, x8, ())) (slices_IndexFunc_string_f132.A0.cont 19 k) = slices_IndexFunc_string_f132.l0 (k + 1) x0 x7 x8 := by kernel_rfl
theorem slices_IndexFunc_string_f132.G (hE : EnvOk Tryd.prog envX) (pv : Nat → Value) (k : Nat) : ∀ cal A, slices_IndexFunc_string_f132.C k cal = some A → ArmOk Tryd.prog envX pv cal A := by
  intro cal A h
  unfold slices_IndexFunc_string_f132.C at h
  split at h
  · cases h; exact fun x y hy => impl_wordsOf_1.good hE pv x.1 hy
  · cases h
theorem slices_IndexFunc_string_f132.good (hE : EnvOk Tryd.prog envX) (pv : Nat → Value) (k : Nat) (a0 : List ByteArray) {y : _} (h : slices_IndexFunc_string_f132.F k a0 = some y) : Meets Tryd.prog envX pv (.f 90) (pvals [.t (.sl .str), .clo 132 []] (a0, (()), ())) (.t (.int .i64) y) :=
  fun_loops hE (t := slices_IndexFunc_string_f132.C) k (fun k _ => slices_IndexFunc_string_f132.G hE pv k) (f := 90) (fn := Tryd.f90) (by kernel_rfl) rfl (by kernel_rfl) (by kernel_rfl) (lt := slices_IndexFunc_string_f132.L) (by kernel_rfl) (fun b A h => by
    unfold slices_IndexFunc_string_f132.L at h; split at h
    · cases h; exact ⟨by kernel_rfl, by kernel_rfl, by kernel_rfl, fun _ => rfl, fun _ => rfl, fun _ => rfl⟩
    · cases h) (fun b A h => by
    unfold slices_IndexFunc_string_f132.L at h; split at h
    · cases h; exact fun k x => slices_IndexFunc_string_f132.step0 k x.1 x.2.2.1 x.2.2.2.1
    · cases h) ((slices_IndexFunc_string_f132.run k a0).trans h) fun r hr => wk_view1 hr
/-! ### 54 slices.DeleteFunc[[]string,string] at loop.example/g00896/impl.wordsOf$1 -/
def slices_DeleteFunc_string_f132.l0 : Nat → (List ByteArray) → Int → Int → Option ((List ByteArray) × Int)
  | 0, _, _, _ => none
  | k + 1, x0, x5, x6 => bif (decide (x6 < (x0.length : Int))) then (bif decide (0 ≤ x6) then (bif decide (x6 < (x0.length : Int)) then ((impl_wordsOf_1.F (x0.getD ((x6 : Int).toNat) (⟨#[]⟩ : ByteArray))).bind fun r2 => bif (!r2) then (bif decide (0 ≤ x5) then (bif decide (x5 < (x0.length : Int)) then (slices_DeleteFunc_string_f132.l0 k (x0.set ((x5 : Int).toNat) (x0.getD ((x6 : Int).toNat) (⟨#[]⟩ : ByteArray))) (IntKind.wrap .i64 (x5 + 1)) (IntKind.wrap .i64 (x6 + 1))) else none) else none) else (slices_DeleteFunc_string_f132.l0 k x0 x5 (IntKind.wrap .i64 (x6 + 1)))) else none) else none) else (some (x0, x5))
def slices_DeleteFunc_string_f132.F (k : Nat) (a0 : List ByteArray) : Option (List ByteArray) := (slices_IndexFunc_string_f132.F k a0).bind fun r1 => bif (r1 == (-1)) then (some a0) else ((slices_DeleteFunc_string_f132.l0 k a0 r1 (IntKind.wrap .i64 (r1 + 1))).bind fun y3 => bif decide (0 ≤ y3.2) then (bif decide (y3.2 ≤ (y3.1.length : Int)) then (bif decide (0 ≤ y3.2) then (bif decide (y3.2 ≤ ((y3.1.take ((y3.2 : Int).toNat) ++ List.replicate (y3.1.length - ((y3.2 : Int).toNat)) (⟨#[]⟩ : ByteArray)).length : Int)) then (some ((y3.1.take ((y3.2 : Int).toNat) ++ List.replicate (y3.1.length - ((y3.2 : Int).toNat)) (⟨#[]⟩ : ByteArray)).take (y3.2 : Int).toNat)) else none) else none) else none) else none)
def slices_DeleteFunc_string_f132.C (k : Nat) : Cal → Option CArm := fun c => match c with
  | .f 90 => some (.q [.t (.sl .str), .clo 132 []] _ (fun x => slices_IndexFunc_string_f132.F k x.1) (fun r => (.t (.int .i64) r)))
  | .f 132 => some (.p [.str] _ (fun x => impl_wordsOf_1.F x.1) (fun r => (.t .bool r)))
  | _ => none
def slices_DeleteFunc_string_f132.sp0 : List Sp := [.own 0 1099511627777 9 .str false true, .con 1 (.clo 132), .t 5 (.int .i64), .t 6 (.int .i64)]
def slices_DeleteFunc_string_f132.sp0_0 : List Sp := [.own 0 1099511627777 9 .str false true, .t 5 (.int .i64)]
def slices_DeleteFunc_string_f132.A0 : LArm := .one slices_DeleteFunc_string_f132.sp0 slices_DeleteFunc_string_f132.sp0_0 ((List ByteArray) × Int) (fun k x => slices_DeleteFunc_string_f132.l0 k x.1 x.2.2.1 x.2.2.2.1) (.exit 0) (fun y => (y.1, y.2, ())) (fun x => (x.1, x.2.1))
def slices_DeleteFunc_string_f132.L : Nat → Option LArm := fun b => match b with
  | 0 => some slices_DeleteFunc_string_f132.A0
  | _ => none
theorem slices_DeleteFunc_string_f132.run (k : Nat) (a0 : List ByteArray) : runM envX (tabC (slices_DeleteFunc_string_f132.C k)) (tabL 42 k slices_DeleteFunc_string_f132.L) Tryd.f54 mmove (.fr 9 .str a0) [.clo 132 []] (viewMov 9 .str) = slices_DeleteFunc_string_f132.F k a0 := by kernel_rfl
theorem slices_DeleteFunc_string_f132.step0 (k : Nat) (x0 : List ByteArray) (x5 : Int) (x6 : Int) : runC envX (tabC (slices_DeleteFunc_string_f132.C k)) (tabL 42 k slices_DeleteFunc_string_f132.L) 0 (loopAt Tryd.f54 0) (stOf 42 slices_DeleteFunc_string_f132.sp0 (x0, (), x5, x6, ())) (slices_DeleteFunc_string_f132.A0.cont 42 k) = slices_DeleteFunc_string_f132.l0 (k + 1) x0 x5 x6 := by kernel_rfl
theorem slices_DeleteFunc_string_f132.G (hE : EnvOk Tryd.prog envX) (pv : Nat → Value) (k : Nat) : ∀ cal A, slices_DeleteFunc_string_f132.C k cal = some A → ArmOk Tryd.prog envX pv cal A := by
  intro cal A h
  unfold slices_DeleteFunc_string_f132.C at h
  split at h
  · cases h; exact fun x y hy => slices_IndexFunc_string_f132.good hE pv k x.1 hy
  · cases h; exact fun x y hy => impl_wordsOf_1.good hE pv x.1 hy
  · cases h
theorem slices_DeleteFunc_string_f132.good (hE : EnvOk Tryd.prog envX) (pv : Nat → Value) (k : Nat) (a0 : List ByteArray) {y : _} (h : slices_DeleteFunc_string_f132.F k a0 = some y) : MeetsM Tryd.prog envX pv 54 (.fr 9 .str a0) (pvals [.clo 132 []] ((()), ())) (.mov 9 .str y) :=
  funM_loops hE (t := slices_DeleteFunc_string_f132.C) k (fun k _ => slices_DeleteFunc_string_f132.G hE pv k) (f := 54) (fn := Tryd.f54) (by kernel_rfl) rfl (by kernel_rfl) (.inr rfl) (by kernel_rfl) (lt := slices_DeleteFunc_string_f132.L) (by kernel_rfl) (fun b A h => by
    unfold slices_DeleteFunc_string_f132.L at h; split at h
    · cases h; exact ⟨by kernel_rfl, by kernel_rfl, fun _ => rfl, fun _ => rfl⟩
    · cases h) (fun b A h => by
    unfold slices_DeleteFunc_string_f132.L at h; split at h
    · cases h; exact fun k x => slices_DeleteFunc_string_f132.step0 k x.1 x.2.2.1 x.2.2.2.1
    · cases h) ((slices_DeleteFunc_string_f132.run k a0).trans h) fun r hr => wk_viewMov hr
/-! ### 87 loop.example/g00896/impl.wordsOf -/
def impl_wordsOf.F (k : Nat) (a0 : ByteArray) : Option (List ByteArray) := (strings_Split.F a0 (⟨#[32]⟩ : ByteArray)).bind fun r1 => (slices_DeleteFunc_string_f132.F k r1).bind fun r2 => some r2
def impl_wordsOf.C (k : Nat) : Cal → Option CArm := fun c => match c with
  | .f 131 => some (.p [.str, .str] _ (fun x => strings_Split.F x.1 x.2.1) (fun r => (.fr 9 .str r)))
  | .f 54 => some (.mq (.fr 9 .str) [.clo 132 []] _ (fun x0 x => slices_DeleteFunc_string_f132.F k x0) (fun r => .mov 9 .str r))
  | _ => none
theorem impl_wordsOf.run (k : Nat) (a0 : ByteArray) : runF envX (tabC (impl_wordsOf.C k)) (tabL 6 0 (fun _ => none)) Tryd.f87 [.t .str a0] (viewR1 (.fr 9 .str)) = impl_wordsOf.F k a0 := by kernel_rfl
theorem impl_wordsOf.G (hE : EnvOk Tryd.prog envX) (pv : Nat → Value) (k : Nat) : ∀ cal A, impl_wordsOf.C k cal = some A → ArmOk Tryd.prog envX pv cal A := by
  intro cal A h
  unfold impl_wordsOf.C at h
  split at h
  · cases h; exact fun x y hy => strings_Split.good hE pv x.1 x.2.1 hy
  · cases h; exact ⟨_, rfl, fun x0 x y hy => slices_DeleteFunc_string_f132.good hE pv k x0 hy⟩
  · cases h
theorem impl_wordsOf.good (hE : EnvOk Tryd.prog envX) (pv : Nat → Value) (k : Nat) (a0 : ByteArray) {y : _} (h : impl_wordsOf.F k a0 = some y) : Meets Tryd.prog envX pv (.f 87) (tvals [.str] (a0, ())) (.fr 9 .str y) :=
  fun_plain hE (impl_wordsOf.G hE pv k) (f := 87) (fn := Tryd.f87) (by kernel_rfl) rfl (by kernel_rfl) (by kernel_rfl) ((impl_wordsOf.run k a0).trans h) fun r hr => wk_view1 hr
/-! ### 88 slices.Clone[[]string,string] -/
def slices_Clone_string.F (a0 : List ByteArray) : Option (List ByteArray) := xClone a0
theorem slices_Clone_string.good (hE : EnvOk Tryd.prog envX) (pv : Nat → Value) (a0 : List ByteArray) {y : _} (h : slices_Clone_string.F a0 = some y) : Meets Tryd.prog envX pv (.f 88) (tvals [(.sl .str)] (a0, ())) (.fr 9 .str y) :=
  ext_clone (fn := Tryd.f88) (by kernel_rfl) rfl (by kernel_rfl) Tryd.slices_Clone_string Tryd.slices_Clone_string_nil Tryd.slices_Clone_string_zero h
/-! ### 91 loop.example/g00896/impl.isUpper -/
def impl_isUpper.F (a0 : Int) : Option (Bool) := bif (decide (a0 ≥ 65)) then (some (decide (a0 ≤ 90))) else (some false)
def impl_isUpper.C : Cal → Option CArm := fun c => match c with
  | _ => none
theorem impl_isUpper.run (a0 : Int) : runF envX (tabC impl_isUpper.C) (tabL 9 0 (fun _ => none)) Tryd.f91 [.t (.int .u8) a0] (viewR1 (.t .bool)) = impl_isUpper.F a0 := by kernel_rfl
theorem impl_isUpper.G (hE : EnvOk Tryd.prog envX) (pv : Nat → Value) : ∀ cal A, impl_isUpper.C cal = some A → ArmOk Tryd.prog envX pv cal A := by
  intro cal A h
  unfold impl_isUpper.C at h
  cases h
theorem impl_isUpper.good (hE : EnvOk Tryd.prog envX) (pv : Nat → Value) (a0 : Int) {y : _} (h : impl_isUpper.F a0 = some y) : Meets Tryd.prog envX pv (.f 91) (tvals [(.int .u8)] (a0, ())) (.t .bool y) :=
  fun_plain hE (impl_isUpper.G hE pv) (f := 91) (fn := Tryd.f91) (by kernel_rfl) rfl (by kernel_rfl) (by kernel_rfl) ((impl_isUpper.run a0).trans h) fun r hr => wk_view1 hr
/-! ### 99 loop.example/g00896/impl.lower -/
def impl_lower.l0 : Nat → (List Int) → Int → Int → Option ((List Int))
  | 0, _, _, _ => none
  | k + 1, x3, x9, x10 => bif (decide (x10 < x9)) then (bif decide (0 ≤ x10) then (bif decide (x10 < (x3.length : Int)) then ((impl_isUpper.F (x3.getD ((x10 : Int).toNat) 0)).bind fun r1 => bif r1 then (bif decide (0 ≤ x10) then (bif decide (x10 < (x3.length : Int)) then (impl_lower.l0 k (x3.set ((x10 : Int).toNat) (IntKind.wrap .u8 ((IntKind.wrap .u8 ((x3.getD ((x10 : Int).toNat) 0) + 97)) - 65))) x9 (IntKind.wrap .i64 (x10 + 1))) else none) else none) else (impl_lower.l0 k x3 x9 (IntKind.wrap .i64 (x10 + 1)))) else none) else none) else (some x3)
def impl_lower.F (k : Nat) (a0 : ByteArray) : Option (ByteArray) := bif Nat.ble a0.size 9223372036854775807 then ((impl_lower.l0 k (bytesL a0) ((bytesL a0).length : Int) 0).bind fun y2 => some (strL y2)) else none
def impl_lower.C (k : Nat) : Cal → Option CArm := fun c => match c with
  | .f 91 => some (.p [(.int .u8)] _ (fun x => impl_isUpper.F x.1) (fun r => (.t .bool r)))
  | _ => none
def impl_lower.sp0 : List Sp := [.own 3 1028 5 (.int .u8) false false, .con 8 (.own 1028), .t 9 (.int .i64), .t 10 (.int .i64)]
def impl_lower.sp0_0 : List Sp := [.own 3 1028 5 (.int .u8) false false]
def impl_lower.A0 : LArm := .one impl_lower.sp0 impl_lower.sp0_0 ((List Int)) (fun k x => impl_lower.l0 k x.1 x.2.2.1 x.2.2.2.1) (.exit 0) (fun y => (y, ())) (fun x => x.1)
def impl_lower.L : Nat → Option LArm := fun b => match b with
  | 0 => some impl_lower.A0
  | _ => none
theorem impl_lower.run (k : Nat) (a0 : ByteArray) : runF envX (tabC (impl_lower.C k)) (tabL 26 k impl_lower.L) Tryd.f99 [.t .str a0] (viewR1 (.t .str)) = impl_lower.F k a0 := by kernel_rfl
theorem impl_lower.step0 (k : Nat) (x3 : List Int) (x9 : Int) (x10 : Int) : runC envX (tabC (impl_lower.C k)) (tabL 26 k impl_lower.L) 0 (loopAt Tryd.f99 0) (stOf 26 impl_lower.sp0 (x3, (), x9, x10, ())) (impl_lower.A0.cont 26 k) = impl_lower.l0 (k + 1) x3 x9 x10 := by kernel_rfl
theorem impl_lower.G (hE : EnvOk Tryd.prog envX) (pv : Nat → Value) (k : Nat) : ∀ cal A, impl_lower.C k cal = some A → ArmOk Tryd.prog envX pv cal A := by
  intro cal A h
  unfold impl_lower.C at h
  split at h
  · cases h; exact fun x y hy => impl_isUpper.good hE pv x.1 hy
  · cases h
theorem impl_lower.good (hE : EnvOk Tryd.prog envX) (pv : Nat → Value) (k : Nat) (a0 : ByteArray) {y : _} (h : impl_lower.F k a0 = some y) : Meets Tryd.prog envX pv (.f 99) (tvals [.str] (a0, ())) (.t .str y) :=
  fun_loops hE (t := impl_lower.C) k (fun k _ => impl_lower.G hE pv k) (f := 99) (fn := Tryd.f99) (by kernel_rfl) rfl (by kernel_rfl) (by kernel_rfl) (lt := impl_lower.L) (by kernel_rfl) (fun b A h => by
    unfold impl_lower.L at h; split at h
    · cases h; exact ⟨by kernel_rfl, by kernel_rfl, fun _ => rfl, fun _ => rfl⟩
    · cases h) (fun b A h => by
    unfold impl_lower.L at h; split at h
    · cases h; exact fun k x => impl_lower.step0 k x.1 x.2.2.1 x.2.2.2.1
    · cases h) ((impl_lower.run k a0).trans h) fun r hr => wk_view1 hr
/-! ### 89 loop.example/g00896/impl.isOmitted -/
def impl_isOmitted.F (k : Nat) (a0 : ByteArray) : Option (Bool) := (impl_lower.F k a0).bind fun r1 => bif (beqS r1 (⟨#[97]⟩ : ByteArray)) then (bif (beqS r1 (⟨#[97]⟩ : ByteArray)) then (some true) else (some false)) else (bif (beqS r1 (⟨#[97, 110]⟩ : ByteArray)) then (bif (beqS r1 (⟨#[97, 110]⟩ : ByteArray)) then (some true) else (some false)) else (bif (beqS r1 (⟨#[97, 110, 100]⟩ : ByteArray)) then (bif (beqS r1 (⟨#[97, 110, 100]⟩ : ByteArray)) then (some true) else (some false)) else (bif (beqS r1 (⟨#[102, 111, 114]⟩ : ByteArray)) then (bif (beqS r1 (⟨#[102, 111, 114]⟩ : ByteArray)) then (some true) else (some false)) else (bif (beqS r1 (⟨#[105, 110]⟩ : ByteArray)) then (bif (beqS r1 (⟨#[105, 110]⟩ : ByteArray)) then (some true) else (some false)) else (bif (beqS r1 (⟨#[111, 102]⟩ : ByteArray)) then (bif (beqS r1 (⟨#[111, 102]⟩ : ByteArray)) then (some true) else (some false)) else (bif (beqS r1 (⟨#[111, 110]⟩ : ByteArray)) then (bif (beqS r1 (⟨#[111, 110]⟩ : ByteArray)) then (some true) else (some false)) else (bif (beqS r1 (⟨#[116, 104, 101]⟩ : ByteArray)) then (some true) else (some false))))))))
def impl_isOmitted.C (k : Nat) : Cal → Option CArm := fun c => match c with
  | .f 99 => some (.p [.str] _ (fun x => impl_lower.F k x.1) (fun r => (.t .str r)))
  | _ => none
theorem impl_isOmitted.run (k : Nat) (a0 : ByteArray) : runF envX (tabC (impl_isOmitted.C k)) (tabL 14 0 (fun _ => none)) Tryd.f89 [.t .str a0] (viewR1 (.t .bool)) = impl_isOmitted.F k a0 := by kernel_rfl
theorem impl_isOmitted.G (hE : EnvOk Tryd.prog envX) (pv : Nat → Value) (k : Nat) : ∀ cal A, impl_isOmitted.C k cal = some A → ArmOk Tryd.prog envX pv cal A := by
  intro cal A h
  unfold impl_isOmitted.C at h
  split at h
  · cases h; exact fun x y hy => impl_lower.good hE pv k x.1 hy
  · cases h
theorem impl_isOmitted.good (hE : EnvOk Tryd.prog envX) (pv : Nat → Value) (k : Nat) (a0 : ByteArray) {y : _} (h : impl_isOmitted.F k a0 = some y) : Meets Tryd.prog envX pv (.f 89) (tvals [.str] (a0, ())) (.t .bool y) :=
  fun_plain hE (impl_isOmitted.G hE pv k) (f := 89) (fn := Tryd.f89) (by kernel_rfl) rfl (by kernel_rfl) (by kernel_rfl) ((impl_isOmitted.run k a0).trans h) fun r hr => wk_view1 hr
/-! ### 90 slices.IndexFunc[[]string,string] at loop.example/g00896/impl.isOmitted -/
def slices_IndexFunc_string_f89.l0 : Nat → (List ByteArray) → Int → Int → Option (Sum Int Unit)
  | 0, _, _, _ => none
  | k + 1, x0, x7, x8 => bif (decide (x8 < x7)) then (bif decide (0 ≤ x8) then (bif decide (x8 < (x0.length : Int)) then ((impl_isOmitted.F k (x0.getD (x8 : Int).toNat (⟨#[]⟩ : ByteArray))).bind fun r1 => bif r1 then (some (.inl x8)) else (slices_IndexFunc_string_f89.l0 k x0 x7 (IntKind.wrap .i64 (x8 + 1)))) else none) else none) else (some (.inr ()))
def slices_IndexFunc_string_f89.F (k : Nat) (a0 : List ByteArray) : Option (Int) := (slices_IndexFunc_string_f89.l0 k a0 (a0.length : Int) 0).bind fun y2 => match y2 with | .inl z3 => some z3 | .inr z3 => some (-1)
def slices_IndexFunc_string_f89.C (k : Nat) : Cal → Option CArm := fun c => match c with
  | .f 89 => some (.p [.str] _ (fun x => impl_isOmitted.F k x.1) (fun r => (.t .bool r)))
  | _ => none
def slices_IndexFunc_string_f89.sp0 : List Sp := [.t 0 (.sl .str), .con 1 (.clo 89), .t 7 (.int .i64), .t 8 (.int .i64)]
def slices_IndexFunc_string_f89.sp0_0 : List Sp := [.t 4 (.int .i64)]
def slices_IndexFunc_string_f89.sp0_1 : List Sp := []
def slices_IndexFunc_string_f89.A0 : LArm := .two slices_IndexFunc_string_f89.sp0 slices_IndexFunc_string_f89.sp0_0 slices_IndexFunc_string_f89.sp0_1 (Int) (Unit) (fun k x => slices_IndexFunc_string_f89.l0 k x.1 x.2.2.1 x.2.2.2.1) .ret (.exit 0) (fun y => (y, ())) (fun x => x.1) (fun y => ()) (fun x => ())
def slices_IndexFunc_string_f89.L : Nat → Option LArm := fun b => match b with
  | 0 => some slices_IndexFunc_string_f89.A0
  | _ => none
theorem slices_IndexFunc_string_f89.run (k : Nat) (a0 : List ByteArray) : runF envX (tabC (slices_IndexFunc_string_f89.C k)) (tabL 19 k slices_IndexFunc_string_f89.L) Tryd.f90 [.t (.sl .str) a0, .clo 89 []] (viewR1 (.t (.int .i64))) = slices_IndexFunc_string_f89.F k a0 := by kernel_rfl
theorem slices_IndexFunc_string_f89.step0 (k : Nat) (x0 : List ByteArray) (x7 : Int) (x8 : Int) : runC envX (tabC (slices_IndexFunc_string_f89.C k)) (tabL 19 k slices_IndexFunc_string_f89.L) 0 (loopAt Tryd.f90 0) (stOf 19 slices_IndexFunc_string_f89.sp0 (x0, (), x7, x8, ())) (slices_IndexFunc_string_f89.A0.cont 19 k) = slices_IndexFunc_string_f89.l0 (k + 1) x0 x7 x8 := by kernel_rfl
theorem slices_IndexFunc_string_f89.G (hE : EnvOk Tryd.prog envX) (pv : Nat → Value) (k : Nat) : ∀ cal A, slices_IndexFunc_string_f89.C k cal = some A → ArmOk Tryd.prog envX pv cal A := by
  intro cal A h
  unfold slices_IndexFunc_string_f89.C at h
  split at h
  · cases h; exact fun x y hy => impl_isOmitted.good hE pv k x.1 hy
  · cases h
theorem slices_IndexFunc_string_f89.good (hE : EnvOk Tryd.prog envX) (pv : Nat → Value) (k : Nat) (a0 : List ByteArray) {y : _} (h : slices_IndexFunc_string_f89.F k a0 = some y) : Meets Tryd.prog envX pv (.f 90) (pvals [.t (.sl .str), .clo 89 []] (a0, (()), ())) (.t (.int .i64) y) :=
  fun_loops hE (t := slices_IndexFunc_string_f89.C) k (fun k _ => slices_IndexFunc_string_f89.G hE pv k) (f := 90) (fn := Tryd.f90) (by kernel_rfl) rfl (by kernel_rfl) (by kernel_rfl) (lt := slices_IndexFunc_string_f89.L) (by kernel_rfl) (fun b A h => by
    unfold slices_IndexFunc_string_f89.L at h; split at h
    · cases h; exact ⟨by kernel_rfl, by kernel_rfl, by kernel_rfl, fun _ => rfl, fun _ => rfl, fun _ => rfl⟩
    · cases h) (fun b A h => by
    unfold slices_IndexFunc_string_f89.L at h; split at h
    · cases h; exact fun k x => slices_IndexFunc_string_f89.step0 k x.1 x.2.2.1 x.2.2.2.1
    · cases h) ((slices_IndexFunc_string_f89.run k a0).trans h) fun r hr => wk_view1 hr
/-! ### 54 slices.DeleteFunc[[]string,string] at loop.example/g00896/impl.isOmitted -/
def slices_DeleteFunc_string_f89.l0 : Nat → (List ByteArray) → Int → Int → Option ((List ByteArray) × Int)
  | 0, _, _, _ => none
  | k + 1, x0, x5, x6 => bif (decide (x6 < (x0.length : Int))) then (bif decide (0 ≤ x6) then (bif decide (x6 < (x0.length : Int)) then ((impl_isOmitted.F k (x0.getD ((x6 : Int).toNat) (⟨#[]⟩ : ByteArray))).bind fun r2 => bif (!r2) then (bif decide (0 ≤ x5) then (bif decide (x5 < (x0.length : Int)) then (slices_DeleteFunc_string_f89.l0 k (x0.set ((x5 : Int).toNat) (x0.getD ((x6 : Int).toNat) (⟨#[]⟩ : ByteArray))) (IntKind.wrap .i64 (x5 + 1)) (IntKind.wrap .i64 (x6 + 1))) else none) else none) else (slices_DeleteFunc_string_f89.l0 k x0 x5 (IntKind.wrap .i64 (x6 + 1)))) else none) else none) else (some (x0, x5))
def slices_DeleteFunc_string_f89.F (k : Nat) (a0 : List ByteArray) : Option (List ByteArray) := (slices_IndexFunc_string_f89.F k a0).bind fun r1 => bif (r1 == (-1)) then (some a0) else ((slices_DeleteFunc_string_f89.l0 k a0 r1 (IntKind.wrap .i64 (r1 + 1))).bind fun y3 => bif decide (0 ≤ y3.2) then (bif decide (y3.2 ≤ (y3.1.length : Int)) then (bif decide (0 ≤ y3.2) then (bif decide (y3.2 ≤ ((y3.1.take ((y3.2 : Int).toNat) ++ List.replicate (y3.1.length - ((y3.2 : Int).toNat)) (⟨#[]⟩ : ByteArray)).length : Int)) then (some ((y3.1.take ((y3.2 : Int).toNat) ++ List.replicate (y3.1.length - ((y3.2 : Int).toNat)) (⟨#[]⟩ : ByteArray)).take (y3.2 : Int).toNat)) else none) else none) else none) else none)
def slices_DeleteFunc_string_f89.C (k : Nat) : Cal → Option CArm := fun c => match c with
  | .f 90 => some (.q [.t (.sl .str), .clo 89 []] _ (fun x => slices_IndexFunc_string_f89.F k x.1) (fun r => (.t (.int .i64) r)))
  | .f 89 => some (.p [.str] _ (fun x => impl_isOmitted.F k x.1) (fun r => (.t .bool r)))
  | _ => none
def slices_DeleteFunc_string_f89.sp0 : List Sp := [.own 0 1099511627777 9 .str false true, .con 1 (.clo 89), .t 5 (.int .i64), .t 6 (.int .i64)]
def slices_DeleteFunc_string_f89.sp0_0 : List Sp := [.own 0 1099511627777 9 .str false true, .t 5 (.int .i64)]
def slices_DeleteFunc_string_f89.A0 : LArm := .one slices_DeleteFunc_string_f89.sp0 slices_DeleteFunc_string_f89.sp0_0 ((List ByteArray) × Int) (fun k x => slices_DeleteFunc_string_f89.l0 k x.1 x.2.2.1 x.2.2.2.1) (.exit 0) (fun y => (y.1, y.2, ())) (fun x => (x.1, x.2.1))
def slices_DeleteFunc_string_f89.L : Nat → Option LArm := fun b => match b with
  | 0 => some slices_DeleteFunc_string_f89.A0
  | _ => none
theorem slices_DeleteFunc_string_f89.run (k : Nat) (a0 : List ByteArray) : runM envX (tabC (slices_DeleteFunc_string_f89.C k)) (tabL 42 k slices_DeleteFunc_string_f89.L) Tryd.f54 mmove (.fr 9 .str a0) [.clo 89 []] (viewMov 9 .str) = slices_DeleteFunc_string_f89.F k a0 := by kernel_rfl
theorem slices_DeleteFunc_string_f89.step0 (k : Nat) (x0 : List ByteArray) (x5 : Int) (x6 : Int) : runC envX (tabC (slices_DeleteFunc_string_f89.C k)) (tabL 42 k slices_DeleteFunc_string_f89.L) 0 (loopAt Tryd.f54 0) (stOf 42 slices_DeleteFunc_string_f89.sp0 (x0, (), x5, x6, ())) (slices_DeleteFunc_string_f89.A0.cont 42 k) = slices_DeleteFunc_string_f89.l0 (k + 1) x0 x5 x6 := by kernel_rfl
theorem slices_DeleteFunc_string_f89.G (hE : EnvOk Tryd.prog envX) (pv : Nat → Value) (k : Nat) : ∀ cal A, slices_DeleteFunc_string_f89.C k cal = some A → ArmOk Tryd.prog envX pv cal A := by
  intro cal A h
  unfold slices_DeleteFunc_string_f89.C at h
  split at h
  · cases h; exact fun x y hy => slices_IndexFunc_string_f89.good hE pv k x.1 hy
  · cases h; exact fun x y hy => impl_isOmitted.good hE pv k x.1 hy
  · cases h
theorem slices_DeleteFunc_string_f89.good (hE : EnvOk Tryd.prog envX) (pv : Nat → Value) (k : Nat) (a0 : List ByteArray) {y : _} (h : slices_DeleteFunc_string_f89.F k a0 = some y) : MeetsM Tryd.prog envX pv 54 (.fr 9 .str a0) (pvals [.clo 89 []] ((()), ())) (.mov 9 .str y) :=
  funM_loops hE (t := slices_DeleteFunc_string_f89.C) k (fun k _ => slices_DeleteFunc_string_f89.G hE pv k) (f := 54) (fn := Tryd.f54) (by kernel_rfl) rfl (by kernel_rfl) (.inr rfl) (by kernel_rfl) (lt := slices_DeleteFunc_string_f89.L) (by kernel_rfl) (fun b A h => by
    unfold slices_DeleteFunc_string_f89.L at h; split at h
    · cases h; exact ⟨by kernel_rfl, by kernel_rfl, fun _ => rfl, fun _ => rfl⟩
    · cases h) (fun b A h => by
    unfold slices_DeleteFunc_string_f89.L at h; split at h
    · cases h; exact fun k x => slices_DeleteFunc_string_f89.step0 k x.1 x.2.2.1 x.2.2.2.1
    · cases h) ((slices_DeleteFunc_string_f89.run k a0).trans h) fun r hr => wk_viewMov hr
/-! ### 53 loop.example/g00896/impl.told -/
def impl_told.F (k : Nat) (a0 : ByteArray) : Option ((List ByteArray) × Bool) := (impl_wordsOf.F k a0).bind fun r1 => bif (decide ((r1.length : Int) ≤ 1)) then (some (r1, false)) else ((slices_Clone_string.F r1).bind fun r2 => (slices_DeleteFunc_string_f89.F k r2).bind fun r3 => bif ((r3.length : Int) == 0) then (some (r1, true)) else (some (r3, true)))
def impl_told.C (k : Nat) : Cal → Option CArm := fun c => match c with
  | .f 87 => some (.p [.str] _ (fun x => impl_wordsOf.F k x.1) (fun r => (.fr 9 .str r)))
  | .f 88 => some (.p [(.sl .str)] _ (fun x => slices_Clone_string.F x.1) (fun r => (.fr 9 .str r)))
  | .f 54 => some (.mq (.fr 9 .str) [.clo 89 []] _ (fun x0 x => slices_DeleteFunc_string_f89.F k x0) (fun r => .mov 9 .str r))
  | _ => none
theorem impl_told.run (k : Nat) (a0 : ByteArray) : runF envX (tabC (impl_told.C k)) (tabL 20 0 (fun _ => none)) Tryd.f53 [.t .str a0] (viewR2 (.fr 9 .str) (.t .bool)) = impl_told.F k a0 := by kernel_rfl
theorem impl_told.G (hE : EnvOk Tryd.prog envX) (pv : Nat → Value) (k : Nat) : ∀ cal A, impl_told.C k cal = some A → ArmOk Tryd.prog envX pv cal A := by
  intro cal A h
  unfold impl_told.C at h
  split at h
  · cases h; exact fun x y hy => impl_wordsOf.good hE pv k x.1 hy
  · cases h; exact fun x y hy => slices_Clone_string.good hE pv x.1 hy
  · cases h; exact ⟨_, rfl, fun x0 x y hy => slices_DeleteFunc_string_f89.good hE pv k x0 hy⟩
  · cases h
theorem impl_told.good (hE : EnvOk Tryd.prog envX) (pv : Nat → Value) (k : Nat) (a0 : ByteArray) {y : _} (h : impl_told.F k a0 = some y) : Meets Tryd.prog envX pv (.f 53) (tvals [.str] (a0, ())) (.tup [.fr 9 .str y.1, .t .bool y.2]) :=
  fun_plain hE (impl_told.G hE pv k) (f := 53) (fn := Tryd.f53) (by kernel_rfl) rfl (by kernel_rfl) (by kernel_rfl) ((impl_told.run k a0).trans h) fun r hr => wk_view2 hr
/-! ### 133 loop.example/g00896/impl.isLetter -/
def impl_isLetter.F (a0 : Int) : Option (Bool) := (impl_isUpper.F a0).bind fun r1 => bif r1 then (some true) else ((impl_isLower.F a0).bind fun r2 => some r2)
def impl_isLetter.C : Cal → Option CArm := fun c => match c with
  | .f 91 => some (.p [(.int .u8)] _ (fun x => impl_isUpper.F x.1) (fun r => (.t .bool r)))
  | .f 128 => some (.p [(.int .u8)] _ (fun x => impl_isLower.F x.1) (fun r => (.t .bool r)))
  | _ => none
theorem impl_isLetter.run (a0 : Int) : runF envX (tabC impl_isLetter.C) (tabL 9 0 (fun _ => none)) Tryd.f133 [.t (.int .u8) a0] (viewR1 (.t .bool)) = impl_isLetter.F a0 := by kernel_rfl
theorem impl_isLetter.G (hE : EnvOk Tryd.prog envX) (pv : Nat → Value) : ∀ cal A, impl_isLetter.C cal = some A → ArmOk Tryd.prog envX pv cal A := by
  intro cal A h
  unfold impl_isLetter.C at h
  split at h
  · cases h; exact fun x y hy => impl_isUpper.good hE pv x.1 hy
  · cases h; exact fun x y hy => impl_isLower.good hE pv x.1 hy
  · cases h
theorem impl_isLetter.good (hE : EnvOk Tryd.prog envX) (pv : Nat → Value) (a0 : Int) {y : _} (h : impl_isLetter.F a0 = some y) : Meets Tryd.prog envX pv (.f 133) (tvals [(.int .u8)] (a0, ())) (.t .bool y) :=
  fun_plain hE (impl_isLetter.G hE pv) (f := 133) (fn := Tryd.f133) (by kernel_rfl) rfl (by kernel_rfl) (by kernel_rfl) ((impl_isLetter.run a0).trans h) fun r hr => wk_view1 hr
/-! ### 98 loop.example/g00896/impl.areLetters -/
def impl_areLetters.l0 : Nat → ByteArray → Int → Option (Sum Bool ByteArray)
  | 0, _, _ => none
  | k + 1, x0, x3 => bif (decide (x3 < (x0.size : Int))) then (bif decide (0 ≤ x3) then (bif decide (x3 < (x0.size : Int)) then ((impl_isLetter.F (bt x0 (x3 : Int).toNat)).bind fun r1 => bif (!r1) then (some (.inl false)) else (impl_areLetters.l0 k x0 (IntKind.wrap .i64 (x3 + 1)))) else none) else none) else (some (.inr x0))
def impl_areLetters.F (k : Nat) (a0 : ByteArray) : Option (Bool) := (impl_areLetters.l0 k a0 0).bind fun y2 => match y2 with | .inl z3 => some z3 | .inr z3 => some (!beqS z3 (⟨#[]⟩ : ByteArray))
def impl_areLetters.C (k : Nat) : Cal → Option CArm := fun c => match c with
  | .f 133 => some (.p [(.int .u8)] _ (fun x => impl_isLetter.F x.1) (fun r => (.t .bool r)))
  | _ => none
def impl_areLetters.sp0 : List Sp := [.t 0 .str, .t 3 (.int .i64)]
def impl_areLetters.sp0_0 : List Sp := [.t 2 .bool]
def impl_areLetters.sp0_1 : List Sp := [.t 0 .str]
def impl_areLetters.A0 : LArm := .two impl_areLetters.sp0 impl_areLetters.sp0_0 impl_areLetters.sp0_1 (Bool) (ByteArray) (fun k x => impl_areLetters.l0 k x.1 x.2.1) .ret (.exit 0) (fun y => (y, ())) (fun x => x.1) (fun y => (y, ())) (fun x => x.1)
def impl_areLetters.L : Nat → Option LArm := fun b => match b with
  | 0 => some impl_areLetters.A0
  | _ => none
theorem impl_areLetters.run (k : Nat) (a0 : ByteArray) : runF envX (tabC (impl_areLetters.C k)) (tabL 17 k impl_areLetters.L) Tryd.f98 [.t .str a0] (viewR1 (.t .bool)) = impl_areLetters.F k a0 := by kernel_rfl
theorem impl_areLetters.step0 (k : Nat) (x0 : ByteArray) (x3 : Int) : runC envX (tabC (impl_areLetters.C k)) (tabL 17 k impl_areLetters.L) 0 (loopAt Tryd.f98 0) (stOf 17 impl_areLetters.sp0 (x0, x3, ())) (impl_areLetters.A0.cont 17 k) = impl_areLetters.l0 (k + 1) x0 x3 := by kernel_rfl
theorem impl_areLetters.G (hE : EnvOk Tryd.prog envX) (pv : Nat → Value) (k : Nat) : ∀ cal A, impl_areLetters.C k cal = some A → ArmOk Tryd.prog envX pv cal A := by
  intro cal A h
  unfold impl_areLetters.C at h
  split at h
  · cases h; exact fun x y hy => impl_isLetter.good hE pv x.1 hy
  · cases h
theorem impl_areLetters.good (hE : EnvOk Tryd.prog envX) (pv : Nat → Value) (k : Nat) (a0 : ByteArray) {y : _} (h : impl_areLetters.F k a0 = some y) : Meets Tryd.prog envX pv (.f 98) (tvals [.str] (a0, ())) (.t .bool y) :=
  fun_loops hE (t := impl_areLetters.C) k (fun k _ => impl_areLetters.G hE pv k) (f := 98) (fn := Tryd.f98) (by kernel_rfl) rfl (by kernel_rfl) (by kernel_rfl) (lt := impl_areLetters.L) (by kernel_rfl) (fun b A h => by
    unfold impl_areLetters.L at h; split at h
    · cases h; exact ⟨by kernel_rfl, by kernel_rfl, by kernel_rfl, fun _ => rfl, fun _ => rfl, fun _ => rfl⟩
    · cases h) (fun b A h => by
    unfold impl_areLetters.L at h; split at h
    · cases h; exact fun k x => impl_areLetters.step0 k x.1 x.2.1
    · cases h) ((impl_areLetters.run k a0).trans h) fun r hr => wk_view1 hr
/-! ### 136 internal/stringslite.CutSuffix -/
def stringslite_CutSuffix.F (a0 : ByteArray) (a1 : ByteArray) : Option (ByteArray × Bool) := (stringslite_HasSuffix.F a0 a1).bind fun r1 => bif (!r1) then (some (a0, false)) else (bif decide (0 ≤ (IntKind.wrap .i64 ((a0.size : Int) - (a1.size : Int)))) then (bif decide ((IntKind.wrap .i64 ((a0.size : Int) - (a1.size : Int))) ≤ (a0.size : Int)) then (some ((a0.extract 0 ((IntKind.wrap .i64 ((a0.size : Int) - (a1.size : Int))) : Int).toNat), true)) else none) else none)
def stringslite_CutSuffix.C : Cal → Option CArm := fun c => match c with
  | .f 171 => some (.p [.str, .str] _ (fun x => stringslite_HasSuffix.F x.1 x.2.1) (fun r => (.t .bool r)))
  | _ => none
theorem stringslite_CutSuffix.run (a0 : ByteArray) (a1 : ByteArray) : runF envX (tabC stringslite_CutSuffix.C) (tabL 18 0 (fun _ => none)) Tryd.f136 [.t .str a0, .t .str a1] (viewR2 (.t .str) (.t .bool)) = stringslite_CutSuffix.F a0 a1 := by kernel_rfl
theorem stringslite_CutSuffix.G (hE : EnvOk Tryd.prog envX) (pv : Nat → Value) : ∀ cal A, stringslite_CutSuffix.C cal = some A → ArmOk Tryd.prog envX pv cal A := by
  intro cal A h
  unfold stringslite_CutSuffix.C at h
  split at h
  · cases h; exact fun x y hy => stringslite_HasSuffix.good hE pv x.1 x.2.1 hy
  · cases h
theorem stringslite_CutSuffix.good (hE : EnvOk Tryd.prog envX) (pv : Nat → Value) (a0 : ByteArray) (a1 : ByteArray) {y : _} (h : stringslite_CutSuffix.F a0 a1 = some y) : Meets Tryd.prog envX pv (.f 136) (tvals [.str, .str] (a0, a1, ())) (.tup [.t .str y.1, .t .bool y.2]) :=
  fun_plain hE (stringslite_CutSuffix.G hE pv) (f := 136) (fn := Tryd.f136) (by kernel_rfl) rfl (by kernel_rfl) (by kernel_rfl) ((stringslite_CutSuffix.run a0 a1).trans h) fun r hr => wk_view2 hr
/-! ### 100 strings.CutSuffix -/
def strings_CutSuffix.F (a0 : ByteArray) (a1 : ByteArray) : Option (ByteArray × Bool) := (stringslite_CutSuffix.F a0 a1).bind fun r1 => some (r1.1, r1.2)
def strings_CutSuffix.C : Cal → Option CArm := fun c => match c with
  | .f 136 => some (.p [.str, .str] _ (fun x => stringslite_CutSuffix.F x.1 x.2.1) (fun r => (.tup [.t .str r.1, .t .bool r.2])))
  | _ => none
theorem strings_CutSuffix.run (a0 : ByteArray) (a1 : ByteArray) : runF envX (tabC strings_CutSuffix.C) (tabL 11 0 (fun _ => none)) Tryd.f100 [.t .str a0, .t .str a1] (viewR2 (.t .str) (.t .bool)) = strings_CutSuffix.F a0 a1 := by kernel_rfl
theorem strings_CutSuffix.G (hE : EnvOk Tryd.prog envX) (pv : Nat → Value) : ∀ cal A, strings_CutSuffix.C cal = some A → ArmOk Tryd.prog envX pv cal A := by
  intro cal A h
  unfold strings_CutSuffix.C at h
  split at h
  · cases h; exact fun x y hy => stringslite_CutSuffix.good hE pv x.1 x.2.1 hy
  · cases h
theorem strings_CutSuffix.good (hE : EnvOk Tryd.prog envX) (pv : Nat → Value) (a0 : ByteArray) (a1 : ByteArray) {y : _} (h : strings_CutSuffix.F a0 a1 = some y) : Meets Tryd.prog envX pv (.f 100) (tvals [.str, .str] (a0, a1, ())) (.tup [.t .str y.1, .t .bool y.2]) :=
  fun_plain hE (strings_CutSuffix.G hE pv) (f := 100) (fn := Tryd.f100) (by kernel_rfl) rfl (by kernel_rfl) (by kernel_rfl) ((strings_CutSuffix.run a0 a1).trans h) fun r hr => wk_view2 hr
/-! ### 137 internal/stringslite.HasPrefix -/
def stringslite_HasPrefix.F (a0 : ByteArray) (a1 : ByteArray) : Option (Bool) := bif (decide ((a0.size : Int) ≥ (a1.size : Int))) then (bif decide (0 ≤ (a1.size : Int)) then (bif decide ((a1.size : Int) ≤ (a0.size : Int)) then (some (beqS (a0.extract 0 ((a1.size : Int) : Int).toNat) a1)) else none) else none) else (some false)
def stringslite_HasPrefix.C : Cal → Option CArm := fun c => match c with
  | _ => none
theorem stringslite_HasPrefix.run (a0 : ByteArray) (a1 : ByteArray) : runF envX (tabC stringslite_HasPrefix.C) (tabL 18 0 (fun _ => none)) Tryd.f137 [.t .str a0, .t .str a1] (viewR1 (.t .bool)) = stringslite_HasPrefix.F a0 a1 := by kernel_rfl
theorem stringslite_HasPrefix.G (hE : EnvOk Tryd.prog envX) (pv : Nat → Value) : ∀ cal A, stringslite_HasPrefix.C cal = some A → ArmOk Tryd.prog envX pv cal A := by
  intro cal A h
  unfold stringslite_HasPrefix.C at h
  cases h
theorem stringslite_HasPrefix.good (hE : EnvOk Tryd.prog envX) (pv : Nat → Value) (a0 : ByteArray) (a1 : ByteArray) {y : _} (h : stringslite_HasPrefix.F a0 a1 = some y) : Meets Tryd.prog envX pv (.f 137) (tvals [.str, .str] (a0, a1, ())) (.t .bool y) :=
  fun_plain hE (stringslite_HasPrefix.G hE pv) (f := 137) (fn := Tryd.f137) (by kernel_rfl) rfl (by kernel_rfl) (by kernel_rfl) ((stringslite_HasPrefix.run a0 a1).trans h) fun r hr => wk_view1 hr
/-! ### 101 strings.HasPrefix -/
def strings_HasPrefix.F (a0 : ByteArray) (a1 : ByteArray) : Option (Bool) := (stringslite_HasPrefix.F a0 a1).bind fun r1 => some r1
def strings_HasPrefix.C : Cal → Option CArm := fun c => match c with
  | .f 137 => some (.p [.str, .str] _ (fun x => stringslite_HasPrefix.F x.1 x.2.1) (fun r => (.t .bool r)))
  | _ => none
theorem strings_HasPrefix.run (a0 : ByteArray) (a1 : ByteArray) : runF envX (tabC strings_HasPrefix.C) (tabL 8 0 (fun _ => none)) Tryd.f101 [.t .str a0, .t .str a1] (viewR1 (.t .bool)) = strings_HasPrefix.F a0 a1 := by kernel_rfl
theorem strings_HasPrefix.G (hE : EnvOk Tryd.prog envX) (pv : Nat → Value) : ∀ cal A, strings_HasPrefix.C cal = some A → ArmOk Tryd.prog envX pv cal A := by
  intro cal A h
  unfold strings_HasPrefix.C at h
  split at h
  · cases h; exact fun x y hy => stringslite_HasPrefix.good hE pv x.1 x.2.1 hy
  · cases h
theorem strings_HasPrefix.good (hE : EnvOk Tryd.prog envX) (pv : Nat → Value) (a0 : ByteArray) (a1 : ByteArray) {y : _} (h : strings_HasPrefix.F a0 a1 = some y) : Meets Tryd.prog envX pv (.f 101) (tvals [.str, .str] (a0, a1, ())) (.t .bool y) :=
  fun_plain hE (strings_HasPrefix.G hE pv) (f := 101) (fn := Tryd.f101) (by kernel_rfl) rfl (by kernel_rfl) (by kernel_rfl) ((strings_HasPrefix.run a0 a1).trans h) fun r hr => wk_view1 hr
/-! ### 63 loop.example/g00896/impl.abbreviationOf -/
def impl_abbreviationOf.l0 : Nat → (List Abbr) → ByteArray → Int → (List Abbr) → Int → Int → Option (Sum Int Int)
  | 0, _, _, _, _, _, _ => none
  | k + 1, x0, x5, x6, x16, x17, x18 => bif (decide (x18 < x17)) then (bif decide (0 ≤ x18) then (bif decide (x18 < (x16.length : Int)) then (bif (beqS ((x16.getD (x18 : Int).toNat (dflt .abbr)).word) x5) then (some (.inl x18)) else ((strings_CutSuffix.F ((x16.getD (x18 : Int).toNat (dflt .abbr)).word) (⟨#[45]⟩ : ByteArray)).bind fun r3 => bif r3.2 then ((strings_HasPrefix.F x5 r3.1).bind fun r4 => bif r4 then (bif (decide (x6 < 0)) then (impl_abbreviationOf.l0 k x0 x5 x18 x16 x17 (IntKind.wrap .i64 (x18 + 1))) else (bif decide (0 ≤ x6) then (bif decide (x6 < (x0.length : Int)) then (bif (decide ((((x16.getD (x18 : Int).toNat (dflt .abbr)).word).size : Int) > (((x0.getD (x6 : Int).toNat (dflt .abbr)).word).size : Int))) then (impl_abbreviationOf.l0 k x0 x5 x18 x16 x17 (IntKind.wrap .i64 (x18 + 1))) else (impl_abbreviationOf.l0 k x0 x5 x6 x16 x17 (IntKind.wrap .i64 (x18 + 1)))) else none) else none)) else (impl_abbreviationOf.l0 k x0 x5 x6 x16 x17 (IntKind.wrap .i64 (x18 + 1)))) else (impl_abbreviationOf.l0 k x0 x5 x6 x16 x17 (IntKind.wrap .i64 (x18 + 1))))) else none) else none) else (some (.inr x6))
def impl_abbreviationOf.F (k : Nat) (a0 : List Abbr) (a1 : ByteArray) : Option (Int) := (impl_areLetters.F k a1).bind fun r1 => bif (!r1) then (some (-1)) else ((impl_lower.F k a1).bind fun r2 => (impl_abbreviationOf.l0 k a0 r2 (-1) a0 (a0.length : Int) 0).bind fun y5 => match y5 with | .inl z6 => some z6 | .inr z6 => some z6)
def impl_abbreviationOf.C (k : Nat) : Cal → Option CArm := fun c => match c with
  | .f 98 => some (.p [.str] _ (fun x => impl_areLetters.F k x.1) (fun r => (.t .bool r)))
  | .f 99 => some (.p [.str] _ (fun x => impl_lower.F k x.1) (fun r => (.t .str r)))
  | .f 100 => some (.p [.str, .str] _ (fun x => strings_CutSuffix.F x.1 x.2.1) (fun r => (.tup [.t .str r.1, .t .bool r.2])))
  | .f 101 => some (.p [.str, .str] _ (fun x => strings_HasPrefix.F x.1 x.2.1) (fun r => (.t .bool r)))
  | _ => none
def impl_abbreviationOf.sp0 : List Sp := [.t 0 (.sl .abbr), .t 5 .str, .t 6 (.int .i64), .t 16 (.sl .abbr), .t 17 (.int .i64), .t 18 (.int .i64)]
def impl_abbreviationOf.sp0_0 : List Sp := [.t 4 (.int .i64)]
def impl_abbreviationOf.sp0_1 : List Sp := [.t 6 (.int .i64)]
def impl_abbreviationOf.A0 : LArm := .two impl_abbreviationOf.sp0 impl_abbreviationOf.sp0_0 impl_abbreviationOf.sp0_1 (Int) (Int) (fun k x => impl_abbreviationOf.l0 k x.1 x.2.1 x.2.2.1 x.2.2.2.1 x.2.2.2.2.1 x.2.2.2.2.2.1) .ret (.exit 0) (fun y => (y, ())) (fun x => x.1) (fun y => (y, ())) (fun x => x.1)
def impl_abbreviationOf.L : Nat → Option LArm := fun b => match b with
  | 0 => some impl_abbreviationOf.A0
  | _ => none
theorem impl_abbreviationOf.run (k : Nat) (a0 : List Abbr) (a1 : ByteArray) : runF envX (tabC (impl_abbreviationOf.C k)) (tabL 59 k impl_abbreviationOf.L) Tryd.f63 [.t (.sl .abbr) a0, .t .str a1] (viewR1 (.t (.int .i64))) = impl_abbreviationOf.F k a0 a1 := by kernel_rfl
theorem impl_abbreviationOf.step0 (k : Nat) (x0 : List Abbr) (x5 : ByteArray) (x6 : Int) (x16 : List Abbr) (x17 : Int) (x18 : Int) : runC envX (tabC (impl_abbreviationOf.C k)) (tabL 59 k impl_abbreviationOf.L) 0 (loopAt Tryd.f63 0) (stOf 59 impl_abbreviationOf.sp0 (x0, x5, x6, x16, x17, x18, ())) (impl_abbreviationOf.A0.cont 59 k) = impl_abbreviationOf.l0 (k + 1) x0 x5 x6 x16 x17 x18 := by kernel_rfl
theorem impl_abbreviationOf.G (hE : EnvOk Tryd.prog envX) (pv : Nat → Value) (k : Nat) : ∀ cal A, impl_abbreviationOf.C k cal = some A → ArmOk Tryd.prog envX pv cal A := by
  intro cal A h
  unfold impl_abbreviationOf.C at h
  split at h
  · cases h; exact fun x y hy => impl_areLetters.good hE pv k x.1 hy
  · cases h; exact fun x y hy => impl_lower.good hE pv k x.1 hy
  · cases h; exact fun x y hy => strings_CutSuffix.good hE pv x.1 x.2.1 hy
  · cases h; exact fun x y hy => strings_HasPrefix.good hE pv x.1 x.2.1 hy
  · cases h
theorem impl_abbreviationOf.good (hE : EnvOk Tryd.prog envX) (pv : Nat → Value) (k : Nat) (a0 : List Abbr) (a1 : ByteArray) {y : _} (h : impl_abbreviationOf.F k a0 a1 = some y) : Meets Tryd.prog envX pv (.f 63) (tvals [(.sl .abbr), .str] (a0, a1, ())) (.t (.int .i64) y) :=
  fun_loops hE (t := impl_abbreviationOf.C) k (fun k _ => impl_abbreviationOf.G hE pv k) (f := 63) (fn := Tryd.f63) (by kernel_rfl) rfl (by kernel_rfl) (by kernel_rfl) (lt := impl_abbreviationOf.L) (by kernel_rfl) (fun b A h => by
    unfold impl_abbreviationOf.L at h; split at h
    · cases h; exact ⟨by kernel_rfl, by kernel_rfl, by kernel_rfl, fun _ => rfl, fun _ => rfl, fun _ => rfl⟩
    · cases h) (fun b A h => by
    unfold impl_abbreviationOf.L at h; split at h
    · cases h; exact fun k x => impl_abbreviationOf.step0 k x.1 x.2.1 x.2.2.1 x.2.2.2.1 x.2.2.2.2.1 x.2.2.2.2.2.1
    · cases h) ((impl_abbreviationOf.run k a0 a1).trans h) fun r hr => wk_view1 hr
/-! ### 134 loop.example/g00896/impl.upperByte -/
def impl_upperByte.F (a0 : Int) : Option (Int) := (impl_isLower.F a0).bind fun r1 => bif r1 then (some (IntKind.wrap .u8 (a0 - 32))) else (some a0)
def impl_upperByte.C : Cal → Option CArm := fun c => match c with
  | .f 128 => some (.p [(.int .u8)] _ (fun x => impl_isLower.F x.1) (fun r => (.t .bool r)))
  | _ => none
theorem impl_upperByte.run (a0 : Int) : runF envX (tabC impl_upperByte.C) (tabL 8 0 (fun _ => none)) Tryd.f134 [.t (.int .u8) a0] (viewR1 (.t (.int .u8))) = impl_upperByte.F a0 := by kernel_rfl
theorem impl_upperByte.G (hE : EnvOk Tryd.prog envX) (pv : Nat → Value) : ∀ cal A, impl_upperByte.C cal = some A → ArmOk Tryd.prog envX pv cal A := by
  intro cal A h
  unfold impl_upperByte.C at h
  split at h
  · cases h; exact fun x y hy => impl_isLower.good hE pv x.1 hy
  · cases h
theorem impl_upperByte.good (hE : EnvOk Tryd.prog envX) (pv : Nat → Value) (a0 : Int) {y : _} (h : impl_upperByte.F a0 = some y) : Meets Tryd.prog envX pv (.f 134) (tvals [(.int .u8)] (a0, ())) (.t (.int .u8) y) :=
  fun_plain hE (impl_upperByte.G hE pv) (f := 134) (fn := Tryd.f134) (by kernel_rfl) rfl (by kernel_rfl) (by kernel_rfl) ((impl_upperByte.run a0).trans h) fun r hr => wk_view1 hr
/-! ### 92 loop.example/g00896/impl.raised -/
def impl_raised.l0 : Nat → (List Int) → Int → Int → Option ((List Int))
  | 0, _, _, _ => none
  | k + 1, x3, x9, x10 => bif (decide (x10 < x9)) then (bif decide (0 ≤ x10) then (bif decide (x10 < (x3.length : Int)) then ((impl_isLetter.F (x3.getD ((x10 : Int).toNat) 0)).bind fun r1 => bif r1 then ((impl_upperByte.F (x3.getD ((x10 : Int).toNat) 0)).bind fun r2 => bif decide (0 ≤ x10) then (bif decide (x10 < (x3.length : Int)) then (some (x3.set ((x10 : Int).toNat) r2)) else none) else none) else (impl_raised.l0 k x3 x9 (IntKind.wrap .i64 (x10 + 1)))) else none) else none) else (some x3)
def impl_raised.F (k : Nat) (a0 : ByteArray) : Option (ByteArray) := bif Nat.ble a0.size 9223372036854775807 then ((impl_raised.l0 k (bytesL a0) ((bytesL a0).length : Int) 0).bind fun y3 => some (strL y3)) else none
def impl_raised.C (k : Nat) : Cal → Option CArm := fun c => match c with
  | .f 133 => some (.p [(.int .u8)] _ (fun x => impl_isLetter.F x.1) (fun r => (.t .bool r)))
  | .f 134 => some (.p [(.int .u8)] _ (fun x => impl_upperByte.F x.1) (fun r => (.t (.int .u8) r)))
  | _ => none
def impl_raised.sp0 : List Sp := [.own 3 1028 5 (.int .u8) false false, .con 8 (.own 1028), .t 9 (.int .i64), .t 10 (.int .i64)]
def impl_raised.sp0_0 : List Sp := [.own 3 1028 5 (.int .u8) false false]
def impl_raised.A0 : LArm := .one impl_raised.sp0 impl_raised.sp0_0 ((List Int)) (fun k x => impl_raised.l0 k x.1 x.2.2.1 x.2.2.2.1) (.exit 0) (fun y => (y, ())) (fun x => x.1)
def impl_raised.L : Nat → Option LArm := fun b => match b with
  | 0 => some impl_raised.A0
  | _ => none
theorem impl_raised.run (k : Nat) (a0 : ByteArray) : runF envX (tabC (impl_raised.C k)) (tabL 25 k impl_raised.L) Tryd.f92 [.t .str a0] (viewR1 (.t .str)) = impl_raised.F k a0 := by kernel_rfl
theorem impl_raised.step0 (k : Nat) (x3 : List Int) (x9 : Int) (x10 : Int) : runC envX (tabC (impl_raised.C k)) (tabL 25 k impl_raised.L) 0 (loopAt Tryd.f92 0) (stOf 25 impl_raised.sp0 (x3, (), x9, x10, ())) (impl_raised.A0.cont 25 k) = impl_raised.l0 (k + 1) x3 x9 x10 := by kernel_rfl
theorem impl_raised.G (hE : EnvOk Tryd.prog envX) (pv : Nat → Value) (k : Nat) : ∀ cal A, impl_raised.C k cal = some A → ArmOk Tryd.prog envX pv cal A := by
  intro cal A h
  unfold impl_raised.C at h
  split at h
  · cases h; exact fun x y hy => impl_isLetter.good hE pv x.1 hy
  · cases h; exact fun x y hy => impl_upperByte.good hE pv x.1 hy
  · cases h
theorem impl_raised.good (hE : EnvOk Tryd.prog envX) (pv : Nat → Value) (k : Nat) (a0 : ByteArray) {y : _} (h : impl_raised.F k a0 = some y) : Meets Tryd.prog envX pv (.f 92) (tvals [.str] (a0, ())) (.t .str y) :=
  fun_loops hE (t := impl_raised.C) k (fun k _ => impl_raised.G hE pv k) (f := 92) (fn := Tryd.f92) (by kernel_rfl) rfl (by kernel_rfl) (by kernel_rfl) (lt := impl_raised.L) (by kernel_rfl) (fun b A h => by
    unfold impl_raised.L at h; split at h
    · cases h; exact ⟨by kernel_rfl, by kernel_rfl, fun _ => rfl, fun _ => rfl⟩
    · cases h) (fun b A h => by
    unfold impl_raised.L at h; split at h
    · cases h; exact fun k x => impl_raised.step0 k x.1 x.2.2.1 x.2.2.2.1
    · cases h) ((impl_raised.run k a0).trans h) fun r hr => wk_view1 hr
/-! ### 56 loop.example/g00896/impl.shortWord -/
def impl_shortWord.F (k : Nat) (a0 : List Abbr) (a1 : ByteArray) : Option (ByteArray) := (impl_abbreviationOf.F k a0 a1).bind fun r1 => bif (decide (r1 < 0)) then (some a1) else (bif decide (0 ≤ 0) then (bif decide (0 < (a1.size : Int)) then ((impl_isUpper.F (bt a1 (0 : Int).toNat)).bind fun r2 => bif r2 then (bif decide (0 ≤ r1) then (bif decide (r1 < (a0.length : Int)) then ((impl_raised.F k ((a0.getD (r1 : Int).toNat (dflt .abbr)).short)).bind fun r3 => some r3) else none) else none) else (bif decide (0 ≤ r1) then (bif decide (r1 < (a0.length : Int)) then (some ((a0.getD (r1 : Int).toNat (dflt .abbr)).short)) else none) else none)) else none) else none)
def impl_shortWord.C (k : Nat) : Cal → Option CArm := fun c => match c with
  | .f 63 => some (.p [(.sl .abbr), .str] _ (fun x => impl_abbreviationOf.F k x.1 x.2.1) (fun r => (.t (.int .i64) r)))
  | .f 91 => some (.p [(.int .u8)] _ (fun x => impl_isUpper.F x.1) (fun r => (.t .bool r)))
  | .f 92 => some (.p [.str] _ (fun x => impl_raised.F k x.1) (fun r => (.t .str r)))
  | _ => none
theorem impl_shortWord.run (k : Nat) (a0 : List Abbr) (a1 : ByteArray) : runF envX (tabC (impl_shortWord.C k)) (tabL 28 0 (fun _ => none)) Tryd.f56 [.t (.sl .abbr) a0, .t .str a1] (viewR1 (.t .str)) = impl_shortWord.F k a0 a1 := by kernel_rfl
theorem impl_shortWord.G (hE : EnvOk Tryd.prog envX) (pv : Nat → Value) (k : Nat) : ∀ cal A, impl_shortWord.C k cal = some A → ArmOk Tryd.prog envX pv cal A := by
  intro cal A h
  unfold impl_shortWord.C at h
  split at h
  · cases h; exact fun x y hy => impl_abbreviationOf.good hE pv k x.1 x.2.1 hy
  · cases h; exact fun x y hy => impl_isUpper.good hE pv x.1 hy
  · cases h; exact fun x y hy => impl_raised.good hE pv k x.1 hy
  · cases h
theorem impl_shortWord.good (hE : EnvOk Tryd.prog envX) (pv : Nat → Value) (k : Nat) (a0 : List Abbr) (a1 : ByteArray) {y : _} (h : impl_shortWord.F k a0 a1 = some y) : Meets Tryd.prog envX pv (.f 56) (tvals [(.sl .abbr), .str] (a0, a1, ())) (.t .str y) :=
  fun_plain hE (impl_shortWord.G hE pv k) (f := 56) (fn := Tryd.f56) (by kernel_rfl) rfl (by kernel_rfl) (by kernel_rfl) ((impl_shortWord.run k a0 a1).trans h) fun r hr => wk_view1 hr
-- NO 55 loop.example/g00896/impl.UnabbreviatedWords$1: load from tup
/-! ### 55 loop.example/g00896/impl.UnabbreviatedWords$1 at what it captured -/
def impl_UnabbreviatedWords_1.F (k : Nat) (a0 : ByteArray) (a1 : Bool) (a2 : List Abbr) : Option (Bool) := bif a1 then ((impl_shortWord.F k a2 a0).bind fun r1 => some (!beqS r1 a0)) else (some false)
def impl_UnabbreviatedWords_1.C (k : Nat) : Cal → Option CArm := fun c => match c with
  | .f 56 => some (.p [(.sl .abbr), .str] _ (fun x => impl_shortWord.F k x.1 x.2.1) (fun r => (.t .str r)))
  | _ => none
theorem impl_UnabbreviatedWords_1.run (k : Nat) (a0 : ByteArray) (a1 : Bool) (a2 : List Abbr) : runF envX (tabC (impl_UnabbreviatedWords_1.C k)) (tabL 13 0 (fun _ => none)) Tryd.f55 [.t .str a0, .tp (.t .bool a1), .tp (.t (.sl .abbr) a2)] (viewR1 (.t .bool)) = impl_UnabbreviatedWords_1.F k a0 a1 a2 := by kernel_rfl
theorem impl_UnabbreviatedWords_1.G (hE : EnvOk Tryd.prog envX) (pv : Nat → Value) (k : Nat) : ∀ cal A, impl_UnabbreviatedWords_1.C k cal = some A → ArmOk Tryd.prog envX pv cal A := by
  intro cal A h
  unfold impl_UnabbreviatedWords_1.C at h
  split at h
  · cases h; exact fun x y hy => impl_shortWord.good hE pv k x.1 x.2.1 hy
  · cases h
theorem impl_UnabbreviatedWords_1.good (hE : EnvOk Tryd.prog envX) (pv : Nat → Value) (k : Nat) (a0 : ByteArray) (a1 : Bool) (a2 : List Abbr) {y : _} (h : impl_UnabbreviatedWords_1.F k a0 a1 a2 = some y) : Meets Tryd.prog envX pv (.f 55) (pvals [.t .str, .tp .bool, .tp (.sl .abbr)] (a0, a1, a2, ())) (.t .bool y) :=
  fun_plain hE (impl_UnabbreviatedWords_1.G hE pv k) (f := 55) (fn := Tryd.f55) (by kernel_rfl) rfl (by kernel_rfl) (by kernel_rfl) ((impl_UnabbreviatedWords_1.run k a0 a1 a2).trans h) fun r hr => wk_view1 hr
/-! ### 90 slices.IndexFunc[[]string,string] at loop.example/g00896/impl.UnabbreviatedWords$1 -/
def slices_IndexFunc_string_f55.l0 : Nat → (List ByteArray) → Bool → (List Abbr) → Int → Int → Option (Sum Int Unit)
  | 0, _, _, _, _, _ => none
  | k + 1, x0, x1_0, x1_1, x7, x8 => bif (decide (x8 < x7)) then (bif decide (0 ≤ x8) then (bif decide (x8 < (x0.length : Int)) then ((impl_UnabbreviatedWords_1.F k (x0.getD (x8 : Int).toNat (⟨#[]⟩ : ByteArray)) x1_0 x1_1).bind fun r1 => bif r1 then (some (.inl x8)) else (slices_IndexFunc_string_f55.l0 k x0 x1_0 x1_1 x7 (IntKind.wrap .i64 (x8 + 1)))) else none) else none) else (some (.inr ()))
def slices_IndexFunc_string_f55.F (k : Nat) (a0 : List ByteArray) (a1c0 : Bool) (a1c1 : List Abbr) : Option (Int) := (slices_IndexFunc_string_f55.l0 k a0 a1c0 a1c1 (a0.length : Int) 0).bind fun y2 => match y2 with | .inl z3 => some z3 | .inr z3 => some (-1)
def slices_IndexFunc_string_f55.C (k : Nat) : Cal → Option CArm := fun c => match c with
  | .f 55 => some (.q [.t .str, .tp .bool, .tp (.sl .abbr)] _ (fun x => impl_UnabbreviatedWords_1.F k x.1 x.2.1 x.2.2.1) (fun r => (.t .bool r)))
  | _ => none
def slices_IndexFunc_string_f55.sp0 : List Sp := [.t 0 (.sl .str), .cl 1 55 [.tp .bool, .tp (.sl .abbr)], .t 7 (.int .i64), .t 8 (.int .i64)]
def slices_IndexFunc_string_f55.sp0_0 : List Sp := [.t 4 (.int .i64)]
def slices_IndexFunc_string_f55.sp0_1 : List Sp := []
def slices_IndexFunc_string_f55.A0 : LArm := .two slices_IndexFunc_string_f55.sp0 slices_IndexFunc_string_f55.sp0_0 slices_IndexFunc_string_f55.sp0_1 (Int) (Unit) (fun k x => slices_IndexFunc_string_f55.l0 k x.1 x.2.1.1 x.2.1.2.1 x.2.2.1 x.2.2.2.1) .ret (.exit 0) (fun y => (y, ())) (fun x => x.1) (fun y => ()) (fun x => ())
def slices_IndexFunc_string_f55.L : Nat → Option LArm := fun b => match b with
  | 0 => some slices_IndexFunc_string_f55.A0
  | _ => none
theorem slices_IndexFunc_string_f55.run (k : Nat) (a0 : List ByteArray) (a1c0 : Bool) (a1c1 : List Abbr) : runF envX (tabC (slices_IndexFunc_string_f55.C k)) (tabL 19 k slices_IndexFunc_string_f55.L) Tryd.f90 [.t (.sl .str) a0, .clo 55 [.tp (.t .bool a1c0), .tp (.t (.sl .abbr) a1c1)]] (viewR1 (.t (.int .i64))) = slices_IndexFunc_string_f55.F k a0 a1c0 a1c1 := by kernel_rfl
theorem slices_IndexFunc_string_f55.step0 (k : Nat) (x0 : List ByteArray) (x1_0 : Bool) (x1_1 : List Abbr) (x7 : Int) (x8 : Int) : runC envX (tabC (slices_IndexFunc_string_f55.C k)) (tabL 19 k slices_IndexFunc_string_f55.L) 0 (loopAt Tryd.f90 0) (stOf 19 slices_IndexFunc_string_f55.sp0 (x0, (x1_0, x1_1, ()), x7, x8, ())) (slices_IndexFunc_string_f55.A0.cont 19 k) = slices_IndexFunc_string_f55.l0 (k + 1) x0 x1_0 x1_1 x7 x8 := by kernel_rfl
theorem slices_IndexFunc_string_f55.G (hE : EnvOk Tryd.prog envX) (pv : Nat → Value) (k : Nat) : ∀ cal A, slices_IndexFunc_string_f55.C k cal = some A → ArmOk Tryd.prog envX pv cal A := by
  intro cal A h
  unfold slices_IndexFunc_string_f55.C at h
  split at h
  · cases h; exact fun x y hy => impl_UnabbreviatedWords_1.good hE pv k x.1 x.2.1 x.2.2.1 hy
  · cases h
theorem slices_IndexFunc_string_f55.good (hE : EnvOk Tryd.prog envX) (pv : Nat → Value) (k : Nat) (a0 : List ByteArray) (a1c0 : Bool) (a1c1 : List Abbr) {y : _} (h : slices_IndexFunc_string_f55.F k a0 a1c0 a1c1 = some y) : Meets Tryd.prog envX pv (.f 90) (pvals [.t (.sl .str), .clo 55 [.tp .bool, .tp (.sl .abbr)]] (a0, (a1c0, a1c1, ()), ())) (.t (.int .i64) y) :=
  fun_loops hE (t := slices_IndexFunc_string_f55.C) k (fun k _ => slices_IndexFunc_string_f55.G hE pv k) (f := 90) (fn := Tryd.f90) (by kernel_rfl) rfl (by kernel_rfl) (by kernel_rfl) (lt := slices_IndexFunc_string_f55.L) (by kernel_rfl) (fun b A h => by
    unfold slices_IndexFunc_string_f55.L at h; split at h
    · cases h; exact ⟨by kernel_rfl, by kernel_rfl, by kernel_rfl, fun _ => rfl, fun _ => rfl, fun _ => rfl⟩
    · cases h) (fun b A h => by
    unfold slices_IndexFunc_string_f55.L at h; split at h
    · cases h; exact fun k x => slices_IndexFunc_string_f55.step0 k x.1 x.2.1.1 x.2.1.2.1 x.2.2.1 x.2.2.2.1
    · cases h) ((slices_IndexFunc_string_f55.run k a0 a1c0 a1c1).trans h) fun r hr => wk_view1 hr
/-! ### 54 slices.DeleteFunc[[]string,string] at loop.example/g00896/impl.UnabbreviatedWords$1 -/
def slices_DeleteFunc_string_f55.l0 : Nat → (List ByteArray) → Bool → (List Abbr) → Int → Int → Option ((List ByteArray) × Int)
  | 0, _, _, _, _, _ => none
  | k + 1, x0, x1_0, x1_1, x5, x6 => bif (decide (x6 < (x0.length : Int))) then (bif decide (0 ≤ x6) then (bif decide (x6 < (x0.length : Int)) then ((impl_UnabbreviatedWords_1.F k (x0.getD ((x6 : Int).toNat) (⟨#[]⟩ : ByteArray)) x1_0 x1_1).bind fun r2 => bif (!r2) then (bif decide (0 ≤ x5) then (bif decide (x5 < (x0.length : Int)) then (slices_DeleteFunc_string_f55.l0 k (x0.set ((x5 : Int).toNat) (x0.getD ((x6 : Int).toNat) (⟨#[]⟩ : ByteArray))) x1_0 x1_1 (IntKind.wrap .i64 (x5 + 1)) (IntKind.wrap .i64 (x6 + 1))) else none) else none) else (slices_DeleteFunc_string_f55.l0 k x0 x1_0 x1_1 x5 (IntKind.wrap .i64 (x6 + 1)))) else none) else none) else (some (x0, x5))
def slices_DeleteFunc_string_f55.F (k : Nat) (a0 : List ByteArray) (a1c0 : Bool) (a1c1 : List Abbr) : Option (List ByteArray) := (slices_IndexFunc_string_f55.F k a0 a1c0 a1c1).bind fun r1 => bif (r1 == (-1)) then (some a0) else ((slices_DeleteFunc_string_f55.l0 k a0 a1c0 a1c1 r1 (IntKind.wrap .i64 (r1 + 1))).bind fun y3 => bif decide (0 ≤ y3.2) then (bif decide (y3.2 ≤ (y3.1.length : Int)) then (bif decide (0 ≤ y3.2) then (bif decide (y3.2 ≤ ((y3.1.take ((y3.2 : Int).toNat) ++ List.replicate (y3.1.length - ((y3.2 : Int).toNat)) (⟨#[]⟩ : ByteArray)).length : Int)) then (some ((y3.1.take ((y3.2 : Int).toNat) ++ List.replicate (y3.1.length - ((y3.2 : Int).toNat)) (⟨#[]⟩ : ByteArray)).take (y3.2 : Int).toNat)) else none) else none) else none) else none)
def slices_DeleteFunc_string_f55.C (k : Nat) : Cal → Option CArm := fun c => match c with
  | .f 90 => some (.q [.t (.sl .str), .clo 55 [.tp .bool, .tp (.sl .abbr)]] _ (fun x => slices_IndexFunc_string_f55.F k x.1 x.2.1.1 x.2.1.2.1) (fun r => (.t (.int .i64) r)))
  | .f 55 => some (.q [.t .str, .tp .bool, .tp (.sl .abbr)] _ (fun x => impl_UnabbreviatedWords_1.F k x.1 x.2.1 x.2.2.1) (fun r => (.t .bool r)))
  | _ => none
def slices_DeleteFunc_string_f55.sp0 : List Sp := [.own 0 1099511627777 9 .str false true, .cl 1 55 [.tp .bool, .tp (.sl .abbr)], .t 5 (.int .i64), .t 6 (.int .i64)]
def slices_DeleteFunc_string_f55.sp0_0 : List Sp := [.own 0 1099511627777 9 .str false true, .t 5 (.int .i64)]
def slices_DeleteFunc_string_f55.A0 : LArm := .one slices_DeleteFunc_string_f55.sp0 slices_DeleteFunc_string_f55.sp0_0 ((List ByteArray) × Int) (fun k x => slices_DeleteFunc_string_f55.l0 k x.1 x.2.1.1 x.2.1.2.1 x.2.2.1 x.2.2.2.1) (.exit 0) (fun y => (y.1, y.2, ())) (fun x => (x.1, x.2.1))
def slices_DeleteFunc_string_f55.L : Nat → Option LArm := fun b => match b with
  | 0 => some slices_DeleteFunc_string_f55.A0
  | _ => none
theorem slices_DeleteFunc_string_f55.run (k : Nat) (a0 : List ByteArray) (a1c0 : Bool) (a1c1 : List Abbr) : runM envX (tabC (slices_DeleteFunc_string_f55.C k)) (tabL 42 k slices_DeleteFunc_string_f55.L) Tryd.f54 mmove (.fr 9 .str a0) [.clo 55 [.tp (.t .bool a1c0), .tp (.t (.sl .abbr) a1c1)]] (viewMov 9 .str) = slices_DeleteFunc_string_f55.F k a0 a1c0 a1c1 := by kernel_rfl
theorem slices_DeleteFunc_string_f55.step0 (k : Nat) (x0 : List ByteArray) (x1_0 : Bool) (x1_1 : List Abbr) (x5 : Int) (x6 : Int) : runC envX (tabC (slices_DeleteFunc_string_f55.C k)) (tabL 42 k slices_DeleteFunc_string_f55.L) 0 (loopAt Tryd.f54 0) (stOf 42 slices_DeleteFunc_string_f55.sp0 (x0, (x1_0, x1_1, ()), x5, x6, ())) (slices_DeleteFunc_string_f55.A0.cont 42 k) = slices_DeleteFunc_string_f55.l0 (k + 1) x0 x1_0 x1_1 x5 x6 := by kernel_rfl
theorem slices_DeleteFunc_string_f55.G (hE : EnvOk Tryd.prog envX) (pv : Nat → Value) (k : Nat) : ∀ cal A, slices_DeleteFunc_string_f55.C k cal = some A → ArmOk Tryd.prog envX pv cal A := by
  intro cal A h
  unfold slices_DeleteFunc_string_f55.C at h
  split at h
  · cases h; exact fun x y hy => slices_IndexFunc_string_f55.good hE pv k x.1 x.2.1.1 x.2.1.2.1 hy
  · cases h; exact fun x y hy => impl_UnabbreviatedWords_1.good hE pv k x.1 x.2.1 x.2.2.1 hy
  · cases h
theorem slices_DeleteFunc_string_f55.good (hE : EnvOk Tryd.prog envX) (pv : Nat → Value) (k : Nat) (a0 : List ByteArray) (a1c0 : Bool) (a1c1 : List Abbr) {y : _} (h : slices_DeleteFunc_string_f55.F k a0 a1c0 a1c1 = some y) : MeetsM Tryd.prog envX pv 54 (.fr 9 .str a0) (pvals [.clo 55 [.tp .bool, .tp (.sl .abbr)]] ((a1c0, a1c1, ()), ())) (.mov 9 .str y) :=
  funM_loops hE (t := slices_DeleteFunc_string_f55.C) k (fun k _ => slices_DeleteFunc_string_f55.G hE pv k) (f := 54) (fn := Tryd.f54) (by kernel_rfl) rfl (by kernel_rfl) (.inr rfl) (by kernel_rfl) (lt := slices_DeleteFunc_string_f55.L) (by kernel_rfl) (fun b A h => by
    unfold slices_DeleteFunc_string_f55.L at h; split at h
    · cases h; exact ⟨by kernel_rfl, by kernel_rfl, fun _ => rfl, fun _ => rfl⟩
    · cases h) (fun b A h => by
    unfold slices_DeleteFunc_string_f55.L at h; split at h
    · cases h; exact fun k x => slices_DeleteFunc_string_f55.step0 k x.1 x.2.1.1 x.2.1.2.1 x.2.2.1 x.2.2.2.1
    · cases h) ((slices_DeleteFunc_string_f55.run k a0 a1c0 a1c1).trans h) fun r hr => wk_viewMov hr
/-! ### 20 loop.example/g00896/impl.UnabbreviatedWords -/
def impl_UnabbreviatedWords.F (k : Nat) (a0 : List Abbr) (a1 : ByteArray) : Option ((List ByteArray) × Bool) := (impl_IsValidAbbreviations.F k a0).bind fun r1 => bif (!r1) then (some ([], false)) else ((impl_isText.F k a1).bind fun r2 => bif (!r2) then (some ([], false)) else ((impl_told.F k a1).bind fun r3 => (slices_DeleteFunc_string_f55.F k r3.1 r3.2 a0).bind fun r4 => some (r4, true)))
def impl_UnabbreviatedWords.C (k : Nat) : Cal → Option CArm := fun c => match c with
  | .f 51 => some (.p [(.sl .abbr)] _ (fun x => impl_IsValidAbbreviations.F k x.1) (fun r => (.t .bool r)))
  | .f 52 => some (.p [.str] _ (fun x => impl_isText.F k x.1) (fun r => (.t .bool r)))
  | .f 53 => some (.p [.str] _ (fun x => impl_told.F k x.1) (fun r => (.tup [.fr 9 .str r.1, .t .bool r.2])))
  | .f 54 => some (.mq (.fr 9 .str) [.clo 55 [.tp .bool, .tp (.sl .abbr)]] _ (fun x0 x => slices_DeleteFunc_string_f55.F k x0 x.1.1 x.1.2.1) (fun r => .mov 9 .str r))
  | _ => none
theorem impl_UnabbreviatedWords.run (k : Nat) (a0 : List Abbr) (a1 : ByteArray) : runF envX (tabC (impl_UnabbreviatedWords.C k)) (tabL 24 0 (fun _ => none)) Tryd.f20 [.t (.sl .abbr) a0, .t .str a1] (viewR2 (.fr 9 .str) (.t .bool)) = impl_UnabbreviatedWords.F k a0 a1 := by kernel_rfl
theorem impl_UnabbreviatedWords.G (hE : EnvOk Tryd.prog envX) (pv : Nat → Value) (k : Nat) : ∀ cal A, impl_UnabbreviatedWords.C k cal = some A → ArmOk Tryd.prog envX pv cal A := by
  intro cal A h
  unfold impl_UnabbreviatedWords.C at h
  split at h
  · cases h; exact fun x y hy => impl_IsValidAbbreviations.good hE pv k x.1 hy
  · cases h; exact fun x y hy => impl_isText.good hE pv k x.1 hy
  · cases h; exact fun x y hy => impl_told.good hE pv k x.1 hy
  · cases h; exact ⟨_, rfl, fun x0 x y hy => slices_DeleteFunc_string_f55.good hE pv k x0 x.1.1 x.1.2.1 hy⟩
  · cases h
theorem impl_UnabbreviatedWords.good (hE : EnvOk Tryd.prog envX) (pv : Nat → Value) (k : Nat) (a0 : List Abbr) (a1 : ByteArray) {y : _} (h : impl_UnabbreviatedWords.F k a0 a1 = some y) : Meets Tryd.prog envX pv (.f 20) (tvals [(.sl .abbr), .str] (a0, a1, ())) (.tup [.fr 9 .str y.1, .t .bool y.2]) :=
  fun_plain hE (impl_UnabbreviatedWords.G hE pv k) (f := 20) (fn := Tryd.f20) (by kernel_rfl) rfl (by kernel_rfl) (by kernel_rfl) ((impl_UnabbreviatedWords.run k a0 a1).trans h) fun r hr => wk_view2 hr
/-! ### 57 loop.example/g00896/laws.eqAbbreviation -/
def laws_eqAbbreviation.F (a0 : Abbr) (a1 : Abbr) : Option (Bool) := bif (!beqS a0.word a1.word) then (some false) else (bif (!beqS a0.short a1.short) then (some false) else (some true))
def laws_eqAbbreviation.C : Cal → Option CArm := fun c => match c with
  | _ => none
theorem laws_eqAbbreviation.run (a0 : Abbr) (a1 : Abbr) : runF envX (tabC laws_eqAbbreviation.C) (tabL 15 0 (fun _ => none)) Tryd.f57 [.t .abbr a0, .t .abbr a1] (viewR1 (.t .bool)) = laws_eqAbbreviation.F a0 a1 := by kernel_rfl
theorem laws_eqAbbreviation.G (hE : EnvOk Tryd.prog envX) (pv : Nat → Value) : ∀ cal A, laws_eqAbbreviation.C cal = some A → ArmOk Tryd.prog envX pv cal A := by
  intro cal A h
  unfold laws_eqAbbreviation.C at h
  cases h
theorem laws_eqAbbreviation.good (hE : EnvOk Tryd.prog envX) (pv : Nat → Value) (a0 : Abbr) (a1 : Abbr) {y : _} (h : laws_eqAbbreviation.F a0 a1 = some y) : Meets Tryd.prog envX pv (.f 57) (tvals [.abbr, .abbr] (a0, a1, ())) (.t .bool y) :=
  fun_plain hE (laws_eqAbbreviation.G hE pv) (f := 57) (fn := Tryd.f57) (by kernel_rfl) rfl (by kernel_rfl) (by kernel_rfl) ((laws_eqAbbreviation.run a0 a1).trans h) fun r hr => wk_view1 hr
/-! ### 21 loop.example/g00896/laws.eqAbbreviationS -/
def laws_eqAbbreviationS.l0 : Nat → (List Abbr) → (List Abbr) → Int → Option (Sum Bool Unit)
  | 0, _, _, _ => none
  | k + 1, x0, x1, x5 => bif (decide (x5 < (x0.length : Int))) then (bif decide (0 ≤ x5) then (bif decide (x5 < (x0.length : Int)) then (bif decide (0 ≤ x5) then (bif decide (x5 < (x1.length : Int)) then ((laws_eqAbbreviation.F (x0.getD (x5 : Int).toNat (dflt .abbr)) (x1.getD (x5 : Int).toNat (dflt .abbr))).bind fun r1 => bif (!r1) then (some (.inl false)) else (laws_eqAbbreviationS.l0 k x0 x1 (IntKind.wrap .i64 (x5 + 1)))) else none) else none) else none) else none) else (some (.inr ()))
def laws_eqAbbreviationS.F (k : Nat) (a0 : List Abbr) (a1 : List Abbr) : Option (Bool) := bif ((a0.length : Int) != (a1.length : Int)) then (some false) else ((laws_eqAbbreviationS.l0 k a0 a1 0).bind fun y2 => match y2 with | .inl z3 => some z3 | .inr z3 => some true)
def laws_eqAbbreviationS.C (k : Nat) : Cal → Option CArm := fun c => match c with
  | .f 57 => some (.p [.abbr, .abbr] _ (fun x => laws_eqAbbreviation.F x.1 x.2.1) (fun r => (.t .bool r)))
  | _ => none
def laws_eqAbbreviationS.sp0 : List Sp := [.t 0 (.sl .abbr), .t 1 (.sl .abbr), .t 5 (.int .i64)]
def laws_eqAbbreviationS.sp0_0 : List Sp := [.t 4 .bool]
def laws_eqAbbreviationS.sp0_1 : List Sp := []
def laws_eqAbbreviationS.A0 : LArm := .two laws_eqAbbreviationS.sp0 laws_eqAbbreviationS.sp0_0 laws_eqAbbreviationS.sp0_1 (Bool) (Unit) (fun k x => laws_eqAbbreviationS.l0 k x.1 x.2.1 x.2.2.1) .ret (.exit 0) (fun y => (y, ())) (fun x => x.1) (fun y => ()) (fun x => ())
def laws_eqAbbreviationS.L : Nat → Option LArm := fun b => match b with
  | 0 => some laws_eqAbbreviationS.A0
  | _ => none
theorem laws_eqAbbreviationS.run (k : Nat) (a0 : List Abbr) (a1 : List Abbr) : runF envX (tabC (laws_eqAbbreviationS.C k)) (tabL 27 k laws_eqAbbreviationS.L) Tryd.f21 [.t (.sl .abbr) a0, .t (.sl .abbr) a1] (viewR1 (.t .bool)) = laws_eqAbbreviationS.F k a0 a1 := by kernel_rfl
theorem laws_eqAbbreviationS.step0 (k : Nat) (x0 : List Abbr) (x1 : List Abbr) (x5 : Int) : runC envX (tabC (laws_eqAbbreviationS.C k)) (tabL 27 k laws_eqAbbreviationS.L) 0 (loopAt Tryd.f21 0) (stOf 27 laws_eqAbbreviationS.sp0 (x0, x1, x5, ())) (laws_eqAbbreviationS.A0.cont 27 k) = laws_eqAbbreviationS.l0 (k + 1) x0 x1 x5 := by kernel_rfl
theorem laws_eqAbbreviationS.G (hE : EnvOk Tryd.prog envX) (pv : Nat → Value) (k : Nat) : ∀ cal A, laws_eqAbbreviationS.C k cal = some A → ArmOk Tryd.prog envX pv cal A := by
  intro cal A h
  unfold laws_eqAbbreviationS.C at h
  split at h
  · cases h; exact fun x y hy => laws_eqAbbreviation.good hE pv x.1 x.2.1 hy
  · cases h
theorem laws_eqAbbreviationS.good (hE : EnvOk Tryd.prog envX) (pv : Nat → Value) (k : Nat) (a0 : List Abbr) (a1 : List Abbr) {y : _} (h : laws_eqAbbreviationS.F k a0 a1 = some y) : Meets Tryd.prog envX pv (.f 21) (tvals [(.sl .abbr), (.sl .abbr)] (a0, a1, ())) (.t .bool y) :=
  fun_loops hE (t := laws_eqAbbreviationS.C) k (fun k _ => laws_eqAbbreviationS.G hE pv k) (f := 21) (fn := Tryd.f21) (by kernel_rfl) rfl (by kernel_rfl) (by kernel_rfl) (lt := laws_eqAbbreviationS.L) (by kernel_rfl) (fun b A h => by
    unfold laws_eqAbbreviationS.L at h; split at h
    · cases h; exact ⟨by kernel_rfl, by kernel_rfl, by kernel_rfl, fun _ => rfl, fun _ => rfl, fun _ => rfl⟩
    · cases h) (fun b A h => by
    unfold laws_eqAbbreviationS.L at h; split at h
    · cases h; exact fun k x => laws_eqAbbreviationS.step0 k x.1 x.2.1 x.2.2.1
    · cases h) ((laws_eqAbbreviationS.run k a0 a1).trans h) fun r hr => wk_view1 hr
/-! ### 22 loop.example/g00896/laws.markAbbreviationS -/
def laws_markAbbreviationS.l0 : Nat → (List Abbr) → Int → Int → Option ((List Abbr) × Int)
  | 0, _, _, _ => none
  | k + 1, x0, x1, x5 => bif (decide (x5 < (x0.length : Int))) then ((laws_markText.F k x1).bind fun r1 => bif decide (0 ≤ x5) then (bif decide (x5 < (x0.length : Int)) then ((laws_markText.F k (IntKind.wrap .i64 (x1 + 1))).bind fun r2 => bif decide (0 ≤ x5) then (bif decide (x5 < ((x0.set ((x5 : Int).toNat) (⟨r1, (x0.getD ((x5 : Int).toNat) (dflt .abbr)).short⟩ : Abbr)).length : Int)) then (laws_markAbbreviationS.l0 k ((x0.set ((x5 : Int).toNat) (⟨r1, (x0.getD ((x5 : Int).toNat) (dflt .abbr)).short⟩ : Abbr)).set ((x5 : Int).toNat) (⟨((x0.set ((x5 : Int).toNat) (⟨r1, (x0.getD ((x5 : Int).toNat) (dflt .abbr)).short⟩ : Abbr)).getD ((x5 : Int).toNat) (dflt .abbr)).word, r2⟩ : Abbr)) (IntKind.wrap .i64 ((IntKind.wrap .i64 (x1 + 1)) + 1)) (IntKind.wrap .i64 (x5 + 1))) else none) else none) else none) else none) else (some (x0, x1))
def laws_markAbbreviationS.F (k : Nat) (a0 : List Abbr) (a1 : Int) : Option ((List Abbr) × Int) := (laws_markAbbreviationS.l0 k a0 a1 0).bind fun y3 => bif Nat.beq (y3.1).length a0.length then (some (y3.1, y3.2)) else none
def laws_markAbbreviationS.C (k : Nat) : Cal → Option CArm := fun c => match c with
  | .f 44 => some (.p [(.int .i64)] _ (fun x => laws_markText.F k x.1) (fun r => (.t .str r)))
  | _ => none
def laws_markAbbreviationS.sp0 : List Sp := [.own 0 1099511627776 79 .abbr false true, .t 1 (.int .i64), .t 5 (.int .i64)]
def laws_markAbbreviationS.sp0_0 : List Sp := [.own 0 1099511627776 79 .abbr false true, .t 1 (.int .i64)]
def laws_markAbbreviationS.A0 : LArm := .one laws_markAbbreviationS.sp0 laws_markAbbreviationS.sp0_0 ((List Abbr) × Int) (fun k x => laws_markAbbreviationS.l0 k x.1 x.2.1 x.2.2.1) (.exit 0) (fun y => (y.1, y.2, ())) (fun x => (x.1, x.2.1))
def laws_markAbbreviationS.L : Nat → Option LArm := fun b => match b with
  | 0 => some laws_markAbbreviationS.A0
  | _ => none
theorem laws_markAbbreviationS.run (k : Nat) (a0 : List Abbr) (a1 : Int) : runM envX (tabC (laws_markAbbreviationS.C k)) (tabL 29 k laws_markAbbreviationS.L) Tryd.f22 mbase (.fr 79 .abbr a0) [.t (.int .i64) a1] (viewK (.fr 79 .abbr) (viewR1 (.t (.int .i64)))) = laws_markAbbreviationS.F k a0 a1 := by kernel_rfl
theorem laws_markAbbreviationS.step0 (k : Nat) (x0 : List Abbr) (x1 : Int) (x5 : Int) : runC envX (tabC (laws_markAbbreviationS.C k)) (tabL 29 k laws_markAbbreviationS.L) 0 (loopAt Tryd.f22 0) (stOf 29 laws_markAbbreviationS.sp0 (x0, x1, x5, ())) (laws_markAbbreviationS.A0.cont 29 k) = laws_markAbbreviationS.l0 (k + 1) x0 x1 x5 := by kernel_rfl
theorem laws_markAbbreviationS.G (hE : EnvOk Tryd.prog envX) (pv : Nat → Value) (k : Nat) : ∀ cal A, laws_markAbbreviationS.C k cal = some A → ArmOk Tryd.prog envX pv cal A := by
  intro cal A h
  unfold laws_markAbbreviationS.C at h
  split at h
  · cases h; exact fun x y hy => laws_markText.good hE pv k x.1 hy
  · cases h
theorem laws_markAbbreviationS.good (hE : EnvOk Tryd.prog envX) (pv : Nat → Value) (k : Nat) (a0 : List Abbr) (a1 : Int) {y : _} (h : laws_markAbbreviationS.F k a0 a1 = some y) : MeetsM Tryd.prog envX pv 22 (.fr 79 .abbr a0) (tvals [(.int .i64)] (a1, ())) (.kep (.fr 79 .abbr y.1) (.t (.int .i64) y.2)) :=
  funM_loops hE (t := laws_markAbbreviationS.C) k (fun k _ => laws_markAbbreviationS.G hE pv k) (f := 22) (fn := Tryd.f22) (by kernel_rfl) rfl (by kernel_rfl) (.inl rfl) (by kernel_rfl) (lt := laws_markAbbreviationS.L) (by kernel_rfl) (fun b A h => by
    unfold laws_markAbbreviationS.L at h; split at h
    · cases h; exact ⟨by kernel_rfl, by kernel_rfl, fun _ => rfl, fun _ => rfl⟩
    · cases h) (fun b A h => by
    unfold laws_markAbbreviationS.L at h; split at h
    · cases h; exact fun k x => laws_markAbbreviationS.step0 k x.1 x.2.1 x.2.2.1
    · cases h) ((laws_markAbbreviationS.run k a0 a1).trans h) fun r hr => wk_viewK (fun r y h => wk_view1 h) hr
/-! ### 4 loop.example/g00896/laws.FnExactUnabbreviatedWords -/
def laws_FnExactUnabbreviatedWords.F (k : Nat) (a0 : List Abbr) (a1 : ByteArray) : Option (Bool) := bif (decide ((a1.size : Int) > 1048576)) then (some true) else ((laws_szAbbreviationS.F k a0 1048576).bind fun r1 => bif (decide (r1 < 0)) then (some true) else ((laws_toAbbreviationS.F k a0).bind fun r2 => (spec_UnabbreviatedWords.F k r2 a1).bind fun r3 => (laws_toAbbreviationS.F k a0).bind fun r4 => (impl_UnabbreviatedWords.F k r4 a1).bind fun r5 => (laws_eqStringS.F k r5.1 r3.1).bind fun r6 => bif (!r6) then (some false) else (bif (!(r5.2 == r3.2)) then (some false) else ((laws_toAbbreviationS.F k a0).bind fun r7 => (laws_eqAbbreviationS.F k r4 r7).bind fun r8 => bif (!r8) then (some false) else ((laws_markAbbreviationS.F k r4 1).bind fun r9 => bif (decide (r9.2 < 0)) then (some false) else ((laws_eqStringS.F k r5.1 r3.1).bind fun r10 => bif (!r10) then (some false) else (bif (!(r5.2 == r3.2)) then (some false) else ((laws_markStringS.F k r5.1 1).bind fun r11 => (laws_heldStringS.F k r11.1 1).bind fun r12 => bif (decide (r12 < 0)) then (some false) else (bif (r12 != r11.2) then (some false) else ((laws_toAbbreviationS.F k a0).bind fun r13 => (impl_UnabbreviatedWords.F k r13 a1).bind fun r14 => (laws_eqStringS.F k r14.1 r3.1).bind fun r15 => bif (!r15) then (some false) else (bif (!(r14.2 == r3.2)) then (some false) else ((laws_heldStringS.F k r11.1 1).bind fun r16 => bif (decide (r16 < 0)) then (some false) else (bif (r16 != r11.2) then (some false) else (some true))))))))))))))
def laws_FnExactUnabbreviatedWords.C (k : Nat) : Cal → Option CArm := fun c => match c with
  | .f 17 => some (.p [(.sl .abbr), (.int .i64)] _ (fun x => laws_szAbbreviationS.F k x.1 x.2.1) (fun r => (.t (.int .i64) r)))
  | .f 19 => some (.p [(.sl .abbr)] _ (fun x => laws_toAbbreviationS.F k x.1) (fun r => (.fr 79 .abbr r)))
  | .f 18 => some (.p [(.sl .abbr), .str] _ (fun x => spec_UnabbreviatedWords.F k x.1 x.2.1) (fun r => (.tup [.fr 9 .str r.1, .t .bool r.2])))
  | .f 20 => some (.p [(.sl .abbr), .str] _ (fun x => impl_UnabbreviatedWords.F k x.1 x.2.1) (fun r => (.tup [.fr 9 .str r.1, .t .bool r.2])))
  | .f 12 => some (.p [(.sl .str), (.sl .str)] _ (fun x => laws_eqStringS.F k x.1 x.2.1) (fun r => (.t .bool r)))
  | .f 21 => some (.p [(.sl .abbr), (.sl .abbr)] _ (fun x => laws_eqAbbreviationS.F k x.1 x.2.1) (fun r => (.t .bool r)))
  | .f 22 => some (.m (.fr 79 .abbr) [(.int .i64)] _ (fun x0 x => laws_markAbbreviationS.F k x0 x.1) (fun r => .kep (.fr 79 .abbr r.1) (.t (.int .i64) r.2)))
  | .f 15 => some (.m (.fr 9 .str) [(.int .i64)] _ (fun x0 x => laws_markStringS.F k x0 x.1) (fun r => .kep (.fr 9 .str r.1) (.t (.int .i64) r.2)))
  | .f 16 => some (.p [(.sl .str), (.int .i64)] _ (fun x => laws_heldStringS.F k x.1 x.2.1) (fun r => (.t (.int .i64) r)))
  | _ => none
theorem laws_FnExactUnabbreviatedWords.run (k : Nat) (a0 : List Abbr) (a1 : ByteArray) : runF envX (tabC (laws_FnExactUnabbreviatedWords.C k)) (tabL 104 0 (fun _ => none)) Tryd.f4 [.t (.sl .abbr) a0, .t .str a1] (viewR1 (.t .bool)) = laws_FnExactUnabbreviatedWords.F k a0 a1 := by kernel_rfl
theorem laws_FnExactUnabbreviatedWords.G (hE : EnvOk Tryd.prog envX) (pv : Nat → Value) (k : Nat) : ∀ cal A, laws_FnExactUnabbreviatedWords.C k cal = some A → ArmOk Tryd.prog envX pv cal A := by
  intro cal A h
  unfold laws_FnExactUnabbreviatedWords.C at h
  split at h
  · cases h; exact fun x y hy => laws_szAbbreviationS.good hE pv k x.1 x.2.1 hy
  · cases h; exact fun x y hy => laws_toAbbreviationS.good hE pv k x.1 hy
  · cases h; exact fun x y hy => spec_UnabbreviatedWords.good hE pv k x.1 x.2.1 hy
  · cases h; exact fun x y hy => impl_UnabbreviatedWords.good hE pv k x.1 x.2.1 hy
  · cases h; exact fun x y hy => laws_eqStringS.good hE pv k x.1 x.2.1 hy
  · cases h; exact fun x y hy => laws_eqAbbreviationS.good hE pv k x.1 x.2.1 hy
  · cases h; exact ⟨_, rfl, fun x0 x y hy => laws_markAbbreviationS.good hE pv k x0 x.1 hy⟩
  · cases h; exact ⟨_, rfl, fun x0 x y hy => laws_markStringS.good hE pv k x0 x.1 hy⟩
  · cases h; exact fun x y hy => laws_heldStringS.good hE pv k x.1 x.2.1 hy
  · cases h
theorem laws_FnExactUnabbreviatedWords.good (hE : EnvOk Tryd.prog envX) (pv : Nat → Value) (k : Nat) (a0 : List Abbr) (a1 : ByteArray) {y : _} (h : laws_FnExactUnabbreviatedWords.F k a0 a1 = some y) : Meets Tryd.prog envX pv (.f 4) (tvals [(.sl .abbr), .str] (a0, a1, ())) (.t .bool y) :=
  fun_plain hE (laws_FnExactUnabbreviatedWords.G hE pv k) (f := 4) (fn := Tryd.f4) (by kernel_rfl) rfl (by kernel_rfl) (by kernel_rfl) ((laws_FnExactUnabbreviatedWords.run k a0 a1).trans h) fun r hr => wk_view1 hr
end Go.Proofs.YtnffgabfibafjaaDoor
end
section
/- Plain laws: abbreviations, their check. -/
namespace Go.Proofs.YtnffgabfibafjaaDoor
open Go.Gx
set_option linter.unusedVariables false
set_option linter.unusedSimpArgs false

/-! ### Of the law: sizes, copies, equality -/
def szA (a : Abbr) : Nat := a.word.size + a.short.size
def totA (xs : List Abbr) : Nat := (xs.map szA).sum
theorem szA_ev (a : Abbr) (l : Int) (hl : 0 ≤ l) (hl2 : l ≤ 1048576) (h : WF .abbr a) : laws_szAbbreviation.F a l = some (if l - szA a < 0 then -1 else l - szA a) := by
  cases h with
  | abbr _ h1 h2 =>
    have h1 := wf_str h1
    have h2 := wf_str h2
    unfold laws_szAbbreviation.F szA
    by_cases c : l - (a.word.size : Int) < 0
    · simp (disch := omega) only [wrap_in, cpos]
      rw [if_pos (by omega)]
    · by_cases c2 : l - (a.word.size : Int) - (a.short.size : Int) < 0
      · simp (disch := omega) only [wrap_in, cpos, cneg]
        rw [if_pos (by omega)]
      · simp (disch := omega) only [wrap_in, cpos, cneg]
        rw [if_neg (by omega)]
        congr 1; omega
theorem getD_at {α : Type} {xs : List α} {i : Nat} (h : i < xs.length) (d : α) : xs.getD i d = xs[i] := by simp [List.getD, List.getElem?_eq_getElem h]
theorem szAs_l0 (xs : List Abbr) (hw : WF (.sl .abbr) xs) (hlen : xs.length ≤ 1048576) : ∀ n i : Nat, i + n = xs.length → ∀ l : Int, 0 ≤ l → l ≤ 1048576 →
    Ev (fun k => laws_szAbbreviationS.l0 k xs l i) (if l - totA (xs.drop i) < 0 then .inl (-1) else .inr (l - totA (xs.drop i)))
  | 0, i, h, l, h0, h1 => by
    refine Ev.step (fun k => by rw [laws_szAbbreviationS.l0]) ?_
    simp (disch := omega) only [cneg]
    rw [List.drop_eq_nil_of_le (by omega)]
    simp only [totA, List.map_nil, List.sum_nil]
    rw [if_neg (by omega)]
    exact (Ev.pure _).eq (by congr 1; omega)
  | n + 1, i, h, l, h0, h1 => by
    have hi : i < xs.length := by omega
    have hwi : WF .abbr xs[i] := by cases hw with | sl _ _ _ h => exact h i hi
    have hd : totA (xs.drop i) = szA xs[i] + totA (xs.drop (i + 1)) := by
      rw [List.drop_eq_getElem_cons hi]; unfold totA; rw [List.map_cons, List.sum_cons]
    refine Ev.step (fun k => by rw [laws_szAbbreviationS.l0]) ?_
    simp (disch := omega) only [cpos, Int.toNat_natCast, getD_at hi]
    refine Ev.bind0 (szA_ev _ l h0 h1 hwi) ?_
    by_cases c : l - (szA xs[i] : Int) < 0
    · simp (disch := omega) only [if_pos c, cpos]
      rw [if_pos (by omega)]
      exact Ev.pure _
    · simp (disch := omega) only [if_neg c, cneg, wrap_in]
      have := szAs_l0 xs hw hlen n (i + 1) (by omega) (l - szA xs[i]) (by omega) (by omega)
      refine this.eq ?_
      rw [hd]
      by_cases c2 : l - (szA xs[i] : Int) - (totA (xs.drop (i + 1)) : Int) < 0
      · rw [if_pos c2, if_pos (by omega)]
      · rw [if_neg c2, if_neg (by omega)]; congr 1; omega
theorem wf_len {e : Ty} {xs : List (den e)} (h : WF (.sl e) xs) : xs.length ≤ 9223372036854775807 := by
  cases h with | sl _ _ h _ => exact maxLen_eq ▸ h
theorem szAs_ev (xs : List Abbr) (l : Int) (h0 : 0 ≤ l) (h1 : l ≤ 1048576) (hw : WF (.sl .abbr) xs) : ∃ r, Ev (fun k => laws_szAbbreviationS.F k xs l) r ∧ (0 ≤ r → (xs.length : Int) + totA xs + r = l) := by
  have hl : xs.length ≤ 9223372036854775807 := wf_len hw
  unfold laws_szAbbreviationS.F
  by_cases c : l - (xs.length : Int) < 0
  · simp (disch := omega) only [wrap_in, cpos]
    exact ⟨-1, Ev.pure _, fun h => by omega⟩
  · simp (disch := omega) only [wrap_in, cneg]
    have := szAs_l0 xs hw (by omega) xs.length 0 (by omega) (l - xs.length) (by omega) (by omega)
    simp only [List.drop_zero] at this
    by_cases c2 : l - (xs.length : Int) - (totA xs : Int) < 0
    · rw [if_pos c2] at this
      exact ⟨-1, Ev.bind this (Ev.pure _), fun h => by omega⟩
    · rw [if_neg c2] at this
      exact ⟨l - (xs.length : Int) - (totA xs : Int), Ev.bind this (Ev.pure _), fun h => by omega⟩
theorem toAs_l0 (xs : List Abbr) (hlen : xs.length ≤ 1048576) : ∀ n i : Nat, i + n = xs.length → ∀ ys : List Abbr, ys.length = xs.length → ys.take i = xs.take i → Ev (fun k => laws_toAbbreviationS.l0 k xs ys i) xs
  | 0, i, h, ys, hy, ht => by
    refine Ev.step (fun k => by rw [laws_toAbbreviationS.l0]) ?_
    simp (disch := omega) only [cneg]
    have : ys = xs := by
      rw [List.take_of_length_le (by omega), List.take_of_length_le (by omega)] at ht
      exact ht
    rw [this]; exact Ev.pure _
  | n + 1, i, h, ys, hy, ht => by
    have hi : i < xs.length := by omega
    refine Ev.step (fun k => by rw [laws_toAbbreviationS.l0]) ?_
    simp (disch := omega) only [cpos, Int.toNat_natCast, getD_at hi]
    refine Ev.bind0 (a := xs[i]) rfl ?_
    simp (disch := omega) only [cpos, wrap_in]
    have := toAs_l0 xs hlen n (i + 1) (by omega) (ys.set i xs[i]) (by simpa using hy) (by
      rw [List.take_add_one, List.take_add_one, List.take_set_of_le (Nat.le_refl i), ht]
      simp [show i < ys.length by omega, hi])
    exact this
theorem toAs_ev (xs : List Abbr) (hlen : xs.length ≤ 1048576) : Ev (fun k => laws_toAbbreviationS.F k xs) xs := by
  unfold laws_toAbbreviationS.F
  have hn : nb .abbr = 32 := rfl
  simp (disch := first | omega | (simp only [hn, Int.toNat_natCast]; omega)) only [ceq, cpos, cble]
  refine Ev.bind (a := xs) ?_ (Ev.pure _)
  exact toAs_l0 xs hlen xs.length 0 (by omega) _ (by simp) (by simp)
theorem eqA_ev (a : Abbr) : laws_eqAbbreviation.F a a = some true := by
  unfold laws_eqAbbreviation.F
  simp only [beqS_self, Bool.not_true, cond_false]
theorem eqAs_l0 (xs : List Abbr) (hlen : xs.length ≤ 1048576) : ∀ n i : Nat, i + n = xs.length → Ev (fun k => laws_eqAbbreviationS.l0 k xs xs i) (.inr ())
  | 0, i, h => by
    refine Ev.step (fun k => by rw [laws_eqAbbreviationS.l0]) ?_
    simp (disch := omega) only [cneg]
    exact Ev.pure _
  | n + 1, i, h => by
    have hi : i < xs.length := by omega
    refine Ev.step (fun k => by rw [laws_eqAbbreviationS.l0]) ?_
    simp (disch := omega) only [cpos, Int.toNat_natCast, getD_at hi]
    refine Ev.bind0 (eqA_ev _) ?_
    simp (disch := omega) only [Bool.not_true, cond_false, wrap_in]
    exact eqAs_l0 xs hlen n (i + 1) (by omega)
theorem eqAs_ev (xs : List Abbr) (hlen : xs.length ≤ 1048576) : Ev (fun k => laws_eqAbbreviationS.F k xs xs) true := by
  unfold laws_eqAbbreviationS.F
  simp (disch := omega) only [cbeq]
  exact Ev.bind (eqAs_l0 xs hlen xs.length 0 (by omega)) (Ev.pure _)

/-! ### Small words -/
def low (b : UInt8) : Bool := decide (97 ≤ b.toNat) && decide (b.toNat ≤ 122)
def cutB (s : ByteArray) (b : Nat) : ByteArray := if 0 < s.size ∧ bt s (s.size - 1) = b then s.extract 0 (s.size - 1) else s
theorem cutB_size (s : ByteArray) (b : Nat) : (cutB s b).size ≤ s.size := by
  unfold cutB; split
  · simp [ByteArray.size_extract]
  · exact Nat.le_refl _
theorem size_pos {s : ByteArray} : (!beqS s ⟨#[]⟩) = decide (0 < s.size) := by
  rw [beqS_eq]
  have : L ⟨#[]⟩ = [] := rfl
  rw [this, ← L_size]
  cases L s <;> rfl
theorem specCut_ev (s : ByteArray) (b : Nat) (h : s.size ≤ 9223372036854775807) : spec_l19Cut.F s b = some (cutB s b) := by
  unfold spec_l19Cut.F cutB
  rw [size_pos]
  by_cases c : 0 < s.size
  · simp (disch := omega) only [cpos, wrap_in]
    rw [show ((s.size : Int) - 1).toNat = s.size - 1 by omega]
    by_cases c2 : bt s (s.size - 1) = b
    · simp (disch := first | omega | exact c2) only [ceq]
      rw [if_pos ⟨c, c2⟩]
    · simp (disch := first | omega | exact c2) only [cne]
      rw [if_neg (fun h => c2 h.2)]
  · simp (disch := omega) only [cneg]
    rw [if_neg (fun h => c h.1)]
theorem suffix_ev (s : ByteArray) (c : UInt8) (h : s.size ≤ 9223372036854775807) : stringslite_HasSuffix.F s ⟨#[c]⟩ = some (decide (0 < s.size) && (bt s (s.size - 1) == (c.toNat : Int))) := by
  unfold stringslite_HasSuffix.F
  have h1 : (⟨#[c]⟩ : ByteArray).size = 1 := rfl
  rw [h1]
  by_cases hs : 0 < s.size
  · simp (disch := omega) only [cpos, wrap_in]
    rw [beqS_eq, L_extract, show ((s.size : Int) - ((1 : Nat) : Int)).toNat = s.size - 1 by omega, List.take_of_length_le (by rw [L_size]; omega), L_bt]
    congr 1
    have hl : s.size - 1 < (L s).length := by rw [L_size]; omega
    rw [List.drop_eq_getElem_cons hl, List.drop_eq_nil_of_le (by rw [L_size]; omega), getD_at hl, decide_eq_true hs]
    show ([(L s)[s.size - 1]] == [c]) = _
    rw [Bool.true_and]
    by_cases e : (L s)[s.size - 1] = c
    · rw [e]; simp
    · have : ((L s)[s.size - 1].toNat : Int) ≠ (c.toNat : Int) := fun h => e (UInt8.toNat_inj.1 (by omega))
      rw [show ((((L s)[s.size - 1]).toNat : Int) == (c.toNat : Int)) = false by simpa using this]
      simpa using e
  · simp (disch := omega) only [cneg]
    rw [decide_eq_false hs]; rfl
theorem trim_ev (s : ByteArray) (c : UInt8) (h : s.size ≤ 9223372036854775807) : strings_TrimSuffix.F s ⟨#[c]⟩ = some (cutB s c.toNat) := by
  unfold strings_TrimSuffix.F stringslite_TrimSuffix.F
  rw [suffix_ev s c h]
  have h1 : (⟨#[c]⟩ : ByteArray).size = 1 := rfl
  rw [h1]
  unfold cutB
  simp only [Option.bind_some]
  by_cases hs : 0 < s.size
  · simp (disch := omega) only [cpos, wrap_in, decide_eq_true hs, Bool.true_and]
    rw [show ((s.size : Int) - ((1 : Nat) : Int)).toNat = s.size - 1 by omega]
    by_cases c2 : bt s (s.size - 1) = c.toNat
    · simp (disch := first | omega | exact c2) only [ceq]
      rw [if_pos ⟨hs, c2⟩]; rfl
    · simp (disch := first | omega | exact c2) only [cne]
      rw [if_neg (fun h => c2 h.2)]; rfl
  · rw [decide_eq_false hs, if_neg (fun h => hs h.1)]; rfl
theorem low_int (b : UInt8) : low b = (decide ((b.toNat : Int) ≥ 97) && decide ((b.toNat : Int) ≤ 122)) := by
  unfold low
  congr 1 <;> exact decide_eq_decide.2 (by omega)
theorem isLower_ev (b : UInt8) : impl_isLower.F (b.toNat : Int) = some (low b) := by
  unfold impl_isLower.F
  rw [low_int]
  cases decide ((b.toNat : Int) ≥ 97) <;> rfl
theorem in_ev (a b c : Int) : spec_l1In.F a b c = some (decide (a ≥ b) && decide (a ≤ c)) := by
  unfold spec_l1In.F
  cases decide (a ≥ b) <;> rfl
theorem inside_ev (a b c : Int) : impl_inside.F a b c = some (decide (a ≥ b) && decide (a ≤ c)) := by
  unfold impl_inside.F
  cases decide (a ≥ b) <;> rfl
theorem all_drop {s : ByteArray} {i : Nat} (hi : i < s.size) (p : UInt8 → Bool) : ((L s).drop i).all p = (p ((L s).getD i 0) && ((L s).drop (i + 1)).all p) := by
  have hl : i < (L s).length := by rw [L_size]; exact hi
  rw [List.drop_eq_getElem_cons hl, getD_at hl]; rfl
theorem small_l0 (s : ByteArray) (hs : s.size ≤ 9223372036854775806) (lo hi : Int) : ∀ n i : Nat, i + n = s.size → Ev (fun k => impl_isSmall.l0 k s lo hi i) (if ((L s).drop i).all low = true then .inr (s, lo, hi) else .inl false)
  | 0, i, h => by
    refine Ev.step (fun k => by rw [impl_isSmall.l0]) ?_
    simp (disch := omega) only [cneg]
    rw [List.drop_eq_nil_of_le (by rw [L_size]; omega)]
    exact Ev.pure _
  | n + 1, i, h => by
    refine Ev.step (fun k => by rw [impl_isSmall.l0]) ?_
    simp (disch := omega) only [cpos, Int.toNat_natCast, L_bt]
    refine Ev.bind0 (isLower_ev _) ?_
    rw [all_drop (by omega)]
    cases hlow : low ((L s).getD i 0) with
    | false => simp only [Bool.not_false, cond_true, Bool.false_and]; exact Ev.pure _
    | true =>
      simp (disch := omega) only [Bool.not_true, cond_false, Bool.true_and, wrap_in]
      exact small_l0 s hs lo hi n (i + 1) (by omega)
theorem letters_l0 (s : ByteArray) (hs : s.size ≤ 9223372036854775806) (lo hi : Int) : ∀ n i : Nat, i + n = s.size → Ev (fun k => spec_l19Letters.l0 k s lo hi i) (if ((L s).drop i).all low = true then .inr (s, lo, hi) else .inl false)
  | 0, i, h => by
    refine Ev.step (fun k => by rw [spec_l19Letters.l0]) ?_
    simp (disch := omega) only [cneg]
    rw [List.drop_eq_nil_of_le (by rw [L_size]; omega)]
    exact Ev.pure _
  | n + 1, i, h => by
    refine Ev.step (fun k => by rw [spec_l19Letters.l0]) ?_
    simp (disch := omega) only [cpos, Int.toNat_natCast, L_bt]
    rw [all_drop (by omega), low_int]
    generalize (((L s).getD i 0).toNat : Int) = b
    by_cases c : b < 97
    · simp (disch := omega) only [cpos, dneg, Bool.false_and]; exact Ev.pure _
    · by_cases c2 : b > 122
      · simp (disch := omega) only [cneg, cpos, dpos, dneg, Bool.true_and, Bool.false_and]; exact Ev.pure _
      · simp (disch := omega) only [cneg, dpos, Bool.true_and, wrap_in]
        exact letters_l0 s hs lo hi n (i + 1) (by omega)
def smallB (s : ByteArray) (lo hi : Int) (b : Nat) : Bool := (L (cutB s b)).all low && (decide ((((cutB s b).size : Nat) : Int) ≥ lo) && decide ((((cutB s b).size : Nat) : Int) ≤ hi))
theorem isSmall_ev (s : ByteArray) (lo hi : Int) (c : UInt8) (h : s.size ≤ 9223372036854775806) : Ev (fun k => impl_isSmall.F k s lo hi ⟨#[c]⟩) (smallB s lo hi c.toNat) := by
  unfold impl_isSmall.F smallB
  refine Ev.bind0 (trim_ev s c (by omega)) ?_
  have hc := cutB_size s c.toNat
  have := small_l0 (cutB s c.toNat) (by omega) lo hi (cutB s c.toNat).size 0 (by omega)
  rw [List.drop_zero] at this
  cases hall : (L (cutB s c.toNat)).all low with
  | true => rw [hall] at this; exact Ev.bind this (Ev.bind0 (inside_ev _ _ _) (Ev.pure _))
  | false => rw [hall] at this; exact Ev.bind this (Ev.pure _)
theorem letters_ev (s : ByteArray) (lo hi : Int) (h : s.size ≤ 9223372036854775806) : Ev (fun k => spec_l19Letters.F k s lo hi) ((L s).all low && (decide ((s.size : Int) ≥ lo) && decide ((s.size : Int) ≤ hi))) := by
  unfold spec_l19Letters.F
  have := letters_l0 s h lo hi s.size 0 (by omega)
  rw [List.drop_zero] at this
  cases hall : (L s).all low with
  | true => rw [hall] at this; exact Ev.bind this (Ev.bind0 (in_ev _ _ _) (Ev.pure _))
  | false => rw [hall] at this; exact Ev.bind this (Ev.pure _)
def oneB (a : Abbr) : Bool := smallB a.word 2 15 45 && smallB a.short 1 12 46
theorem one_ev (a : Abbr) (h1 : a.word.size ≤ 9223372036854775806) (h2 : a.short.size ≤ 9223372036854775806) : Ev (fun k => spec_l19One.F k a) (oneB a) := by
  unfold spec_l19One.F oneB
  refine Ev.bind0 (specCut_ev a.word 45 (by omega)) ?_
  have hc := cutB_size a.word 45
  refine Ev.bind (letters_ev _ 2 15 (by omega)) ?_
  refine Ev.cond (fun h => ?_) (fun h => ?_)
  · refine Ev.bind0 (specCut_ev a.short 46 (by omega)) ?_
    have hc := cutB_size a.short 46
    refine (Ev.bind (letters_ev _ 1 12 (by omega)) (Ev.pure _)).eq ?_
    show _ = (smallB a.word 2 15 45 && _)
    rw [show smallB a.word 2 15 45 = true from h, Bool.true_and]; rfl
  · rw [show smallB a.word 2 15 45 = false from h]; exact Ev.pure _

/-! ### Lists -/
def okA (xs : List Abbr) (i : Nat) : Bool := oneB (xs.getD i (dflt .abbr)) && (decide (i = 0) || ltS (xs.getD (i - 1) (dflt .abbr)).word (xs.getD i (dflt .abbr)).word)
def smalls (xs : List Abbr) : Prop := xs.length ≤ 1048576 ∧ ∀ a ∈ xs, a.word.size ≤ 1048576 ∧ a.short.size ≤ 1048576
theorem validImpl_l0 (xs : List Abbr) (hs : smalls xs) : ∀ n i : Nat, i + n = xs.length → Ev (fun k => impl_IsValidAbbreviations.l0 k xs xs xs.length i) (if (List.range' i n).all (okA xs) = true then .inr xs else .inl false)
  | 0, i, h => by
    refine Ev.step (fun k => by rw [impl_IsValidAbbreviations.l0]) ?_
    simp (disch := omega) only [cneg]
    exact Ev.pure _
  | n + 1, i, h => by
    have hi : i < xs.length := by omega
    obtain ⟨hl, hx⟩ := hs
    obtain ⟨h1, h2⟩ := hx _ (List.getElem_mem hi)
    rw [← getD_at hi (dflt .abbr)] at h1 h2
    rw [List.range'_succ, List.all_cons]
    refine Ev.step (fun k => by rw [impl_IsValidAbbreviations.l0]) ?_
    simp (disch := omega) only [cpos, Int.toNat_natCast]
    refine Ev.bind (isSmall_ev _ 2 15 45 (by omega)) ?_
    unfold okA oneB
    cases hw : smallB (xs.getD i (dflt .abbr)).word 2 15 (45 : UInt8).toNat with
    | false =>
      rw [show smallB (xs.getD i (dflt .abbr)).word 2 15 45 = false from hw]
      exact Ev.pure _
    | true =>
      rw [show smallB (xs.getD i (dflt .abbr)).word 2 15 45 = true from hw]
      simp only [Bool.not_true, cond_false, Bool.true_and]
      refine Ev.bind (isSmall_ev _ 1 12 46 (by omega)) ?_
      cases hw2 : smallB (xs.getD i (dflt .abbr)).short 1 12 (46 : UInt8).toNat with
      | false =>
        rw [show smallB (xs.getD i (dflt .abbr)).short 1 12 46 = false from hw2]
        exact Ev.pure _
      | true =>
        rw [show smallB (xs.getD i (dflt .abbr)).short 1 12 46 = true from hw2]
        simp only [Bool.not_true, cond_false, Bool.true_and]
        have ih := validImpl_l0 xs ⟨hl, hx⟩ n (i + 1) (by omega)
        by_cases c : i = 0
        · simp (disch := omega) only [cneg, wrap_in, dpos, Bool.true_or, Bool.true_and]
          exact ih
        · simp (disch := omega) only [cpos, wrap_in, dneg, Bool.false_or]
          rw [show ((i : Int) - 1).toNat = i - 1 by omega]
          cases ltS (xs.getD (i - 1) (dflt .abbr)).word (xs.getD i (dflt .abbr)).word with
          | false => exact Ev.pure _
          | true => exact ih
theorem validSpec_l0 (xs : List Abbr) (hs : smalls xs) : ∀ n i : Nat, i + n = xs.length → ∃ r, Ev (fun k => spec_l19Good.l0 k xs i) r ∧ (r = .inl false ∨ r = .inr xs) ∧ (xs.length ≤ 15 → r = if (List.range' i n).all (okA xs) = true then .inr xs else .inl false)
  | 0, i, h => by
    refine ⟨.inr xs, Ev.step (fun k => by rw [spec_l19Good.l0]) ?_, .inr rfl, fun _ => rfl⟩
    simp (disch := omega) only [cneg]
    exact Ev.pure _
  | n + 1, i, h => by
    have hi : i < xs.length := by omega
    obtain ⟨hl, hx⟩ := hs
    obtain ⟨h1, h2⟩ := hx _ (List.getElem_mem hi)
    rw [← getD_at hi (dflt .abbr)] at h1 h2
    obtain ⟨r, ih1, ih2, ih3⟩ := validSpec_l0 xs ⟨hl, hx⟩ n (i + 1) (by omega)
    rw [List.range'_succ, List.all_cons]
    by_cases c15 : (i : Int) ≤ 15
    · have st : ∀ r, Ev (fun k => spec_l19Good.l0 k xs i) r ↔ Ev (fun k => spec_l19Good.l0 k xs i) r := fun _ => Iff.rfl
      cases ho : oneB (xs.getD i (dflt .abbr)) with
      | false =>
        refine ⟨.inl false, Ev.step (fun k => by rw [spec_l19Good.l0]) ?_, .inl rfl, fun _ => by unfold okA; rw [ho]; rfl⟩
        simp (disch := omega) only [cpos, Int.toNat_natCast]
        exact Ev.bind (one_ev _ (by omega) (by omega)) (by rw [ho]; exact Ev.pure _)
      | true =>
        by_cases c : i = 0
        · refine ⟨r, Ev.step (fun k => by rw [spec_l19Good.l0]) ?_, ih2, fun h15 => by rw [ih3 h15]; unfold okA; rw [ho, decide_eq_true c]; rfl⟩
          simp (disch := omega) only [cpos, Int.toNat_natCast]
          refine Ev.bind (one_ev _ (by omega) (by omega)) ?_
          rw [ho]
          simp (disch := omega) only [Bool.not_true, cond_false, cneg, wrap_in]
          exact ih1
        · cases hlt : ltS (xs.getD (i - 1) (dflt .abbr)).word (xs.getD i (dflt .abbr)).word with
          | false =>
            refine ⟨.inl false, Ev.step (fun k => by rw [spec_l19Good.l0]) ?_, .inl rfl, fun _ => by unfold okA; rw [ho, hlt, decide_eq_false c]; rfl⟩
            simp (disch := omega) only [cpos, Int.toNat_natCast]
            refine Ev.bind (one_ev _ (by omega) (by omega)) ?_
            rw [ho]
            simp (disch := omega) only [Bool.not_true, cond_false, cpos, wrap_in]
            rw [show ((i : Int) - 1).toNat = i - 1 by omega, hlt]
            exact Ev.pure _
          | true =>
            refine ⟨r, Ev.step (fun k => by rw [spec_l19Good.l0]) ?_, ih2, fun h15 => by rw [ih3 h15]; unfold okA; rw [ho, hlt, decide_eq_false c]; rfl⟩
            simp (disch := omega) only [cpos, Int.toNat_natCast]
            refine Ev.bind (one_ev _ (by omega) (by omega)) ?_
            rw [ho]
            simp (disch := omega) only [Bool.not_true, cond_false, cpos, wrap_in]
            rw [show ((i : Int) - 1).toNat = i - 1 by omega, hlt]
            exact ih1
    · refine ⟨.inr xs, Ev.step (fun k => by rw [spec_l19Good.l0]) ?_, .inr rfl, fun h15 => by omega⟩
      simp (disch := omega) only [cpos, cneg]
      exact Ev.pure _
/-- Are the abbreviations valid? -/
def validA (xs : List Abbr) : Bool := (List.range' 0 xs.length).all (okA xs) && decide ((xs.length : Int) ≤ 15)
theorem validImpl_ev (xs : List Abbr) (hs : smalls xs) : Ev (fun k => impl_IsValidAbbreviations.F k xs) (validA xs) := by
  unfold impl_IsValidAbbreviations.F validA
  have := validImpl_l0 xs hs xs.length 0 (by omega)
  cases hall : (List.range' 0 xs.length).all (okA xs) with
  | true => rw [hall] at this; exact Ev.bind this (Ev.pure _)
  | false => rw [hall] at this; exact Ev.bind this (Ev.pure _)
theorem validSpec_ev (xs : List Abbr) (hs : smalls xs) : Ev (fun k => spec_l19Good.F k xs) (validA xs) := by
  unfold spec_l19Good.F validA
  obtain ⟨r, h1, h2, h3⟩ := validSpec_l0 xs hs xs.length 0 (by omega)
  by_cases c : xs.length ≤ 15
  · have := h3 c
    cases hall : (List.range' 0 xs.length).all (okA xs) with
    | true => rw [this, hall] at h1; exact Ev.bind h1 (Ev.pure _)
    | false => rw [this, hall] at h1; exact Ev.bind h1 (Ev.pure _)
  · rw [decide_eq_false (show ¬ (xs.length : Int) ≤ 15 by omega), Bool.and_false]
    rcases h2 with rfl | rfl
    · exact Ev.bind h1 (Ev.pure _)
    · exact Ev.bind h1 ((Ev.pure _).eq (decide_eq_false (by omega)))
theorem smalls_of {xs : List Abbr} {r l : Int} (h : (xs.length : Int) + totA xs + r = l) (hr : 0 ≤ r) (hl : l ≤ 1048576) : smalls xs := by
  refine ⟨by omega, fun a ha => ?_⟩
  have : szA a ≤ totA xs := by
    unfold totA
    clear h
    induction xs with
    | nil => cases ha
    | cons b l ih =>
      simp only [List.map_cons, List.sum_cons]
      rcases List.mem_cons.1 ha with rfl | h
      · omega
      · have := ih h; omega
  unfold szA at this
  omega
end Go.Proofs.YtnffgabfibafjaaDoor
end
section
/- Plain laws: the short form of a word. -/
namespace Go.Proofs.YtnffgabfibafjaaDoor
open Go.Gx
set_option linter.unusedVariables false
set_option linter.unusedSimpArgs false

/-! ### Bytes -/
theorem bytesL_len (s : ByteArray) : (bytesL s).length = s.size := by
  simp only [bytesL, List.length_map, Array.length_toList]; rfl
theorem bytesL_map (s : ByteArray) : bytesL s = (L s).map fun b => (b.toNat : Int) := rfl
theorem bt_bytes (s : ByteArray) (i : Nat) (h : i < (bytesL s).length) : bt s i = (bytesL s)[i] := by
  rw [L_bt]
  have h' : i < (L s).length := by simpa [bytesL_map] using h
  simp [bytesL_map, List.getD, h']
theorem bytes_range (s : ByteArray) (i : Nat) (h : i < (bytesL s).length) : 0 ≤ (bytesL s)[i] ∧ (bytesL s)[i] ≤ 255 := by
  rw [← bt_bytes s i h]; exact bt_range s i
theorem L_strL (ys : List Int) : L (strL ys) = ys.map fun n => UInt8.ofNat n.toNat := L_mk _
theorem strL_bytes (s : ByteArray) : strL (bytesL s) = s := by
  apply L_inj
  rw [L_strL, bytesL_map, List.map_map]
  conv => rhs; rw [← List.map_id (L s)]
  refine List.map_congr_left fun b _ => ?_
  simp
theorem strL_size (ys : List Int) : (strL ys).size = ys.length := by
  rw [← L_size, L_strL, List.length_map]
def ltrI (b : Int) : Bool := (decide (65 ≤ b) && decide (b ≤ 90)) || (decide (97 ≤ b) && decide (b ≤ 122))
theorem specLetter_ev (b : Int) : spec_l6Letter.F b = some (ltrI b) := by
  unfold spec_l6Letter.F ltrI
  simp only [ge_iff_le]
  cases decide (65 ≤ b) <;> cases decide (b ≤ 90) <;> cases decide (97 ≤ b) <;> cases decide (b ≤ 122) <;> rfl
theorem isLetter_ev (b : Int) : impl_isLetter.F b = some (ltrI b) := by
  unfold impl_isLetter.F impl_isUpper.F impl_isLower.F ltrI
  simp only [ge_iff_le]
  cases decide (65 ≤ b) <;> cases decide (b ≤ 90) <;> cases decide (97 ≤ b) <;> cases decide (b ≤ 122) <;> rfl
theorem isUpper_ev (b : Int) : impl_isUpper.F b = some (decide (65 ≤ b) && decide (b ≤ 90)) := by
  unfold impl_isUpper.F
  simp only [ge_iff_le]
  cases decide (65 ≤ b) <;> rfl
def lowI (b : Int) : Int := bif decide (65 ≤ b) && decide (b ≤ 90) then b + 32 else b
theorem specLowerByte_ev (b : Int) : spec_l6LowerByte.F b = some (lowI b) := by
  unfold spec_l6LowerByte.F lowI
  simp only [ge_iff_le]
  by_cases h1 : 65 ≤ b
  · by_cases h2 : b ≤ 90
    · have : IntKind.wrap .u8 (b + 32) = b + 32 := by rw [IntKind.wrap_u8]; omega
      simp only [dpos h1, dpos h2, cond_true, Bool.and_self, this]
    · simp only [dpos h1, dneg h2, cond_true, cond_false, Bool.and_false]
  · simp only [dneg h1, cond_false, Bool.false_and]
def upI (b : Int) : Int := bif decide (97 ≤ b) && decide (b ≤ 122) then IntKind.wrap .u8 (b - 32) else b
theorem specUpperByte_ev (b : Int) : spec_l6UpperByte.F b = some (upI b) := by
  unfold spec_l6UpperByte.F upI
  simp only [ge_iff_le]
  cases decide (97 ≤ b) <;> cases decide (b ≤ 122) <;> rfl
theorem upperByte_ev (b : Int) : impl_upperByte.F b = some (upI b) := by
  unfold impl_upperByte.F impl_isLower.F upI
  simp only [ge_iff_le]
  cases decide (97 ≤ b) <;> cases decide (b ≤ 122) <;> rfl

/-! ### Lower case -/
def mix (s : ByteArray) (i : Nat) : List Int := ((bytesL s).take i).map lowI ++ (bytesL s).drop i
theorem mix_len (s : ByteArray) (i : Nat) : (mix s i).length = (bytesL s).length := by
  unfold mix; simp; omega
theorem mix_at (s : ByteArray) (i : Nat) (h : i < (bytesL s).length) : (mix s i).getD i 0 = (bytesL s)[i] := by
  unfold mix
  rw [List.getD_eq_getElem?_getD, List.getElem?_append_right (by simp; omega)]
  simp [Nat.min_eq_left (Nat.le_of_lt h), h]
theorem mix_set (s : ByteArray) (i : Nat) (h : i < (bytesL s).length) : (mix s i).set i (lowI (bytesL s)[i]) = mix s (i + 1) := by
  unfold mix
  rw [List.set_append_right _ _ (by simp; omega)]
  simp only [List.length_map, List.length_take, Nat.min_eq_left (Nat.le_of_lt h), Nat.sub_self]
  rw [List.drop_eq_getElem_cons h, List.set_cons_zero, List.take_add_one, List.getElem?_eq_getElem h]
  simp only [Option.toList_some, List.map_append, List.map_cons, List.map_nil, List.append_assoc, List.cons_append, List.nil_append]
theorem mix_same (s : ByteArray) (i : Nat) (h : i < (bytesL s).length) (e : lowI (bytesL s)[i] = (bytesL s)[i]) : mix s (i + 1) = mix s i := by
  rw [← mix_set s i h, e]
  apply List.ext_getElem?
  intro j
  by_cases hj : i = j
  · subst hj
    have := mix_at s i h
    rw [List.getD_eq_getElem?_getD] at this
    rw [List.getElem?_set_self (by rw [mix_len]; exact h)]
    rw [List.getElem?_eq_getElem (by rw [mix_len]; exact h)] at this ⊢
    rw [← this]; rfl
  · rw [List.getElem?_set_ne hj]
theorem specLower_l0 (s : ByteArray) (hs : s.size ≤ 1048576) : ∀ n i : Nat, i + n = s.size → Ev (fun k => spec_l6Lower.l0 k s (((bytesL s).take i).map lowI) i) ((bytesL s).map lowI)
  | 0, i, h => by
    refine Ev.step (fun k => by rw [spec_l6Lower.l0]) ?_
    simp (disch := omega) only [cneg]
    rw [List.take_of_length_le (by rw [bytesL_len]; omega)]
    exact Ev.pure _
  | n + 1, i, h => by
    have hl := bytesL_len s
    have hi : i < (bytesL s).length := by omega
    refine Ev.step (fun k => by rw [spec_l6Lower.l0]) ?_
    simp (disch := omega) only [cpos, Int.toNat_natCast, bt_bytes s i hi]
    refine Ev.bind0 (specLowerByte_ev _) ?_
    have hr : room ((((bytesL s).take i).map lowI).length + ([lowI (bytesL s)[i]] : List Int).length) (.int .u8) = true := by
      unfold room
      rw [Nat.ble_eq]
      have : nb (.int .u8) = 1 := rfl
      rw [this]
      simp; omega
    simp (disch := omega) only [hr, cond_true, wrap_in]
    have e : ((bytesL s).take i).map lowI ++ [lowI (bytesL s)[i]] = ((bytesL s).take (i + 1)).map lowI := by
      rw [List.take_add_one, List.getElem?_eq_getElem hi]
      simp only [Option.toList_some, List.map_append, List.map_cons, List.map_nil]
    rw [e]
    exact specLower_l0 s hs n (i + 1) (by omega)
theorem lower_l0 (s : ByteArray) (hs : s.size ≤ 1048576) : ∀ n i : Nat, i + n = s.size → Ev (fun k => impl_lower.l0 k (mix s i) s.size i) ((bytesL s).map lowI)
  | 0, i, h => by
    refine Ev.step (fun k => by rw [impl_lower.l0]) ?_
    simp (disch := omega) only [cneg]
    unfold mix
    rw [List.take_of_length_le (by rw [bytesL_len]; omega), List.drop_eq_nil_of_le (by rw [bytesL_len]; omega), List.append_nil]
    exact Ev.pure _
  | n + 1, i, h => by
    have hl := bytesL_len s
    have hi : i < (bytesL s).length := by omega
    have hm := mix_len s i
    have ih := lower_l0 s hs n (i + 1) (by omega)
    have hb := bytes_range s i hi
    refine Ev.step (fun k => by rw [impl_lower.l0]) ?_
    simp (disch := omega) only [cpos, Int.toNat_natCast, mix_at s i hi]
    refine Ev.bind0 (isUpper_ev _) ?_
    cases hu : decide (65 ≤ (bytesL s)[i]) && decide ((bytesL s)[i] ≤ 90) with
    | true =>
      have hu' := hu
      simp only [Bool.and_eq_true, decide_eq_true_eq] at hu'
      have e : IntKind.wrap .u8 (IntKind.wrap .u8 ((bytesL s)[i] + 97) - 65) = lowI (bytesL s)[i] := by
        unfold lowI
        rw [hu, cond_true, IntKind.wrap_u8, IntKind.wrap_u8]; omega
      simp (disch := omega) only [cond_true, cpos, e, mix_set s i hi, wrap_in]
      exact ih
    | false =>
      have e : lowI (bytesL s)[i] = (bytesL s)[i] := by unfold lowI; rw [hu, cond_false]
      rw [mix_same s i hi e] at ih
      simp (disch := omega) only [cond_false, wrap_in]
      exact ih
def lowS (s : ByteArray) : ByteArray := strL ((bytesL s).map lowI)
theorem lowS_size (s : ByteArray) : (lowS s).size = s.size := by unfold lowS; rw [strL_size, List.length_map, bytesL_len]
theorem specLower_ev (s : ByteArray) (hs : s.size ≤ 1048576) : Ev (fun k => spec_l6Lower.F k s) (lowS s) := by
  unfold spec_l6Lower.F
  exact Ev.bind (specLower_l0 s hs s.size 0 (by omega)) (Ev.pure _)
theorem lower_ev (s : ByteArray) (hs : s.size ≤ 1048576) : Ev (fun k => impl_lower.F k s) (lowS s) := by
  unfold impl_lower.F
  rw [bytesL_len]
  simp (disch := omega) only [cble]
  have := lower_l0 s hs s.size 0 (by omega)
  unfold mix at this
  rw [List.take_zero, List.map_nil, List.nil_append, List.drop_zero] at this
  exact Ev.bind this (Ev.pure _)
end Go.Proofs.YtnffgabfibafjaaDoor
end
section
/- Plain laws: the abbreviation of a word. -/
namespace Go.Proofs.YtnffgabfibafjaaDoor
open Go.Gx
set_option linter.unusedVariables false
set_option linter.unusedSimpArgs false

/-! ### Letters -/
theorem all_bytes {s : ByteArray} {i : Nat} (h : i < (bytesL s).length) (p : Int → Bool) : ((bytesL s).drop i).all p = (p (bytesL s)[i] && ((bytesL s).drop (i + 1)).all p) := by
  rw [List.drop_eq_getElem_cons h]; rfl
theorem findL_l0 (xs : List Abbr) (s : ByteArray) (hs : s.size ≤ 1048576) : ∀ n i : Nat, i + n = s.size → Ev (fun k => spec_l19Find.l0 k xs s i) (if ((bytesL s).drop i).all ltrI = true then .inr (xs, s) else .inl (-1))
  | 0, i, h => by
    refine Ev.step (fun k => by rw [spec_l19Find.l0]) ?_
    simp (disch := omega) only [cneg]
    rw [List.drop_eq_nil_of_le (by rw [bytesL_len]; omega)]
    exact Ev.pure _
  | n + 1, i, h => by
    have hl := bytesL_len s
    have hi : i < (bytesL s).length := by omega
    refine Ev.step (fun k => by rw [spec_l19Find.l0]) ?_
    simp (disch := omega) only [cpos, Int.toNat_natCast, bt_bytes s i hi]
    refine Ev.bind0 (specLetter_ev _) ?_
    rw [all_bytes hi]
    cases ltrI (bytesL s)[i] with
    | false => exact Ev.pure _
    | true =>
      simp (disch := omega) only [Bool.not_true, cond_false, Bool.true_and, wrap_in]
      exact findL_l0 xs s hs n (i + 1) (by omega)
theorem areL_l0 (s : ByteArray) (hs : s.size ≤ 1048576) : ∀ n i : Nat, i + n = s.size → Ev (fun k => impl_areLetters.l0 k s i) (if ((bytesL s).drop i).all ltrI = true then .inr s else .inl false)
  | 0, i, h => by
    refine Ev.step (fun k => by rw [impl_areLetters.l0]) ?_
    simp (disch := omega) only [cneg]
    rw [List.drop_eq_nil_of_le (by rw [bytesL_len]; omega)]
    exact Ev.pure _
  | n + 1, i, h => by
    have hl := bytesL_len s
    have hi : i < (bytesL s).length := by omega
    refine Ev.step (fun k => by rw [impl_areLetters.l0]) ?_
    simp (disch := omega) only [cpos, Int.toNat_natCast, bt_bytes s i hi]
    refine Ev.bind0 (isLetter_ev _) ?_
    rw [all_bytes hi]
    cases ltrI (bytesL s)[i] with
    | false => exact Ev.pure _
    | true =>
      simp (disch := omega) only [Bool.not_true, cond_false, Bool.true_and, wrap_in]
      exact areL_l0 s hs n (i + 1) (by omega)
theorem areLetters_ev (s : ByteArray) (hs : s.size ≤ 1048576) : Ev (fun k => impl_areLetters.F k s) ((bytesL s).all ltrI && decide (0 < s.size)) := by
  unfold impl_areLetters.F
  have := areL_l0 s hs s.size 0 (by omega)
  rw [List.drop_zero] at this
  cases h : (bytesL s).all ltrI with
  | true =>
    rw [h] at this
    refine Ev.bind this ?_
    simp only [size_pos, Bool.true_and]
    exact Ev.pure _
  | false => rw [h] at this; exact Ev.bind this (Ev.pure _)

/-! ### The abbreviation of a word -/
def dash (s : ByteArray) : Bool := decide (0 < s.size) && (bt s (s.size - 1) == ((45 : UInt8).toNat : Int))
theorem cutSuffix_ev (s : ByteArray) (h : s.size ≤ 9223372036854775807) : strings_CutSuffix.F s ⟨#[45]⟩ = some (cutB s 45, dash s) := by
  unfold strings_CutSuffix.F stringslite_CutSuffix.F
  rw [suffix_ev s 45 h]
  have h1 : (⟨#[45]⟩ : ByteArray).size = 1 := rfl
  have h2 : ((45 : UInt8).toNat : Int) = ((45 : Nat) : Int) := rfl
  rw [h1]
  unfold cutB dash
  rw [h2]
  simp only [Option.bind_some]
  by_cases hs : 0 < s.size
  · simp (disch := omega) only [decide_eq_true hs, Bool.true_and]
    by_cases c2 : bt s (s.size - 1) = ((45 : Nat) : Int)
    · rw [show (bt s (s.size - 1) == ((45 : Nat) : Int)) = true by simpa using c2, if_pos ⟨hs, c2⟩]
      simp (disch := omega) only [Bool.not_true, cond_false, wrap_in, cpos]
      rw [show ((s.size : Int) - ((1 : Nat) : Int)).toNat = s.size - 1 by omega]; rfl
    · rw [show (bt s (s.size - 1) == ((45 : Nat) : Int)) = false by simpa using c2, if_neg (fun h => c2 h.2)]
      rfl
  · rw [decide_eq_false hs, if_neg (fun h => hs h.1)]; rfl
theorem cut_ne (s : ByteArray) : (!beqS (cutB s 45) s) = dash s := by
  have h2 : ((45 : UInt8).toNat : Int) = ((45 : Nat) : Int) := rfl
  unfold cutB dash
  rw [h2]
  by_cases hs : 0 < s.size ∧ bt s (s.size - 1) = ((45 : Nat) : Int)
  · rw [if_pos hs, decide_eq_true hs.1, show (bt s (s.size - 1) == ((45 : Nat) : Int)) = true by simpa using hs.2]
    cases e : beqS (s.extract 0 (s.size - 1)) s with
    | false => rfl
    | true =>
      have := congrArg ByteArray.size (beqS_iff.1 e)
      rw [ByteArray.size_extract] at this
      omega
  · rw [if_neg hs, beqS_self]
    by_cases h3 : 0 < s.size
    · rw [show (bt s (s.size - 1) == ((45 : Nat) : Int)) = false by simpa using fun h => hs ⟨h3, h⟩, Bool.and_false]; rfl
    · rw [decide_eq_false h3]; rfl
theorem hasPrefix_ev (s p : ByteArray) : strings_HasPrefix.F s p = some (decide ((p.size : Int) ≤ (s.size : Int)) && beqS (s.extract 0 p.size) p) := by
  unfold strings_HasPrefix.F stringslite_HasPrefix.F
  by_cases c : (p.size : Int) ≤ (s.size : Int)
  · simp (disch := omega) only [dpos, cond_true, Int.toNat_natCast, Option.bind_some, Bool.true_and]
  · simp (disch := omega) only [dneg, cond_false, Option.bind_some, Bool.false_and]
theorem find_l (xs : List Abbr) (hs : smalls xs) (lw : ByteArray) : ∀ n i : Nat, i + n = xs.length → ∀ best : Int, -1 ≤ best → best < xs.length →
    ∃ r, Ev (fun k => spec_l19Find.l2 k xs lw best i) r ∧ Ev (fun k => impl_abbreviationOf.l0 k xs lw best xs xs.length i) r ∧ ∀ z, (r = .inl z ∨ r = .inr z) → -1 ≤ z ∧ z < xs.length
  | 0, i, h, best, h1, h2 => by
    refine ⟨.inr best, Ev.step (fun k => by rw [spec_l19Find.l2]) ?_, Ev.step (fun k => by rw [impl_abbreviationOf.l0]) ?_, ?_⟩
    · simp (disch := omega) only [cneg]; exact Ev.pure _
    · simp (disch := omega) only [cneg]; exact Ev.pure _
    · rintro z (hz | hz) <;> cases hz; exact ⟨h1, h2⟩
  | n + 1, i, h, best, h1, h2 => by
    have hi : i < xs.length := by omega
    have hlen := hs.1
    have hw := (hs.2 _ (List.getElem_mem hi)).1
    have ih := find_l xs hs lw n (i + 1) (by omega)
    have cut : spec_l19Cut.F xs[i].word 45 = some (cutB xs[i].word 45) := specCut_ev xs[i].word 45 (by omega)
    have cuts := cutSuffix_ev xs[i].word (by omega)
    have hp := hasPrefix_ev lw (cutB xs[i].word 45)
    cases e : beqS xs[i].word lw with
    | true =>
      refine ⟨.inl i, Ev.step (fun k => by rw [spec_l19Find.l2]) ?_, Ev.step (fun k => by rw [impl_abbreviationOf.l0]) ?_, ?_⟩
      · simp (disch := omega) only [cpos, Int.toNat_natCast, getD_at hi, e, cond_true]; exact Ev.pure _
      · simp (disch := omega) only [cpos, Int.toNat_natCast, getD_at hi, e, cond_true]; exact Ev.pure _
      · rintro z (hz | hz) <;> cases hz; omega
    | false =>
      cases hd : dash xs[i].word with
      | false =>
        obtain ⟨r, r1, r2, r3⟩ := ih best h1 h2
        refine ⟨r, Ev.step (fun k => by rw [spec_l19Find.l2]) ?_, Ev.step (fun k => by rw [impl_abbreviationOf.l0]) ?_, r3⟩
        · simp (disch := omega) only [cpos, Int.toNat_natCast, getD_at hi, e, cond_false]
          refine Ev.bind0 cut ?_
          simp (disch := omega) only [cut_ne, hd, cond_false, wrap_in]
          exact r1
        · simp (disch := omega) only [cpos, Int.toNat_natCast, getD_at hi, e, cond_false]
          refine Ev.bind0 cuts ?_
          simp (disch := omega) only [hd, cond_false, wrap_in]
          exact r2
      | true =>
        by_cases c : ((cutB xs[i].word 45).size : Int) ≤ (lw.size : Int)
        · cases hq : beqS (lw.extract 0 (cutB xs[i].word 45).size) (cutB xs[i].word 45) with
          | false =>
            obtain ⟨r, r1, r2, r3⟩ := ih best h1 h2
            refine ⟨r, Ev.step (fun k => by rw [spec_l19Find.l2]) ?_, Ev.step (fun k => by rw [impl_abbreviationOf.l0]) ?_, r3⟩
            · simp (disch := omega) only [cpos, Int.toNat_natCast, getD_at hi, e, cond_false]
              refine Ev.bind0 cut ?_
              simp (disch := omega) only [cut_ne, hd, cond_true, cond_false, cpos, Int.toNat_natCast, hq, wrap_in]
              exact r1
            · simp (disch := omega) only [cpos, Int.toNat_natCast, getD_at hi, e, cond_false]
              refine Ev.bind0 cuts ?_
              simp (disch := omega) only [hd, cond_true]
              refine Ev.bind0 hp ?_
              simp (disch := omega) only [hq, Bool.and_false, cond_false, wrap_in]
              exact r2
          | true =>
            by_cases hb : best < 0
            · obtain ⟨r, r1, r2, r3⟩ := ih i (by omega) (by omega)
              refine ⟨r, Ev.step (fun k => by rw [spec_l19Find.l2]) ?_, Ev.step (fun k => by rw [impl_abbreviationOf.l0]) ?_, r3⟩
              · simp (disch := omega) only [cpos, Int.toNat_natCast, getD_at hi, e, cond_false]
                refine Ev.bind0 cut ?_
                simp (disch := omega) only [cut_ne, hd, cond_true, cond_false, cpos, Int.toNat_natCast, hq, wrap_in]
                exact r1
              · simp (disch := omega) only [cpos, Int.toNat_natCast, getD_at hi, e, cond_false]
                refine Ev.bind0 cuts ?_
                simp (disch := omega) only [hd, cond_true]
                refine Ev.bind0 hp ?_
                rw [hq, decide_eq_true c]
                simp (disch := omega) only [Bool.and_self, cond_true, cpos, wrap_in]
                exact r2
            · have hb' : best.toNat < xs.length := by omega
              by_cases hz : (xs[i].word.size : Int) > (xs[best.toNat].word.size : Int)
              · obtain ⟨r, r1, r2, r3⟩ := ih i (by omega) (by omega)
                refine ⟨r, Ev.step (fun k => by rw [spec_l19Find.l2]) ?_, Ev.step (fun k => by rw [impl_abbreviationOf.l0]) ?_, r3⟩
                · simp (disch := omega) only [cpos, Int.toNat_natCast, getD_at hi, e, cond_false]
                  refine Ev.bind0 cut ?_
                  simp (disch := omega) only [cut_ne, hd, cond_true, cond_false, cpos, cneg, Int.toNat_natCast, hq, wrap_in, getD_at hb']
                  exact r1
                · simp (disch := omega) only [cpos, Int.toNat_natCast, getD_at hi, e, cond_false]
                  refine Ev.bind0 cuts ?_
                  simp (disch := omega) only [hd, cond_true]
                  refine Ev.bind0 hp ?_
                  rw [hq, decide_eq_true c]
                  simp (disch := omega) only [Bool.and_self, cond_true, cpos, cneg, wrap_in, getD_at hb']
                  exact r2
              · obtain ⟨r, r1, r2, r3⟩ := ih best h1 h2
                refine ⟨r, Ev.step (fun k => by rw [spec_l19Find.l2]) ?_, Ev.step (fun k => by rw [impl_abbreviationOf.l0]) ?_, r3⟩
                · simp (disch := omega) only [cpos, Int.toNat_natCast, getD_at hi, e, cond_false]
                  refine Ev.bind0 cut ?_
                  simp (disch := omega) only [cut_ne, hd, cond_true, cond_false, cpos, cneg, Int.toNat_natCast, hq, wrap_in, getD_at hb']
                  exact r1
                · simp (disch := omega) only [cpos, Int.toNat_natCast, getD_at hi, e, cond_false]
                  refine Ev.bind0 cuts ?_
                  simp (disch := omega) only [hd, cond_true]
                  refine Ev.bind0 hp ?_
                  rw [hq, decide_eq_true c]
                  simp (disch := omega) only [Bool.and_self, cond_true, cpos, cneg, wrap_in, getD_at hb']
                  exact r2
        · obtain ⟨r, r1, r2, r3⟩ := ih best h1 h2
          refine ⟨r, Ev.step (fun k => by rw [spec_l19Find.l2]) ?_, Ev.step (fun k => by rw [impl_abbreviationOf.l0]) ?_, r3⟩
          · simp (disch := omega) only [cpos, Int.toNat_natCast, getD_at hi, e, cond_false]
            refine Ev.bind0 cut ?_
            simp (disch := omega) only [cut_ne, hd, cond_true, cneg, wrap_in]
            exact r1
          · simp (disch := omega) only [cpos, Int.toNat_natCast, getD_at hi, e, cond_false]
            refine Ev.bind0 cuts ?_
            simp (disch := omega) only [hd, cond_true]
            refine Ev.bind0 hp ?_
            rw [decide_eq_false c]
            simp (disch := omega) only [Bool.false_and, cond_false, wrap_in]
            exact r2
theorem found (xs : List Abbr) (hs : smalls xs) (s : ByteArray) (h0 : 0 < s.size) (h1 : s.size ≤ 1048576) : ∃ z : Int, Ev (fun k => spec_l19Find.F k xs s) z ∧ Ev (fun k => impl_abbreviationOf.F k xs s) z ∧ -1 ≤ z ∧ z < xs.length := by
  unfold spec_l19Find.F impl_abbreviationOf.F
  have e1 := findL_l0 xs s h1 s.size 0 (by omega)
  have e2 := areLetters_ev s h1
  rw [List.drop_zero] at e1
  cases ha : (bytesL s).all ltrI with
  | false =>
    rw [ha] at e1 e2
    refine ⟨-1, Ev.bind e1 (Ev.pure _), Ev.bind e2 (Ev.pure _), by omega, by omega⟩
  | true =>
    rw [ha, decide_eq_true h0] at e2
    rw [ha] at e1
    obtain ⟨r, r1, r2, r3⟩ := find_l xs hs (lowS s) xs.length 0 (by omega) (-1) (by omega) (by omega)
    cases r with
    | inl z => exact ⟨z, Ev.bind e1 (Ev.bind (specLower_ev s h1) (Ev.bind r1 (Ev.pure _))), Ev.bind e2 (Ev.bind (lower_ev s h1) (Ev.bind r2 (Ev.pure _))), r3 z (.inl rfl)⟩
    | inr z => exact ⟨z, Ev.bind e1 (Ev.bind (specLower_ev s h1) (Ev.bind r1 (Ev.pure _))), Ev.bind e2 (Ev.bind (lower_ev s h1) (Ev.bind r2 (Ev.pure _))), r3 z (.inr rfl)⟩

/-! ### The first letter raised -/
theorem set_text (s : ByteArray) (i : Nat) (v : Int) (h : i < (bytesL s).length) : strL ((bytesL s).set i v) = s.extract 0 i ++ strL [v] ++ s.extract (i + 1) s.size := by
  apply L_inj
  have hl := bytesL_len s
  have e := congrArg L (strL_bytes s)
  rw [L_strL] at e
  rw [L_append, L_append, L_extract, L_extract, L_strL, L_strL, List.map_set, e, List.drop_zero, List.take_of_length_le (show (L s).length ≤ s.size from Nat.le_refl _)]
  rw [List.set_eq_take_append_cons_drop, if_pos (by rw [L_size]; omega)]
  simp
theorem raise_l0 (s : ByteArray) (hs : s.size ≤ 1048576) : ∀ n i : Nat, i + n = s.size → ∃ ys r, Ev (fun k => impl_raised.l0 k (bytesL s) s.size i) ys ∧ Ev (fun k => spec_l6Raise.l0 k s i) r ∧ (r = .inl (strL ys) ∨ r = .inr (strL ys)) ∧ ys.length = s.size
  | 0, i, h => by
    refine ⟨bytesL s, .inr s, Ev.step (fun k => by rw [impl_raised.l0]) ?_, Ev.step (fun k => by rw [spec_l6Raise.l0]) ?_, .inr (by rw [strL_bytes]), bytesL_len s⟩
    · simp (disch := omega) only [cneg]; exact Ev.pure _
    · simp (disch := omega) only [cneg]; exact Ev.pure _
  | n + 1, i, h => by
    have hl := bytesL_len s
    have hi : i < (bytesL s).length := by omega
    cases hlt : ltrI (bytesL s)[i] with
    | false =>
      obtain ⟨ys, r, r1, r2, r3, r4⟩ := raise_l0 s hs n (i + 1) (by omega)
      refine ⟨ys, r, Ev.step (fun k => by rw [impl_raised.l0]) ?_, Ev.step (fun k => by rw [spec_l6Raise.l0]) ?_, r3, r4⟩
      · simp (disch := omega) only [cpos, Int.toNat_natCast, getD_at hi]
        refine Ev.bind0 (isLetter_ev _) ?_
        simp (disch := omega) only [hlt, cond_false, wrap_in]
        exact r1
      · simp (disch := omega) only [cpos, Int.toNat_natCast, bt_bytes s i hi]
        refine Ev.bind0 (specLetter_ev _) ?_
        simp (disch := omega) only [hlt, cond_false, wrap_in]
        exact r2
    | true =>
      refine ⟨(bytesL s).set i (upI (bytesL s)[i]), .inl (s.extract 0 i ++ strL [upI (bytesL s)[i]] ++ s.extract (i + 1) s.size), Ev.step (fun k => by rw [impl_raised.l0]) ?_, Ev.step (fun k => by rw [spec_l6Raise.l0]) ?_, .inl (by rw [set_text s i _ hi]), by rw [List.length_set]; exact bytesL_len s⟩
      · simp (disch := omega) only [cpos, Int.toNat_natCast, getD_at hi]
        refine Ev.bind0 (isLetter_ev _) ?_
        simp (disch := omega) only [hlt, cond_true]
        refine Ev.bind0 (upperByte_ev _) ?_
        try simp (disch := omega) only [cpos]
        exact Ev.pure _
      · simp (disch := omega) only [cpos, Int.toNat_natCast, bt_bytes s i hi]
        refine Ev.bind0 (specLetter_ev _) ?_
        simp (disch := omega) only [hlt, cond_true, cpos]
        refine Ev.bind0 (specUpperByte_ev _) ?_
        have e1 : (s.extract 0 i).size ≤ s.size := by rw [ByteArray.size_extract]; omega
        have e2 : (strL ([upI (bytesL s)[i]] : List Int)).size = 1 := strL_size _
        have e3 : (s.extract 0 i ++ strL ([upI (bytesL s)[i]] : List Int)).size = (s.extract 0 i).size + 1 := by rw [← L_size, L_append, List.length_append, L_size, L_size, e2]
        have e4 : (s.extract (i + 1) s.size).size ≤ s.size := by rw [ByteArray.size_extract]; omega
        have e5 : ((i : Int) + 1).toNat = i + 1 := by omega
        simp (disch := omega) only [cble, wrap_in, cpos, e5]
        exact Ev.pure _
theorem raised_ev (s : ByteArray) (hs : s.size ≤ 1048576) : ∃ r, Ev (fun k => spec_l6Raise.F k s) r ∧ Ev (fun k => impl_raised.F k s) r ∧ r.size = s.size := by
  obtain ⟨ys, r, r1, r2, r3, r4⟩ := raise_l0 s hs s.size 0 (by omega)
  refine ⟨strL ys, ?_, ?_, by rw [strL_size]; exact r4⟩
  · unfold spec_l6Raise.F
    rcases r3 with rfl | rfl
    · exact Ev.bind r2 (Ev.pure _)
    · exact Ev.bind r2 (Ev.pure _)
  · unfold impl_raised.F
    rw [bytesL_len]
    simp (disch := omega) only [cble]
    exact Ev.bind r1 (Ev.pure _)

/-! ### The word -/
theorem short_ev (xs : List Abbr) (hs : smalls xs) (s : ByteArray) (h0 : 0 < s.size) (h1 : s.size ≤ 1048576) : ∃ r, Ev (fun k => spec_l19Short.F k xs s) r ∧ Ev (fun k => impl_shortWord.F k xs s) r ∧ r.size ≤ 1048576 := by
  obtain ⟨z, z1, z2, z3, z4⟩ := found xs hs s h0 h1
  unfold spec_l19Short.F impl_shortWord.F
  have hl := bytesL_len s
  by_cases hz : z < 0
  · refine ⟨s, Ev.bind z1 ?_, Ev.bind z2 ?_, h1⟩
    · simp (disch := omega) only [cpos]; exact Ev.pure _
    · simp (disch := omega) only [cpos]; exact Ev.pure _
  · have hz' : z.toNat < xs.length := by omega
    have hsh := (hs.2 _ (List.getElem_mem hz')).2
    obtain ⟨r, r1, r2, r3⟩ := raised_ev xs[z.toNat].short hsh
    by_cases c1 : 65 ≤ bt s (0 : Int).toNat
    · by_cases c2 : bt s (0 : Int).toNat ≤ 90
      · refine ⟨r, Ev.bind z1 ?_, Ev.bind z2 ?_, by omega⟩
        · simp (disch := omega) only [cpos, cneg, getD_at hz']; exact Ev.bind r1 (Ev.pure _)
        · simp (disch := omega) only [cpos, cneg]
          refine Ev.bind0 (isUpper_ev _) ?_
          rw [decide_eq_true c1, decide_eq_true c2]
          simp (disch := omega) only [Bool.and_self, cond_true, cpos, getD_at hz']
          exact Ev.bind r2 (Ev.pure _)
      · refine ⟨xs[z.toNat].short, Ev.bind z1 ?_, Ev.bind z2 ?_, hsh⟩
        · simp (disch := omega) only [cpos, cneg, getD_at hz']; exact Ev.pure _
        · simp (disch := omega) only [cpos, cneg]
          refine Ev.bind0 (isUpper_ev _) ?_
          rw [decide_eq_false c2]
          simp (disch := omega) only [Bool.and_false, cond_false, cpos, getD_at hz']
          exact Ev.pure _
    · refine ⟨xs[z.toNat].short, Ev.bind z1 ?_, Ev.bind z2 ?_, hsh⟩
      · simp (disch := omega) only [cpos, cneg, getD_at hz']; exact Ev.pure _
      · simp (disch := omega) only [cpos, cneg]
        refine Ev.bind0 (isUpper_ev _) ?_
        rw [decide_eq_false c1]
        simp (disch := omega) only [Bool.false_and, cond_false, cpos, getD_at hz']
        exact Ev.pure _

end Go.Proofs.YtnffgabfibafjaaDoor
end
section
/- Plain laws: the pieces of a text between spaces. -/
namespace Go.Proofs.YtnffgabfibafjaaDoor
open Go.Gx
set_option linter.unusedVariables false
set_option linter.unusedSimpArgs false

theorem size_app (s t : ByteArray) : (s ++ t).size = s.size + t.size := by
  rw [← L_size, L_append, List.length_append, L_size, L_size]
/-! ### Words -/
theorem sub_tail (s : ByteArray) (st a : Nat) : (s.extract st s.size).extract a (s.extract st s.size).size = s.extract (st + a) s.size := by
  apply L_inj
  have e : (L s).take s.size = L s := List.take_of_length_le (Nat.le_refl _)
  rw [L_extract, L_extract s (st + a), ← L_size (s.extract st s.size), L_extract, List.take_length, List.drop_drop, e]
theorem sub_head (s : ByteArray) (st i : Nat) (h : st ≤ i) (hi : i ≤ s.size) : (s.extract st s.size).extract 0 (i - st) = s.extract st i := by
  apply L_inj
  rw [L_extract, L_extract, L_extract, List.drop_zero, List.take_of_length_le (show (L s).length ≤ s.size from Nat.le_refl _), List.drop_take]
def sp : ByteArray := ⟨#[32]⟩
theorem ib_hit {l : List UInt8} {c : UInt8} {i : Nat} (h : l[i]? = some c) (hn : ∀ j, j < i → l[j]? ≠ some c) : Lib.indexByte l c = i := by
  have hg := Lib.indexByte_ge l c
  by_cases e : Lib.indexByte l c = -1
  · exact absurd h (Lib.indexByte_none e i)
  · obtain ⟨o, ho⟩ : ∃ o : Nat, Lib.indexByte l c = o := ⟨(Lib.indexByte l c).toNat, by omega⟩
    obtain ⟨h1, h2⟩ := Lib.indexByte_some ho
    rcases Nat.lt_trichotomy o i with h3 | h3 | h3
    · exact absurd h1 (hn o h3)
    · rw [ho, h3]
    · exact absurd h (h2 i h3)
theorem ib_miss {l : List UInt8} {c : UInt8} (hn : ∀ j : Nat, l[j]? ≠ some c) : Lib.indexByte l c = -1 := by
  have hg := Lib.indexByte_ge l c
  by_cases e : Lib.indexByte l c = -1
  · exact e
  · obtain ⟨o, ho⟩ : ∃ o : Nat, Lib.indexByte l c = o := ⟨(Lib.indexByte l c).toNat, by omega⟩
    exact absurd (Lib.indexByte_some ho).1 (hn o)
theorem indexB_sp (s : ByteArray) : Lib.indexB s sp = Lib.indexByte (L s) 32 := Lib.one s sp rfl
theorem sub_at (s : ByteArray) (st j : Nat) : (L (s.extract st s.size))[j]? = (L s)[st + j]? := by
  rw [L_extract, List.take_of_length_le (show (L s).length ≤ s.size from Nat.le_refl _), List.getElem?_drop]
def wordsFrom (s : ByteArray) (st : Nat) : List ByteArray := Lib.splitB sp 0 (Lib.countB (s.extract st s.size) sp) (s.extract st s.size)
theorem words_end (s : ByteArray) (st : Nat) (h : ∀ j, st ≤ j → (L s)[j]? ≠ some 32) : wordsFrom s st = [s.extract st s.size] := by
  unfold wordsFrom
  rw [Lib.countB_miss _ _ ((indexB_sp _).trans (ib_miss fun j => by rw [sub_at]; exact h _ (by omega)))]
  rfl
theorem words_hit (s : ByteArray) (st i : Nat) (h1 : st ≤ i) (hi : i < s.size) (hb : (L s)[i]? = some 32) (h : ∀ j, st ≤ j → j < i → (L s)[j]? ≠ some 32) : wordsFrom s st = s.extract st i :: wordsFrom s (i + 1) := by
  have e : Lib.indexB (s.extract st s.size) sp = ((i - st : Nat) : Int) := (indexB_sp _).trans (ib_hit (by rw [sub_at, show st + (i - st) = i by omega]; exact hb) fun j hj => by rw [sub_at]; exact h _ (by omega) (by omega))
  have e1 : sp.size = 1 := rfl
  unfold wordsFrom
  rw [Lib.countB_hit _ _ _ (by rw [e1]; exact Nat.le_refl _) e, Nat.add_comm 1, Lib.splitB_hit _ _ _ _ _ e, Nat.add_zero, sub_head s st i h1 (by omega), e1, sub_tail, show st + (i - st + 1) = i + 1 by omega]
theorem sub_self (s : ByteArray) : s.extract 0 s.size = s := by
  apply L_inj
  rw [L_extract, List.take_of_length_le (show (L s).length ≤ s.size from Nat.le_refl _), List.drop_zero]
def words (s : ByteArray) : List ByteArray := Lib.splitB sp 0 (Lib.countB s sp) s
theorem words_from (s : ByteArray) : wordsFrom s 0 = words s := by unfold wordsFrom words; rw [sub_self]
theorem split_ev (s : ByteArray) (hs : s.size ≤ 4000) : strings_Split.F s ⟨#[32]⟩ = some (words s) := by
  unfold strings_Split.F xSplit
  rw [Nat.ble_eq_true_of_le (by omega)]
  rfl
theorem words_small : ∀ (k : Nat) (s : ByteArray), ∀ x ∈ Lib.splitB sp 0 k s, x.size ≤ s.size
  | 0, s, x, hx => by
    rw [Lib.splitB_zero] at hx
    simp only [List.mem_singleton] at hx
    rw [hx]; exact Nat.le_refl _
  | k + 1, s, x, hx => by
    unfold Lib.splitB at hx
    split at hx
    · simp only [List.mem_singleton] at hx
      rw [hx]; exact Nat.le_refl _
    · rcases List.mem_cons.1 hx with rfl | hx
      · rw [ByteArray.size_extract]; omega
      · have := words_small k _ x hx
        rw [ByteArray.size_extract] at this
        omega
theorem words_len (s : ByteArray) : 1 ≤ (words s).length ∧ (words s).length ≤ s.size + 1 := by
  unfold words
  have h1 : 1 ≤ sp.size := Nat.le_refl 1
  rw [Lib.splitB_all sp h1 0 _ s rfl]
  have := Lib.countB_le sp h1 s.size s (Nat.le_refl _)
  omega

end Go.Proofs.YtnffgabfibafjaaDoor
end
section
/- Plain laws: slices.IndexFunc, slices.DeleteFunc, as they are printed for a function value. -/
namespace Go.Gx
set_option linter.unusedVariables false
set_option linter.unusedSimpArgs false

section
variable {α : Type} {d : α} {p : α → Bool} {q : Nat → α → Option Bool} {xs : List α}
theorem getDat {α : Type} {xs : List α} {i : Nat} (h : i < xs.length) (d : α) : xs.getD i d = xs[i] := by simp [List.getD, List.getElem?_eq_getElem h]
theorem idx_l0 {l0 : Nat → List α → Int → Int → Option (Sum Int Unit)} (H : ∀ k x0 x7 x8, l0 (k + 1) x0 x7 x8 = bif (decide (x8 < x7)) then (bif decide (0 ≤ x8) then (bif decide (x8 < (x0.length : Int)) then ((q k (x0.getD (x8 : Int).toNat d)).bind fun r1 => bif r1 then (some (.inl x8)) else (l0 k x0 x7 (IntKind.wrap .i64 (x8 + 1)))) else none) else none) else (some (.inr ())))
    (hq : ∀ x, x ∈ xs → Ev (fun k => q k x) (p x)) (hl : xs.length ≤ 4611686018427387904) : ∀ n i : Nat, i + n = xs.length → (∀ x ∈ xs.take i, p x = false) →
    ∃ r, Ev (fun k => l0 k xs xs.length i) r ∧ ((r = .inr () ∧ ∀ x ∈ xs, p x = false) ∨ ∃ j : Nat, r = .inl j ∧ j < xs.length ∧ p (xs.getD j d) = true ∧ ∀ x ∈ xs.take j, p x = false)
  | 0, i, h, ht => by
    refine ⟨.inr (), Ev.step (fun k => by rw [H]) ?_, .inl ⟨rfl, by rw [List.take_of_length_le (by omega)] at ht; exact ht⟩⟩
    simp (disch := omega) only [cneg]
    exact Ev.pure _
  | n + 1, i, h, ht => by
    have hi : i < xs.length := by omega
    cases hp : p xs[i] with
    | true =>
      refine ⟨.inl i, Ev.step (fun k => by rw [H]) ?_, .inr ⟨i, rfl, hi, by rw [getDat hi, hp], ht⟩⟩
      simp (disch := omega) only [cpos, Int.toNat_natCast, getDat hi]
      refine Ev.bind (hq _ (List.getElem_mem hi)) ?_
      rw [hp]
      exact Ev.pure _
    | false =>
      obtain ⟨r, h1, h2⟩ := idx_l0 H hq hl n (i + 1) (by omega) (by
        intro x hx
        rw [List.take_add_one, List.getElem?_eq_getElem hi] at hx
        rcases List.mem_append.1 hx with hx | hx
        · exact ht x hx
        · simp only [Option.toList_some, List.mem_singleton] at hx
          rw [hx, hp])
      refine ⟨r, Ev.step (fun k => by rw [H]) ?_, h2⟩
      simp (disch := omega) only [cpos, Int.toNat_natCast, getDat hi]
      refine Ev.bind (hq _ (List.getElem_mem hi)) ?_
      rw [hp]
      simp (disch := omega) only [cond_false, wrap_in]
      exact h1
theorem idx_ev {l0 : Nat → List α → Int → Int → Option (Sum Int Unit)} (H : ∀ k x0 x7 x8, l0 (k + 1) x0 x7 x8 = bif (decide (x8 < x7)) then (bif decide (0 ≤ x8) then (bif decide (x8 < (x0.length : Int)) then ((q k (x0.getD (x8 : Int).toNat d)).bind fun r1 => bif r1 then (some (.inl x8)) else (l0 k x0 x7 (IntKind.wrap .i64 (x8 + 1)))) else none) else none) else (some (.inr ())))
    (hq : ∀ x, x ∈ xs → Ev (fun k => q k x) (p x)) (hl : xs.length ≤ 4611686018427387904) {F : Nat → List α → Option Int} (HF : ∀ k a0, F k a0 = (l0 k a0 (a0.length : Int) 0).bind fun y2 => match y2 with | .inl z3 => some z3 | .inr z3 => some (-1)) :
    ∃ r, Ev (fun k => F k xs) r ∧ ((r = -1 ∧ ∀ x ∈ xs, p x = false) ∨ ∃ j : Nat, r = j ∧ j < xs.length ∧ p (xs.getD j d) = true ∧ ∀ x ∈ xs.take j, p x = false) := by
  obtain ⟨r, h1, h2⟩ := idx_l0 H hq hl xs.length 0 (by omega) (fun x hx => by simp at hx)
  rcases h2 with ⟨rfl, h2⟩ | ⟨j, rfl, h2⟩
  · exact ⟨-1, Ev.congr (Ev.bind h1 (Ev.pure _)) (fun k => HF k xs), .inl ⟨rfl, h2⟩⟩
  · exact ⟨j, Ev.congr (Ev.bind h1 (Ev.pure _)) (fun k => HF k xs), .inr ⟨j, rfl, h2⟩⟩
theorem del_l0 {l0 : Nat → List α → Int → Int → Option (List α × Int)} (H : ∀ k x0 x5 x6, l0 (k + 1) x0 x5 x6 = bif (decide (x6 < (x0.length : Int))) then (bif decide (0 ≤ x6) then (bif decide (x6 < (x0.length : Int)) then ((q k (x0.getD ((x6 : Int).toNat) d)).bind fun r2 => bif (!r2) then (bif decide (0 ≤ x5) then (bif decide (x5 < (x0.length : Int)) then (l0 k (x0.set ((x5 : Int).toNat) (x0.getD ((x6 : Int).toNat) d)) (IntKind.wrap .i64 (x5 + 1)) (IntKind.wrap .i64 (x6 + 1))) else none) else none) else (l0 k x0 x5 (IntKind.wrap .i64 (x6 + 1)))) else none) else none) else (some (x0, x5)))
    (hq : ∀ x, x ∈ xs → Ev (fun k => q k x) (p x)) (hl : xs.length ≤ 4611686018427387904) : ∀ n j : Nat, j + n = xs.length → ∀ (ys : List α) (i : Nat), ys.length = xs.length → i ≤ j → ys.drop j = xs.drop j →
    ∃ zs, ∃ i' : Nat, Ev (fun k => l0 k ys i j) (zs, (i' : Int)) ∧ i' ≤ xs.length ∧ zs.length = xs.length ∧ zs.take i' = ys.take i ++ (xs.drop j).filter fun x => !p x
  | 0, j, h, ys, i, hy, hij, hd => by
    refine ⟨ys, i, Ev.step (fun k => by rw [H]) ?_, by omega, hy, ?_⟩
    · simp (disch := omega) only [cneg]
      exact Ev.pure _
    · rw [List.drop_eq_nil_of_le (by omega), List.filter_nil, List.append_nil]
  | n + 1, j, h, ys, i, hy, hij, hd => by
    have hj : j < xs.length := by omega
    have hj' : j < ys.length := by omega
    have hx : ys[j] = xs[j] := by
      have h0 := congrArg (·[0]?) hd
      simpa [hj, hj'] using h0
    have hd1 : ys.drop (j + 1) = xs.drop (j + 1) := by
      have := congrArg (List.drop 1) hd
      simpa [List.drop_drop] using this
    cases hp : p xs[j] with
    | true =>
      obtain ⟨zs, i', h1, h2, h3, h4⟩ := del_l0 H hq hl n (j + 1) (by omega) ys i hy (by omega) hd1
      refine ⟨zs, i', Ev.step (fun k => by rw [H]) ?_, h2, h3, ?_⟩
      · simp (disch := omega) only [cpos, Int.toNat_natCast, getDat hj', hx]
        refine Ev.bind (hq _ (List.getElem_mem hj)) ?_
        rw [hp]
        simp (disch := omega) only [Bool.not_true, cond_false, wrap_in]
        exact h1
      · rw [h4, List.drop_eq_getElem_cons hj, List.filter_cons_of_neg (by rw [hp]; decide)]
    | false =>
      obtain ⟨zs, i', h1, h2, h3, h4⟩ := del_l0 H hq hl n (j + 1) (by omega) (ys.set i xs[j]) (i + 1) (by simpa using hy) (by omega) (by rw [List.drop_set_of_lt (by omega)]; exact hd1)
      refine ⟨zs, i', Ev.step (fun k => by rw [H]) ?_, h2, h3, ?_⟩
      · simp (disch := omega) only [cpos, Int.toNat_natCast, getDat hj', hx]
        refine Ev.bind (hq _ (List.getElem_mem hj)) ?_
        rw [hp]
        simp (disch := omega) only [Bool.not_false, cond_true, cpos, Int.toNat_natCast, wrap_in]
        exact h1
      · rw [h4, List.drop_eq_getElem_cons hj, List.filter_cons_of_pos (by rw [hp]; decide), List.take_add_one, List.take_set_of_le (Nat.le_refl i)]
        have : (ys.set i xs[j])[i]? = some xs[j] := by rw [List.getElem?_set_self (by omega)]
        rw [this]
        simp
theorem delete_ev {l0 : Nat → List α → Int → Int → Option (List α × Int)} (H : ∀ k x0 x5 x6, l0 (k + 1) x0 x5 x6 = bif (decide (x6 < (x0.length : Int))) then (bif decide (0 ≤ x6) then (bif decide (x6 < (x0.length : Int)) then ((q k (x0.getD ((x6 : Int).toNat) d)).bind fun r2 => bif (!r2) then (bif decide (0 ≤ x5) then (bif decide (x5 < (x0.length : Int)) then (l0 k (x0.set ((x5 : Int).toNat) (x0.getD ((x6 : Int).toNat) d)) (IntKind.wrap .i64 (x5 + 1)) (IntKind.wrap .i64 (x6 + 1))) else none) else none) else (l0 k x0 x5 (IntKind.wrap .i64 (x6 + 1)))) else none) else none) else (some (x0, x5)))
    (hq : ∀ x, x ∈ xs → Ev (fun k => q k x) (p x)) (hl : xs.length ≤ 4611686018427387904) {I F : Nat → List α → Option _} {e : α}
    (hI : ∃ r : Int, Ev (fun k => I k xs) r ∧ ((r = -1 ∧ ∀ x ∈ xs, p x = false) ∨ ∃ j : Nat, r = j ∧ j < xs.length ∧ p (xs.getD j d) = true ∧ ∀ x ∈ xs.take j, p x = false))
    (HF : ∀ k a0, F k a0 = (I k a0).bind fun r1 => bif (r1 == (-1)) then (some a0) else ((l0 k a0 r1 (IntKind.wrap .i64 (r1 + 1))).bind fun y3 => bif decide (0 ≤ y3.2) then (bif decide (y3.2 ≤ (y3.1.length : Int)) then (bif decide (0 ≤ y3.2) then (bif decide (y3.2 ≤ ((y3.1.take ((y3.2 : Int).toNat) ++ List.replicate (y3.1.length - ((y3.2 : Int).toNat)) e).length : Int)) then (some ((y3.1.take ((y3.2 : Int).toNat) ++ List.replicate (y3.1.length - ((y3.2 : Int).toNat)) e).take (y3.2 : Int).toNat)) else none) else none) else none) else none)) :
    Ev (fun k => F k xs) (xs.filter fun x => !p x) := by
  obtain ⟨r, h1, h2⟩ := hI
  refine Ev.congr (?_ : Ev _ _) (fun k => HF k xs)
  refine Ev.bind h1 ?_
  rcases h2 with ⟨rfl, h2⟩ | ⟨j, rfl, hj, hp, h2⟩
  · have : (xs.filter fun x => !p x) = xs := List.filter_eq_self.2 fun x hx => by rw [h2 x hx]; rfl
    rw [this]
    exact Ev.pure _
  · obtain ⟨zs, i', h3, h4, h5, h6⟩ := del_l0 H hq hl (xs.length - (j + 1)) (j + 1) (by omega) xs j rfl (by omega) rfl
    rw [getDat hj] at hp
    have hz : zs.take i' = xs.filter fun x => !p x := by
      rw [h6]
      conv => rhs; rw [← List.take_append_drop j xs, List.filter_append, List.drop_eq_getElem_cons hj, List.filter_cons_of_neg (by rw [hp]; decide)]
      congr 1
      exact (List.filter_eq_self.2 fun x hx => by rw [h2 x hx]; rfl).symm
    simp (disch := omega) only [cne, wrap_in]
    refine Ev.bind h3 ?_
    have e1 : ((zs.take i' ++ List.replicate (zs.length - i') e)).length = zs.length := by simp; omega
    simp (disch := (try simp only [Int.toNat_natCast, e1]); omega) only [cpos, Int.toNat_natCast, e1]
    rw [List.take_append_of_le_length (by simp; omega), List.take_take, Nat.min_self, hz]
    exact Ev.pure _
end
end Go.Gx
end
section
/- Plain laws: texts, their words, their abbreviation. -/
namespace Go.Proofs.YtnffgabfibafjaaDoor
open Go.Gx
set_option linter.unusedVariables false
set_option linter.unusedSimpArgs false

/-! ### Texts -/
theorem dropWhile_self {α : Type} (p : α → Bool) : ∀ l : List α, l.dropWhile p = l ↔ (∀ a, l.head? = some a → p a = false)
  | [] => by simp
  | a :: l => by
    have hl : (l.dropWhile p).length ≤ l.length := (List.dropWhile_sublist p).length_le
    cases h : p a with
    | true =>
      rw [List.dropWhile_cons_of_pos h]
      constructor
      · intro e
        have := congrArg List.length e
        simp at this
        omega
      · intro e
        have := e a rfl
        rw [h] at this; cases this
    | false =>
      rw [List.dropWhile_cons_of_neg (by rw [h]; exact Bool.noConfusion)]
      simp [h]
theorem trimB_self (l : List UInt8) (c : UInt8) : Lib.trimB l c = l ↔ l.head? ≠ some c ∧ l.getLast? ≠ some c := by
  unfold Lib.trimB Lib.trimLeftB Lib.trimRightB
  have h1 : ∀ m : List UInt8, m.dropWhile (· == c) = m ↔ m.head? ≠ some c := fun m => by
    rw [dropWhile_self]
    constructor
    · intro h e; have := h c e; simp at this
    · intro h a e
      have : a ≠ c := fun e' => h (e' ▸ e)
      simpa using this
  constructor
  · intro h
    have h2 : ((l.reverse.dropWhile (· == c)).reverse).length ≤ l.length := by
      have := (List.dropWhile_sublist (p := (· == c)) (l := l.reverse)).length_le
      simpa using this
    have h3 := (List.dropWhile_sublist (p := (· == c)) (l := (l.reverse.dropWhile (· == c)).reverse))
    have h4 : (l.reverse.dropWhile (· == c)).reverse = l := by
      have h5 : (l.reverse.dropWhile (· == c)).reverse.length = l.length := by
        have := h3.length_le
        rw [h] at this
        omega
      have h6 : l.reverse.dropWhile (· == c) = l.reverse := (List.dropWhile_sublist (p := (· == c)) (l := l.reverse)).eq_of_length (by simpa using h5)
      rw [h6, List.reverse_reverse]
    rw [h4] at h
    refine ⟨(h1 l).1 h, ?_⟩
    have h6 : l.reverse.dropWhile (· == c) = l.reverse := by rw [← List.reverse_inj, h4, List.reverse_reverse]
    have := (h1 _).1 h6
    simpa using this
  · rintro ⟨ha, hb⟩
    have h6 : l.reverse.dropWhile (· == c) = l.reverse := (h1 _).2 (by simpa using hb)
    rw [h6, List.reverse_reverse]
    exact (h1 l).2 ha
def vis (lo b : Int) : Bool := decide (lo ≤ b) && decide (b ≤ 126)
theorem bt_sp {s : ByteArray} {i : Nat} (hi : i < s.size) : bt s i = 32 ↔ (L s)[i]? = some 32 := by
  have hi' : i < (L s).length := hi
  have hbt : bt s i = ((L s)[i].toNat : Int) := by rw [L_bt, getD_at hi']
  rw [List.getElem?_eq_getElem hi', hbt]
  have : (32 : UInt8).toNat = 32 := rfl
  constructor
  · intro h
    congr 1
    apply UInt8.toNat_inj.1
    omega
  · intro h
    rw [Option.some.inj h]; rfl
/-- The first and the last byte of a text are no spaces. -/
def edge (s : ByteArray) : Bool := (decide (s.size = 0)) || (bt s 0 != 32 && bt s (s.size - 1) != 32)
theorem edge_trim (s : ByteArray) (hs : s.size ≤ 1048576) : strings_Trim.F s ⟨#[32]⟩ = some ⟨(Lib.trimB (L s) 32).toArray⟩ := by
  unfold strings_Trim.F xTrim1
  rw [Nat.ble_eq_true_of_le (by omega)]
  rfl
theorem edge_eq (s : ByteArray) : beqS ⟨(Lib.trimB (L s) 32).toArray⟩ s = edge s := by
  rw [Bool.eq_iff_iff, beqS_iff]
  have h1 : (⟨(Lib.trimB (L s) 32).toArray⟩ : ByteArray) = s ↔ Lib.trimB (L s) 32 = L s := by
    constructor
    · intro h
      have := congrArg L h
      rwa [L_mk] at this
    · intro h
      apply L_inj
      rw [L_mk, h]
  rw [h1, trimB_self]
  unfold edge
  by_cases hz : s.size = 0
  · have : L s = [] := List.eq_nil_of_length_eq_zero hz
    rw [this]
    simp [hz]
  · have h2 : (L s).head? = (L s)[0]? := List.head?_eq_getElem?
    have h3 : (L s).getLast? = (L s)[s.size - 1]? := by rw [List.getLast?_eq_getElem?]; rfl
    rw [h2, h3, Bool.or_eq_true, decide_eq_true_eq, Bool.and_eq_true, bne_iff_ne, bne_iff_ne, Ne, Ne, Ne, Ne, bt_sp (by omega), bt_sp (by omega)]
    simp [hz]
theorem specText_l0 (s : ByteArray) (hs : s.size ≤ 1048576) : ∀ n i : Nat, i + n = s.size → Ev (fun k => spec_l4Text.l0 k s i) (if ((bytesL s).drop i).all (vis 32) = true then .inr s else .inl false)
  | 0, i, h => by
    refine Ev.step (fun k => by rw [spec_l4Text.l0]) ?_
    simp (disch := omega) only [cneg]
    rw [List.drop_eq_nil_of_le (by rw [bytesL_len]; omega)]
    exact Ev.pure _
  | n + 1, i, h => by
    have hl := bytesL_len s
    have hi : i < (bytesL s).length := by omega
    refine Ev.step (fun k => by rw [spec_l4Text.l0]) ?_
    simp (disch := omega) only [cpos, Int.toNat_natCast, bt_bytes s i hi]
    rw [all_bytes hi]
    unfold vis
    by_cases c1 : (bytesL s)[i] < 32
    · simp (disch := omega) only [cpos, dneg, Bool.false_and]; exact Ev.pure _
    · by_cases c2 : (bytesL s)[i] > 126
      · simp (disch := omega) only [cpos, cneg, dneg, Bool.and_false, Bool.false_and]; exact Ev.pure _
      · simp (disch := omega) only [cpos, cneg, dpos, Bool.and_self, Bool.true_and, wrap_in]
        exact specText_l0 s hs n (i + 1) (by omega)
theorem isPrint_l0 (s : ByteArray) (hs : s.size ≤ 1048576) : ∀ n i : Nat, i + n = s.size → Ev (fun k => impl_isPrintable.l0 k s i) (if ((bytesL s).drop i).all (vis 32) = true then .inr s else .inl false)
  | 0, i, h => by
    refine Ev.step (fun k => by rw [impl_isPrintable.l0]) ?_
    simp (disch := omega) only [cneg]
    rw [List.drop_eq_nil_of_le (by rw [bytesL_len]; omega)]
    exact Ev.pure _
  | n + 1, i, h => by
    have hl := bytesL_len s
    have hi : i < (bytesL s).length := by omega
    refine Ev.step (fun k => by rw [impl_isPrintable.l0]) ?_
    simp (disch := omega) only [cpos, Int.toNat_natCast, bt_bytes s i hi]
    rw [all_bytes hi]
    unfold vis
    by_cases c1 : (bytesL s)[i] < 32
    · simp (disch := omega) only [cpos, dneg, Bool.false_and]; exact Ev.pure _
    · by_cases c2 : (bytesL s)[i] > 126
      · simp (disch := omega) only [cpos, cneg, dneg, Bool.and_false, Bool.false_and]; exact Ev.pure _
      · simp (disch := omega) only [cpos, cneg, dpos, Bool.and_self, Bool.true_and, wrap_in]
        exact isPrint_l0 s hs n (i + 1) (by omega)
def textB (s : ByteArray) : Bool := decide (s.size ≤ 40) && ((bytesL s).all (vis 32) && edge s)
theorem specText_ev (s : ByteArray) : Ev (fun k => spec_l4Text.F k s) (textB s) := by
  unfold spec_l4Text.F textB
  by_cases c : (s.size : Int) > 40
  · simp (disch := omega) only [cpos, dneg, Bool.false_and]
    exact Ev.pure _
  · simp (disch := omega) only [cneg, dpos, Bool.true_and]
    have := specText_l0 s (by omega) s.size 0 (by omega)
    rw [List.drop_zero] at this
    cases h : (bytesL s).all (vis 32) with
    | false => rw [h] at this; exact Ev.bind this (Ev.pure _)
    | true =>
      rw [h] at this
      refine Ev.bind (a := .inr s) this ?_
      dsimp only
      have he : beqS s ⟨#[]⟩ = decide (s.size = 0) := by
        rw [← Bool.not_not (b := beqS s ⟨#[]⟩), size_pos]
        by_cases hz : s.size = 0
        · simp [hz]
        · rw [decide_eq_true (by omega : 0 < s.size), decide_eq_false hz]; rfl
      rw [he]
      unfold edge
      by_cases hz : s.size = 0
      · rw [decide_eq_true hz]; exact Ev.pure _
      · rw [decide_eq_false hz]
        simp (disch := omega) only [cond_false, cond_true, cpos, wrap_in]
        rw [show ((s.size : Int) - 1).toNat = s.size - 1 by omega, show (0 : Int).toNat = 0 from rfl, Bool.false_or, Bool.true_and]
        cases (bt s 0 != 32) with
        | true => exact Ev.pure _
        | false => exact Ev.pure _
theorem isText_ev (s : ByteArray) : Ev (fun k => impl_isText.F k s) (textB s) := by
  unfold impl_isText.F textB
  by_cases c : (s.size : Int) ≤ 40
  · simp (disch := omega) only [cpos, dpos, Bool.true_and]
    refine Ev.bind ?_ (Ev.pure _)
    unfold impl_isPrintable.F
    have := isPrint_l0 s (by omega) s.size 0 (by omega)
    rw [List.drop_zero] at this
    cases h : (bytesL s).all (vis 32) with
    | false => rw [h] at this; exact Ev.bind this (Ev.pure _)
    | true =>
      rw [h] at this
      refine Ev.bind (a := .inr s) this ?_
      dsimp only
      refine Ev.bind0 (edge_trim s (by omega)) ?_
      simp only [edge_eq, Bool.true_and]
      exact Ev.pure _
  · simp (disch := omega) only [cneg, dneg, Bool.false_and]
    exact Ev.pure _

/-! ### Words -/
def pos (s : ByteArray) : Bool := decide (0 < s.size)
def kw (s : ByteArray) : List ByteArray := (words s).filter pos
theorem ext_size {s : ByteArray} {a b : Nat} (h : a ≤ b) (hb : b ≤ s.size) : (s.extract a b).size = b - a := by
  rw [ByteArray.size_extract]; omega
theorem room_s {n : Nat} (h : n ≤ 8192) : room n .str = true := by
  unfold room
  rw [Nat.ble_eq]
  have : nb .str = 16 := rfl
  rw [this]
  omega
theorem fpos_one (s : ByteArray) (a b : Nat) (hab : a ≤ b) (hb : b ≤ s.size) (l : List ByteArray) : (s.extract a b :: l).filter pos = (if a < b then [s.extract a b] else []) ++ l.filter pos := by
  rw [List.filter_cons]
  unfold pos
  rw [ext_size hab hb]
  by_cases c : a < b
  · rw [if_pos c, decide_eq_true (by omega)]; rfl
  · rw [if_neg c, decide_eq_false (by omega)]; rfl
theorem specWords_l0 (s : ByteArray) (hs : s.size ≤ 4000) : ∀ n i : Nat, i + n = s.size → ∀ st : Nat, st ≤ i → (∀ j, st ≤ j → j < i → (L s)[j]? ≠ some 32) → ∀ acc : List ByteArray, acc.length ≤ i → Ev (fun k => spec_l19Words.l0 k s acc st i) (acc ++ (wordsFrom s st).filter pos)
  | 0, i, h, st, h1, hn, acc, ha => by
    have e : wordsFrom s st = [s.extract st s.size] := words_end s st fun j hj => by
      by_cases hj2 : j < i
      · exact hn j hj hj2
      · rw [List.getElem?_eq_none (by rw [L_size]; omega)]; exact fun h => by cases h
    rw [e, fpos_one s st s.size (by omega) (Nat.le_refl _), List.filter_nil, List.append_nil]
    have fin : ∀ acc', Ev (fun k => spec_l19Words.l0 k s acc' ((i : Int) + 1) ((i : Int) + 1)) acc' := fun acc' => by
      refine Ev.step (fun k => by rw [spec_l19Words.l0]) ?_
      simp (disch := omega) only [cneg]
      exact Ev.pure _
    refine Ev.step (fun k => by rw [spec_l19Words.l0]) ?_
    by_cases c : st < i
    · rw [if_pos (by omega)]
      have hr : ∀ x : ByteArray, room (acc.length + ([x] : List ByteArray).length) .str = true := fun x => room_s (by simp; omega)
      simp (disch := omega) only [cpos, ceq, Int.toNat_natCast, hr, cond_true, wrap_in]
      rw [show i = s.size by omega]
      have := fin (acc ++ [s.extract st s.size])
      rw [show i = s.size by omega] at this
      exact this
    · rw [if_neg (by omega), List.append_nil]
      simp (disch := omega) only [cpos, cneg, ceq, wrap_in]
      exact fin acc
  | n + 1, i, h, st, h1, hn, acc, ha => by
    have hi : i < s.size := by omega
    refine Ev.step (fun k => by rw [spec_l19Words.l0]) ?_
    by_cases c : bt s i = 32
    · rw [words_hit s st i h1 hi ((bt_sp hi).1 c) hn, fpos_one s st i h1 (by omega)]
      by_cases c2 : st < i
      · have hr : ∀ x : ByteArray, room (acc.length + ([x] : List ByteArray).length) .str = true := fun x => room_s (by simp; omega)
        rw [if_pos c2, ← List.append_assoc]
        simp (disch := first | exact c | omega) only [cpos, cne, ceq, Int.toNat_natCast, hr, cond_true, wrap_in]
        exact specWords_l0 s hs n (i + 1) (by omega) (i + 1) (Nat.le_refl _) (fun j h1 h2 => by omega) (acc ++ [s.extract st i]) (by simp; omega)
      · rw [if_neg c2, List.nil_append]
        simp (disch := first | exact c | omega) only [cpos, cneg, cne, ceq, Int.toNat_natCast, wrap_in]
        exact specWords_l0 s hs n (i + 1) (by omega) (i + 1) (Nat.le_refl _) (fun j h1 h2 => by omega) acc (by omega)
    · simp (disch := first | exact c | omega) only [cpos, cne, Int.toNat_natCast, wrap_in]
      exact specWords_l0 s hs n (i + 1) (by omega) st (by omega) (fun j h3 h4 => by
        rcases Nat.lt_or_ge j i with h5 | h5
        · exact hn j h3 h5
        · obtain rfl : j = i := by omega
          exact fun e => c ((bt_sp hi).2 e)) acc (by omega)
theorem specWords_ev (s : ByteArray) (hs : s.size ≤ 4000) : Ev (fun k => spec_l19Words.F k s) (kw s) := by
  unfold spec_l19Words.F
  have := specWords_l0 s hs s.size 0 (by omega) 0 (Nat.le_refl _) (fun j h1 h2 => by omega) [] (Nat.le_refl _)
  rw [words_from, List.nil_append] at this
  exact Ev.bind this (Ev.pure _)
theorem notEmpty : (fun x : ByteArray => !beqS x ⟨#[]⟩) = pos := by
  funext x
  rw [size_pos]; rfl
theorem wordsOf_ev (s : ByteArray) (hs : s.size ≤ 4000) : Ev (fun k => impl_wordsOf.F k s) (kw s) := by
  unfold impl_wordsOf.F
  refine Ev.bind0 (split_ev s hs) (Ev.bind (a := kw s) ?_ (Ev.pure _))
  have hlen := (words_len s).2
  have hq : ∀ x, x ∈ words s → Ev (fun k => (fun (_ : Nat) (x : ByteArray) => impl_wordsOf_1.F x) k x) (beqS x ⟨#[]⟩) := fun x _ => Ev.const rfl
  have := delete_ev (d := (⟨#[]⟩ : ByteArray)) (p := fun x => beqS x ⟨#[]⟩) (q := fun _ x => impl_wordsOf_1.F x) (xs := words s) (l0 := slices_DeleteFunc_string_f132.l0) (fun k x0 x5 x6 => by rw [slices_DeleteFunc_string_f132.l0]) hq (by omega) (I := slices_IndexFunc_string_f132.F) (F := slices_DeleteFunc_string_f132.F)
    (idx_ev (d := (⟨#[]⟩ : ByteArray)) (p := fun x => beqS x ⟨#[]⟩) (q := fun _ x => impl_wordsOf_1.F x) (l0 := slices_IndexFunc_string_f132.l0) (fun k x0 x7 x8 => by rw [slices_IndexFunc_string_f132.l0]) hq (by omega) (fun k a0 => rfl)) (fun k a0 => rfl)
  rw [notEmpty] at this
  exact this

/-! ### Words that are omitted -/
def om (s : ByteArray) : Bool := beqS (lowS s) ⟨#[97]⟩ || (beqS (lowS s) ⟨#[97, 110]⟩ || (beqS (lowS s) ⟨#[97, 110, 100]⟩ || (beqS (lowS s) ⟨#[102, 111, 114]⟩ || (beqS (lowS s) ⟨#[105, 110]⟩ || (beqS (lowS s) ⟨#[111, 102]⟩ || (beqS (lowS s) ⟨#[111, 110]⟩ || beqS (lowS s) ⟨#[116, 104, 101]⟩))))))
theorem cb1 (c : Bool) : (bif c then some true else some false) = some c := by cases c <;> rfl
theorem cb2 (c d : Bool) : (bif c then some c else some d) = some (c || d) := by cases c <;> rfl
theorem small_ev (s : ByteArray) (hs : s.size ≤ 1048576) : Ev (fun k => spec_l19Small.F k s) (om s) := by
  unfold spec_l19Small.F om
  refine Ev.bind (specLower_ev s hs) ?_
  simp only [cb1, cb2]
  exact Ev.pure _
theorem omitted_ev (s : ByteArray) (hs : s.size ≤ 1048576) : Ev (fun k => impl_isOmitted.F k s) (om s) := by
  unfold impl_isOmitted.F om
  refine Ev.bind (lower_ev s hs) ?_
  simp only [cb1, cb2]
  exact Ev.pure _

/-! ### What is kept -/
theorem kw_small (s : ByteArray) : ∀ x ∈ kw s, 0 < x.size ∧ x.size ≤ s.size := fun x hx => by
  obtain ⟨h1, h2⟩ := List.mem_filter.1 hx
  exact ⟨by simpa [pos] using h2, words_small _ _ x h1⟩
theorem kw_len (s : ByteArray) : (kw s).length ≤ s.size + 1 := Nat.le_trans (List.length_filter_le _ _) (words_len s).2
theorem kept_l0 (W : List ByteArray) (hW : ∀ x ∈ W, x.size ≤ 4000) (hl : W.length ≤ 4001) : ∀ n i : Nat, i + n = W.length → ∀ acc : List ByteArray, acc.length ≤ i → Ev (fun k => spec_l19Kept.l0 k W acc i) (W, acc ++ (W.drop i).filter fun x => !om x)
  | 0, i, h, acc, ha => by
    refine Ev.step (fun k => by rw [spec_l19Kept.l0]) ?_
    simp (disch := omega) only [cneg]
    rw [List.drop_eq_nil_of_le (by omega), List.filter_nil, List.append_nil]
    exact Ev.pure _
  | n + 1, i, h, acc, ha => by
    have hi : i < W.length := by omega
    refine Ev.step (fun k => by rw [spec_l19Kept.l0]) ?_
    simp (disch := omega) only [cpos, Int.toNat_natCast, getD_at hi]
    have := hW _ (List.getElem_mem hi)
    refine Ev.bind (small_ev _ (by omega)) ?_
    rw [List.drop_eq_getElem_cons hi, List.filter_cons]
    cases ho : om W[i] with
    | true =>
      simp (disch := omega) only [Bool.not_true, cond_false, wrap_in, Bool.false_eq_true, if_false]
      exact kept_l0 W hW hl n (i + 1) (by omega) acc (by omega)
    | false =>
      have hr : room (acc.length + ([W[i]] : List ByteArray).length) .str = true := room_s (by simp; omega)
      simp (disch := omega) only [Bool.not_false, cond_true, cpos, hr, wrap_in, if_true]
      have := kept_l0 W hW hl n (i + 1) (by omega) (acc ++ [W[i]]) (by simp; omega)
      rw [List.append_assoc] at this
      exact this
def toldW (s : ByteArray) : List ByteArray × Bool := if (kw s).length ≤ 1 then (kw s, false) else if ((kw s).filter fun x => !om x).length = 0 then (kw s, true) else ((kw s).filter fun x => !om x, true)
theorem specKept_ev (s : ByteArray) (hs : s.size ≤ 40) : Ev (fun k => spec_l19Kept.F k s) (toldW s) := by
  unfold spec_l19Kept.F
  have hW := kw_small s
  have hl := kw_len s
  have h2 := kept_l0 (kw s) (fun x hx => by have := (hW x hx).2; omega) (by omega) (kw s).length 0 (by omega) [] (Nat.le_refl _)
  rw [List.drop_zero, List.nil_append] at h2
  refine Ev.bind (specWords_ev s (by omega)) (Ev.bind h2 ?_)
  unfold toldW
  by_cases c1 : (kw s).length ≤ 1
  · rw [if_pos c1]
    by_cases c2 : (((kw s).filter fun x => !om x).length : Int) = 0
    · simp (disch := omega) only [ceq, cpos]; exact Ev.pure _
    · simp (disch := omega) only [cne, cpos]; exact Ev.pure _
  · rw [if_neg c1]
    by_cases c2 : ((kw s).filter fun x => !om x).length = 0
    · rw [if_pos c2]
      simp (disch := omega) only [ceq, cneg]; exact Ev.pure _
    · rw [if_neg c2]
      simp (disch := omega) only [cne, cneg]; exact Ev.pure _
theorem told_ev (s : ByteArray) (hs : s.size ≤ 40) : Ev (fun k => impl_told.F k s) (toldW s) := by
  unfold impl_told.F toldW
  have hW := kw_small s
  have hl := kw_len s
  refine Ev.bind (wordsOf_ev s (by omega)) ?_
  by_cases c1 : (kw s).length ≤ 1
  · rw [if_pos c1]
    simp (disch := omega) only [cpos]
    exact Ev.pure _
  · rw [if_neg c1]
    simp (disch := omega) only [cneg]
    have hc : slices_Clone_string.F (kw s) = some (kw s) := by
      unfold slices_Clone_string.F xClone
      rw [Nat.ble_eq_true_of_le (by omega)]
      rfl
    refine Ev.bind0 hc ?_
    have hq : ∀ x, x ∈ kw s → Ev (fun k => impl_isOmitted.F k x) (om x) := fun x hx => omitted_ev x (by have := (hW x hx).2; omega)
    refine Ev.bind (delete_ev (d := (⟨#[]⟩ : ByteArray)) (p := om) (q := impl_isOmitted.F) (xs := kw s) (l0 := slices_DeleteFunc_string_f89.l0) (fun k x0 x5 x6 => by rw [slices_DeleteFunc_string_f89.l0]) hq (by omega) (I := slices_IndexFunc_string_f89.F) (F := slices_DeleteFunc_string_f89.F)
      (idx_ev (d := (⟨#[]⟩ : ByteArray)) (p := om) (q := impl_isOmitted.F) (l0 := slices_IndexFunc_string_f89.l0) (fun k x0 x7 x8 => by rw [slices_IndexFunc_string_f89.l0]) hq (by omega) (fun k a0 => rfl)) (fun k a0 => rfl)) ?_
    by_cases c2 : ((kw s).filter fun x => !om x).length = 0
    · rw [if_pos c2]
      simp (disch := omega) only [ceq]; exact Ev.pure _
    · rw [if_neg c2]
      simp (disch := omega) only [cne]; exact Ev.pure _
theorem told_small (s : ByteArray) : (∀ x ∈ (toldW s).1, 0 < x.size ∧ x.size ≤ s.size) ∧ (toldW s).1.length ≤ s.size + 1 := by
  have hW := kw_small s
  have hl := kw_len s
  have hf := List.length_filter_le (fun x => !om x) (kw s)
  unfold toldW
  split
  · exact ⟨hW, hl⟩
  · split
    · exact ⟨hW, hl⟩
    · exact ⟨fun x hx => hW x (List.mem_filter.1 hx).1, by show ((kw s).filter fun x => !om x).length ≤ _; omega⟩
end Go.Proofs.YtnffgabfibafjaaDoor
end
