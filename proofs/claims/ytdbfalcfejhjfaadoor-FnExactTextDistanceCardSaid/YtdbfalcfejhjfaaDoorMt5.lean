/- The law FnExactTextDistance returns true for every input, the listed package variables being as the program's text lays it: the card. -/
import Derived.Test.YtdbfalcfejhjfaaDoorMt3
import Derived.Shelf.Vars
import Derived.Below
import Derived.Lib.IndexMore
import Derived.Lib.Split
import Derived.Lib.SplitLaws
import Derived.Lib.Repeat
import Derived.Deep.Draws
import Derived.Lib.Join
import Derived.Lib.SlTrimSet
import Derived.Lib.IndexAny
import Derived.Lib.TrimByte
import Derived.Laws.AppendOwn
import Derived.Test.YtdbfalcfejhjfaaDoorMt4
import Derived.Test.YtdbfalcfejhjfaaDoorProg
import Derived.KernelRfl
import Derived.Lib.IndexBytes
import Derived.Lib.IndexLaws
import Derived.Lib.CountLaws
import Derived.Test.YtdbfalcfejhjfaaDoorCards
import Derived.Test.YtdbfalcfejhjfaaDoorTie
import Derived.WalkKit
import Derived.ProofKit
import Derived.OpenShut
import Derived.Deep.DeepHandedRow
import Derived.Lib.LaidTab
section
namespace Go.Gx
open Go.RowKit Go.Lib
set_option linter.unusedVariables false
theorem ext_goes {P : Program} {f : FuncId} {fn : Func} {c : Code} (hf : P.funcs[f]? = some fn) (hb : fn.body = some c) (hname : (fn.name == "runtime.NumGoroutine") = false) {args : Array Value} {w : World} {R : Value → World → Prop}
    (h : Calls P f args w fun e w' => ∃ v, e = .returned v ∧ R v w') : Goes P f args w R := by
  have hcall : (callFunc f args).run P w = .ok (.enter f args) w := by
    have hn' : fn.name ≠ "runtime.NumGoroutine" := by simpa using hname
    simp [callFunc, hf, hn', hb]
  unfold Goes
  rw [hcall]
  exact h
theorem args_nil {S : Nat → Prop} {w : World} {pv : Nat → Value} {vs : List Value} (h : ArgsOk S w pv [] vs) : vs = [] := List.eq_nil_of_length_eq_zero h.1
theorem args_cons {S : Nat → Prop} {w : World} {pv : Nat → Value} {a : AV} {al : List AV} {vs : List Value} (h : ArgsOk S w pv (a :: al) vs) : ∃ cs vs', AR S w (fun _ => none) (fun _ => none) pv a cs ∧ vs = valOf a cs :: vs' ∧ ArgsOk S w pv al vs' := by
  match vs, h with
  | [], h => cases h.1
  | v :: vs', ⟨h1, h2⟩ =>
    obtain ⟨cs, hc, rfl⟩ := h2 0 a v rfl rfl
    exact ⟨cs, vs', hc, rfl, by simpa using h1, fun i b u hb hu => h2 (i + 1) b u (by simpa using hb) (by simpa using hu)⟩
theorem args_str {S : Nat → Prop} {w : World} {pv : Nat → Value} {s : ByteArray} {al : List AV} {vs : List Value} (h : ArgsOk S w pv (.t .str s :: al) vs) : ∃ vs', vs = .string s :: vs' ∧ ArgsOk S w pv al vs' := by
  obtain ⟨cs, vs', hc, rfl, h'⟩ := args_cons h
  cases hc with | t _ _ _ hc => cases hc; exact ⟨vs', rfl, h'⟩
theorem args_int {S : Nat → Prop} {w : World} {pv : Nat → Value} {k : IntKind} {n : Int} {al : List AV} {vs : List Value} (h : ArgsOk S w pv (.t (.int k) n :: al) vs) : ∃ vs', vs = .int k n :: vs' ∧ ArgsOk S w pv al vs' := by
  obtain ⟨cs, vs', hc, rfl, h'⟩ := args_cons h
  cases hc with | t _ _ _ hc => cases hc; exact ⟨vs', rfl, h'⟩
section
variable {P : Program} {E : Env} {pv : Nat → Value} {f : FuncId} {fn : Func} {c : Code}
/-- An answer that leads nowhere. -/
theorem ext_flat (hf : P.funcs[f]? = some fn) (hb : fn.body = some c) (hname : (fn.name == "runtime.NumGoroutine") = false) {args : List AV} {τ : Ty} {y : den τ} {v : Value} (hy : ∀ S w, ∃ cs, CR S w τ y cs ∧ v = valOf (.t τ y) cs)
    (h : ∀ S w vs, (∀ b, S b → b < w.heap.size) → GlOk E S w → ArgsOk S w pv args vs → Calls P f vs.toArray w fun e w' => e = .returned v ∧ Below w.heap.size w w') : Meets P E pv (.f f) args (.t τ y) := by
  intro S w vs hS hgl hargs
  refine ext_goes hf hb hname ((h S w vs hS hgl hargs).mono fun e w' ⟨he, hbl⟩ => ⟨v, he, hbl, S, fun b hb => hb, fun b hb => .inl hb, ?_⟩)
  obtain ⟨cs, hc, rfl⟩ := hy S w'
  exact ⟨none, .plain _ _ (.t _ _ _ hc)⟩
/-- New texts in a block of their own. -/
theorem ext_strs (hf : P.funcs[f]? = some fn) (hb : fn.body = some c) (hname : (fn.name == "runtime.NumGoroutine") = false) {args : List AV} {te : Nat} {xs : List ByteArray} (hx : xs.length ≤ maxLen)
    (h : ∀ S w vs, (∀ b, S b → b < w.heap.size) → GlOk E S w → ArgsOk S w pv args vs → Calls P f vs.toArray w fun e w' => e = .returned (.slice (some ⟨w.heap.size, 0, none⟩) xs.length xs.length) ∧ w' = w.alloc (.cells (xs.map Value.string).toArray te)) : Meets P E pv (.f f) args (.fr te .str xs) := by
  intro S w vs hS hgl hargs
  refine ext_goes hf hb hname ((h S w vs hS hgl hargs).mono fun e w' ⟨he, hw⟩ => ⟨_, he, ?_⟩)
  subst hw
  refine ⟨(Below.refl _ w).alloc (Nat.le_refl _) _, S, fun b hb => hb, fun b hb => .inl hb, some w.heap.size, .fr te .str xs w.heap.size xs.length (Nat.le_refl _) (fun hs => absurd (hS _ hs) (Nat.lt_irrefl _)) ⟨(xs.map Value.string).toArray, (0, 0), ?_, ?_, Nat.le_refl _, hx, fun _ => rfl, .inl (Nat.le_refl _), by decide, fun i hi => ⟨[.string xs[i]], .str _, fun j v hj => ?_⟩⟩⟩
  · show (w.heap.push _)[w.heap.size]? = _
    simp
  · simp [nc]
  · cases j with
    | zero =>
      simp only [List.getElem?_cons_zero, Option.some.injEq] at hj
      subst hj
      simp [nc, hi]
    | succ j => simp at hj
end
/-! ### The functions -/
def xContains (s sub : ByteArray) : Option Bool := bif Nat.ble s.size 4294967280 then some (Lib.contains s.data.toList sub.data.toList) else none
theorem ext_contains {P : Program} {E : Env} {pv : Nat → Value} {f : FuncId} {fn : Func} {c : Code} (hf : P.funcs[f]? = some fn) (hb : fn.body = some c) (hname : (fn.name == "runtime.NumGoroutine") = false) {mx : Nat} (hmx : E.gi mx = true)
    (hc : ∀ (s sub : ByteArray) (m : Int) (w : World), s.size < 4294967281 → w.cell? ⟨mx, 0, none⟩ = some (.int .i64 m) → Calls P f #[.string s, .string sub] w fun e w' => e = .returned (.bool (Lib.contains s.data.toList sub.data.toList)) ∧ w' = w)
    {s sub : ByteArray} {y : Bool} (h : xContains s sub = some y) : Meets P E pv (.f f) (tvals [.str, .str] (s, sub, ())) (.t .bool y) := by
  unfold xContains at h
  cases hs : Nat.ble s.size 4294967280 with
  | false => rw [hs] at h; cases h
  | true =>
    rw [hs] at h
    cases h
    refine ext_flat hf hb hname (v := .bool _) (fun S w => ⟨_, .bool _, rfl⟩) fun S w vs hS hgl ha => ?_
    obtain ⟨_, rfl, ha1⟩ := args_str ha
    obtain ⟨_, rfl, ha2⟩ := args_str ha1
    obtain rfl := args_nil ha2
    obtain ⟨_, m, hm⟩ := hgl.2 mx hmx
    refine (hc s sub m w (Nat.lt_succ_of_le (Nat.le_of_ble_eq_true hs)) hm).mono fun e w' ⟨he, hw⟩ => ⟨he, ?_⟩
    subst hw
    exact Below.refl _ _
def xSplit (s sep : ByteArray) : Option (List ByteArray) := bif Nat.ble s.size 4294967280 && Nat.ble 1 sep.size then some (Lib.splitB sep 0 (Lib.countB s sep) s) else none
theorem ext_split {P : Program} {E : Env} {pv : Nat → Value} {f : FuncId} {fn : Func} {c : Code} (hf : P.funcs[f]? = some fn) (hb : fn.body = some c) (hname : (fn.name == "runtime.NumGoroutine") = false) {mx : Nat} (hmx : E.gi mx = true) {te : Nat}
    (hc : ∀ (s sep : ByteArray) (m : Int) (w : World), s.size < 4294967281 → w.cell? ⟨mx, 0, none⟩ = some (.int .i64 m) → 1 ≤ sep.size → Calls P f #[.string s, .string sep] w fun e w' =>
      e = .returned (.slice (some ⟨w.heap.size, 0, none⟩) (Lib.countB s sep + 1) (Lib.countB s sep + 1)) ∧ w' = w.alloc (.cells ((Lib.splitB sep 0 (Lib.countB s sep) s).map Value.string).toArray te))
    {s sep : ByteArray} {y : List ByteArray} (h : xSplit s sep = some y) : Meets P E pv (.f f) (tvals [.str, .str] (s, sep, ())) (.fr te .str y) := by
  unfold xSplit at h
  cases hs : Nat.ble s.size 4294967280 && Nat.ble 1 sep.size with
  | false => rw [hs] at h; cases h
  | true =>
    rw [hs] at h
    cases h
    rw [Bool.and_eq_true] at hs
    have h1 := Nat.le_of_ble_eq_true hs.1
    have h2 := Nat.le_of_ble_eq_true hs.2
    have hl := Lib.splitB_all sep h2 0 _ s rfl
    have hle := Lib.countB_le sep h2 s.size s (Nat.le_refl _)
    have hm : maxLen = 9223372036854775807 := by decide
    refine ext_strs hf hb hname (by rw [hl, hm]; omega) fun S w vs hS hgl ha => ?_
    obtain ⟨_, rfl, ha1⟩ := args_str ha
    obtain ⟨_, rfl, ha2⟩ := args_str ha1
    obtain rfl := args_nil ha2
    obtain ⟨_, m, hm⟩ := hgl.2 mx hmx
    rw [hl]
    exact hc s sep m w (by omega) hm h2
def xRepeat (s : ByteArray) (n : Int) : Option ByteArray := bif decide (0 ≤ n) && (decide (n ≤ 9223372036854775807) && Nat.ble (s.size * n.toNat) 140737488355328) then some ⟨(Lib.repeatL s.data.toList n.toNat).toArray⟩ else none
theorem ext_repeat {P : Program} {E : Env} {pv : Nat → Value} {f : FuncId} {fn : Func} {c : Code} (hf : P.funcs[f]? = some fn) (hb : fn.body = some c) (hname : (fn.name == "runtime.NumGoroutine") = false)
    (hc : ∀ (s : ByteArray) (c : Nat) (w : World), c ≤ 9223372036854775807 → s.size * c ≤ 140737488355328 → Calls P f #[.string s, .int .i64 c] w fun e w' => e = .returned (.string ⟨(Lib.repeatL s.data.toList c).toArray⟩) ∧ Below w.heap.size w w')
    {s : ByteArray} {n : Int} {y : ByteArray} (h : xRepeat s n = some y) : Meets P E pv (.f f) (tvals [.str, .int .i64] (s, n, ())) (.t .str y) := by
  unfold xRepeat at h
  cases hs : decide (0 ≤ n) && (decide (n ≤ 9223372036854775807) && Nat.ble (s.size * n.toNat) 140737488355328) with
  | false => rw [hs] at h; cases h
  | true =>
    rw [hs] at h
    cases h
    simp only [Bool.and_eq_true, decide_eq_true_eq] at hs
    refine ext_flat hf hb hname (v := .string _) (fun S w => ⟨_, .str _, rfl⟩) fun S w vs hS hgl ha => ?_
    obtain ⟨_, rfl, ha1⟩ := args_str ha
    obtain ⟨_, rfl, ha2⟩ := args_int ha1
    obtain rfl := args_nil ha2
    have e : n = (n.toNat : Int) := by omega
    have := hc s n.toNat w (by omega) (Nat.le_of_ble_eq_true hs.2.2)
    rw [← e] at this
    exact this
def ascii (s : ByteArray) : Bool := s.data.toList.all fun b => decide (b.toNat < 128)
theorem ascii_at {s : ByteArray} (h : ascii s = true) : ∀ (j : Nat) b, s.data.toList[j]? = some b → b.toNat < 128 := fun j b hj => by
  unfold ascii at h
  rw [List.all_eq_true] at h
  exact of_decide_eq_true (h b (List.mem_of_getElem? hj))
def xTrim (s cs : ByteArray) : Option ByteArray := bif Nat.ble s.size 9223372036854775807 && (Nat.ble cs.size 4294967280 && ascii cs) then some ⟨(Lib.trimS s.data.toList cs.data.toList).toArray⟩ else none
theorem ext_trim {P : Program} {E : Env} {pv : Nat → Value} {f : FuncId} {fn : Func} {c : Code} (hf : P.funcs[f]? = some fn) (hb : fn.body = some c) (hname : (fn.name == "runtime.NumGoroutine") = false)
    (hc : ∀ (s cs : ByteArray) (w : World), s.size ≤ 9223372036854775807 → cs.size < 4294967281 → (∀ (j : Nat) b, cs.data.toList[j]? = some b → b.toNat < 128) → Calls P f #[.string s, .string cs] w fun e w' => e = .returned (.string ⟨(Lib.trimS s.data.toList cs.data.toList).toArray⟩) ∧ Below w.heap.size w w')
    {s cs : ByteArray} {y : ByteArray} (h : xTrim s cs = some y) : Meets P E pv (.f f) (tvals [.str, .str] (s, cs, ())) (.t .str y) := by
  unfold xTrim at h
  cases hs : Nat.ble s.size 9223372036854775807 && (Nat.ble cs.size 4294967280 && ascii cs) with
  | false => rw [hs] at h; cases h
  | true =>
    rw [hs] at h
    cases h
    simp only [Bool.and_eq_true] at hs
    refine ext_flat hf hb hname (v := .string _) (fun S w => ⟨_, .str _, rfl⟩) fun S w vs hS hgl ha => ?_
    obtain ⟨_, rfl, ha1⟩ := args_str ha
    obtain ⟨_, rfl, ha2⟩ := args_str ha1
    obtain rfl := args_nil ha2
    exact hc s cs w (Nat.le_of_ble_eq_true hs.1) (Nat.lt_succ_of_le (Nat.le_of_ble_eq_true hs.2.1)) (ascii_at hs.2.2)
def xIndexAny (s cs : ByteArray) : Option Int := bif Nat.ble s.size 4294967280 && (Nat.ble cs.size 4294967280 && (ascii s && ascii cs)) then some (Lib.indexAny s.data.toList cs.data.toList) else none
theorem ext_indexAny {P : Program} {E : Env} {pv : Nat → Value} {f : FuncId} {fn : Func} {c : Code} (hf : P.funcs[f]? = some fn) (hb : fn.body = some c) (hname : (fn.name == "runtime.NumGoroutine") = false)
    (hc : ∀ (s cs : ByteArray) (w : World), s.size < 4294967281 → cs.size < 4294967281 → (∀ (j : Nat) b, s.data.toList[j]? = some b → b.toNat < 128) → (∀ (j : Nat) b, cs.data.toList[j]? = some b → b.toNat < 128) → Calls P f #[.string s, .string cs] w fun e w' => e = .returned (.int .i64 (Lib.indexAny s.data.toList cs.data.toList)) ∧ Below w.heap.size w w')
    {s cs : ByteArray} {y : Int} (h : xIndexAny s cs = some y) : Meets P E pv (.f f) (tvals [.str, .str] (s, cs, ())) (.t (.int .i64) y) := by
  unfold xIndexAny at h
  cases hs : Nat.ble s.size 4294967280 && (Nat.ble cs.size 4294967280 && (ascii s && ascii cs)) with
  | false => rw [hs] at h; cases h
  | true =>
    rw [hs] at h
    cases h
    simp only [Bool.and_eq_true] at hs
    refine ext_flat hf hb hname (v := .int .i64 _) (fun S w => ⟨_, .int _ _, rfl⟩) fun S w vs hS hgl ha => ?_
    obtain ⟨_, rfl, ha1⟩ := args_str ha
    obtain ⟨_, rfl, ha2⟩ := args_str ha1
    obtain rfl := args_nil ha2
    exact hc s cs w (Nat.lt_succ_of_le (Nat.le_of_ble_eq_true hs.1)) (Nat.lt_succ_of_le (Nat.le_of_ble_eq_true hs.2.1)) (ascii_at hs.2.2.1) (ascii_at hs.2.2.2)
/-- The pieces before and behind, and whether there is one. -/
def xCut (s sep : ByteArray) : Option (ByteArray × ByteArray × Bool) := bif Nat.ble s.size 4294967280 then some (⟨(Lib.cut s.data.toList sep.data.toList).1.toArray⟩, ⟨(Lib.cut s.data.toList sep.data.toList).2.1.toArray⟩, (Lib.cut s.data.toList sep.data.toList).2.2) else none
theorem drewN_below (w : World) (n : Nat) : Below w.heap.size w (w.drewN n) := ⟨rfl, rfl, rfl, Nat.le_refl _, fun _ _ => rfl⟩
theorem ext_cut {P : Program} {E : Env} {pv : Nat → Value} {f : FuncId} {fn : Func} {c : Code} (hf : P.funcs[f]? = some fn) (hb : fn.body = some c) (hname : (fn.name == "runtime.NumGoroutine") = false) {mx : Nat} (hmx : E.gi mx = true)
    (hc : ∀ (s sep : ByteArray) (m : Int) (w : World), s.size < 4294967281 → w.cell? ⟨mx, 0, none⟩ = some (.int .i64 m) → Calls P f #[.string s, .string sep] w fun e w' =>
      e = .returned (.tuple #[.string ⟨(Lib.cut s.data.toList sep.data.toList).1.toArray⟩, .string ⟨(Lib.cut s.data.toList sep.data.toList).2.1.toArray⟩, .bool (Lib.cut s.data.toList sep.data.toList).2.2]) ∧ ∃ n, w' = w.drewN n)
    {s sep : ByteArray} {y : ByteArray × ByteArray × Bool} (h : xCut s sep = some y) : Meets P E pv (.f f) (tvals [.str, .str] (s, sep, ())) (.tup [.t .str y.1, .t .str y.2.1, .t .bool y.2.2]) := by
  unfold xCut at h
  cases hs : Nat.ble s.size 4294967280 with
  | false => rw [hs] at h; cases h
  | true =>
    rw [hs] at h
    cases h
    intro S w vs hS hgl ha
    obtain ⟨_, rfl, ha1⟩ := args_str ha
    obtain ⟨_, rfl, ha2⟩ := args_str ha1
    obtain rfl := args_nil ha2
    obtain ⟨_, m, hm⟩ := hgl.2 mx hmx
    refine ext_goes hf hb hname ((hc s sep m w (Nat.lt_succ_of_le (Nat.le_of_ble_eq_true hs)) hm).mono fun e w' ⟨he, n, hw⟩ => ⟨_, he, hw ▸ drewN_below w n, S, fun b hb => hb, fun b hb => .inl hb, ?_⟩)
    refine ⟨[.string _, .string _, .bool _], [none, none, none], rfl, rfl, rfl, fun i r v g h1 h2 h3 => ?_, fun i j g hne h1 => ?_⟩
    · match i, h1, h2, h3 with
      | 0, h1, h2, h3 => cases h1; cases h2; cases h3; exact .plain _ _ (.t _ _ _ (.str _))
      | 1, h1, h2, h3 => cases h1; cases h2; cases h3; exact .plain _ _ (.t _ _ _ (.str _))
      | 2, h1, h2, h3 => cases h1; cases h2; cases h3; exact .plain _ _ (.t _ _ _ (.bool _))
      | n + 3, h1, _, _ => simp at h1
    · match i, h1 with
      | 0, h1 => cases h1
      | 1, h1 => cases h1
      | 2, h1 => cases h1
      | n + 3, h1 => simp at h1
def xJoin (xs : List ByteArray) (sep : ByteArray) : Option ByteArray := bif Nat.ble xs.length 140737488355328 && Nat.ble (Lib.join (xs.map (·.data.toList)) sep.data.toList).length 140737488355328 then some ⟨(Lib.join (xs.map (·.data.toList)) sep.data.toList).toArray⟩ else none
theorem ext_join {P : Program} {E : Env} {pv : Nat → Value} {f : FuncId} {fn : Func} {c : Code} (hf : P.funcs[f]? = some fn) (hb : fn.body = some c) (hname : (fn.name == "runtime.NumGoroutine") = false)
    (hc0 : ∀ (a : Option Addr) (c : Nat) (sep : ByteArray) (w : World), Calls P f #[.slice a 0 c, .string sep] w fun e w' => e = .returned (.string ⟨#[]⟩) ∧ w' = w)
    (hc : ∀ (bk o c : Nat) (xs : List ByteArray) (sep : ByteArray) (w : World), (∀ (j : Nat) x, xs[j]? = some x → w.cell? ⟨bk, o + j, none⟩ = some (.string x)) → bk < w.heap.size → xs.length ≤ 140737488355328 → xs.length ≤ c →
      (Lib.join (xs.map (·.data.toList)) sep.data.toList).length ≤ 140737488355328 → Calls P f #[.slice (some ⟨bk, o, none⟩) xs.length c, .string sep] w fun e w' => e = .returned (.string ⟨(Lib.join (xs.map (·.data.toList)) sep.data.toList).toArray⟩) ∧ Below w.heap.size w w')
    {xs : List ByteArray} {sep : ByteArray} {y : ByteArray} (h : xJoin xs sep = some y) : Meets P E pv (.f f) (tvals [.sl .str, .str] (xs, sep, ())) (.t .str y) := by
  unfold xJoin at h
  cases hs : Nat.ble xs.length 140737488355328 && Nat.ble (Lib.join (xs.map (·.data.toList)) sep.data.toList).length 140737488355328 with
  | false => rw [hs] at h; cases h
  | true =>
    rw [hs] at h
    cases h
    rw [Bool.and_eq_true] at hs
    refine ext_flat hf hb hname (v := .string _) (fun S w => ⟨_, .str _, rfl⟩) fun S w vs hS hgl ha => ?_
    obtain ⟨cs, _, hcr, rfl, ha1⟩ := args_cons ha
    obtain ⟨_, rfl, ha2⟩ := args_str ha1
    obtain rfl := args_nil ha2
    cases hcr with
    | t _ _ _ hcr =>
      cases hcr with
      | sl e xs A c cv hle hm h1 h2 =>
        match xs, A, hle, h1, h2, hs with
        | [], A, _, _, _, _ => exact (hc0 A c sep w).mono fun e w' ⟨he, hw⟩ => ⟨he, hw ▸ Below.refl _ _⟩
        | x :: l, A, hle, h1, h2, hs =>
          obtain ⟨g, o, rfl, hg, _⟩ := h2 0 (Nat.succ_pos _)
          refine hc g o c (x :: l) sep w (fun j z hj => ?_) (hS g hg) (Nat.le_of_ble_eq_true hs.1) hle (Nat.le_of_ble_eq_true hs.2)
          obtain ⟨hj', hz⟩ := List.getElem?_eq_some_iff.1 hj
          obtain ⟨g', o', e', _, hcell⟩ := h2 j hj'
          cases e'
          have hcv := h1 j hj'
          rw [hz] at hcv
          have hq : ∀ q, CR S w .str z q → q[0]? = some (.string z) := fun q hq => by cases hq; rfl
          have := hcell 0 (.string z) (hq _ hcv)
          simpa [nc] using this
def xTrim1 (s cs : ByteArray) : Option ByteArray := match cs with
  | ⟨⟨[c]⟩⟩ => bif Nat.ble s.size 9223372036854775807 && Nat.blt c.toNat 128 then some ⟨(Lib.trimB s.data.toList c).toArray⟩ else none
  | _ => none
theorem ext_trim1 {P : Program} {E : Env} {pv : Nat → Value} {f : FuncId} {fn : Func} {c : Code} (hf : P.funcs[f]? = some fn) (hb : fn.body = some c) (hname : (fn.name == "runtime.NumGoroutine") = false)
    (hc : ∀ (s : ByteArray) (c : UInt8), c.toNat < 128 → ∀ (w : World), s.size ≤ 9223372036854775807 → Calls P f #[.string s, .string ⟨#[c]⟩] w fun e w' => e = .returned (.string ⟨(Lib.trimB s.data.toList c).toArray⟩) ∧ (w' = w ∨ w' = w.drew))
    {s cs : ByteArray} {y : ByteArray} (h : xTrim1 s cs = some y) : Meets P E pv (.f f) (tvals [.str, .str] (s, cs, ())) (.t .str y) := by
  unfold xTrim1 at h
  split at h
  · rename_i c0
    cases hs : Nat.ble s.size 9223372036854775807 && Nat.blt c0.toNat 128 with
    | false => rw [hs] at h; cases h
    | true =>
      rw [hs] at h
      cases h
      rw [Bool.and_eq_true] at hs
      refine ext_flat hf hb hname (v := .string _) (fun S w => ⟨_, .str _, rfl⟩) fun S w vs hS hgl ha => ?_
      obtain ⟨_, rfl, ha1⟩ := args_str ha
      obtain ⟨_, rfl, ha2⟩ := args_str ha1
      obtain rfl := args_nil ha2
      refine (hc s c0 (Nat.le_of_ble_eq_true hs.2) w (Nat.le_of_ble_eq_true hs.1)).mono fun e w' ⟨he, hw⟩ => ⟨he, ?_⟩
      rcases hw with rfl | rfl
      · exact Below.refl _ _
      · exact (Below.refl _ _).drew
  · cases h
def xClone (xs : List ByteArray) : Option (List ByteArray) := bif Nat.ble (xs.length * 16) 140737488355328 then some xs else none
theorem ext_clone {P : Program} {E : Env} {pv : Nat → Value} {f : FuncId} {fn : Func} {c : Code} (hf : P.funcs[f]? = some fn) (hb : fn.body = some c) (hname : (fn.name == "runtime.NumGoroutine") = false) {te : Nat}
    (hc : ∀ (b off n c : Nat) (zs : List ByteArray) (w : World), n ≤ zs.length → n * 16 ≤ 140737488355328 → (∀ j, j < zs.length → w.cell? ⟨b, off + j, none⟩ = some (.string (zs.getD j ByteArray.empty))) →
      Calls P f #[.slice (some ⟨b, off, none⟩) n c] w fun e w' => ∃ v', e = .returned v' ∧ w'.ownsRow w.heap.size te 1 v' n ((zs.take n).map Value.string) ∧ v' ≠ .slice none 0 0 ∧ Below w.heap.size w w')
    (hcn : ∀ (n c : Nat) (w : World), Calls P f #[.slice none n c] w fun e w' => e = .returned (.slice none 0 0) ∧ w' = w)
    (hcz : ∀ (a : Addr) (c : Nat) (w : World), Calls P f #[.slice (some a) 0 c] w fun e w' => ∃ v', e = .returned v' ∧ w'.ownsRow w.heap.size te 1 v' 0 [] ∧ v' ≠ .slice none 0 0 ∧ Below w.heap.size w w')
    {xs : List ByteArray} {y : List ByteArray} (h : xClone xs = some y) : Meets P E pv (.f f) (tvals [.sl .str] (xs, ())) (.fr te .str y) := by
  have hc0 : ∀ (A : Option Addr) (c : Nat) (w : World), Calls P f #[.slice A 0 c] w fun e w' => ∃ v', e = .returned v' ∧ w'.ownsRow w.heap.size te 1 v' 0 [] ∧ Below w.heap.size w w' := fun A c w => by
    cases A with
    | none => exact (hcn 0 c w).mono fun e w' ⟨he, hw⟩ => ⟨_, he, ⟨rfl, .inl ⟨rfl, rfl⟩⟩, hw ▸ Below.refl _ _⟩
    | some a => exact (hcz a c w).mono fun e w' ⟨v, he, ho, _, hb⟩ => ⟨v, he, ho, hb⟩
  unfold xClone at h
  cases hs : Nat.ble (xs.length * 16) 140737488355328 with
  | false => rw [hs] at h; cases h
  | true =>
    rw [hs] at h
    cases h
    have hs := Nat.le_of_ble_eq_true hs
    intro S w vs hS hgl ha
    have fin : ∀ (v' : Value) (w' : World), w'.ownsRow w.heap.size te 1 v' xs.length (xs.map Value.string) → Below w.heap.size w w' → Below w.heap.size w w' ∧ ∃ S' : Nat → Prop, (∀ b, S b → S' b) ∧ (∀ b, S' b → S b ∨ (w.heap.size ≤ b ∧ b < w'.heap.size)) ∧ RR S' w' w.heap.size pv (.fr te .str xs) v' := fun v' w' ho hbl => by
      refine ⟨hbl, S, fun b hb => hb, fun b hb => .inl hb, ?_⟩
      obtain ⟨h1, ⟨rfl, h2⟩ | ⟨g, cap, cur, rfl, h3, h4, h5, h6, h7, h8⟩⟩ := ho
      · obtain rfl : xs = [] := List.eq_nil_of_length_eq_zero h2
        exact ⟨none, .frNil te .str (by decide)⟩
      · refine ⟨some g, .fr te .str xs g cap h3 (fun hs => absurd (hS _ hs) (by omega)) ⟨cur, (0, 0), h4, h7, h5, h6, fun _ => rfl, .inl (Nat.le_refl _), by decide, fun i hi => ⟨[.string xs[i]], .str _, fun j v hj => ?_⟩⟩⟩
        cases j with
        | zero =>
          simp only [List.getElem?_cons_zero, Option.some.injEq] at hj
          subst hj
          have h9 := congrArg (·[i]?) h8
          simp only [Nat.mul_one, List.getElem?_take, if_pos hi, List.getElem?_map, List.getElem?_eq_getElem hi, Option.map_some] at h9
          simpa [nc] using h9
        | succ j => simp at hj
    obtain ⟨cs, _, hcr, rfl, ha1⟩ := args_cons ha
    obtain rfl := args_nil ha1
    cases hcr with
    | t _ _ _ hcr =>
      cases hcr with
      | sl e xs A c cv hle hm h1 h2 =>
        match xs, A, hle, h1, h2, hs, fin with
        | [], A, _, _, _, _, fin => exact ext_goes hf hb hname ((hc0 A c w).mono fun e w' ⟨v', he, ho, hbl⟩ => ⟨v', he, fin _ _ ho hbl⟩)
        | x :: l, A, hle, h1, h2, hs, fin =>
          obtain ⟨g, o, rfl, hg, _⟩ := h2 0 (Nat.succ_pos _)
          refine ext_goes hf hb hname ((hc g o (x :: l).length c (x :: l) w (Nat.le_refl _) hs fun j hj => ?_).mono fun e w' ⟨v', he, ho, _, hbl⟩ => ⟨v', he, fin _ _ (by rw [List.take_length] at ho; exact ho) hbl⟩)
          obtain ⟨g', o', e', _, hcell⟩ := h2 j hj
          cases e'
          have hcv := h1 j hj
          have hq : ∀ z q, CR S w .str z q → q[0]? = some (.string z) := fun z q hq => by cases hq; rfl
          have := hcell 0 _ (hq _ _ hcv)
          rw [List.getD_eq_getElem?_getD, List.getElem?_eq_getElem hj, Option.getD_some]
          simpa [nc] using this
end Go.Gx
end
section
namespace Go.Proofs.YtdbfalcfejhjfaaDoor
open Go.Gx
set_option linter.unusedVariables false
set_option maxRecDepth 100000
def tyT (t : Nat) : Option Ty := match t with
  | 2 => some (.int .i64)
  | 3 => some (.int .i64)
  | 4 => some .bool
  | 5 => some (.int .u8)
  | 9 => some .str
  | 10 => some .str
  | 11 => some .str
  | 21 => some (.int .i32)
  | 28 => some (.sl (.int .i64))
  | 31 => some (.sl .str)
  | 34 => some (.sl (.int .u8))
  | 40 => some (.arr 256 .bool)
  | 67 => some (.arr 256 (.int .u8))
  | 68 => some (.int .u64)
  | 76 => some (.int .u32)
  | 86 => some (.int .u8)
  | _ => none
def elT (t : Nat) : Nat := match t with
  | 28 => 3
  | 31 => 9
  | 34 => 5
  | _ => 0
def mdT (f : Nat) : Bool := match f with
  | 37 => true
  | _ => false
def glT (g : Nat) : Option AV := match g with
  | _ => none
def giT (g : Nat) : Bool := match g with
  | 2 => true
  | _ => false
def envX : Env := ⟨tyT, elT, glT, mdT, giT⟩
theorem env_ty : ∀ T τ, envX.ty T = some τ → TyOk Tryd.prog envX T τ := fun T τ h => by
  dsimp only [envX, tyT] at h
  split at h <;> first
    | (cases h; done)
    | (cases h; exact tyOk_of (by kernel_rfl) (by kernel_rfl))
theorem envOk : EnvOk Tryd.prog envX := ⟨env_ty, by kernel_rfl, fun T h => by
  dsimp only [envX, tyT] at h
  split at h <;> first
    | (cases h; done)
    | exact date_eq env_ty rfl (by kernel_rfl) (by kernel_rfl) (by kernel_rfl), fun T h => by
  dsimp only [envX, tyT] at h
  split at h <;> first
    | (cases h; done)
    | exact abbr_eq env_ty rfl (by kernel_rfl) (by kernel_rfl) (by kernel_rfl)⟩
/-! ### 6 loop.example/g00896/spec.l4Text -/
def spec_l4Text.l0 : Nat → ByteArray → Int → Option (Sum Bool ByteArray)
  | 0, _, _ => none
  | k + 1, x0, x3 => bif (decide (x3 < (x0.size : Int))) then (bif decide (0 ≤ x3) then (bif decide (x3 < (x0.size : Int)) then (bif (decide ((bt x0 (x3 : Int).toNat) < 32)) then (some (.inl false)) else (bif decide (0 ≤ x3) then (bif decide (x3 < (x0.size : Int)) then (bif (decide ((bt x0 (x3 : Int).toNat) > 126)) then (some (.inl false)) else (spec_l4Text.l0 k x0 (IntKind.wrap .i64 (x3 + 1)))) else none) else none)) else none) else none) else (some (.inr x0))
def spec_l4Text.F (k : Nat) (a0 : ByteArray) : Option (Bool) := bif (decide ((a0.size : Int) > 40)) then (some false) else ((spec_l4Text.l0 k a0 0).bind fun y1 => match y1 with | .inl z2 => some z2 | .inr z2 => bif (beqS z2 (⟨#[]⟩ : ByteArray)) then (some true) else (bif decide (0 ≤ 0) then (bif decide (0 < (z2.size : Int)) then (bif ((bt z2 (0 : Int).toNat) != 32) then (bif decide (0 ≤ (IntKind.wrap .i64 ((z2.size : Int) - 1))) then (bif decide ((IntKind.wrap .i64 ((z2.size : Int) - 1)) < (z2.size : Int)) then (some ((bt z2 ((IntKind.wrap .i64 ((z2.size : Int) - 1)) : Int).toNat) != 32)) else none) else none) else (some false)) else none) else none))
def spec_l4Text.C (k : Nat) : Cal → Option CArm := fun c => match c with
  | _ => none
def spec_l4Text.sp0 : List Sp := [.t 0 .str, .t 3 (.int .i64)]
def spec_l4Text.sp0_0 : List Sp := [.t 2 .bool]
def spec_l4Text.sp0_1 : List Sp := [.t 0 .str]
def spec_l4Text.A0 : LArm := .two spec_l4Text.sp0 spec_l4Text.sp0_0 spec_l4Text.sp0_1 (Bool) (ByteArray) (fun k x => spec_l4Text.l0 k x.1 x.2.1) .ret (.exit 0) (fun y => (y, ())) (fun x => x.1) (fun y => (y, ())) (fun x => x.1)
def spec_l4Text.L : Nat → Option LArm := fun b => match b with
  | 0 => some spec_l4Text.A0
  | _ => none
theorem spec_l4Text.run (k : Nat) (a0 : ByteArray) : runF envX (tabC (spec_l4Text.C k)) (tabL 38 k spec_l4Text.L) Tryd.f6 [.t .str a0] (viewR1 (.t .bool)) = spec_l4Text.F k a0 := by kernel_rfl
theorem spec_l4Text.step0 (k : Nat) (x0 : ByteArray) (x3 : Int) : runC envX (tabC (spec_l4Text.C k)) (tabL 38 k spec_l4Text.L) 0 (loopAt Tryd.f6 0) (stOf 38 spec_l4Text.sp0 (x0, x3, ())) (spec_l4Text.A0.cont 38 k) = spec_l4Text.l0 (k + 1) x0 x3 := by kernel_rfl
theorem spec_l4Text.G (hE : EnvOk Tryd.prog envX) (pv : Nat → Value) (k : Nat) : ∀ cal A, spec_l4Text.C k cal = some A → ArmOk Tryd.prog envX pv cal A := by
  intro cal A h
  unfold spec_l4Text.C at h
  cases h
theorem spec_l4Text.good (hE : EnvOk Tryd.prog envX) (pv : Nat → Value) (k : Nat) (a0 : ByteArray) {y : _} (h : spec_l4Text.F k a0 = some y) : Meets Tryd.prog envX pv (.f 6) (tvals [.str] (a0, ())) (.t .bool y) :=
  fun_loops hE (t := spec_l4Text.C) k (fun k _ => spec_l4Text.G hE pv k) (f := 6) (fn := Tryd.f6) (by kernel_rfl) rfl (by kernel_rfl) (by kernel_rfl) (lt := spec_l4Text.L) (by kernel_rfl) (fun b A h => by
    unfold spec_l4Text.L at h; split at h
    · cases h; exact ⟨by kernel_rfl, by kernel_rfl, by kernel_rfl, fun _ => rfl, fun _ => rfl, fun _ => rfl⟩
    · cases h) (fun b A h => by
    unfold spec_l4Text.L at h; split at h
    · cases h; exact fun k x => spec_l4Text.step0 k x.1 x.2.1
    · cases h) ((spec_l4Text.run k a0).trans h) fun r hr => wk_view1 hr
/-! ### 14 loop.example/g00896/spec.l1Least -/
def spec_l1Least.F (a0 : Int) (a1 : Int) : Option (Int) := bif (decide (a0 < a1)) then (some a0) else (some a1)
def spec_l1Least.C : Cal → Option CArm := fun c => match c with
  | _ => none
theorem spec_l1Least.run (a0 : Int) (a1 : Int) : runF envX (tabC spec_l1Least.C) (tabL 10 0 (fun _ => none)) Tryd.f14 [.t (.int .i64) a0, .t (.int .i64) a1] (viewR1 (.t (.int .i64))) = spec_l1Least.F a0 a1 := by kernel_rfl
theorem spec_l1Least.G (hE : EnvOk Tryd.prog envX) (pv : Nat → Value) : ∀ cal A, spec_l1Least.C cal = some A → ArmOk Tryd.prog envX pv cal A := by
  intro cal A h
  unfold spec_l1Least.C at h
  cases h
theorem spec_l1Least.good (hE : EnvOk Tryd.prog envX) (pv : Nat → Value) (a0 : Int) (a1 : Int) {y : _} (h : spec_l1Least.F a0 a1 = some y) : Meets Tryd.prog envX pv (.f 14) (tvals [(.int .i64), (.int .i64)] (a0, a1, ())) (.t (.int .i64) y) :=
  fun_plain hE (spec_l1Least.G hE pv) (f := 14) (fn := Tryd.f14) (by kernel_rfl) rfl (by kernel_rfl) (by kernel_rfl) ((spec_l1Least.run a0 a1).trans h) fun r hr => wk_view1 hr
/-! ### 10 loop.example/g00896/spec.l20Edit -/
def spec_l20Edit.l0 : Nat → ByteArray → ByteArray → (List Int) → Int → Option (ByteArray × ByteArray × (List Int))
  | 0, _, _, _, _ => none
  | k + 1, x0, x1, x5, x6 => bif (decide (x6 ≤ (x1.size : Int))) then (bif room (x5.length + ([x6] : List Int).length) (.int .i64) then (spec_l20Edit.l0 k x0 x1 (x5 ++ ([x6] : List Int)) (IntKind.wrap .i64 (x6 + 1))) else none) else (some (x0, x1, x5))
def spec_l20Edit.l4 : Nat → ByteArray → ByteArray → (List Int) → Int → (List Int) → Int → Option (ByteArray × ByteArray × Int × (List Int))
  | 0, _, _, _, _, _, _ => none
  | k + 1, x0, x1, x5, x7, x8, x9 => bif (decide (x9 ≤ (x1.size : Int))) then (bif decide (0 ≤ x9) then (bif decide (x9 < (x5.length : Int)) then (bif decide (0 ≤ (IntKind.wrap .i64 (x9 - 1))) then (bif decide ((IntKind.wrap .i64 (x9 - 1)) < (x8.length : Int)) then ((spec_l1Least.F (x5.getD ((x9 : Int).toNat) 0) (x8.getD (((IntKind.wrap .i64 (x9 - 1)) : Int).toNat) 0)).bind fun r2 => bif decide (0 ≤ (IntKind.wrap .i64 (x7 - 1))) then (bif decide ((IntKind.wrap .i64 (x7 - 1)) < (x0.size : Int)) then (bif decide (0 ≤ (IntKind.wrap .i64 (x9 - 1))) then (bif decide ((IntKind.wrap .i64 (x9 - 1)) < (x1.size : Int)) then (bif ((bt x0 ((IntKind.wrap .i64 (x7 - 1)) : Int).toNat) == (bt x1 ((IntKind.wrap .i64 (x9 - 1)) : Int).toNat)) then (bif decide (0 ≤ (IntKind.wrap .i64 (x9 - 1))) then (bif decide ((IntKind.wrap .i64 (x9 - 1)) < (x5.length : Int)) then ((spec_l1Least.F (IntKind.wrap .i64 (r2 + 1)) (x5.getD (((IntKind.wrap .i64 (x9 - 1)) : Int).toNat) 0)).bind fun r3 => bif room (x8.length + ([r3] : List Int).length) (.int .i64) then (spec_l20Edit.l4 k x0 x1 x5 x7 (x8 ++ ([r3] : List Int)) (IntKind.wrap .i64 (x9 + 1))) else none) else none) else none) else (bif decide (0 ≤ (IntKind.wrap .i64 (x9 - 1))) then (bif decide ((IntKind.wrap .i64 (x9 - 1)) < (x5.length : Int)) then ((spec_l1Least.F (IntKind.wrap .i64 (r2 + 1)) (IntKind.wrap .i64 ((x5.getD (((IntKind.wrap .i64 (x9 - 1)) : Int).toNat) 0) + 1))).bind fun r4 => bif room (x8.length + ([r4] : List Int).length) (.int .i64) then (spec_l20Edit.l4 k x0 x1 x5 x7 (x8 ++ ([r4] : List Int)) (IntKind.wrap .i64 (x9 + 1))) else none) else none) else none)) else none) else none) else none) else none) else none) else none) else none) else none) else (some (x0, x1, x7, x8))
def spec_l20Edit.l2 : Nat → ByteArray → ByteArray → (List Int) → Int → Option (ByteArray × (List Int))
  | 0, _, _, _, _ => none
  | k + 1, x0, x1, x5, x7 => bif (decide (x7 ≤ (x0.size : Int))) then ((spec_l20Edit.l4 k x0 x1 x5 x7 ([x7] : List Int) 1).bind fun y5 => spec_l20Edit.l2 k y5.1 y5.2.1 y5.2.2.2 (IntKind.wrap .i64 (y5.2.2.1 + 1))) else (some (x1, x5))
def spec_l20Edit.F (k : Nat) (a0 : ByteArray) (a1 : ByteArray) : Option (Int) := (spec_l20Edit.l0 k a0 a1 ([] : List Int) 0).bind fun y1 => (spec_l20Edit.l2 k y1.1 y1.2.1 y1.2.2 1).bind fun y6 => bif decide (0 ≤ (y6.1.size : Int)) then (bif decide ((y6.1.size : Int) < (y6.2.length : Int)) then (some (y6.2.getD (((y6.1.size : Int) : Int).toNat) 0)) else none) else none
def spec_l20Edit.C (k : Nat) : Cal → Option CArm := fun c => match c with
  | .f 14 => some (.p [(.int .i64), (.int .i64)] _ (fun x => spec_l1Least.F x.1 x.2.1) (fun r => (.t (.int .i64) r)))
  | _ => none
def spec_l20Edit.sp0 : List Sp := [.t 0 .str, .t 1 .str, .own 5 1024 3 (.int .i64) false true, .t 6 (.int .i64)]
def spec_l20Edit.sp0_0 : List Sp := [.t 0 .str, .t 1 .str, .own 5 1024 3 (.int .i64) false true]
def spec_l20Edit.A0 : LArm := .one spec_l20Edit.sp0 spec_l20Edit.sp0_0 (ByteArray × ByteArray × (List Int)) (fun k x => spec_l20Edit.l0 k x.1 x.2.1 x.2.2.1 x.2.2.2.1) (.exit 0) (fun y => (y.1, y.2.1, y.2.2, ())) (fun x => (x.1, x.2.1, x.2.2.1))
def spec_l20Edit.sp4 : List Sp := [.t 0 .str, .t 1 .str, .own 5 1024 3 (.int .i64) false true, .t 7 (.int .i64), .own 8 9220 3 (.int .i64) false true, .t 9 (.int .i64)]
def spec_l20Edit.sp4_0 : List Sp := [.t 0 .str, .t 1 .str, .t 7 (.int .i64), .own 8 9220 3 (.int .i64) false true]
def spec_l20Edit.A4 : LArm := .one spec_l20Edit.sp4 spec_l20Edit.sp4_0 (ByteArray × ByteArray × Int × (List Int)) (fun k x => spec_l20Edit.l4 k x.1 x.2.1 x.2.2.1 x.2.2.2.1 x.2.2.2.2.1 x.2.2.2.2.2.1) (.exit 4) (fun y => (y.1, y.2.1, y.2.2.1, y.2.2.2, ())) (fun x => (x.1, x.2.1, x.2.2.1, x.2.2.2.1))
def spec_l20Edit.sp2 : List Sp := [.t 0 .str, .t 1 .str, .own 5 1024 3 (.int .i64) false true, .t 7 (.int .i64)]
def spec_l20Edit.sp2_0 : List Sp := [.t 1 .str, .own 5 1024 3 (.int .i64) false true]
def spec_l20Edit.A2 : LArm := .one spec_l20Edit.sp2 spec_l20Edit.sp2_0 (ByteArray × (List Int)) (fun k x => spec_l20Edit.l2 k x.1 x.2.1 x.2.2.1 x.2.2.2.1) (.exit 2) (fun y => (y.1, y.2, ())) (fun x => (x.1, x.2.1))
def spec_l20Edit.L : Nat → Option LArm := fun b => match b with
  | 0 => some spec_l20Edit.A0
  | 4 => some spec_l20Edit.A4
  | 2 => some spec_l20Edit.A2
  | _ => none
theorem spec_l20Edit.run (k : Nat) (a0 : ByteArray) (a1 : ByteArray) : runF envX (tabC (spec_l20Edit.C k)) (tabL 81 k spec_l20Edit.L) Tryd.f10 [.t .str a0, .t .str a1] (viewR1 (.t (.int .i64))) = spec_l20Edit.F k a0 a1 := by kernel_rfl
theorem spec_l20Edit.step0 (k : Nat) (x0 : ByteArray) (x1 : ByteArray) (x5 : List Int) (x6 : Int) : runC envX (tabC (spec_l20Edit.C k)) (tabL 81 k spec_l20Edit.L) 0 (loopAt Tryd.f10 0) (stOf 81 spec_l20Edit.sp0 (x0, x1, x5, x6, ())) (spec_l20Edit.A0.cont 81 k) = spec_l20Edit.l0 (k + 1) x0 x1 x5 x6 := by kernel_rfl
theorem spec_l20Edit.step4 (k : Nat) (x0 : ByteArray) (x1 : ByteArray) (x5 : List Int) (x7 : Int) (x8 : List Int) (x9 : Int) : runC envX (tabC (spec_l20Edit.C k)) (tabL 81 k spec_l20Edit.L) 4 (loopAt Tryd.f10 4) (stOf 81 spec_l20Edit.sp4 (x0, x1, x5, x7, x8, x9, ())) (spec_l20Edit.A4.cont 81 k) = spec_l20Edit.l4 (k + 1) x0 x1 x5 x7 x8 x9 := by kernel_rfl
theorem spec_l20Edit.step2 (k : Nat) (x0 : ByteArray) (x1 : ByteArray) (x5 : List Int) (x7 : Int) : runC envX (tabC (spec_l20Edit.C k)) (tabL 81 k spec_l20Edit.L) 2 (loopAt Tryd.f10 2) (stOf 81 spec_l20Edit.sp2 (x0, x1, x5, x7, ())) (spec_l20Edit.A2.cont 81 k) = spec_l20Edit.l2 (k + 1) x0 x1 x5 x7 := by kernel_rfl
theorem spec_l20Edit.G (hE : EnvOk Tryd.prog envX) (pv : Nat → Value) (k : Nat) : ∀ cal A, spec_l20Edit.C k cal = some A → ArmOk Tryd.prog envX pv cal A := by
  intro cal A h
  unfold spec_l20Edit.C at h
  split at h
  · cases h; exact fun x y hy => spec_l1Least.good hE pv x.1 x.2.1 hy
  · cases h
theorem spec_l20Edit.good (hE : EnvOk Tryd.prog envX) (pv : Nat → Value) (k : Nat) (a0 : ByteArray) (a1 : ByteArray) {y : _} (h : spec_l20Edit.F k a0 a1 = some y) : Meets Tryd.prog envX pv (.f 10) (tvals [.str, .str] (a0, a1, ())) (.t (.int .i64) y) :=
  fun_loops hE (t := spec_l20Edit.C) k (fun k _ => spec_l20Edit.G hE pv k) (f := 10) (fn := Tryd.f10) (by kernel_rfl) rfl (by kernel_rfl) (by kernel_rfl) (lt := spec_l20Edit.L) (by kernel_rfl) (fun b A h => by
    unfold spec_l20Edit.L at h; split at h
    · cases h; exact ⟨by kernel_rfl, by kernel_rfl, fun _ => rfl, fun _ => rfl⟩
    · cases h; exact ⟨by kernel_rfl, by kernel_rfl, fun _ => rfl, fun _ => rfl⟩
    · cases h; exact ⟨by kernel_rfl, by kernel_rfl, fun _ => rfl, fun _ => rfl⟩
    · cases h) (fun b A h => by
    unfold spec_l20Edit.L at h; split at h
    · cases h; exact fun k x => spec_l20Edit.step0 k x.1 x.2.1 x.2.2.1 x.2.2.2.1
    · cases h; exact fun k x => spec_l20Edit.step4 k x.1 x.2.1 x.2.2.1 x.2.2.2.1 x.2.2.2.2.1 x.2.2.2.2.2.1
    · cases h; exact fun k x => spec_l20Edit.step2 k x.1 x.2.1 x.2.2.1 x.2.2.2.1
    · cases h) ((spec_l20Edit.run k a0 a1).trans h) fun r hr => wk_view1 hr
/-! ### 15 loop.example/g00896/spec.l6Join -/
def spec_l6Join.l0 : Nat → (List ByteArray) → ByteArray → Int → Option (ByteArray)
  | 0, _, _, _ => none
  | k + 1, x0, x3, x4 => bif (decide (x4 < (x0.length : Int))) then (bif (decide (x4 > 0)) then (bif Nat.ble (x3.size + (⟨#[32]⟩ : ByteArray).size) 9223372036854775807 then (bif decide (0 ≤ x4) then (bif decide (x4 < (x0.length : Int)) then (bif Nat.ble ((x3 ++ (⟨#[32]⟩ : ByteArray)).size + (x0.getD (x4 : Int).toNat (⟨#[]⟩ : ByteArray)).size) 9223372036854775807 then (spec_l6Join.l0 k x0 ((x3 ++ (⟨#[32]⟩ : ByteArray)) ++ (x0.getD (x4 : Int).toNat (⟨#[]⟩ : ByteArray))) (IntKind.wrap .i64 (x4 + 1))) else none) else none) else none) else none) else (bif decide (0 ≤ x4) then (bif decide (x4 < (x0.length : Int)) then (bif Nat.ble (x3.size + (x0.getD (x4 : Int).toNat (⟨#[]⟩ : ByteArray)).size) 9223372036854775807 then (spec_l6Join.l0 k x0 (x3 ++ (x0.getD (x4 : Int).toNat (⟨#[]⟩ : ByteArray))) (IntKind.wrap .i64 (x4 + 1))) else none) else none) else none)) else (some x3)
def spec_l6Join.F (k : Nat) (a0 : List ByteArray) : Option (ByteArray) := (spec_l6Join.l0 k a0 (⟨#[]⟩ : ByteArray) 0).bind fun y1 => some y1
def spec_l6Join.C (k : Nat) : Cal → Option CArm := fun c => match c with
  | _ => none
def spec_l6Join.sp0 : List Sp := [.t 0 (.sl .str), .t 3 .str, .t 4 (.int .i64)]
def spec_l6Join.sp0_0 : List Sp := [.t 3 .str]
def spec_l6Join.A0 : LArm := .one spec_l6Join.sp0 spec_l6Join.sp0_0 (ByteArray) (fun k x => spec_l6Join.l0 k x.1 x.2.1 x.2.2.1) (.exit 0) (fun y => (y, ())) (fun x => x.1)
def spec_l6Join.L : Nat → Option LArm := fun b => match b with
  | 0 => some spec_l6Join.A0
  | _ => none
theorem spec_l6Join.run (k : Nat) (a0 : List ByteArray) : runF envX (tabC (spec_l6Join.C k)) (tabL 22 k spec_l6Join.L) Tryd.f15 [.t (.sl .str) a0] (viewR1 (.t .str)) = spec_l6Join.F k a0 := by kernel_rfl
theorem spec_l6Join.step0 (k : Nat) (x0 : List ByteArray) (x3 : ByteArray) (x4 : Int) : runC envX (tabC (spec_l6Join.C k)) (tabL 22 k spec_l6Join.L) 0 (loopAt Tryd.f15 0) (stOf 22 spec_l6Join.sp0 (x0, x3, x4, ())) (spec_l6Join.A0.cont 22 k) = spec_l6Join.l0 (k + 1) x0 x3 x4 := by kernel_rfl
theorem spec_l6Join.G (hE : EnvOk Tryd.prog envX) (pv : Nat → Value) (k : Nat) : ∀ cal A, spec_l6Join.C k cal = some A → ArmOk Tryd.prog envX pv cal A := by
  intro cal A h
  unfold spec_l6Join.C at h
  cases h
theorem spec_l6Join.good (hE : EnvOk Tryd.prog envX) (pv : Nat → Value) (k : Nat) (a0 : List ByteArray) {y : _} (h : spec_l6Join.F k a0 = some y) : Meets Tryd.prog envX pv (.f 15) (tvals [(.sl .str)] (a0, ())) (.t .str y) :=
  fun_loops hE (t := spec_l6Join.C) k (fun k _ => spec_l6Join.G hE pv k) (f := 15) (fn := Tryd.f15) (by kernel_rfl) rfl (by kernel_rfl) (by kernel_rfl) (lt := spec_l6Join.L) (by kernel_rfl) (fun b A h => by
    unfold spec_l6Join.L at h; split at h
    · cases h; exact ⟨by kernel_rfl, by kernel_rfl, fun _ => rfl, fun _ => rfl⟩
    · cases h) (fun b A h => by
    unfold spec_l6Join.L at h; split at h
    · cases h; exact fun k x => spec_l6Join.step0 k x.1 x.2.1 x.2.2.1
    · cases h) ((spec_l6Join.run k a0).trans h) fun r hr => wk_view1 hr
/-! ### 23 loop.example/g00896/spec.l6Letter -/
def spec_l6Letter.F (a0 : Int) : Option (Bool) := bif (decide (a0 ≥ 65)) then (bif (decide (a0 ≤ 90)) then (some true) else (bif (decide (a0 ≥ 97)) then (some (decide (a0 ≤ 122))) else (some false))) else (bif (decide (a0 ≥ 97)) then (some (decide (a0 ≤ 122))) else (some false))
def spec_l6Letter.C : Cal → Option CArm := fun c => match c with
  | _ => none
theorem spec_l6Letter.run (a0 : Int) : runF envX (tabC spec_l6Letter.C) (tabL 17 0 (fun _ => none)) Tryd.f23 [.t (.int .u8) a0] (viewR1 (.t .bool)) = spec_l6Letter.F a0 := by kernel_rfl
theorem spec_l6Letter.G (hE : EnvOk Tryd.prog envX) (pv : Nat → Value) : ∀ cal A, spec_l6Letter.C cal = some A → ArmOk Tryd.prog envX pv cal A := by
  intro cal A h
  unfold spec_l6Letter.C at h
  cases h
theorem spec_l6Letter.good (hE : EnvOk Tryd.prog envX) (pv : Nat → Value) (a0 : Int) {y : _} (h : spec_l6Letter.F a0 = some y) : Meets Tryd.prog envX pv (.f 23) (tvals [(.int .u8)] (a0, ())) (.t .bool y) :=
  fun_plain hE (spec_l6Letter.G hE pv) (f := 23) (fn := Tryd.f23) (by kernel_rfl) rfl (by kernel_rfl) (by kernel_rfl) ((spec_l6Letter.run a0).trans h) fun r hr => wk_view1 hr
/-! ### 24 loop.example/g00896/spec.l6Digit -/
def spec_l6Digit.F (a0 : Int) : Option (Bool) := bif (decide (a0 ≥ 48)) then (some (decide (a0 ≤ 57))) else (some false)
def spec_l6Digit.C : Cal → Option CArm := fun c => match c with
  | _ => none
theorem spec_l6Digit.run (a0 : Int) : runF envX (tabC spec_l6Digit.C) (tabL 9 0 (fun _ => none)) Tryd.f24 [.t (.int .u8) a0] (viewR1 (.t .bool)) = spec_l6Digit.F a0 := by kernel_rfl
theorem spec_l6Digit.G (hE : EnvOk Tryd.prog envX) (pv : Nat → Value) : ∀ cal A, spec_l6Digit.C cal = some A → ArmOk Tryd.prog envX pv cal A := by
  intro cal A h
  unfold spec_l6Digit.C at h
  cases h
theorem spec_l6Digit.good (hE : EnvOk Tryd.prog envX) (pv : Nat → Value) (a0 : Int) {y : _} (h : spec_l6Digit.F a0 = some y) : Meets Tryd.prog envX pv (.f 24) (tvals [(.int .u8)] (a0, ())) (.t .bool y) :=
  fun_plain hE (spec_l6Digit.G hE pv) (f := 24) (fn := Tryd.f24) (by kernel_rfl) rfl (by kernel_rfl) (by kernel_rfl) ((spec_l6Digit.run a0).trans h) fun r hr => wk_view1 hr
/-! ### 25 loop.example/g00896/spec.l6LowerByte -/
def spec_l6LowerByte.F (a0 : Int) : Option (Int) := bif (decide (a0 ≥ 65)) then (bif (decide (a0 ≤ 90)) then (some (IntKind.wrap .u8 (a0 + 32))) else (some a0)) else (some a0)
def spec_l6LowerByte.C : Cal → Option CArm := fun c => match c with
  | _ => none
theorem spec_l6LowerByte.run (a0 : Int) : runF envX (tabC spec_l6LowerByte.C) (tabL 12 0 (fun _ => none)) Tryd.f25 [.t (.int .u8) a0] (viewR1 (.t (.int .u8))) = spec_l6LowerByte.F a0 := by kernel_rfl
theorem spec_l6LowerByte.G (hE : EnvOk Tryd.prog envX) (pv : Nat → Value) : ∀ cal A, spec_l6LowerByte.C cal = some A → ArmOk Tryd.prog envX pv cal A := by
  intro cal A h
  unfold spec_l6LowerByte.C at h
  cases h
theorem spec_l6LowerByte.good (hE : EnvOk Tryd.prog envX) (pv : Nat → Value) (a0 : Int) {y : _} (h : spec_l6LowerByte.F a0 = some y) : Meets Tryd.prog envX pv (.f 25) (tvals [(.int .u8)] (a0, ())) (.t (.int .u8) y) :=
  fun_plain hE (spec_l6LowerByte.G hE pv) (f := 25) (fn := Tryd.f25) (by kernel_rfl) rfl (by kernel_rfl) (by kernel_rfl) ((spec_l6LowerByte.run a0).trans h) fun r hr => wk_view1 hr
/-! ### 16 loop.example/g00896/spec.l6Simple -/
def spec_l6Simple.l0 : Nat → ByteArray → (List ByteArray) → (List Int) → Int → Option ((List ByteArray))
  | 0, _, _, _, _ => none
  | k + 1, x0, x3, x4, x5 => bif (decide (x5 ≤ (x0.size : Int))) then (bif (x5 == (x0.size : Int)) then (bif (decide ((x4.length : Int) > 0)) then (bif room (x3.length + ([(strL x4)] : List ByteArray).length) .str then (spec_l6Simple.l0 k x0 (x3 ++ ([(strL x4)] : List ByteArray)) ([] : List Int) (IntKind.wrap .i64 (x5 + 1))) else none) else (spec_l6Simple.l0 k x0 x3 ([] : List Int) (IntKind.wrap .i64 (x5 + 1)))) else (bif decide (0 ≤ x5) then (bif decide (x5 < (x0.size : Int)) then (bif ((bt x0 (x5 : Int).toNat) == 32) then (bif (decide ((x4.length : Int) > 0)) then (bif room (x3.length + ([(strL x4)] : List ByteArray).length) .str then (spec_l6Simple.l0 k x0 (x3 ++ ([(strL x4)] : List ByteArray)) ([] : List Int) (IntKind.wrap .i64 (x5 + 1))) else none) else (spec_l6Simple.l0 k x0 x3 ([] : List Int) (IntKind.wrap .i64 (x5 + 1)))) else (bif decide (0 ≤ x5) then (bif decide (x5 < (x0.size : Int)) then ((spec_l6Letter.F (bt x0 (x5 : Int).toNat)).bind fun r1 => bif r1 then (bif decide (0 ≤ x5) then (bif decide (x5 < (x0.size : Int)) then ((spec_l6LowerByte.F (bt x0 (x5 : Int).toNat)).bind fun r2 => bif room (x4.length + ([r2] : List Int).length) (.int .u8) then (spec_l6Simple.l0 k x0 x3 (x4 ++ ([r2] : List Int)) (IntKind.wrap .i64 (x5 + 1))) else none) else none) else none) else (bif decide (0 ≤ x5) then (bif decide (x5 < (x0.size : Int)) then ((spec_l6Digit.F (bt x0 (x5 : Int).toNat)).bind fun r3 => bif r3 then (bif decide (0 ≤ x5) then (bif decide (x5 < (x0.size : Int)) then ((spec_l6LowerByte.F (bt x0 (x5 : Int).toNat)).bind fun r4 => bif room (x4.length + ([r4] : List Int).length) (.int .u8) then (spec_l6Simple.l0 k x0 x3 (x4 ++ ([r4] : List Int)) (IntKind.wrap .i64 (x5 + 1))) else none) else none) else none) else (spec_l6Simple.l0 k x0 x3 x4 (IntKind.wrap .i64 (x5 + 1)))) else none) else none)) else none) else none)) else none) else none)) else (some x3)
def spec_l6Simple.F (k : Nat) (a0 : ByteArray) : Option (List ByteArray) := (spec_l6Simple.l0 k a0 ([] : List ByteArray) ([] : List Int) 0).bind fun y5 => some y5
def spec_l6Simple.C (k : Nat) : Cal → Option CArm := fun c => match c with
  | .f 23 => some (.p [(.int .u8)] _ (fun x => spec_l6Letter.F x.1) (fun r => (.t .bool r)))
  | .f 25 => some (.p [(.int .u8)] _ (fun x => spec_l6LowerByte.F x.1) (fun r => (.t (.int .u8) r)))
  | .f 24 => some (.p [(.int .u8)] _ (fun x => spec_l6Digit.F x.1) (fun r => (.t .bool r)))
  | _ => none
def spec_l6Simple.sp0 : List Sp := [.t 0 .str, .own 3 1024 9 .str false true, .own 4 2048 5 (.int .u8) false true, .t 5 (.int .i64)]
def spec_l6Simple.sp0_0 : List Sp := [.own 3 1024 9 .str false true]
def spec_l6Simple.A0 : LArm := .one spec_l6Simple.sp0 spec_l6Simple.sp0_0 ((List ByteArray)) (fun k x => spec_l6Simple.l0 k x.1 x.2.1 x.2.2.1 x.2.2.2.1) (.exit 0) (fun y => (y, ())) (fun x => x.1)
def spec_l6Simple.L : Nat → Option LArm := fun b => match b with
  | 0 => some spec_l6Simple.A0
  | _ => none
theorem spec_l6Simple.run (k : Nat) (a0 : ByteArray) : runF envX (tabC (spec_l6Simple.C k)) (tabL 51 k spec_l6Simple.L) Tryd.f16 [.t .str a0] (viewR1 (.fr 9 .str)) = spec_l6Simple.F k a0 := by kernel_rfl
theorem spec_l6Simple.step0 (k : Nat) (x0 : ByteArray) (x3 : List ByteArray) (x4 : List Int) (x5 : Int) : runC envX (tabC (spec_l6Simple.C k)) (tabL 51 k spec_l6Simple.L) 0 (loopAt Tryd.f16 0) (stOf 51 spec_l6Simple.sp0 (x0, x3, x4, x5, ())) (spec_l6Simple.A0.cont 51 k) = spec_l6Simple.l0 (k + 1) x0 x3 x4 x5 := by kernel_rfl
theorem spec_l6Simple.G (hE : EnvOk Tryd.prog envX) (pv : Nat → Value) (k : Nat) : ∀ cal A, spec_l6Simple.C k cal = some A → ArmOk Tryd.prog envX pv cal A := by
  intro cal A h
  unfold spec_l6Simple.C at h
  split at h
  · cases h; exact fun x y hy => spec_l6Letter.good hE pv x.1 hy
  · cases h; exact fun x y hy => spec_l6LowerByte.good hE pv x.1 hy
  · cases h; exact fun x y hy => spec_l6Digit.good hE pv x.1 hy
  · cases h
theorem spec_l6Simple.good (hE : EnvOk Tryd.prog envX) (pv : Nat → Value) (k : Nat) (a0 : ByteArray) {y : _} (h : spec_l6Simple.F k a0 = some y) : Meets Tryd.prog envX pv (.f 16) (tvals [.str] (a0, ())) (.fr 9 .str y) :=
  fun_loops hE (t := spec_l6Simple.C) k (fun k _ => spec_l6Simple.G hE pv k) (f := 16) (fn := Tryd.f16) (by kernel_rfl) rfl (by kernel_rfl) (by kernel_rfl) (lt := spec_l6Simple.L) (by kernel_rfl) (fun b A h => by
    unfold spec_l6Simple.L at h; split at h
    · cases h; exact ⟨by kernel_rfl, by kernel_rfl, fun _ => rfl, fun _ => rfl⟩
    · cases h) (fun b A h => by
    unfold spec_l6Simple.L at h; split at h
    · cases h; exact fun k x => spec_l6Simple.step0 k x.1 x.2.1 x.2.2.1 x.2.2.2.1
    · cases h) ((spec_l6Simple.run k a0).trans h) fun r hr => wk_view1 hr
/-! ### 11 loop.example/g00896/spec.l20Plain -/
def spec_l20Plain.F (k : Nat) (a0 : ByteArray) : Option (ByteArray) := (spec_l6Simple.F k a0).bind fun r1 => (spec_l6Join.F k r1).bind fun r2 => some r2
def spec_l20Plain.C (k : Nat) : Cal → Option CArm := fun c => match c with
  | .f 16 => some (.p [.str] _ (fun x => spec_l6Simple.F k x.1) (fun r => (.fr 9 .str r)))
  | .f 15 => some (.p [(.sl .str)] _ (fun x => spec_l6Join.F k x.1) (fun r => (.t .str r)))
  | _ => none
theorem spec_l20Plain.run (k : Nat) (a0 : ByteArray) : runF envX (tabC (spec_l20Plain.C k)) (tabL 6 0 (fun _ => none)) Tryd.f11 [.t .str a0] (viewR1 (.t .str)) = spec_l20Plain.F k a0 := by kernel_rfl
theorem spec_l20Plain.G (hE : EnvOk Tryd.prog envX) (pv : Nat → Value) (k : Nat) : ∀ cal A, spec_l20Plain.C k cal = some A → ArmOk Tryd.prog envX pv cal A := by
  intro cal A h
  unfold spec_l20Plain.C at h
  split at h
  · cases h; exact fun x y hy => spec_l6Simple.good hE pv k x.1 hy
  · cases h; exact fun x y hy => spec_l6Join.good hE pv k x.1 hy
  · cases h
theorem spec_l20Plain.good (hE : EnvOk Tryd.prog envX) (pv : Nat → Value) (k : Nat) (a0 : ByteArray) {y : _} (h : spec_l20Plain.F k a0 = some y) : Meets Tryd.prog envX pv (.f 11) (tvals [.str] (a0, ())) (.t .str y) :=
  fun_plain hE (spec_l20Plain.G hE pv k) (f := 11) (fn := Tryd.f11) (by kernel_rfl) rfl (by kernel_rfl) (by kernel_rfl) ((spec_l20Plain.run k a0).trans h) fun r hr => wk_view1 hr
/-! ### 7 loop.example/g00896/spec.l20Distance -/
def spec_l20Distance.F (k : Nat) (a0 : ByteArray) (a1 : ByteArray) : Option (Int) := (spec_l20Plain.F k a0).bind fun r1 => (spec_l20Plain.F k a1).bind fun r2 => (spec_l20Edit.F k r1 r2).bind fun r3 => some r3
def spec_l20Distance.C (k : Nat) : Cal → Option CArm := fun c => match c with
  | .f 11 => some (.p [.str] _ (fun x => spec_l20Plain.F k x.1) (fun r => (.t .str r)))
  | .f 10 => some (.p [.str, .str] _ (fun x => spec_l20Edit.F k x.1 x.2.1) (fun r => (.t (.int .i64) r)))
  | _ => none
theorem spec_l20Distance.run (k : Nat) (a0 : ByteArray) (a1 : ByteArray) : runF envX (tabC (spec_l20Distance.C k)) (tabL 10 0 (fun _ => none)) Tryd.f7 [.t .str a0, .t .str a1] (viewR1 (.t (.int .i64))) = spec_l20Distance.F k a0 a1 := by kernel_rfl
theorem spec_l20Distance.G (hE : EnvOk Tryd.prog envX) (pv : Nat → Value) (k : Nat) : ∀ cal A, spec_l20Distance.C k cal = some A → ArmOk Tryd.prog envX pv cal A := by
  intro cal A h
  unfold spec_l20Distance.C at h
  split at h
  · cases h; exact fun x y hy => spec_l20Plain.good hE pv k x.1 hy
  · cases h; exact fun x y hy => spec_l20Edit.good hE pv k x.1 x.2.1 hy
  · cases h
theorem spec_l20Distance.good (hE : EnvOk Tryd.prog envX) (pv : Nat → Value) (k : Nat) (a0 : ByteArray) (a1 : ByteArray) {y : _} (h : spec_l20Distance.F k a0 a1 = some y) : Meets Tryd.prog envX pv (.f 7) (tvals [.str, .str] (a0, a1, ())) (.t (.int .i64) y) :=
  fun_plain hE (spec_l20Distance.G hE pv k) (f := 7) (fn := Tryd.f7) (by kernel_rfl) rfl (by kernel_rfl) (by kernel_rfl) ((spec_l20Distance.run k a0 a1).trans h) fun r hr => wk_view1 hr
/-! ### 4 loop.example/g00896/spec.TextDistance -/
def spec_TextDistance.F (k : Nat) (a0 : ByteArray) (a1 : ByteArray) : Option (Int × Bool) := (spec_l4Text.F k a0).bind fun r1 => bif (!r1) then (some (0, false)) else ((spec_l4Text.F k a1).bind fun r2 => bif (!r2) then (some (0, false)) else ((spec_l20Distance.F k a0 a1).bind fun r3 => some (r3, true)))
def spec_TextDistance.C (k : Nat) : Cal → Option CArm := fun c => match c with
  | .f 6 => some (.p [.str] _ (fun x => spec_l4Text.F k x.1) (fun r => (.t .bool r)))
  | .f 7 => some (.p [.str, .str] _ (fun x => spec_l20Distance.F k x.1 x.2.1) (fun r => (.t (.int .i64) r)))
  | _ => none
theorem spec_TextDistance.run (k : Nat) (a0 : ByteArray) (a1 : ByteArray) : runF envX (tabC (spec_TextDistance.C k)) (tabL 17 0 (fun _ => none)) Tryd.f4 [.t .str a0, .t .str a1] (viewR2 (.t (.int .i64)) (.t .bool)) = spec_TextDistance.F k a0 a1 := by kernel_rfl
theorem spec_TextDistance.G (hE : EnvOk Tryd.prog envX) (pv : Nat → Value) (k : Nat) : ∀ cal A, spec_TextDistance.C k cal = some A → ArmOk Tryd.prog envX pv cal A := by
  intro cal A h
  unfold spec_TextDistance.C at h
  split at h
  · cases h; exact fun x y hy => spec_l4Text.good hE pv k x.1 hy
  · cases h; exact fun x y hy => spec_l20Distance.good hE pv k x.1 x.2.1 hy
  · cases h
theorem spec_TextDistance.good (hE : EnvOk Tryd.prog envX) (pv : Nat → Value) (k : Nat) (a0 : ByteArray) (a1 : ByteArray) {y : _} (h : spec_TextDistance.F k a0 a1 = some y) : Meets Tryd.prog envX pv (.f 4) (tvals [.str, .str] (a0, a1, ())) (.tup [.t (.int .i64) y.1, .t .bool y.2]) :=
  fun_plain hE (spec_TextDistance.G hE pv k) (f := 4) (fn := Tryd.f4) (by kernel_rfl) rfl (by kernel_rfl) (by kernel_rfl) ((spec_TextDistance.run k a0 a1).trans h) fun r hr => wk_view2 hr
/-! ### 17 strings.Trim -/
def strings_Trim.F (a0 : ByteArray) (a1 : ByteArray) : Option (ByteArray) := xTrim1 a0 a1
theorem strings_Trim.good (hE : EnvOk Tryd.prog envX) (pv : Nat → Value) (a0 : ByteArray) (a1 : ByteArray) {y : _} (h : strings_Trim.F a0 a1 = some y) : Meets Tryd.prog envX pv (.f 17) (tvals [.str, .str] (a0, a1, ())) (.t .str y) :=
  ext_trim1 (fn := Tryd.f17) (by kernel_rfl) rfl (by kernel_rfl) Tryd.strings_Trim_one h
/-! ### 12 loop.example/g00896/impl.isPrintable -/
def impl_isPrintable.l0 : Nat → ByteArray → Int → Option (Sum Bool ByteArray)
  | 0, _, _ => none
  | k + 1, x0, x3 => bif (decide (x3 < (x0.size : Int))) then (bif decide (0 ≤ x3) then (bif decide (x3 < (x0.size : Int)) then (bif (decide ((bt x0 (x3 : Int).toNat) < 32)) then (some (.inl false)) else (bif decide (0 ≤ x3) then (bif decide (x3 < (x0.size : Int)) then (bif (decide ((bt x0 (x3 : Int).toNat) > 126)) then (some (.inl false)) else (impl_isPrintable.l0 k x0 (IntKind.wrap .i64 (x3 + 1)))) else none) else none)) else none) else none) else (some (.inr x0))
def impl_isPrintable.F (k : Nat) (a0 : ByteArray) : Option (Bool) := (impl_isPrintable.l0 k a0 0).bind fun y1 => match y1 with | .inl z2 => some z2 | .inr z2 => (strings_Trim.F z2 (⟨#[32]⟩ : ByteArray)).bind fun r3 => some (beqS r3 z2)
def impl_isPrintable.C (k : Nat) : Cal → Option CArm := fun c => match c with
  | .f 17 => some (.p [.str, .str] _ (fun x => strings_Trim.F x.1 x.2.1) (fun r => (.t .str r)))
  | _ => none
def impl_isPrintable.sp0 : List Sp := [.t 0 .str, .t 3 (.int .i64)]
def impl_isPrintable.sp0_0 : List Sp := [.t 2 .bool]
def impl_isPrintable.sp0_1 : List Sp := [.t 0 .str]
def impl_isPrintable.A0 : LArm := .two impl_isPrintable.sp0 impl_isPrintable.sp0_0 impl_isPrintable.sp0_1 (Bool) (ByteArray) (fun k x => impl_isPrintable.l0 k x.1 x.2.1) .ret (.exit 0) (fun y => (y, ())) (fun x => x.1) (fun y => (y, ())) (fun x => x.1)
def impl_isPrintable.L : Nat → Option LArm := fun b => match b with
  | 0 => some impl_isPrintable.A0
  | _ => none
theorem impl_isPrintable.run (k : Nat) (a0 : ByteArray) : runF envX (tabC (impl_isPrintable.C k)) (tabL 24 k impl_isPrintable.L) Tryd.f12 [.t .str a0] (viewR1 (.t .bool)) = impl_isPrintable.F k a0 := by kernel_rfl
theorem impl_isPrintable.step0 (k : Nat) (x0 : ByteArray) (x3 : Int) : runC envX (tabC (impl_isPrintable.C k)) (tabL 24 k impl_isPrintable.L) 0 (loopAt Tryd.f12 0) (stOf 24 impl_isPrintable.sp0 (x0, x3, ())) (impl_isPrintable.A0.cont 24 k) = impl_isPrintable.l0 (k + 1) x0 x3 := by kernel_rfl
theorem impl_isPrintable.G (hE : EnvOk Tryd.prog envX) (pv : Nat → Value) (k : Nat) : ∀ cal A, impl_isPrintable.C k cal = some A → ArmOk Tryd.prog envX pv cal A := by
  intro cal A h
  unfold impl_isPrintable.C at h
  split at h
  · cases h; exact fun x y hy => strings_Trim.good hE pv x.1 x.2.1 hy
  · cases h
theorem impl_isPrintable.good (hE : EnvOk Tryd.prog envX) (pv : Nat → Value) (k : Nat) (a0 : ByteArray) {y : _} (h : impl_isPrintable.F k a0 = some y) : Meets Tryd.prog envX pv (.f 12) (tvals [.str] (a0, ())) (.t .bool y) :=
  fun_loops hE (t := impl_isPrintable.C) k (fun k _ => impl_isPrintable.G hE pv k) (f := 12) (fn := Tryd.f12) (by kernel_rfl) rfl (by kernel_rfl) (by kernel_rfl) (lt := impl_isPrintable.L) (by kernel_rfl) (fun b A h => by
    unfold impl_isPrintable.L at h; split at h
    · cases h; exact ⟨by kernel_rfl, by kernel_rfl, by kernel_rfl, fun _ => rfl, fun _ => rfl, fun _ => rfl⟩
    · cases h) (fun b A h => by
    unfold impl_isPrintable.L at h; split at h
    · cases h; exact fun k x => impl_isPrintable.step0 k x.1 x.2.1
    · cases h) ((impl_isPrintable.run k a0).trans h) fun r hr => wk_view1 hr
/-! ### 8 loop.example/g00896/impl.isText -/
def impl_isText.F (k : Nat) (a0 : ByteArray) : Option (Bool) := bif (decide ((a0.size : Int) ≤ 40)) then ((impl_isPrintable.F k a0).bind fun r1 => some r1) else (some false)
def impl_isText.C (k : Nat) : Cal → Option CArm := fun c => match c with
  | .f 12 => some (.p [.str] _ (fun x => impl_isPrintable.F k x.1) (fun r => (.t .bool r)))
  | _ => none
theorem impl_isText.run (k : Nat) (a0 : ByteArray) : runF envX (tabC (impl_isText.C k)) (tabL 10 0 (fun _ => none)) Tryd.f8 [.t .str a0] (viewR1 (.t .bool)) = impl_isText.F k a0 := by kernel_rfl
theorem impl_isText.G (hE : EnvOk Tryd.prog envX) (pv : Nat → Value) (k : Nat) : ∀ cal A, impl_isText.C k cal = some A → ArmOk Tryd.prog envX pv cal A := by
  intro cal A h
  unfold impl_isText.C at h
  split at h
  · cases h; exact fun x y hy => impl_isPrintable.good hE pv k x.1 hy
  · cases h
theorem impl_isText.good (hE : EnvOk Tryd.prog envX) (pv : Nat → Value) (k : Nat) (a0 : ByteArray) {y : _} (h : impl_isText.F k a0 = some y) : Meets Tryd.prog envX pv (.f 8) (tvals [.str] (a0, ())) (.t .bool y) :=
  fun_plain hE (impl_isText.G hE pv k) (f := 8) (fn := Tryd.f8) (by kernel_rfl) rfl (by kernel_rfl) (by kernel_rfl) ((impl_isText.run k a0).trans h) fun r hr => wk_view1 hr
/-! ### 33 loop.example/g00896/impl.isUpper -/
def impl_isUpper.F (a0 : Int) : Option (Bool) := bif (decide (a0 ≥ 65)) then (some (decide (a0 ≤ 90))) else (some false)
def impl_isUpper.C : Cal → Option CArm := fun c => match c with
  | _ => none
theorem impl_isUpper.run (a0 : Int) : runF envX (tabC impl_isUpper.C) (tabL 9 0 (fun _ => none)) Tryd.f33 [.t (.int .u8) a0] (viewR1 (.t .bool)) = impl_isUpper.F a0 := by kernel_rfl
theorem impl_isUpper.G (hE : EnvOk Tryd.prog envX) (pv : Nat → Value) : ∀ cal A, impl_isUpper.C cal = some A → ArmOk Tryd.prog envX pv cal A := by
  intro cal A h
  unfold impl_isUpper.C at h
  cases h
theorem impl_isUpper.good (hE : EnvOk Tryd.prog envX) (pv : Nat → Value) (a0 : Int) {y : _} (h : impl_isUpper.F a0 = some y) : Meets Tryd.prog envX pv (.f 33) (tvals [(.int .u8)] (a0, ())) (.t .bool y) :=
  fun_plain hE (impl_isUpper.G hE pv) (f := 33) (fn := Tryd.f33) (by kernel_rfl) rfl (by kernel_rfl) (by kernel_rfl) ((impl_isUpper.run a0).trans h) fun r hr => wk_view1 hr
/-! ### 18 loop.example/g00896/impl.lower -/
def impl_lower.l0 : Nat → (List Int) → Int → Int → Option ((List Int))
  | 0, _, _, _ => none
  | k + 1, x3, x9, x10 => bif (decide (x10 < x9)) then (bif decide (0 ≤ x10) then (bif decide (x10 < (x3.length : Int)) then ((impl_isUpper.F (x3.getD ((x10 : Int).toNat) 0)).bind fun r1 => bif r1 then (bif decide (0 ≤ x10) then (bif decide (x10 < (x3.length : Int)) then (impl_lower.l0 k (x3.set ((x10 : Int).toNat) (IntKind.wrap .u8 ((IntKind.wrap .u8 ((x3.getD ((x10 : Int).toNat) 0) + 97)) - 65))) x9 (IntKind.wrap .i64 (x10 + 1))) else none) else none) else (impl_lower.l0 k x3 x9 (IntKind.wrap .i64 (x10 + 1)))) else none) else none) else (some x3)
def impl_lower.F (k : Nat) (a0 : ByteArray) : Option (ByteArray) := bif Nat.ble a0.size 9223372036854775807 then ((impl_lower.l0 k (bytesL a0) ((bytesL a0).length : Int) 0).bind fun y2 => some (strL y2)) else none
def impl_lower.C (k : Nat) : Cal → Option CArm := fun c => match c with
  | .f 33 => some (.p [(.int .u8)] _ (fun x => impl_isUpper.F x.1) (fun r => (.t .bool r)))
  | _ => none
def impl_lower.sp0 : List Sp := [.own 3 1028 5 (.int .u8) false false, .con 8 (.own 1028), .t 9 (.int .i64), .t 10 (.int .i64)]
def impl_lower.sp0_0 : List Sp := [.own 3 1028 5 (.int .u8) false false]
def impl_lower.A0 : LArm := .one impl_lower.sp0 impl_lower.sp0_0 ((List Int)) (fun k x => impl_lower.l0 k x.1 x.2.2.1 x.2.2.2.1) (.exit 0) (fun y => (y, ())) (fun x => x.1)
def impl_lower.L : Nat → Option LArm := fun b => match b with
  | 0 => some impl_lower.A0
  | _ => none
theorem impl_lower.run (k : Nat) (a0 : ByteArray) : runF envX (tabC (impl_lower.C k)) (tabL 26 k impl_lower.L) Tryd.f18 [.t .str a0] (viewR1 (.t .str)) = impl_lower.F k a0 := by kernel_rfl
theorem impl_lower.step0 (k : Nat) (x3 : List Int) (x9 : Int) (x10 : Int) : runC envX (tabC (impl_lower.C k)) (tabL 26 k impl_lower.L) 0 (loopAt Tryd.f18 0) (stOf 26 impl_lower.sp0 (x3, (), x9, x10, ())) (impl_lower.A0.cont 26 k) = impl_lower.l0 (k + 1) x3 x9 x10 := by kernel_rfl
theorem impl_lower.G (hE : EnvOk Tryd.prog envX) (pv : Nat → Value) (k : Nat) : ∀ cal A, impl_lower.C k cal = some A → ArmOk Tryd.prog envX pv cal A := by
  intro cal A h
  unfold impl_lower.C at h
  split at h
  · cases h; exact fun x y hy => impl_isUpper.good hE pv x.1 hy
  · cases h
theorem impl_lower.good (hE : EnvOk Tryd.prog envX) (pv : Nat → Value) (k : Nat) (a0 : ByteArray) {y : _} (h : impl_lower.F k a0 = some y) : Meets Tryd.prog envX pv (.f 18) (tvals [.str] (a0, ())) (.t .str y) :=
  fun_loops hE (t := impl_lower.C) k (fun k _ => impl_lower.G hE pv k) (f := 18) (fn := Tryd.f18) (by kernel_rfl) rfl (by kernel_rfl) (by kernel_rfl) (lt := impl_lower.L) (by kernel_rfl) (fun b A h => by
    unfold impl_lower.L at h; split at h
    · cases h; exact ⟨by kernel_rfl, by kernel_rfl, fun _ => rfl, fun _ => rfl⟩
    · cases h) (fun b A h => by
    unfold impl_lower.L at h; split at h
    · cases h; exact fun k x => impl_lower.step0 k x.1 x.2.2.1 x.2.2.2.1
    · cases h) ((impl_lower.run k a0).trans h) fun r hr => wk_view1 hr
/-! ### 19 loop.example/g00896/impl.isLower -/
def impl_isLower.F (a0 : Int) : Option (Bool) := bif (decide (a0 ≥ 97)) then (some (decide (a0 ≤ 122))) else (some false)
def impl_isLower.C : Cal → Option CArm := fun c => match c with
  | _ => none
theorem impl_isLower.run (a0 : Int) : runF envX (tabC impl_isLower.C) (tabL 9 0 (fun _ => none)) Tryd.f19 [.t (.int .u8) a0] (viewR1 (.t .bool)) = impl_isLower.F a0 := by kernel_rfl
theorem impl_isLower.G (hE : EnvOk Tryd.prog envX) (pv : Nat → Value) : ∀ cal A, impl_isLower.C cal = some A → ArmOk Tryd.prog envX pv cal A := by
  intro cal A h
  unfold impl_isLower.C at h
  cases h
theorem impl_isLower.good (hE : EnvOk Tryd.prog envX) (pv : Nat → Value) (a0 : Int) {y : _} (h : impl_isLower.F a0 = some y) : Meets Tryd.prog envX pv (.f 19) (tvals [(.int .u8)] (a0, ())) (.t .bool y) :=
  fun_plain hE (impl_isLower.G hE pv) (f := 19) (fn := Tryd.f19) (by kernel_rfl) rfl (by kernel_rfl) (by kernel_rfl) ((impl_isLower.run a0).trans h) fun r hr => wk_view1 hr
/-! ### 20 loop.example/g00896/impl.isDigit -/
def impl_isDigit.F (a0 : Int) : Option (Bool) := bif (decide (a0 ≥ 48)) then (some (decide (a0 ≤ 57))) else (some false)
def impl_isDigit.C : Cal → Option CArm := fun c => match c with
  | _ => none
theorem impl_isDigit.run (a0 : Int) : runF envX (tabC impl_isDigit.C) (tabL 9 0 (fun _ => none)) Tryd.f20 [.t (.int .u8) a0] (viewR1 (.t .bool)) = impl_isDigit.F a0 := by kernel_rfl
theorem impl_isDigit.G (hE : EnvOk Tryd.prog envX) (pv : Nat → Value) : ∀ cal A, impl_isDigit.C cal = some A → ArmOk Tryd.prog envX pv cal A := by
  intro cal A h
  unfold impl_isDigit.C at h
  cases h
theorem impl_isDigit.good (hE : EnvOk Tryd.prog envX) (pv : Nat → Value) (a0 : Int) {y : _} (h : impl_isDigit.F a0 = some y) : Meets Tryd.prog envX pv (.f 20) (tvals [(.int .u8)] (a0, ())) (.t .bool y) :=
  fun_plain hE (impl_isDigit.G hE pv) (f := 20) (fn := Tryd.f20) (by kernel_rfl) rfl (by kernel_rfl) (by kernel_rfl) ((impl_isDigit.run a0).trans h) fun r hr => wk_view1 hr
/-! ### 21 strings.Join -/
def strings_Join.F (a0 : List ByteArray) (a1 : ByteArray) : Option (ByteArray) := xJoin a0 a1
theorem strings_Join.good (hE : EnvOk Tryd.prog envX) (pv : Nat → Value) (a0 : List ByteArray) (a1 : ByteArray) {y : _} (h : strings_Join.F a0 a1 = some y) : Meets Tryd.prog envX pv (.f 21) (tvals [(.sl .str), .str] (a0, a1, ())) (.t .str y) :=
  ext_join (fn := Tryd.f21) (by kernel_rfl) rfl (by kernel_rfl) Tryd.strings_Join_none Tryd.strings_Join h
-- NO 46 slices.IndexFunc[[]string,string]: a parameter's type
-- NO 37 slices.DeleteFunc[[]string,string]: a parameter's type
/-! ### 38 strings.Split -/
def strings_Split.F (a0 : ByteArray) (a1 : ByteArray) : Option (List ByteArray) := xSplit a0 a1
theorem strings_Split.good (hE : EnvOk Tryd.prog envX) (pv : Nat → Value) (a0 : ByteArray) (a1 : ByteArray) {y : _} (h : strings_Split.F a0 a1 = some y) : Meets Tryd.prog envX pv (.f 38) (tvals [.str, .str] (a0, a1, ())) (.fr 9 .str y) :=
  ext_split (fn := Tryd.f38) (by kernel_rfl) rfl (by kernel_rfl) (mx := 2) (by kernel_rfl) Tryd.strings_Split h
/-! ### 39 loop.example/g00896/impl.wordsOf$1 -/
def impl_wordsOf_1.F (a0 : ByteArray) : Option (Bool) := some (beqS a0 (⟨#[]⟩ : ByteArray))
def impl_wordsOf_1.C : Cal → Option CArm := fun c => match c with
  | _ => none
theorem impl_wordsOf_1.run (a0 : ByteArray) : runF envX (tabC impl_wordsOf_1.C) (tabL 5 0 (fun _ => none)) Tryd.f39 [.t .str a0] (viewR1 (.t .bool)) = impl_wordsOf_1.F a0 := by kernel_rfl
theorem impl_wordsOf_1.G (hE : EnvOk Tryd.prog envX) (pv : Nat → Value) : ∀ cal A, impl_wordsOf_1.C cal = some A → ArmOk Tryd.prog envX pv cal A := by
  intro cal A h
  unfold impl_wordsOf_1.C at h
  cases h
theorem impl_wordsOf_1.good (hE : EnvOk Tryd.prog envX) (pv : Nat → Value) (a0 : ByteArray) {y : _} (h : impl_wordsOf_1.F a0 = some y) : Meets Tryd.prog envX pv (.f 39) (tvals [.str] (a0, ())) (.t .bool y) :=
  fun_plain hE (impl_wordsOf_1.G hE pv) (f := 39) (fn := Tryd.f39) (by kernel_rfl) rfl (by kernel_rfl) (by kernel_rfl) ((impl_wordsOf_1.run a0).trans h) fun r hr => wk_view1 hr
/-! ### 46 slices.IndexFunc[[]string,string] at loop.example/g00896/impl.wordsOf$1 -/
def slices_IndexFunc_string_f39.l0 : Nat → (List ByteArray) → Int → Int → Option (Sum Int Unit)
  | 0, _, _, _ => none
  | k + 1, x0, x7, x8 => bif (decide (x8 < x7)) then (bif decide (0 ≤ x8) then (bif decide (x8 < (x0.length : Int)) then ((impl_wordsOf_1.F (x0.getD (x8 : Int).toNat (⟨#[]⟩ : ByteArray))).bind fun r1 => bif r1 then (some (.inl x8)) else (slices_IndexFunc_string_f39.l0 k x0 x7 (IntKind.wrap .i64 (x8 + 1)))) else none) else none) else (some (.inr ()))
def slices_IndexFunc_string_f39.F (k : Nat) (a0 : List ByteArray) : Option (Int) := (slices_IndexFunc_string_f39.l0 k a0 (a0.length : Int) 0).bind fun y2 => match y2 with | .inl z3 => some z3 | .inr z3 => some (-1)
def slices_IndexFunc_string_f39.C (k : Nat) : Cal → Option CArm := fun c => match c with
  | .f 39 => some (.p [.str] _ (fun x => impl_wordsOf_1.F x.1) (fun r => (.t .bool r)))
  | _ => none
def slices_IndexFunc_string_f39.sp0 : List Sp := [.t 0 (.sl .str), .con 1 (.clo 39), .t 7 (.int .i64), .t 8 (.int .i64)]
def slices_IndexFunc_string_f39.sp0_0 : List Sp := [.t 4 (.int .i64)]
def slices_IndexFunc_string_f39.sp0_1 : List Sp := []
def slices_IndexFunc_string_f39.A0 : LArm := .two slices_IndexFunc_string_f39.sp0 slices_IndexFunc_string_f39.sp0_0 slices_IndexFunc_string_f39.sp0_1 (Int) (Unit) (fun k x => slices_IndexFunc_string_f39.l0 k x.1 x.2.2.1 x.2.2.2.1) .ret (.exit 0) (fun y => (y, ())) (fun x => x.1) (fun y => ()) (fun x => ())
def slices_IndexFunc_string_f39.L : Nat → Option LArm := fun b => match b with
  | 0 => some slices_IndexFunc_string_f39.A0
  | _ => none
theorem slices_IndexFunc_string_f39.run (k : Nat) (a0 : List ByteArray) : runF envX (tabC (slices_IndexFunc_string_f39.C k)) (tabL 19 k slices_IndexFunc_string_f39.L) Tryd.f46 [.t (.sl .str) a0, .clo 39 []] (viewR1 (.t (.int .i64))) = slices_IndexFunc_string_f39.F k a0 := by kernel_rfl
theorem slices_IndexFunc_string_f39.step0 (k : Nat) (x0 : List ByteArray) (x7 : Int) (x8 : Int) : runC envX (tabC (slices_IndexFunc_string_f39.C k)) (tabL 19 k slices_IndexFunc_string_f39.L) 0 (loopAt Tryd.f46 0) (stOf 19 slices_IndexFunc_string_f39.sp0 (x0, (), x7, x8, ())) (slices_IndexFunc_string_f39.A0.cont 19 k) = slices_IndexFunc_string_f39.l0 (k + 1) x0 x7 x8 := by kernel_rfl
theorem slices_IndexFunc_string_f39.G (hE : EnvOk Tryd.prog envX) (pv : Nat → Value) (k : Nat) : ∀ cal A, slices_IndexFunc_string_f39.C k cal = some A → ArmOk Tryd.prog envX pv cal A := by
  intro cal A h
  unfold slices_IndexFunc_string_f39.C at h
  split at h
  · cases h; exact fun x y hy => impl_wordsOf_1.good hE pv x.1 hy
  · cases h
theorem slices_IndexFunc_string_f39.good (hE : EnvOk Tryd.prog envX) (pv : Nat → Value) (k : Nat) (a0 : List ByteArray) {y : _} (h : slices_IndexFunc_string_f39.F k a0 = some y) : Meets Tryd.prog envX pv (.f 46) (pvals [.t (.sl .str), .clo 39 []] (a0, (()), ())) (.t (.int .i64) y) :=
  fun_loops hE (t := slices_IndexFunc_string_f39.C) k (fun k _ => slices_IndexFunc_string_f39.G hE pv k) (f := 46) (fn := Tryd.f46) (by kernel_rfl) rfl (by kernel_rfl) (by kernel_rfl) (lt := slices_IndexFunc_string_f39.L) (by kernel_rfl) (fun b A h => by
    unfold slices_IndexFunc_string_f39.L at h; split at h
    · cases h; exact ⟨by kernel_rfl, by kernel_rfl, by kernel_rfl, fun _ => rfl, fun _ => rfl, fun _ => rfl⟩
    · cases h) (fun b A h => by
    unfold slices_IndexFunc_string_f39.L at h; split at h
    · cases h; exact fun k x => slices_IndexFunc_string_f39.step0 k x.1 x.2.2.1 x.2.2.2.1
    · cases h) ((slices_IndexFunc_string_f39.run k a0).trans h) fun r hr => wk_view1 hr
/-! ### 37 slices.DeleteFunc[[]string,string] at loop.example/g00896/impl.wordsOf$1 -/
def slices_DeleteFunc_string_f39.l0 : Nat → (List ByteArray) → Int → Int → Option ((List ByteArray) × Int)
  | 0, _, _, _ => none
  | k + 1, x0, x5, x6 => bif (decide (x6 < (x0.length : Int))) then (bif decide (0 ≤ x6) then (bif decide (x6 < (x0.length : Int)) then ((impl_wordsOf_1.F (x0.getD ((x6 : Int).toNat) (⟨#[]⟩ : ByteArray))).bind fun r2 => bif (!r2) then (bif decide (0 ≤ x5) then (bif decide (x5 < (x0.length : Int)) then (slices_DeleteFunc_string_f39.l0 k (x0.set ((x5 : Int).toNat) (x0.getD ((x6 : Int).toNat) (⟨#[]⟩ : ByteArray))) (IntKind.wrap .i64 (x5 + 1)) (IntKind.wrap .i64 (x6 + 1))) else none) else none) else (slices_DeleteFunc_string_f39.l0 k x0 x5 (IntKind.wrap .i64 (x6 + 1)))) else none) else none) else (some (x0, x5))
def slices_DeleteFunc_string_f39.F (k : Nat) (a0 : List ByteArray) : Option (List ByteArray) := (slices_IndexFunc_string_f39.F k a0).bind fun r1 => bif (r1 == (-1)) then (some a0) else ((slices_DeleteFunc_string_f39.l0 k a0 r1 (IntKind.wrap .i64 (r1 + 1))).bind fun y3 => bif decide (0 ≤ y3.2) then (bif decide (y3.2 ≤ (y3.1.length : Int)) then (bif decide (0 ≤ y3.2) then (bif decide (y3.2 ≤ ((y3.1.take ((y3.2 : Int).toNat) ++ List.replicate (y3.1.length - ((y3.2 : Int).toNat)) (⟨#[]⟩ : ByteArray)).length : Int)) then (some ((y3.1.take ((y3.2 : Int).toNat) ++ List.replicate (y3.1.length - ((y3.2 : Int).toNat)) (⟨#[]⟩ : ByteArray)).take (y3.2 : Int).toNat)) else none) else none) else none) else none)
def slices_DeleteFunc_string_f39.C (k : Nat) : Cal → Option CArm := fun c => match c with
  | .f 46 => some (.q [.t (.sl .str), .clo 39 []] _ (fun x => slices_IndexFunc_string_f39.F k x.1) (fun r => (.t (.int .i64) r)))
  | .f 39 => some (.p [.str] _ (fun x => impl_wordsOf_1.F x.1) (fun r => (.t .bool r)))
  | _ => none
def slices_DeleteFunc_string_f39.sp0 : List Sp := [.own 0 1099511627777 9 .str false true, .con 1 (.clo 39), .t 5 (.int .i64), .t 6 (.int .i64)]
def slices_DeleteFunc_string_f39.sp0_0 : List Sp := [.own 0 1099511627777 9 .str false true, .t 5 (.int .i64)]
def slices_DeleteFunc_string_f39.A0 : LArm := .one slices_DeleteFunc_string_f39.sp0 slices_DeleteFunc_string_f39.sp0_0 ((List ByteArray) × Int) (fun k x => slices_DeleteFunc_string_f39.l0 k x.1 x.2.2.1 x.2.2.2.1) (.exit 0) (fun y => (y.1, y.2, ())) (fun x => (x.1, x.2.1))
def slices_DeleteFunc_string_f39.L : Nat → Option LArm := fun b => match b with
  | 0 => some slices_DeleteFunc_string_f39.A0
  | _ => none
theorem slices_DeleteFunc_string_f39.run (k : Nat) (a0 : List ByteArray) : runM envX (tabC (slices_DeleteFunc_string_f39.C k)) (tabL 42 k slices_DeleteFunc_string_f39.L) Tryd.f37 mmove (.fr 9 .str a0) [.clo 39 []] (viewMov 9 .str) = slices_DeleteFunc_string_f39.F k a0 := by kernel_rfl
theorem slices_DeleteFunc_string_f39.step0 (k : Nat) (x0 : List ByteArray) (x5 : Int) (x6 : Int) : runC envX (tabC (slices_DeleteFunc_string_f39.C k)) (tabL 42 k slices_DeleteFunc_string_f39.L) 0 (loopAt Tryd.f37 0) (stOf 42 slices_DeleteFunc_string_f39.sp0 (x0, (), x5, x6, ())) (slices_DeleteFunc_string_f39.A0.cont 42 k) = slices_DeleteFunc_string_f39.l0 (k + 1) x0 x5 x6 := by kernel_rfl
theorem slices_DeleteFunc_string_f39.G (hE : EnvOk Tryd.prog envX) (pv : Nat → Value) (k : Nat) : ∀ cal A, slices_DeleteFunc_string_f39.C k cal = some A → ArmOk Tryd.prog envX pv cal A := by
  intro cal A h
  unfold slices_DeleteFunc_string_f39.C at h
  split at h
  · cases h; exact fun x y hy => slices_IndexFunc_string_f39.good hE pv k x.1 hy
  · cases h; exact fun x y hy => impl_wordsOf_1.good hE pv x.1 hy
  · cases h
theorem slices_DeleteFunc_string_f39.good (hE : EnvOk Tryd.prog envX) (pv : Nat → Value) (k : Nat) (a0 : List ByteArray) {y : _} (h : slices_DeleteFunc_string_f39.F k a0 = some y) : MeetsM Tryd.prog envX pv 37 (.fr 9 .str a0) (pvals [.clo 39 []] ((()), ())) (.mov 9 .str y) :=
  funM_loops hE (t := slices_DeleteFunc_string_f39.C) k (fun k _ => slices_DeleteFunc_string_f39.G hE pv k) (f := 37) (fn := Tryd.f37) (by kernel_rfl) rfl (by kernel_rfl) (.inr rfl) (by kernel_rfl) (lt := slices_DeleteFunc_string_f39.L) (by kernel_rfl) (fun b A h => by
    unfold slices_DeleteFunc_string_f39.L at h; split at h
    · cases h; exact ⟨by kernel_rfl, by kernel_rfl, fun _ => rfl, fun _ => rfl⟩
    · cases h) (fun b A h => by
    unfold slices_DeleteFunc_string_f39.L at h; split at h
    · cases h; exact fun k x => slices_DeleteFunc_string_f39.step0 k x.1 x.2.2.1 x.2.2.2.1
    · cases h) ((slices_DeleteFunc_string_f39.run k a0).trans h) fun r hr => wk_viewMov hr
/-! ### 22 loop.example/g00896/impl.wordsOf -/
def impl_wordsOf.F (k : Nat) (a0 : ByteArray) : Option (List ByteArray) := (strings_Split.F a0 (⟨#[32]⟩ : ByteArray)).bind fun r1 => (slices_DeleteFunc_string_f39.F k r1).bind fun r2 => some r2
def impl_wordsOf.C (k : Nat) : Cal → Option CArm := fun c => match c with
  | .f 38 => some (.p [.str, .str] _ (fun x => strings_Split.F x.1 x.2.1) (fun r => (.fr 9 .str r)))
  | .f 37 => some (.mq (.fr 9 .str) [.clo 39 []] _ (fun x0 x => slices_DeleteFunc_string_f39.F k x0) (fun r => .mov 9 .str r))
  | _ => none
theorem impl_wordsOf.run (k : Nat) (a0 : ByteArray) : runF envX (tabC (impl_wordsOf.C k)) (tabL 6 0 (fun _ => none)) Tryd.f22 [.t .str a0] (viewR1 (.fr 9 .str)) = impl_wordsOf.F k a0 := by kernel_rfl
theorem impl_wordsOf.G (hE : EnvOk Tryd.prog envX) (pv : Nat → Value) (k : Nat) : ∀ cal A, impl_wordsOf.C k cal = some A → ArmOk Tryd.prog envX pv cal A := by
  intro cal A h
  unfold impl_wordsOf.C at h
  split at h
  · cases h; exact fun x y hy => strings_Split.good hE pv x.1 x.2.1 hy
  · cases h; exact ⟨_, rfl, fun x0 x y hy => slices_DeleteFunc_string_f39.good hE pv k x0 hy⟩
  · cases h
theorem impl_wordsOf.good (hE : EnvOk Tryd.prog envX) (pv : Nat → Value) (k : Nat) (a0 : ByteArray) {y : _} (h : impl_wordsOf.F k a0 = some y) : Meets Tryd.prog envX pv (.f 22) (tvals [.str] (a0, ())) (.fr 9 .str y) :=
  fun_plain hE (impl_wordsOf.G hE pv k) (f := 22) (fn := Tryd.f22) (by kernel_rfl) rfl (by kernel_rfl) (by kernel_rfl) ((impl_wordsOf.run k a0).trans h) fun r hr => wk_view1 hr
/-! ### 13 loop.example/g00896/impl.plainForm -/
def impl_plainForm.l0 : Nat → (List Int) → (List Int) → Int → Int → Option ((List Int))
  | 0, _, _, _, _ => none
  | k + 1, x3, x9, x10, x11 => bif (decide (x11 < x10)) then (bif decide (0 ≤ x11) then (bif decide (x11 < (x9.length : Int)) then ((impl_isLower.F (x9.getD ((x11 : Int).toNat) 0)).bind fun r2 => bif r2 then (bif room (x3.length + ([(x9.getD ((x11 : Int).toNat) 0)] : List Int).length) (.int .u8) then (impl_plainForm.l0 k (x3 ++ ([(x9.getD ((x11 : Int).toNat) 0)] : List Int)) x9 x10 (IntKind.wrap .i64 (x11 + 1))) else none) else ((impl_isDigit.F (x9.getD ((x11 : Int).toNat) 0)).bind fun r3 => bif r3 then (bif room (x3.length + ([(x9.getD ((x11 : Int).toNat) 0)] : List Int).length) (.int .u8) then (impl_plainForm.l0 k (x3 ++ ([(x9.getD ((x11 : Int).toNat) 0)] : List Int)) x9 x10 (IntKind.wrap .i64 (x11 + 1))) else none) else (bif ((x9.getD ((x11 : Int).toNat) 0) == 32) then (bif room (x3.length + ([(x9.getD ((x11 : Int).toNat) 0)] : List Int).length) (.int .u8) then (impl_plainForm.l0 k (x3 ++ ([(x9.getD ((x11 : Int).toNat) 0)] : List Int)) x9 x10 (IntKind.wrap .i64 (x11 + 1))) else none) else (impl_plainForm.l0 k x3 x9 x10 (IntKind.wrap .i64 (x11 + 1)))))) else none) else none) else (some x3)
def impl_plainForm.F (k : Nat) (a0 : ByteArray) : Option (ByteArray) := (impl_lower.F k a0).bind fun r1 => bif Nat.ble r1.size 9223372036854775807 then ((impl_plainForm.l0 k ([] : List Int) (bytesL r1) ((bytesL r1).length : Int) 0).bind fun y4 => (impl_wordsOf.F k (strL y4)).bind fun r5 => (strings_Join.F r5 (⟨#[32]⟩ : ByteArray)).bind fun r6 => some r6) else none
def impl_plainForm.C (k : Nat) : Cal → Option CArm := fun c => match c with
  | .f 18 => some (.p [.str] _ (fun x => impl_lower.F k x.1) (fun r => (.t .str r)))
  | .f 19 => some (.p [(.int .u8)] _ (fun x => impl_isLower.F x.1) (fun r => (.t .bool r)))
  | .f 20 => some (.p [(.int .u8)] _ (fun x => impl_isDigit.F x.1) (fun r => (.t .bool r)))
  | .f 22 => some (.p [.str] _ (fun x => impl_wordsOf.F k x.1) (fun r => (.fr 9 .str r)))
  | .f 21 => some (.p [(.sl .str), .str] _ (fun x => strings_Join.F x.1 x.2.1) (fun r => (.t .str r)))
  | _ => none
def impl_plainForm.sp0 : List Sp := [.own 3 1024 5 (.int .u8) false true, .own 9 2056 5 (.int .u8) false false, .t 10 (.int .i64), .t 11 (.int .i64)]
def impl_plainForm.sp0_0 : List Sp := [.own 3 1024 5 (.int .u8) false true]
def impl_plainForm.A0 : LArm := .one impl_plainForm.sp0 impl_plainForm.sp0_0 ((List Int)) (fun k x => impl_plainForm.l0 k x.1 x.2.1 x.2.2.1 x.2.2.2.1) (.exit 0) (fun y => (y, ())) (fun x => x.1)
def impl_plainForm.L : Nat → Option LArm := fun b => match b with
  | 0 => some impl_plainForm.A0
  | _ => none
theorem impl_plainForm.run (k : Nat) (a0 : ByteArray) : runF envX (tabC (impl_plainForm.C k)) (tabL 34 k impl_plainForm.L) Tryd.f13 [.t .str a0] (viewR1 (.t .str)) = impl_plainForm.F k a0 := by kernel_rfl
theorem impl_plainForm.step0 (k : Nat) (x3 : List Int) (x9 : List Int) (x10 : Int) (x11 : Int) : runC envX (tabC (impl_plainForm.C k)) (tabL 34 k impl_plainForm.L) 0 (loopAt Tryd.f13 0) (stOf 34 impl_plainForm.sp0 (x3, x9, x10, x11, ())) (impl_plainForm.A0.cont 34 k) = impl_plainForm.l0 (k + 1) x3 x9 x10 x11 := by kernel_rfl
theorem impl_plainForm.G (hE : EnvOk Tryd.prog envX) (pv : Nat → Value) (k : Nat) : ∀ cal A, impl_plainForm.C k cal = some A → ArmOk Tryd.prog envX pv cal A := by
  intro cal A h
  unfold impl_plainForm.C at h
  split at h
  · cases h; exact fun x y hy => impl_lower.good hE pv k x.1 hy
  · cases h; exact fun x y hy => impl_isLower.good hE pv x.1 hy
  · cases h; exact fun x y hy => impl_isDigit.good hE pv x.1 hy
  · cases h; exact fun x y hy => impl_wordsOf.good hE pv k x.1 hy
  · cases h; exact fun x y hy => strings_Join.good hE pv x.1 x.2.1 hy
  · cases h
theorem impl_plainForm.good (hE : EnvOk Tryd.prog envX) (pv : Nat → Value) (k : Nat) (a0 : ByteArray) {y : _} (h : impl_plainForm.F k a0 = some y) : Meets Tryd.prog envX pv (.f 13) (tvals [.str] (a0, ())) (.t .str y) :=
  fun_loops hE (t := impl_plainForm.C) k (fun k _ => impl_plainForm.G hE pv k) (f := 13) (fn := Tryd.f13) (by kernel_rfl) rfl (by kernel_rfl) (by kernel_rfl) (lt := impl_plainForm.L) (by kernel_rfl) (fun b A h => by
    unfold impl_plainForm.L at h; split at h
    · cases h; exact ⟨by kernel_rfl, by kernel_rfl, fun _ => rfl, fun _ => rfl⟩
    · cases h) (fun b A h => by
    unfold impl_plainForm.L at h; split at h
    · cases h; exact fun k x => impl_plainForm.step0 k x.1 x.2.1 x.2.2.1 x.2.2.2.1
    · cases h) ((impl_plainForm.run k a0).trans h) fun r hr => wk_view1 hr
/-! ### 9 loop.example/g00896/impl.textDistance -/
def impl_textDistance.l0 : Nat → ByteArray → ByteArray → (List Int) → Int → Int → Option (ByteArray × ByteArray × (List Int))
  | 0, _, _, _, _, _ => none
  | k + 1, x0, x1, x5, x18, x19 => bif (decide (x19 < x18)) then (bif room (x5.length + ([x19] : List Int).length) (.int .i64) then (impl_textDistance.l0 k x0 x1 (x5 ++ ([x19] : List Int)) x18 (IntKind.wrap .i64 (x19 + 1))) else none) else (some (x0, x1, x5))
def impl_textDistance.l4 : Nat → ByteArray → ByteArray → (List Int) → Int → (List Int) → Int → Option (ByteArray × ByteArray × Int × (List Int))
  | 0, _, _, _, _, _, _ => none
  | k + 1, x0, x1, x5, x7, x8, x9 => bif (decide (x9 ≤ (x1.size : Int))) then (bif decide (0 ≤ (IntKind.wrap .i64 (x7 - 1))) then (bif decide ((IntKind.wrap .i64 (x7 - 1)) < (x0.size : Int)) then (bif decide (0 ≤ (IntKind.wrap .i64 (x9 - 1))) then (bif decide ((IntKind.wrap .i64 (x9 - 1)) < (x1.size : Int)) then (bif ((bt x0 ((IntKind.wrap .i64 (x7 - 1)) : Int).toNat) == (bt x1 ((IntKind.wrap .i64 (x9 - 1)) : Int).toNat)) then (bif decide (0 ≤ x9) then (bif decide (x9 < (x5.length : Int)) then (bif decide (0 ≤ (IntKind.wrap .i64 (x9 - 1))) then (bif decide ((IntKind.wrap .i64 (x9 - 1)) < (x8.length : Int)) then (bif decide (0 ≤ (IntKind.wrap .i64 (x9 - 1))) then (bif decide ((IntKind.wrap .i64 (x9 - 1)) < (x5.length : Int)) then (bif room (x8.length + ([(if (IntKind.wrap .i64 ((x5.getD (((IntKind.wrap .i64 (x9 - 1)) : Int).toNat) 0) + 0)) < (if (IntKind.wrap .i64 ((x8.getD (((IntKind.wrap .i64 (x9 - 1)) : Int).toNat) 0) + 1)) < (IntKind.wrap .i64 ((x5.getD ((x9 : Int).toNat) 0) + 1)) then (IntKind.wrap .i64 ((x8.getD (((IntKind.wrap .i64 (x9 - 1)) : Int).toNat) 0) + 1)) else (IntKind.wrap .i64 ((x5.getD ((x9 : Int).toNat) 0) + 1))) then (IntKind.wrap .i64 ((x5.getD (((IntKind.wrap .i64 (x9 - 1)) : Int).toNat) 0) + 0)) else (if (IntKind.wrap .i64 ((x8.getD (((IntKind.wrap .i64 (x9 - 1)) : Int).toNat) 0) + 1)) < (IntKind.wrap .i64 ((x5.getD ((x9 : Int).toNat) 0) + 1)) then (IntKind.wrap .i64 ((x8.getD (((IntKind.wrap .i64 (x9 - 1)) : Int).toNat) 0) + 1)) else (IntKind.wrap .i64 ((x5.getD ((x9 : Int).toNat) 0) + 1))))] : List Int).length) (.int .i64) then (impl_textDistance.l4 k x0 x1 x5 x7 (x8 ++ ([(if (IntKind.wrap .i64 ((x5.getD (((IntKind.wrap .i64 (x9 - 1)) : Int).toNat) 0) + 0)) < (if (IntKind.wrap .i64 ((x8.getD (((IntKind.wrap .i64 (x9 - 1)) : Int).toNat) 0) + 1)) < (IntKind.wrap .i64 ((x5.getD ((x9 : Int).toNat) 0) + 1)) then (IntKind.wrap .i64 ((x8.getD (((IntKind.wrap .i64 (x9 - 1)) : Int).toNat) 0) + 1)) else (IntKind.wrap .i64 ((x5.getD ((x9 : Int).toNat) 0) + 1))) then (IntKind.wrap .i64 ((x5.getD (((IntKind.wrap .i64 (x9 - 1)) : Int).toNat) 0) + 0)) else (if (IntKind.wrap .i64 ((x8.getD (((IntKind.wrap .i64 (x9 - 1)) : Int).toNat) 0) + 1)) < (IntKind.wrap .i64 ((x5.getD ((x9 : Int).toNat) 0) + 1)) then (IntKind.wrap .i64 ((x8.getD (((IntKind.wrap .i64 (x9 - 1)) : Int).toNat) 0) + 1)) else (IntKind.wrap .i64 ((x5.getD ((x9 : Int).toNat) 0) + 1))))] : List Int)) (IntKind.wrap .i64 (x9 + 1))) else none) else none) else none) else none) else none) else none) else none) else (bif decide (0 ≤ x9) then (bif decide (x9 < (x5.length : Int)) then (bif decide (0 ≤ (IntKind.wrap .i64 (x9 - 1))) then (bif decide ((IntKind.wrap .i64 (x9 - 1)) < (x8.length : Int)) then (bif decide (0 ≤ (IntKind.wrap .i64 (x9 - 1))) then (bif decide ((IntKind.wrap .i64 (x9 - 1)) < (x5.length : Int)) then (bif room (x8.length + ([(if (IntKind.wrap .i64 ((x5.getD (((IntKind.wrap .i64 (x9 - 1)) : Int).toNat) 0) + 1)) < (if (IntKind.wrap .i64 ((x8.getD (((IntKind.wrap .i64 (x9 - 1)) : Int).toNat) 0) + 1)) < (IntKind.wrap .i64 ((x5.getD ((x9 : Int).toNat) 0) + 1)) then (IntKind.wrap .i64 ((x8.getD (((IntKind.wrap .i64 (x9 - 1)) : Int).toNat) 0) + 1)) else (IntKind.wrap .i64 ((x5.getD ((x9 : Int).toNat) 0) + 1))) then (IntKind.wrap .i64 ((x5.getD (((IntKind.wrap .i64 (x9 - 1)) : Int).toNat) 0) + 1)) else (if (IntKind.wrap .i64 ((x8.getD (((IntKind.wrap .i64 (x9 - 1)) : Int).toNat) 0) + 1)) < (IntKind.wrap .i64 ((x5.getD ((x9 : Int).toNat) 0) + 1)) then (IntKind.wrap .i64 ((x8.getD (((IntKind.wrap .i64 (x9 - 1)) : Int).toNat) 0) + 1)) else (IntKind.wrap .i64 ((x5.getD ((x9 : Int).toNat) 0) + 1))))] : List Int).length) (.int .i64) then (impl_textDistance.l4 k x0 x1 x5 x7 (x8 ++ ([(if (IntKind.wrap .i64 ((x5.getD (((IntKind.wrap .i64 (x9 - 1)) : Int).toNat) 0) + 1)) < (if (IntKind.wrap .i64 ((x8.getD (((IntKind.wrap .i64 (x9 - 1)) : Int).toNat) 0) + 1)) < (IntKind.wrap .i64 ((x5.getD ((x9 : Int).toNat) 0) + 1)) then (IntKind.wrap .i64 ((x8.getD (((IntKind.wrap .i64 (x9 - 1)) : Int).toNat) 0) + 1)) else (IntKind.wrap .i64 ((x5.getD ((x9 : Int).toNat) 0) + 1))) then (IntKind.wrap .i64 ((x5.getD (((IntKind.wrap .i64 (x9 - 1)) : Int).toNat) 0) + 1)) else (if (IntKind.wrap .i64 ((x8.getD (((IntKind.wrap .i64 (x9 - 1)) : Int).toNat) 0) + 1)) < (IntKind.wrap .i64 ((x5.getD ((x9 : Int).toNat) 0) + 1)) then (IntKind.wrap .i64 ((x8.getD (((IntKind.wrap .i64 (x9 - 1)) : Int).toNat) 0) + 1)) else (IntKind.wrap .i64 ((x5.getD ((x9 : Int).toNat) 0) + 1))))] : List Int)) (IntKind.wrap .i64 (x9 + 1))) else none) else none) else none) else none) else none) else none) else none)) else none) else none) else none) else none) else (some (x0, x1, x7, x8))
def impl_textDistance.l2 : Nat → ByteArray → ByteArray → (List Int) → Int → Option (ByteArray × (List Int))
  | 0, _, _, _, _ => none
  | k + 1, x0, x1, x5, x7 => bif (decide (x7 ≤ (x0.size : Int))) then ((impl_textDistance.l4 k x0 x1 x5 x7 ([x7] : List Int) 1).bind fun y4 => impl_textDistance.l2 k y4.1 y4.2.1 y4.2.2.2 (IntKind.wrap .i64 (y4.2.2.1 + 1))) else (some (x1, x5))
def impl_textDistance.F (k : Nat) (a0 : ByteArray) (a1 : ByteArray) : Option (Int) := (impl_plainForm.F k a0).bind fun r1 => (impl_plainForm.F k a1).bind fun r2 => (impl_textDistance.l0 k r1 r2 ([] : List Int) (IntKind.wrap .i64 ((r2.size : Int) + 1)) 0).bind fun y3 => (impl_textDistance.l2 k y3.1 y3.2.1 y3.2.2 1).bind fun y5 => bif decide (0 ≤ (y5.1.size : Int)) then (bif decide ((y5.1.size : Int) < (y5.2.length : Int)) then (some (y5.2.getD (((y5.1.size : Int) : Int).toNat) 0)) else none) else none
def impl_textDistance.C (k : Nat) : Cal → Option CArm := fun c => match c with
  | .f 13 => some (.p [.str] _ (fun x => impl_plainForm.F k x.1) (fun r => (.t .str r)))
  | _ => none
def impl_textDistance.sp0 : List Sp := [.t 0 .str, .t 1 .str, .own 5 2048 3 (.int .i64) false true, .t 18 (.int .i64), .t 19 (.int .i64)]
def impl_textDistance.sp0_0 : List Sp := [.t 0 .str, .t 1 .str, .own 5 2048 3 (.int .i64) false true]
def impl_textDistance.A0 : LArm := .one impl_textDistance.sp0 impl_textDistance.sp0_0 (ByteArray × ByteArray × (List Int)) (fun k x => impl_textDistance.l0 k x.1 x.2.1 x.2.2.1 x.2.2.2.1 x.2.2.2.2.1) (.exit 0) (fun y => (y.1, y.2.1, y.2.2, ())) (fun x => (x.1, x.2.1, x.2.2.1))
def impl_textDistance.sp4 : List Sp := [.t 0 .str, .t 1 .str, .own 5 2048 3 (.int .i64) false true, .t 7 (.int .i64), .own 8 11268 3 (.int .i64) false true, .t 9 (.int .i64)]
def impl_textDistance.sp4_0 : List Sp := [.t 0 .str, .t 1 .str, .t 7 (.int .i64), .own 8 11268 3 (.int .i64) false true]
def impl_textDistance.A4 : LArm := .one impl_textDistance.sp4 impl_textDistance.sp4_0 (ByteArray × ByteArray × Int × (List Int)) (fun k x => impl_textDistance.l4 k x.1 x.2.1 x.2.2.1 x.2.2.2.1 x.2.2.2.2.1 x.2.2.2.2.2.1) (.exit 4) (fun y => (y.1, y.2.1, y.2.2.1, y.2.2.2, ())) (fun x => (x.1, x.2.1, x.2.2.1, x.2.2.2.1))
def impl_textDistance.sp2 : List Sp := [.t 0 .str, .t 1 .str, .own 5 2048 3 (.int .i64) false true, .t 7 (.int .i64)]
def impl_textDistance.sp2_0 : List Sp := [.t 1 .str, .own 5 2048 3 (.int .i64) false true]
def impl_textDistance.A2 : LArm := .one impl_textDistance.sp2 impl_textDistance.sp2_0 (ByteArray × (List Int)) (fun k x => impl_textDistance.l2 k x.1 x.2.1 x.2.2.1 x.2.2.2.1) (.exit 2) (fun y => (y.1, y.2, ())) (fun x => (x.1, x.2.1))
def impl_textDistance.L : Nat → Option LArm := fun b => match b with
  | 0 => some impl_textDistance.A0
  | 4 => some impl_textDistance.A4
  | 2 => some impl_textDistance.A2
  | _ => none
theorem impl_textDistance.run (k : Nat) (a0 : ByteArray) (a1 : ByteArray) : runF envX (tabC (impl_textDistance.C k)) (tabL 78 k impl_textDistance.L) Tryd.f9 [.t .str a0, .t .str a1] (viewR1 (.t (.int .i64))) = impl_textDistance.F k a0 a1 := by kernel_rfl
theorem impl_textDistance.step0 (k : Nat) (x0 : ByteArray) (x1 : ByteArray) (x5 : List Int) (x18 : Int) (x19 : Int) : runC envX (tabC (impl_textDistance.C k)) (tabL 78 k impl_textDistance.L) 0 (loopAt Tryd.f9 0) (stOf 78 impl_textDistance.sp0 (x0, x1, x5, x18, x19, ())) (impl_textDistance.A0.cont 78 k) = impl_textDistance.l0 (k + 1) x0 x1 x5 x18 x19 := by kernel_rfl
theorem impl_textDistance.step4 (k : Nat) (x0 : ByteArray) (x1 : ByteArray) (x5 : List Int) (x7 : Int) (x8 : List Int) (x9 : Int) : runC envX (tabC (impl_textDistance.C k)) (tabL 78 k impl_textDistance.L) 4 (loopAt Tryd.f9 4) (stOf 78 impl_textDistance.sp4 (x0, x1, x5, x7, x8, x9, ())) (impl_textDistance.A4.cont 78 k) = impl_textDistance.l4 (k + 1) x0 x1 x5 x7 x8 x9 := by kernel_rfl
theorem impl_textDistance.step2 (k : Nat) (x0 : ByteArray) (x1 : ByteArray) (x5 : List Int) (x7 : Int) : runC envX (tabC (impl_textDistance.C k)) (tabL 78 k impl_textDistance.L) 2 (loopAt Tryd.f9 2) (stOf 78 impl_textDistance.sp2 (x0, x1, x5, x7, ())) (impl_textDistance.A2.cont 78 k) = impl_textDistance.l2 (k + 1) x0 x1 x5 x7 := by kernel_rfl
theorem impl_textDistance.G (hE : EnvOk Tryd.prog envX) (pv : Nat → Value) (k : Nat) : ∀ cal A, impl_textDistance.C k cal = some A → ArmOk Tryd.prog envX pv cal A := by
  intro cal A h
  unfold impl_textDistance.C at h
  split at h
  · cases h; exact fun x y hy => impl_plainForm.good hE pv k x.1 hy
  · cases h
theorem impl_textDistance.good (hE : EnvOk Tryd.prog envX) (pv : Nat → Value) (k : Nat) (a0 : ByteArray) (a1 : ByteArray) {y : _} (h : impl_textDistance.F k a0 a1 = some y) : Meets Tryd.prog envX pv (.f 9) (tvals [.str, .str] (a0, a1, ())) (.t (.int .i64) y) :=
  fun_loops hE (t := impl_textDistance.C) k (fun k _ => impl_textDistance.G hE pv k) (f := 9) (fn := Tryd.f9) (by kernel_rfl) rfl (by kernel_rfl) (by kernel_rfl) (lt := impl_textDistance.L) (by kernel_rfl) (fun b A h => by
    unfold impl_textDistance.L at h; split at h
    · cases h; exact ⟨by kernel_rfl, by kernel_rfl, fun _ => rfl, fun _ => rfl⟩
    · cases h; exact ⟨by kernel_rfl, by kernel_rfl, fun _ => rfl, fun _ => rfl⟩
    · cases h; exact ⟨by kernel_rfl, by kernel_rfl, fun _ => rfl, fun _ => rfl⟩
    · cases h) (fun b A h => by
    unfold impl_textDistance.L at h; split at h
    · cases h; exact fun k x => impl_textDistance.step0 k x.1 x.2.1 x.2.2.1 x.2.2.2.1 x.2.2.2.2.1
    · cases h; exact fun k x => impl_textDistance.step4 k x.1 x.2.1 x.2.2.1 x.2.2.2.1 x.2.2.2.2.1 x.2.2.2.2.2.1
    · cases h; exact fun k x => impl_textDistance.step2 k x.1 x.2.1 x.2.2.1 x.2.2.2.1
    · cases h) ((impl_textDistance.run k a0 a1).trans h) fun r hr => wk_view1 hr
/-! ### 5 loop.example/g00896/impl.TextDistance -/
def impl_TextDistance.F (k : Nat) (a0 : ByteArray) (a1 : ByteArray) : Option (Int × Bool) := (impl_isText.F k a0).bind fun r1 => bif (!r1) then (some (0, false)) else ((impl_isText.F k a1).bind fun r2 => bif (!r2) then (some (0, false)) else ((impl_textDistance.F k a0 a1).bind fun r3 => some (r3, true)))
def impl_TextDistance.C (k : Nat) : Cal → Option CArm := fun c => match c with
  | .f 8 => some (.p [.str] _ (fun x => impl_isText.F k x.1) (fun r => (.t .bool r)))
  | .f 9 => some (.p [.str, .str] _ (fun x => impl_textDistance.F k x.1 x.2.1) (fun r => (.t (.int .i64) r)))
  | _ => none
theorem impl_TextDistance.run (k : Nat) (a0 : ByteArray) (a1 : ByteArray) : runF envX (tabC (impl_TextDistance.C k)) (tabL 17 0 (fun _ => none)) Tryd.f5 [.t .str a0, .t .str a1] (viewR2 (.t (.int .i64)) (.t .bool)) = impl_TextDistance.F k a0 a1 := by kernel_rfl
theorem impl_TextDistance.G (hE : EnvOk Tryd.prog envX) (pv : Nat → Value) (k : Nat) : ∀ cal A, impl_TextDistance.C k cal = some A → ArmOk Tryd.prog envX pv cal A := by
  intro cal A h
  unfold impl_TextDistance.C at h
  split at h
  · cases h; exact fun x y hy => impl_isText.good hE pv k x.1 hy
  · cases h; exact fun x y hy => impl_textDistance.good hE pv k x.1 x.2.1 hy
  · cases h
theorem impl_TextDistance.good (hE : EnvOk Tryd.prog envX) (pv : Nat → Value) (k : Nat) (a0 : ByteArray) (a1 : ByteArray) {y : _} (h : impl_TextDistance.F k a0 a1 = some y) : Meets Tryd.prog envX pv (.f 5) (tvals [.str, .str] (a0, a1, ())) (.tup [.t (.int .i64) y.1, .t .bool y.2]) :=
  fun_plain hE (impl_TextDistance.G hE pv k) (f := 5) (fn := Tryd.f5) (by kernel_rfl) rfl (by kernel_rfl) (by kernel_rfl) ((impl_TextDistance.run k a0 a1).trans h) fun r hr => wk_view2 hr
/-! ### 3 loop.example/g00896/laws.FnExactTextDistance -/
def laws_FnExactTextDistance.F (k : Nat) (a0 : ByteArray) (a1 : ByteArray) : Option (Bool) := bif (decide ((a0.size : Int) > 1048576)) then (some true) else (bif (decide ((a1.size : Int) > 1048576)) then (some true) else ((spec_TextDistance.F k a0 a1).bind fun r1 => (impl_TextDistance.F k a0 a1).bind fun r2 => bif (r2.1 != r1.1) then (some false) else (bif (!(r2.2 == r1.2)) then (some false) else (some true))))
def laws_FnExactTextDistance.C (k : Nat) : Cal → Option CArm := fun c => match c with
  | .f 4 => some (.p [.str, .str] _ (fun x => spec_TextDistance.F k x.1 x.2.1) (fun r => (.tup [.t (.int .i64) r.1, .t .bool r.2])))
  | .f 5 => some (.p [.str, .str] _ (fun x => impl_TextDistance.F k x.1 x.2.1) (fun r => (.tup [.t (.int .i64) r.1, .t .bool r.2])))
  | _ => none
theorem laws_FnExactTextDistance.run (k : Nat) (a0 : ByteArray) (a1 : ByteArray) : runF envX (tabC (laws_FnExactTextDistance.C k)) (tabL 35 0 (fun _ => none)) Tryd.f3 [.t .str a0, .t .str a1] (viewR1 (.t .bool)) = laws_FnExactTextDistance.F k a0 a1 := by kernel_rfl
theorem laws_FnExactTextDistance.G (hE : EnvOk Tryd.prog envX) (pv : Nat → Value) (k : Nat) : ∀ cal A, laws_FnExactTextDistance.C k cal = some A → ArmOk Tryd.prog envX pv cal A := by
  intro cal A h
  unfold laws_FnExactTextDistance.C at h
  split at h
  · cases h; exact fun x y hy => spec_TextDistance.good hE pv k x.1 x.2.1 hy
  · cases h; exact fun x y hy => impl_TextDistance.good hE pv k x.1 x.2.1 hy
  · cases h
theorem laws_FnExactTextDistance.good (hE : EnvOk Tryd.prog envX) (pv : Nat → Value) (k : Nat) (a0 : ByteArray) (a1 : ByteArray) {y : _} (h : laws_FnExactTextDistance.F k a0 a1 = some y) : Meets Tryd.prog envX pv (.f 3) (tvals [.str, .str] (a0, a1, ())) (.t .bool y) :=
  fun_plain hE (laws_FnExactTextDistance.G hE pv k) (f := 3) (fn := Tryd.f3) (by kernel_rfl) rfl (by kernel_rfl) (by kernel_rfl) ((laws_FnExactTextDistance.run k a0 a1).trans h) fun r hr => wk_view1 hr
end Go.Proofs.YtdbfalcfejhjfaaDoor
end
section
/- Plain laws: bytes, pieces, edges of a text; no function of the program. -/
namespace Go.Proofs.YtdbfalcfejhjfaaDoor
open Go.Gx
set_option linter.unusedVariables false
set_option linter.unusedSimpArgs false

theorem getD_at {α : Type} {xs : List α} {i : Nat} (h : i < xs.length) (d : α) : xs.getD i d = xs[i] := by simp [List.getD, List.getElem?_eq_getElem h]
theorem wf_len {e : Ty} {xs : List (den e)} (h : WF (.sl e) xs) : xs.length ≤ 9223372036854775807 := by
  cases h with | sl _ _ h _ => exact maxLen_eq ▸ h
theorem size_pos {s : ByteArray} : (!beqS s ⟨#[]⟩) = decide (0 < s.size) := by
  rw [beqS_eq]
  have : L ⟨#[]⟩ = [] := rfl
  rw [this, ← L_size]
  cases L s <;> rfl
theorem size_app (s t : ByteArray) : (s ++ t).size = s.size + t.size := by
  rw [← L_size, L_append, List.length_append, L_size, L_size]
theorem bytesL_len (s : ByteArray) : (bytesL s).length = s.size := by
  simp only [bytesL, List.length_map, Array.length_toList]; rfl
theorem bytesL_map (s : ByteArray) : bytesL s = (L s).map fun b => (b.toNat : Int) := rfl
theorem bt_bytes (s : ByteArray) (i : Nat) (h : i < (bytesL s).length) : bt s i = (bytesL s)[i] := by
  rw [L_bt]
  have h' : i < (L s).length := by simpa [bytesL_map] using h
  simp [bytesL_map, List.getD, h']
theorem bytes_range (s : ByteArray) (i : Nat) (h : i < (bytesL s).length) : 0 ≤ (bytesL s)[i] ∧ (bytesL s)[i] ≤ 255 := by
  rw [← bt_bytes s i h]; exact bt_range s i
theorem all_bytes {s : ByteArray} {i : Nat} (h : i < (bytesL s).length) (p : Int → Bool) : ((bytesL s).drop i).all p = (p (bytesL s)[i] && ((bytesL s).drop (i + 1)).all p) := by
  rw [List.drop_eq_getElem_cons h]; rfl
theorem sub_tail (s : ByteArray) (st a : Nat) : (s.extract st s.size).extract a (s.extract st s.size).size = s.extract (st + a) s.size := by
  apply L_inj
  have e : (L s).take s.size = L s := List.take_of_length_le (Nat.le_refl _)
  rw [L_extract, L_extract s (st + a), ← L_size (s.extract st s.size), L_extract, List.take_length, List.drop_drop, e]
theorem sub_head (s : ByteArray) (st i : Nat) (h : st ≤ i) (hi : i ≤ s.size) : (s.extract st s.size).extract 0 (i - st) = s.extract st i := by
  apply L_inj
  rw [L_extract, L_extract, L_extract, List.drop_zero, List.take_of_length_le (show (L s).length ≤ s.size from Nat.le_refl _), List.drop_take]
def sp : ByteArray := ⟨#[32]⟩
theorem ib_hit {l : List UInt8} {c : UInt8} {i : Nat} (h : l[i]? = some c) (hn : ∀ j, j < i → l[j]? ≠ some c) : Lib.indexByte l c = i := by
  have hg := Lib.indexByte_ge l c
  by_cases e : Lib.indexByte l c = -1
  · exact absurd h (Lib.indexByte_none e i)
  · obtain ⟨o, ho⟩ : ∃ o : Nat, Lib.indexByte l c = o := ⟨(Lib.indexByte l c).toNat, by omega⟩
    obtain ⟨h1, h2⟩ := Lib.indexByte_some ho
    rcases Nat.lt_trichotomy o i with h3 | h3 | h3
    · exact absurd h1 (hn o h3)
    · rw [ho, h3]
    · exact absurd h (h2 i h3)
theorem ib_miss {l : List UInt8} {c : UInt8} (hn : ∀ j : Nat, l[j]? ≠ some c) : Lib.indexByte l c = -1 := by
  have hg := Lib.indexByte_ge l c
  by_cases e : Lib.indexByte l c = -1
  · exact e
  · obtain ⟨o, ho⟩ : ∃ o : Nat, Lib.indexByte l c = o := ⟨(Lib.indexByte l c).toNat, by omega⟩
    exact absurd (Lib.indexByte_some ho).1 (hn o)
theorem indexB_sp (s : ByteArray) : Lib.indexB s sp = Lib.indexByte (L s) 32 := Lib.one s sp rfl
theorem sub_at (s : ByteArray) (st j : Nat) : (L (s.extract st s.size))[j]? = (L s)[st + j]? := by
  rw [L_extract, List.take_of_length_le (show (L s).length ≤ s.size from Nat.le_refl _), List.getElem?_drop]
def wordsFrom (s : ByteArray) (st : Nat) : List ByteArray := Lib.splitB sp 0 (Lib.countB (s.extract st s.size) sp) (s.extract st s.size)
theorem words_end (s : ByteArray) (st : Nat) (h : ∀ j, st ≤ j → (L s)[j]? ≠ some 32) : wordsFrom s st = [s.extract st s.size] := by
  unfold wordsFrom
  rw [Lib.countB_miss _ _ ((indexB_sp _).trans (ib_miss fun j => by rw [sub_at]; exact h _ (by omega)))]
  rfl
theorem words_hit (s : ByteArray) (st i : Nat) (h1 : st ≤ i) (hi : i < s.size) (hb : (L s)[i]? = some 32) (h : ∀ j, st ≤ j → j < i → (L s)[j]? ≠ some 32) : wordsFrom s st = s.extract st i :: wordsFrom s (i + 1) := by
  have e : Lib.indexB (s.extract st s.size) sp = ((i - st : Nat) : Int) := (indexB_sp _).trans (ib_hit (by rw [sub_at, show st + (i - st) = i by omega]; exact hb) fun j hj => by rw [sub_at]; exact h _ (by omega) (by omega))
  have e1 : sp.size = 1 := rfl
  unfold wordsFrom
  rw [Lib.countB_hit _ _ _ (by rw [e1]; exact Nat.le_refl _) e, Nat.add_comm 1, Lib.splitB_hit _ _ _ _ _ e, Nat.add_zero, sub_head s st i h1 (by omega), e1, sub_tail, show st + (i - st + 1) = i + 1 by omega]
theorem sub_self (s : ByteArray) : s.extract 0 s.size = s := by
  apply L_inj
  rw [L_extract, List.take_of_length_le (show (L s).length ≤ s.size from Nat.le_refl _), List.drop_zero]
def words (s : ByteArray) : List ByteArray := Lib.splitB sp 0 (Lib.countB s sp) s
theorem words_from (s : ByteArray) : wordsFrom s 0 = words s := by unfold wordsFrom words; rw [sub_self]
theorem words_small : ∀ (k : Nat) (s : ByteArray), ∀ x ∈ Lib.splitB sp 0 k s, x.size ≤ s.size
  | 0, s, x, hx => by
    rw [Lib.splitB_zero] at hx
    simp only [List.mem_singleton] at hx
    rw [hx]; exact Nat.le_refl _
  | k + 1, s, x, hx => by
    unfold Lib.splitB at hx
    split at hx
    · simp only [List.mem_singleton] at hx
      rw [hx]; exact Nat.le_refl _
    · rcases List.mem_cons.1 hx with rfl | hx
      · rw [ByteArray.size_extract]; omega
      · have := words_small k _ x hx
        rw [ByteArray.size_extract] at this
        omega
theorem words_len (s : ByteArray) : 1 ≤ (words s).length ∧ (words s).length ≤ s.size + 1 := by
  unfold words
  have h1 : 1 ≤ sp.size := Nat.le_refl 1
  rw [Lib.splitB_all sp h1 0 _ s rfl]
  have := Lib.countB_le sp h1 s.size s (Nat.le_refl _)
  omega
theorem dropWhile_self {α : Type} (p : α → Bool) : ∀ l : List α, l.dropWhile p = l ↔ (∀ a, l.head? = some a → p a = false)
  | [] => by simp
  | a :: l => by
    have hl : (l.dropWhile p).length ≤ l.length := (List.dropWhile_sublist p).length_le
    cases h : p a with
    | true =>
      rw [List.dropWhile_cons_of_pos h]
      constructor
      · intro e
        have := congrArg List.length e
        simp at this
        omega
      · intro e
        have := e a rfl
        rw [h] at this; cases this
    | false =>
      rw [List.dropWhile_cons_of_neg (by rw [h]; exact Bool.noConfusion)]
      simp [h]
theorem trimB_self (l : List UInt8) (c : UInt8) : Lib.trimB l c = l ↔ l.head? ≠ some c ∧ l.getLast? ≠ some c := by
  unfold Lib.trimB Lib.trimLeftB Lib.trimRightB
  have h1 : ∀ m : List UInt8, m.dropWhile (· == c) = m ↔ m.head? ≠ some c := fun m => by
    rw [dropWhile_self]
    constructor
    · intro h e; have := h c e; simp at this
    · intro h a e
      have : a ≠ c := fun e' => h (e' ▸ e)
      simpa using this
  constructor
  · intro h
    have h2 : ((l.reverse.dropWhile (· == c)).reverse).length ≤ l.length := by
      have := (List.dropWhile_sublist (p := (· == c)) (l := l.reverse)).length_le
      simpa using this
    have h3 := (List.dropWhile_sublist (p := (· == c)) (l := (l.reverse.dropWhile (· == c)).reverse))
    have h4 : (l.reverse.dropWhile (· == c)).reverse = l := by
      have h5 : (l.reverse.dropWhile (· == c)).reverse.length = l.length := by
        have := h3.length_le
        rw [h] at this
        omega
      have h6 : l.reverse.dropWhile (· == c) = l.reverse := (List.dropWhile_sublist (p := (· == c)) (l := l.reverse)).eq_of_length (by simpa using h5)
      rw [h6, List.reverse_reverse]
    rw [h4] at h
    refine ⟨(h1 l).1 h, ?_⟩
    have h6 : l.reverse.dropWhile (· == c) = l.reverse := by rw [← List.reverse_inj, h4, List.reverse_reverse]
    have := (h1 _).1 h6
    simpa using this
  · rintro ⟨ha, hb⟩
    have h6 : l.reverse.dropWhile (· == c) = l.reverse := (h1 _).2 (by simpa using hb)
    rw [h6, List.reverse_reverse]
    exact (h1 l).2 ha
def vis (lo b : Int) : Bool := decide (lo ≤ b) && decide (b ≤ 126)
theorem bt_sp {s : ByteArray} {i : Nat} (hi : i < s.size) : bt s i = 32 ↔ (L s)[i]? = some 32 := by
  have hi' : i < (L s).length := hi
  have hbt : bt s i = ((L s)[i].toNat : Int) := by rw [L_bt, getD_at hi']
  rw [List.getElem?_eq_getElem hi', hbt]
  have : (32 : UInt8).toNat = 32 := rfl
  constructor
  · intro h
    congr 1
    apply UInt8.toNat_inj.1
    omega
  · intro h
    rw [Option.some.inj h]; rfl
def edge (s : ByteArray) : Bool := (decide (s.size = 0)) || (bt s 0 != 32 && bt s (s.size - 1) != 32)
theorem edge_eq (s : ByteArray) : beqS ⟨(Lib.trimB (L s) 32).toArray⟩ s = edge s := by
  rw [Bool.eq_iff_iff, beqS_iff]
  have h1 : (⟨(Lib.trimB (L s) 32).toArray⟩ : ByteArray) = s ↔ Lib.trimB (L s) 32 = L s := by
    constructor
    · intro h
      have := congrArg L h
      rwa [L_mk] at this
    · intro h
      apply L_inj
      rw [L_mk, h]
  rw [h1, trimB_self]
  unfold edge
  by_cases hz : s.size = 0
  · have : L s = [] := List.eq_nil_of_length_eq_zero hz
    rw [this]
    simp [hz]
  · have h2 : (L s).head? = (L s)[0]? := List.head?_eq_getElem?
    have h3 : (L s).getLast? = (L s)[s.size - 1]? := by rw [List.getLast?_eq_getElem?]; rfl
    rw [h2, h3, Bool.or_eq_true, decide_eq_true_eq, Bool.and_eq_true, bne_iff_ne, bne_iff_ne, Ne, Ne, Ne, Ne, bt_sp (by omega), bt_sp (by omega)]
    simp [hz]
def pos (s : ByteArray) : Bool := decide (0 < s.size)
theorem ext_size {s : ByteArray} {a b : Nat} (h : a ≤ b) (hb : b ≤ s.size) : (s.extract a b).size = b - a := by
  rw [ByteArray.size_extract]; omega
theorem room_s {n : Nat} (h : n ≤ 8192) : room n .str = true := by
  unfold room
  rw [Nat.ble_eq]
  have : nb .str = 16 := rfl
  rw [this]
  omega
theorem fpos_one (s : ByteArray) (a b : Nat) (hab : a ≤ b) (hb : b ≤ s.size) (l : List ByteArray) : (s.extract a b :: l).filter pos = (if a < b then [s.extract a b] else []) ++ l.filter pos := by
  rw [List.filter_cons]
  unfold pos
  rw [ext_size hab hb]
  by_cases c : a < b
  · rw [if_pos c, decide_eq_true (by omega)]; rfl
  · rw [if_neg c, decide_eq_false (by omega)]; rfl
theorem tail_cons (x : List UInt8) (r : List (List UInt8)) : Lib.joinTail [32] (x :: r) = 32 :: (x ++ Lib.joinTail [32] r) := by simp [Lib.joinTail]
theorem e32 : (⟨#[32]⟩ : ByteArray).size = 1 := rfl
theorem L32 : L ⟨#[32]⟩ = [32] := rfl
/-! ### A list, changed from its begin -/
def ms {α : Type} (f : α → α) (W : List α) (i : Nat) : List α := (W.take i).map f ++ W.drop i
section
variable {α : Type} (f : α → α) (W : List α)
theorem ms_len (i : Nat) : (ms f W i).length = W.length := by unfold ms; simp; omega
theorem ms_zero : ms f W 0 = W := by simp [ms]
theorem ms_all : ms f W W.length = W.map f := by simp [ms]
theorem ms_at {i : Nat} (h : i < W.length) (d : α) : (ms f W i).getD i d = W[i] := by
  unfold ms
  rw [List.getD_eq_getElem?_getD, List.getElem?_append_right (by simp; omega)]
  simp [Nat.min_eq_left (Nat.le_of_lt h), h]
theorem ms_set {i : Nat} (h : i < W.length) : (ms f W i).set i (f W[i]) = ms f W (i + 1) := by
  unfold ms
  rw [List.set_append_right _ _ (by simp; omega)]
  simp only [List.length_map, List.length_take, Nat.min_eq_left (Nat.le_of_lt h), Nat.sub_self]
  rw [List.drop_eq_getElem_cons h, List.set_cons_zero, List.take_add_one, List.getElem?_eq_getElem h]
  simp only [Option.toList_some, List.map_append, List.map_cons, List.map_nil, List.append_assoc, List.cons_append, List.nil_append]
end
end Go.Proofs.YtdbfalcfejhjfaaDoor
end
section
/- Plain laws: lower case. -/
namespace Go.Proofs.YtdbfalcfejhjfaaDoor
open Go.Gx
set_option linter.unusedVariables false
set_option linter.unusedSimpArgs false

theorem L_strL (ys : List Int) : L (strL ys) = ys.map fun n => UInt8.ofNat n.toNat := L_mk _
theorem strL_bytes (s : ByteArray) : strL (bytesL s) = s := by
  apply L_inj
  rw [L_strL, bytesL_map, List.map_map]
  conv => rhs; rw [← List.map_id (L s)]
  refine List.map_congr_left fun b _ => ?_
  simp
theorem strL_size (ys : List Int) : (strL ys).size = ys.length := by
  rw [← L_size, L_strL, List.length_map]
def ltrI (b : Int) : Bool := (decide (65 ≤ b) && decide (b ≤ 90)) || (decide (97 ≤ b) && decide (b ≤ 122))
theorem specLetter_ev (b : Int) : spec_l6Letter.F b = some (ltrI b) := by
  unfold spec_l6Letter.F ltrI
  simp only [ge_iff_le]
  cases decide (65 ≤ b) <;> cases decide (b ≤ 90) <;> cases decide (97 ≤ b) <;> cases decide (b ≤ 122) <;> rfl
theorem isUpper_ev (b : Int) : impl_isUpper.F b = some (decide (65 ≤ b) && decide (b ≤ 90)) := by
  unfold impl_isUpper.F
  simp only [ge_iff_le]
  cases decide (65 ≤ b) <;> rfl
def lowI (b : Int) : Int := bif decide (65 ≤ b) && decide (b ≤ 90) then b + 32 else b
theorem specLowerByte_ev (b : Int) : spec_l6LowerByte.F b = some (lowI b) := by
  unfold spec_l6LowerByte.F lowI
  simp only [ge_iff_le]
  by_cases h1 : 65 ≤ b
  · by_cases h2 : b ≤ 90
    · have : IntKind.wrap .u8 (b + 32) = b + 32 := by rw [IntKind.wrap_u8]; omega
      simp only [dpos h1, dpos h2, cond_true, Bool.and_self, this]
    · simp only [dpos h1, dneg h2, cond_true, cond_false, Bool.and_false]
  · simp only [dneg h1, cond_false, Bool.false_and]
def mix (s : ByteArray) (i : Nat) : List Int := ((bytesL s).take i).map lowI ++ (bytesL s).drop i
theorem mix_len (s : ByteArray) (i : Nat) : (mix s i).length = (bytesL s).length := by
  unfold mix; simp; omega
theorem mix_at (s : ByteArray) (i : Nat) (h : i < (bytesL s).length) : (mix s i).getD i 0 = (bytesL s)[i] := by
  unfold mix
  rw [List.getD_eq_getElem?_getD, List.getElem?_append_right (by simp; omega)]
  simp [Nat.min_eq_left (Nat.le_of_lt h), h]
theorem mix_set (s : ByteArray) (i : Nat) (h : i < (bytesL s).length) : (mix s i).set i (lowI (bytesL s)[i]) = mix s (i + 1) := by
  unfold mix
  rw [List.set_append_right _ _ (by simp; omega)]
  simp only [List.length_map, List.length_take, Nat.min_eq_left (Nat.le_of_lt h), Nat.sub_self]
  rw [List.drop_eq_getElem_cons h, List.set_cons_zero, List.take_add_one, List.getElem?_eq_getElem h]
  simp only [Option.toList_some, List.map_append, List.map_cons, List.map_nil, List.append_assoc, List.cons_append, List.nil_append]
theorem mix_same (s : ByteArray) (i : Nat) (h : i < (bytesL s).length) (e : lowI (bytesL s)[i] = (bytesL s)[i]) : mix s (i + 1) = mix s i := by
  rw [← mix_set s i h, e]
  apply List.ext_getElem?
  intro j
  by_cases hj : i = j
  · subst hj
    have := mix_at s i h
    rw [List.getD_eq_getElem?_getD] at this
    rw [List.getElem?_set_self (by rw [mix_len]; exact h)]
    rw [List.getElem?_eq_getElem (by rw [mix_len]; exact h)] at this ⊢
    rw [← this]; rfl
  · rw [List.getElem?_set_ne hj]
theorem lower_l0 (s : ByteArray) (hs : s.size ≤ 1048576) : ∀ n i : Nat, i + n = s.size → Ev (fun k => impl_lower.l0 k (mix s i) s.size i) ((bytesL s).map lowI)
  | 0, i, h => by
    refine Ev.step (fun k => by rw [impl_lower.l0]) ?_
    simp (disch := omega) only [cneg]
    unfold mix
    rw [List.take_of_length_le (by rw [bytesL_len]; omega), List.drop_eq_nil_of_le (by rw [bytesL_len]; omega), List.append_nil]
    exact Ev.pure _
  | n + 1, i, h => by
    have hl := bytesL_len s
    have hi : i < (bytesL s).length := by omega
    have hm := mix_len s i
    have ih := lower_l0 s hs n (i + 1) (by omega)
    have hb := bytes_range s i hi
    refine Ev.step (fun k => by rw [impl_lower.l0]) ?_
    simp (disch := omega) only [cpos, Int.toNat_natCast, mix_at s i hi]
    refine Ev.bind0 (isUpper_ev _) ?_
    cases hu : decide (65 ≤ (bytesL s)[i]) && decide ((bytesL s)[i] ≤ 90) with
    | true =>
      have hu' := hu
      simp only [Bool.and_eq_true, decide_eq_true_eq] at hu'
      have e : IntKind.wrap .u8 (IntKind.wrap .u8 ((bytesL s)[i] + 97) - 65) = lowI (bytesL s)[i] := by
        unfold lowI
        rw [hu, cond_true, IntKind.wrap_u8, IntKind.wrap_u8]; omega
      simp (disch := omega) only [cond_true, cpos, e, mix_set s i hi, wrap_in]
      exact ih
    | false =>
      have e : lowI (bytesL s)[i] = (bytesL s)[i] := by unfold lowI; rw [hu, cond_false]
      rw [mix_same s i hi e] at ih
      simp (disch := omega) only [cond_false, wrap_in]
      exact ih
def lowS (s : ByteArray) : ByteArray := strL ((bytesL s).map lowI)
theorem lowS_size (s : ByteArray) : (lowS s).size = s.size := by unfold lowS; rw [strL_size, List.length_map, bytesL_len]
theorem lower_ev (s : ByteArray) (hs : s.size ≤ 1048576) : Ev (fun k => impl_lower.F k s) (lowS s) := by
  unfold impl_lower.F
  rw [bytesL_len]
  simp (disch := omega) only [cble]
  have := lower_l0 s hs s.size 0 (by omega)
  unfold mix at this
  rw [List.take_zero, List.map_nil, List.nil_append, List.drop_zero] at this
  exact Ev.bind this (Ev.pure _)
end Go.Proofs.YtdbfalcfejhjfaaDoor
end
section
/- Plain laws: a text split at its spaces. -/
namespace Go.Proofs.YtdbfalcfejhjfaaDoor
open Go.Gx
set_option linter.unusedVariables false
set_option linter.unusedSimpArgs false

theorem split_ev (s : ByteArray) (hs : s.size ≤ 1048576) : strings_Split.F s ⟨#[32]⟩ = some (words s) := by
  unfold strings_Split.F xSplit
  rw [Nat.ble_eq_true_of_le (by omega)]
  rfl
end Go.Proofs.YtdbfalcfejhjfaaDoor
end
section
/- Plain laws: slices.IndexFunc, slices.DeleteFunc, as they are printed for a function value. -/
namespace Go.Gx
set_option linter.unusedVariables false
set_option linter.unusedSimpArgs false

section
variable {α : Type} {d : α} {p : α → Bool} {q : Nat → α → Option Bool} {xs : List α}
theorem getDat {α : Type} {xs : List α} {i : Nat} (h : i < xs.length) (d : α) : xs.getD i d = xs[i] := by simp [List.getD, List.getElem?_eq_getElem h]
theorem idx_l0 {l0 : Nat → List α → Int → Int → Option (Sum Int Unit)} (H : ∀ k x0 x7 x8, l0 (k + 1) x0 x7 x8 = bif (decide (x8 < x7)) then (bif decide (0 ≤ x8) then (bif decide (x8 < (x0.length : Int)) then ((q k (x0.getD (x8 : Int).toNat d)).bind fun r1 => bif r1 then (some (.inl x8)) else (l0 k x0 x7 (IntKind.wrap .i64 (x8 + 1)))) else none) else none) else (some (.inr ())))
    (hq : ∀ x, x ∈ xs → Ev (fun k => q k x) (p x)) (hl : xs.length ≤ 4611686018427387904) : ∀ n i : Nat, i + n = xs.length → (∀ x ∈ xs.take i, p x = false) →
    ∃ r, Ev (fun k => l0 k xs xs.length i) r ∧ ((r = .inr () ∧ ∀ x ∈ xs, p x = false) ∨ ∃ j : Nat, r = .inl j ∧ j < xs.length ∧ p (xs.getD j d) = true ∧ ∀ x ∈ xs.take j, p x = false)
  | 0, i, h, ht => by
    refine ⟨.inr (), Ev.step (fun k => by rw [H]) ?_, .inl ⟨rfl, by rw [List.take_of_length_le (by omega)] at ht; exact ht⟩⟩
    simp (disch := omega) only [cneg]
    exact Ev.pure _
  | n + 1, i, h, ht => by
    have hi : i < xs.length := by omega
    cases hp : p xs[i] with
    | true =>
      refine ⟨.inl i, Ev.step (fun k => by rw [H]) ?_, .inr ⟨i, rfl, hi, by rw [getDat hi, hp], ht⟩⟩
      simp (disch := omega) only [cpos, Int.toNat_natCast, getDat hi]
      refine Ev.bind (hq _ (List.getElem_mem hi)) ?_
      rw [hp]
      exact Ev.pure _
    | false =>
      obtain ⟨r, h1, h2⟩ := idx_l0 H hq hl n (i + 1) (by omega) (by
        intro x hx
        rw [List.take_add_one, List.getElem?_eq_getElem hi] at hx
        rcases List.mem_append.1 hx with hx | hx
        · exact ht x hx
        · simp only [Option.toList_some, List.mem_singleton] at hx
          rw [hx, hp])
      refine ⟨r, Ev.step (fun k => by rw [H]) ?_, h2⟩
      simp (disch := omega) only [cpos, Int.toNat_natCast, getDat hi]
      refine Ev.bind (hq _ (List.getElem_mem hi)) ?_
      rw [hp]
      simp (disch := omega) only [cond_false, wrap_in]
      exact h1
theorem idx_ev {l0 : Nat → List α → Int → Int → Option (Sum Int Unit)} (H : ∀ k x0 x7 x8, l0 (k + 1) x0 x7 x8 = bif (decide (x8 < x7)) then (bif decide (0 ≤ x8) then (bif decide (x8 < (x0.length : Int)) then ((q k (x0.getD (x8 : Int).toNat d)).bind fun r1 => bif r1 then (some (.inl x8)) else (l0 k x0 x7 (IntKind.wrap .i64 (x8 + 1)))) else none) else none) else (some (.inr ())))
    (hq : ∀ x, x ∈ xs → Ev (fun k => q k x) (p x)) (hl : xs.length ≤ 4611686018427387904) {F : Nat → List α → Option Int} (HF : ∀ k a0, F k a0 = (l0 k a0 (a0.length : Int) 0).bind fun y2 => match y2 with | .inl z3 => some z3 | .inr z3 => some (-1)) :
    ∃ r, Ev (fun k => F k xs) r ∧ ((r = -1 ∧ ∀ x ∈ xs, p x = false) ∨ ∃ j : Nat, r = j ∧ j < xs.length ∧ p (xs.getD j d) = true ∧ ∀ x ∈ xs.take j, p x = false) := by
  obtain ⟨r, h1, h2⟩ := idx_l0 H hq hl xs.length 0 (by omega) (fun x hx => by simp at hx)
  rcases h2 with ⟨rfl, h2⟩ | ⟨j, rfl, h2⟩
  · exact ⟨-1, Ev.congr (Ev.bind h1 (Ev.pure _)) (fun k => HF k xs), .inl ⟨rfl, h2⟩⟩
  · exact ⟨j, Ev.congr (Ev.bind h1 (Ev.pure _)) (fun k => HF k xs), .inr ⟨j, rfl, h2⟩⟩
theorem del_l0 {l0 : Nat → List α → Int → Int → Option (List α × Int)} (H : ∀ k x0 x5 x6, l0 (k + 1) x0 x5 x6 = bif (decide (x6 < (x0.length : Int))) then (bif decide (0 ≤ x6) then (bif decide (x6 < (x0.length : Int)) then ((q k (x0.getD ((x6 : Int).toNat) d)).bind fun r2 => bif (!r2) then (bif decide (0 ≤ x5) then (bif decide (x5 < (x0.length : Int)) then (l0 k (x0.set ((x5 : Int).toNat) (x0.getD ((x6 : Int).toNat) d)) (IntKind.wrap .i64 (x5 + 1)) (IntKind.wrap .i64 (x6 + 1))) else none) else none) else (l0 k x0 x5 (IntKind.wrap .i64 (x6 + 1)))) else none) else none) else (some (x0, x5)))
    (hq : ∀ x, x ∈ xs → Ev (fun k => q k x) (p x)) (hl : xs.length ≤ 4611686018427387904) : ∀ n j : Nat, j + n = xs.length → ∀ (ys : List α) (i : Nat), ys.length = xs.length → i ≤ j → ys.drop j = xs.drop j →
    ∃ zs, ∃ i' : Nat, Ev (fun k => l0 k ys i j) (zs, (i' : Int)) ∧ i' ≤ xs.length ∧ zs.length = xs.length ∧ zs.take i' = ys.take i ++ (xs.drop j).filter fun x => !p x
  | 0, j, h, ys, i, hy, hij, hd => by
    refine ⟨ys, i, Ev.step (fun k => by rw [H]) ?_, by omega, hy, ?_⟩
    · simp (disch := omega) only [cneg]
      exact Ev.pure _
    · rw [List.drop_eq_nil_of_le (by omega), List.filter_nil, List.append_nil]
  | n + 1, j, h, ys, i, hy, hij, hd => by
    have hj : j < xs.length := by omega
    have hj' : j < ys.length := by omega
    have hx : ys[j] = xs[j] := by
      have h0 := congrArg (·[0]?) hd
      simpa [hj, hj'] using h0
    have hd1 : ys.drop (j + 1) = xs.drop (j + 1) := by
      have := congrArg (List.drop 1) hd
      simpa [List.drop_drop] using this
    cases hp : p xs[j] with
    | true =>
      obtain ⟨zs, i', h1, h2, h3, h4⟩ := del_l0 H hq hl n (j + 1) (by omega) ys i hy (by omega) hd1
      refine ⟨zs, i', Ev.step (fun k => by rw [H]) ?_, h2, h3, ?_⟩
      · simp (disch := omega) only [cpos, Int.toNat_natCast, getDat hj', hx]
        refine Ev.bind (hq _ (List.getElem_mem hj)) ?_
        rw [hp]
        simp (disch := omega) only [Bool.not_true, cond_false, wrap_in]
        exact h1
      · rw [h4, List.drop_eq_getElem_cons hj, List.filter_cons_of_neg (by rw [hp]; decide)]
    | false =>
      obtain ⟨zs, i', h1, h2, h3, h4⟩ := del_l0 H hq hl n (j + 1) (by omega) (ys.set i xs[j]) (i + 1) (by simpa using hy) (by omega) (by rw [List.drop_set_of_lt (by omega)]; exact hd1)
      refine ⟨zs, i', Ev.step (fun k => by rw [H]) ?_, h2, h3, ?_⟩
      · simp (disch := omega) only [cpos, Int.toNat_natCast, getDat hj', hx]
        refine Ev.bind (hq _ (List.getElem_mem hj)) ?_
        rw [hp]
        simp (disch := omega) only [Bool.not_false, cond_true, cpos, Int.toNat_natCast, wrap_in]
        exact h1
      · rw [h4, List.drop_eq_getElem_cons hj, List.filter_cons_of_pos (by rw [hp]; decide), List.take_add_one, List.take_set_of_le (Nat.le_refl i)]
        have : (ys.set i xs[j])[i]? = some xs[j] := by rw [List.getElem?_set_self (by omega)]
        rw [this]
        simp
theorem delete_ev {l0 : Nat → List α → Int → Int → Option (List α × Int)} (H : ∀ k x0 x5 x6, l0 (k + 1) x0 x5 x6 = bif (decide (x6 < (x0.length : Int))) then (bif decide (0 ≤ x6) then (bif decide (x6 < (x0.length : Int)) then ((q k (x0.getD ((x6 : Int).toNat) d)).bind fun r2 => bif (!r2) then (bif decide (0 ≤ x5) then (bif decide (x5 < (x0.length : Int)) then (l0 k (x0.set ((x5 : Int).toNat) (x0.getD ((x6 : Int).toNat) d)) (IntKind.wrap .i64 (x5 + 1)) (IntKind.wrap .i64 (x6 + 1))) else none) else none) else (l0 k x0 x5 (IntKind.wrap .i64 (x6 + 1)))) else none) else none) else (some (x0, x5)))
    (hq : ∀ x, x ∈ xs → Ev (fun k => q k x) (p x)) (hl : xs.length ≤ 4611686018427387904) {I F : Nat → List α → Option _} {e : α}
    (hI : ∃ r : Int, Ev (fun k => I k xs) r ∧ ((r = -1 ∧ ∀ x ∈ xs, p x = false) ∨ ∃ j : Nat, r = j ∧ j < xs.length ∧ p (xs.getD j d) = true ∧ ∀ x ∈ xs.take j, p x = false))
    (HF : ∀ k a0, F k a0 = (I k a0).bind fun r1 => bif (r1 == (-1)) then (some a0) else ((l0 k a0 r1 (IntKind.wrap .i64 (r1 + 1))).bind fun y3 => bif decide (0 ≤ y3.2) then (bif decide (y3.2 ≤ (y3.1.length : Int)) then (bif decide (0 ≤ y3.2) then (bif decide (y3.2 ≤ ((y3.1.take ((y3.2 : Int).toNat) ++ List.replicate (y3.1.length - ((y3.2 : Int).toNat)) e).length : Int)) then (some ((y3.1.take ((y3.2 : Int).toNat) ++ List.replicate (y3.1.length - ((y3.2 : Int).toNat)) e).take (y3.2 : Int).toNat)) else none) else none) else none) else none)) :
    Ev (fun k => F k xs) (xs.filter fun x => !p x) := by
  obtain ⟨r, h1, h2⟩ := hI
  refine Ev.congr (?_ : Ev _ _) (fun k => HF k xs)
  refine Ev.bind h1 ?_
  rcases h2 with ⟨rfl, h2⟩ | ⟨j, rfl, hj, hp, h2⟩
  · have : (xs.filter fun x => !p x) = xs := List.filter_eq_self.2 fun x hx => by rw [h2 x hx]; rfl
    rw [this]
    exact Ev.pure _
  · obtain ⟨zs, i', h3, h4, h5, h6⟩ := del_l0 H hq hl (xs.length - (j + 1)) (j + 1) (by omega) xs j rfl (by omega) rfl
    rw [getDat hj] at hp
    have hz : zs.take i' = xs.filter fun x => !p x := by
      rw [h6]
      conv => rhs; rw [← List.take_append_drop j xs, List.filter_append, List.drop_eq_getElem_cons hj, List.filter_cons_of_neg (by rw [hp]; decide)]
      congr 1
      exact (List.filter_eq_self.2 fun x hx => by rw [h2 x hx]; rfl).symm
    simp (disch := omega) only [cne, wrap_in]
    refine Ev.bind h3 ?_
    have e1 : ((zs.take i' ++ List.replicate (zs.length - i') e)).length = zs.length := by simp; omega
    simp (disch := (try simp only [Int.toNat_natCast, e1]); omega) only [cpos, Int.toNat_natCast, e1]
    rw [List.take_append_of_le_length (by simp; omega), List.take_take, Nat.min_self, hz]
    exact Ev.pure _
end
end Go.Gx
end
section
/- Plain laws: the words of a text; words put together. -/
namespace Go.Proofs.YtdbfalcfejhjfaaDoor
open Go.Gx
set_option linter.unusedVariables false
set_option linter.unusedSimpArgs false

def kw (s : ByteArray) : List ByteArray := (words s).filter pos
theorem notEmpty : (fun x : ByteArray => !beqS x ⟨#[]⟩) = pos := by
  funext x
  rw [size_pos]; rfl
theorem wordsOf_ev (s : ByteArray) (hs : s.size ≤ 1048576) : Ev (fun k => impl_wordsOf.F k s) (kw s) := by
  unfold impl_wordsOf.F
  refine Ev.bind0 (split_ev s hs) (Ev.bind (a := kw s) ?_ (Ev.pure _))
  have hlen := (words_len s).2
  have hq : ∀ x, x ∈ words s → Ev (fun k => (fun (_ : Nat) (x : ByteArray) => impl_wordsOf_1.F x) k x) (beqS x ⟨#[]⟩) := fun x _ => Ev.const rfl
  have := delete_ev (d := (⟨#[]⟩ : ByteArray)) (p := fun x => beqS x ⟨#[]⟩) (q := fun _ x => impl_wordsOf_1.F x) (xs := words s) (l0 := slices_DeleteFunc_string_f39.l0) (fun k x0 x5 x6 => by rw [slices_DeleteFunc_string_f39.l0]) hq (by omega) (I := slices_IndexFunc_string_f39.F) (F := slices_DeleteFunc_string_f39.F)
    (idx_ev (d := (⟨#[]⟩ : ByteArray)) (p := fun x => beqS x ⟨#[]⟩) (q := fun _ x => impl_wordsOf_1.F x) (l0 := slices_IndexFunc_string_f39.l0) (fun k x0 x7 x8 => by rw [slices_IndexFunc_string_f39.l0]) hq (by omega) (fun k a0 => rfl)) (fun k a0 => rfl)
  rw [notEmpty] at this
  exact this
theorem kw_small (s : ByteArray) : ∀ x ∈ kw s, 0 < x.size ∧ x.size ≤ s.size := fun x hx => by
  obtain ⟨h1, h2⟩ := List.mem_filter.1 hx
  exact ⟨by simpa [pos] using h2, words_small _ _ x h1⟩
theorem kw_len (s : ByteArray) : (kw s).length ≤ s.size + 1 := Nat.le_trans (List.length_filter_le _ _) (words_len s).2
theorem join_l0 (W : List ByteArray) (hW : ∀ x ∈ W, x.size ≤ 1048576) (hl : W.length ≤ 8192) : ∀ n i : Nat, i + n = W.length → 1 ≤ i → ∀ acc : ByteArray, acc.size ≤ 1048577 * i →
    ∃ r, Ev (fun k => spec_l6Join.l0 k W acc i) r ∧ L r = L acc ++ Lib.joinTail [32] ((W.drop i).map L) ∧ r.size ≤ 1048577 * W.length
  | 0, i, h, h0, acc, ha => by
    refine ⟨acc, Ev.step (fun k => by rw [spec_l6Join.l0]) ?_, ?_, by rw [show W.length = i by omega]; exact ha⟩
    · simp (disch := omega) only [cneg]; exact Ev.pure _
    · rw [List.drop_eq_nil_of_le (by omega)]; simp [Lib.joinTail]
  | n + 1, i, h, h0, acc, ha => by
    have hi : i < W.length := by omega
    have hx := hW _ (List.getElem_mem hi)
    obtain ⟨r, r1, r2, r3⟩ := join_l0 W hW hl n (i + 1) (by omega) (by omega) (acc ++ ⟨#[32]⟩ ++ W[i]) (by rw [size_app, size_app, e32]; omega)
    refine ⟨r, Ev.step (fun k => by rw [spec_l6Join.l0]) ?_, ?_, r3⟩
    · simp (disch := (try simp only [size_app, e32]); omega) only [cpos, Int.toNat_natCast, getD_at hi, cble, wrap_in]
      exact r1
    · rw [r2, List.drop_eq_getElem_cons hi, List.map_cons, tail_cons, L_append, L_append, L32]
      simp
theorem join_ev (W : List ByteArray) (hW : ∀ x ∈ W, x.size ≤ 1048576) (hl : W.length ≤ 8192) : ∃ r, Ev (fun k => spec_l6Join.F k W) r ∧ strings_Join.F W ⟨#[32]⟩ = some r ∧ L r = Lib.join (W.map L) [32] ∧ r.size ≤ 1048577 * W.length := by
  have key : ∃ r, Ev (fun k => spec_l6Join.F k W) r ∧ L r = Lib.join (W.map L) [32] ∧ r.size ≤ 1048577 * W.length := by
    unfold spec_l6Join.F
    match W, hW, hl with
    | [], _, _ =>
      refine ⟨⟨#[]⟩, Ev.bind (a := ⟨#[]⟩) ?_ (Ev.pure _), rfl, Nat.zero_le _⟩
      refine Ev.step (fun k => by rw [spec_l6Join.l0]) ?_
      exact Ev.pure _
    | x :: W, hW, hl =>
      have hx := hW x List.mem_cons_self
      have e00 : ∀ t : ByteArray, (⟨#[]⟩ : ByteArray) ++ t = t := fun t => L_inj (by rw [L_append]; rfl)
      have e0 : (⟨#[]⟩ : ByteArray).size = 0 := rfl
      obtain ⟨r, r1, r2, r3⟩ := join_l0 (x :: W) hW hl W.length 1 (by rw [List.length_cons]; omega) (Nat.le_refl _) x (by omega)
      refine ⟨r, Ev.bind (a := r) ?_ (Ev.pure _), ?_, r3⟩
      · refine Ev.step (fun k => by rw [spec_l6Join.l0]) ?_
        have r1' : Ev (fun k => spec_l6Join.l0 k (x :: W) x (0 + 1)) r := r1
        have hlen : (0 : Int) < ((x :: W).length : Int) := by rw [List.length_cons]; omega
        have hg : (x :: W).getD (0 : Int).toNat (⟨#[]⟩ : ByteArray) = x := rfl
        simp (disch := (try simp only [e0]); omega) only [cpos, cneg, hg, e00, cble, wrap_in]
        exact r1'
      · rw [r2, List.map_cons, Lib.join_cons]; rfl
  obtain ⟨r, r1, r2, r3⟩ := key
  refine ⟨r, r1, ?_, r2, r3⟩
  unfold strings_Join.F xJoin
  have e1 : Lib.join (W.map (·.data.toList)) (⟨#[32]⟩ : ByteArray).data.toList = L r := by rw [r2]; rfl
  rw [e1, Nat.ble_eq_true_of_le (by omega), Nat.ble_eq_true_of_le (by rw [L_size]; omega)]
  show some _ = some r
  congr 1
end Go.Proofs.YtdbfalcfejhjfaaDoor
end
section
/- Plain laws: the plain form of a text, two ways. -/
namespace Go.Proofs.YtdbfalcfejhjfaaDoor
open Go.Gx
set_option linter.unusedVariables false
set_option linter.unusedSimpArgs false

/-! ### Lists of bytes cut at spaces -/
def bit1 (cur : List Int) : List (List Int) := if cur = [] then [] else [cur]
def grp : List Int → List Int → List (List Int)
  | cur, [] => bit1 cur
  | cur, b :: l => if b = 32 then bit1 cur ++ grp [] l else grp (cur ++ [b]) l
def kpI (b : Int) : Bool := ltrI b || (decide (48 ≤ b) && decide (b ≤ 57))
def spW : List Int → List Int → List (List Int)
  | cur, [] => bit1 cur
  | cur, b :: l => if b = 32 then bit1 cur ++ spW [] l else if kpI b = true then spW (cur ++ [lowI b]) l else spW cur l
/-- What stays of a byte in lower case. -/
def kpL (b : Int) : Bool := (decide (97 ≤ b) && decide (b ≤ 122)) || ((decide (48 ≤ b) && decide (b ≤ 57)) || (b == 32))
theorem kpL_low (b : Int) : kpL (lowI b) = (kpI b || (b == 32)) := by
  rw [Bool.eq_iff_iff]
  unfold kpL kpI ltrI lowI
  cases h : decide (65 ≤ b) && decide (b ≤ 90) with
  | true =>
    simp only [Bool.and_eq_true, decide_eq_true_eq] at h
    simp only [cond_true, Bool.true_or, Bool.or_eq_true, Bool.and_eq_true, decide_eq_true_eq, beq_iff_eq, true_or, iff_true]
    omega
  | false =>
    simp only [cond_false, Bool.false_or, Bool.or_eq_true, Bool.and_eq_true, decide_eq_true_eq, beq_iff_eq, or_assoc]
theorem lowI_sp (b : Int) : lowI b = 32 ↔ b = 32 := by
  unfold lowI
  cases h : decide (65 ≤ b) && decide (b ≤ 90) with
  | true =>
    simp only [Bool.and_eq_true, decide_eq_true_eq] at h
    simp only [cond_true]
    omega
  | false => simp only [cond_false]
theorem kpI_sp {b : Int} (h : kpI b = true) : b ≠ 32 := by
  rintro rfl
  revert h; decide
theorem grp_spW : ∀ (l cur : List Int), grp cur ((l.map lowI).filter kpL) = spW cur l
  | [], cur => rfl
  | b :: l, cur => by
    rw [List.map_cons, List.filter_cons, kpL_low]
    unfold spW
    by_cases h : b = 32
    · subst h
      rw [if_pos rfl]
      have e : (kpI 32 || ((32 : Int) == 32)) = true := by decide
      rw [if_pos e]
      have e2 : lowI 32 = 32 := by decide
      rw [e2]
      unfold grp
      rw [if_pos rfl, grp_spW l []]
    · rw [if_neg h]
      have e : (b == 32) = false := by simpa using h
      rw [e, Bool.or_false]
      cases hk : kpI b with
      | true =>
        rw [if_pos rfl, if_pos rfl]
        conv => lhs; unfold grp
        rw [if_neg (fun e => h ((lowI_sp b).1 e)), grp_spW l _]
      | false =>
        rw [if_neg (by decide), if_neg (by decide)]
        exact grp_spW l cur
theorem strL_sub (s : ByteArray) (st i : Nat) : strL (((bytesL s).take i).drop st) = s.extract st i := by
  apply L_inj
  rw [L_strL, L_extract, bytesL_map, List.map_drop, List.map_take, List.map_map]
  have : ((fun n : Int => UInt8.ofNat n.toNat) ∘ fun b : UInt8 => (b.toNat : Int)) = id := by
    funext b; simp
  rw [this, List.map_id]
theorem bit1_pos (s : ByteArray) (st i : Nat) (h : st ≤ i) (hi : i ≤ s.size) : (if st < i then [s.extract st i] else []) = (bit1 (((bytesL s).take i).drop st)).map strL := by
  have hl := bytesL_len s
  unfold bit1
  by_cases c : st < i
  · have hne : ¬ ((bytesL s).take i).drop st = [] := fun e => by
      have := congrArg List.length e
      simp at this
      omega
    rw [if_pos c, if_neg hne, List.map_cons, List.map_nil, strL_sub]
  · have he : ((bytesL s).take i).drop st = [] := List.drop_eq_nil_of_le (by simp; omega)
    rw [if_neg c, if_pos he]; rfl
theorem kw_grp_l (s : ByteArray) : ∀ n i : Nat, i + n = s.size → ∀ st : Nat, st ≤ i → (∀ j, st ≤ j → j < i → (L s)[j]? ≠ some 32) → (wordsFrom s st).filter pos = (grp (((bytesL s).take i).drop st) ((bytesL s).drop i)).map strL
  | 0, i, h, st, h1, hn => by
    have hl := bytesL_len s
    rw [words_end s st fun j hj => by
      by_cases hj2 : j < i
      · exact hn j hj hj2
      · rw [List.getElem?_eq_none (by rw [L_size]; omega)]; exact fun h => by cases h]
    have e0 : (bytesL s).drop s.size = [] := List.drop_eq_nil_of_le (by omega)
    rw [fpos_one s st s.size (by omega) (Nat.le_refl _), List.filter_nil, List.append_nil, show i = s.size by omega, e0]
    exact bit1_pos s st s.size (by omega) (Nat.le_refl _)
  | n + 1, i, h, st, h1, hn => by
    have hl := bytesL_len s
    have hi : i < s.size := by omega
    have hib : i < (bytesL s).length := by omega
    rw [List.drop_eq_getElem_cons hib]
    unfold grp
    have hbt : (bytesL s)[i] = bt s i := (bt_bytes s i hib).symm
    by_cases c : bt s i = 32
    · have e1 : (bytesL s)[i] = 32 := hbt.trans c
      rw [words_hit s st i h1 hi ((bt_sp hi).1 c) hn, fpos_one s st i h1 (by omega), if_pos e1, List.map_append, bit1_pos s st i h1 (by omega)]
      congr 1
      have := kw_grp_l s n (i + 1) (by omega) (i + 1) (Nat.le_refl _) (fun j h1 h2 => by omega)
      have e2 : ((bytesL s).take (i + 1)).drop (i + 1) = [] := List.drop_eq_nil_of_le (by simp; omega)
      rw [this, e2]
    · rw [if_neg (by rw [hbt]; exact c)]
      have := kw_grp_l s n (i + 1) (by omega) st (by omega) (fun j h3 h4 => by
        rcases Nat.lt_or_ge j i with h5 | h5
        · exact hn j h3 h5
        · obtain rfl : j = i := by omega
          exact fun e => c ((bt_sp hi).2 e))
      rw [this, List.take_add_one, List.getElem?_eq_getElem hib, List.drop_append_of_le_length (by simp; omega)]
      rfl
theorem kw_grp (s : ByteArray) : kw s = (grp [] (bytesL s)).map strL := by
  have := kw_grp_l s s.size 0 (by omega) 0 (Nat.le_refl _) (fun j h1 h2 => by omega)
  rw [words_from] at this
  simpa [kw] using this
theorem bytes_str (ys : List Int) (h : ∀ y ∈ ys, 0 ≤ y ∧ y ≤ 255) : bytesL (strL ys) = ys := by
  rw [bytesL_map, L_strL, List.map_map]
  conv => rhs; rw [← List.map_id ys]
  refine List.map_congr_left fun y hy => ?_
  have := h y hy
  simp only [Function.comp, id]
  rw [UInt8.toNat_ofNat_of_lt' (show y.toNat < UInt8.size by have : UInt8.size = 256 := rfl; omega)]
  omega
theorem lowI_range {b : Int} (h : 0 ≤ b ∧ b ≤ 255) : 0 ≤ lowI b ∧ lowI b ≤ 255 := by
  unfold lowI
  cases h2 : decide (65 ≤ b) && decide (b ≤ 90) with
  | true =>
    simp only [Bool.and_eq_true, decide_eq_true_eq] at h2
    simp only [cond_true]; omega
  | false => simp only [cond_false]; exact h
theorem bytes_mem {s : ByteArray} {b : Int} (h : b ∈ bytesL s) : 0 ≤ b ∧ b ≤ 255 := by
  obtain ⟨i, hi, rfl⟩ := List.getElem_of_mem h
  exact bytes_range s i hi
/-- The text of what stays. -/
def plT (s : ByteArray) : ByteArray := strL (((bytesL s).map lowI).filter kpL)
theorem plT_words (s : ByteArray) : kw (plT s) = (spW [] (bytesL s)).map strL := by
  rw [kw_grp, ← grp_spW]
  unfold plT
  rw [bytes_str]
  intro y hy
  obtain ⟨b, hb, rfl⟩ := List.mem_map.1 (List.mem_filter.1 hy).1
  exact lowI_range (bytes_mem hb)
theorem plT_size (s : ByteArray) : (plT s).size ≤ s.size := by
  unfold plT
  rw [strL_size]
  refine Nat.le_trans (List.length_filter_le _ _) ?_
  rw [List.length_map, bytesL_len]
  exact Nat.le_refl _
end Go.Proofs.YtdbfalcfejhjfaaDoor
end
section
/- Plain laws: texts of an entry. -/
namespace Go.Proofs.YtdbfalcfejhjfaaDoor
open Go.Gx
set_option linter.unusedVariables false
set_option linter.unusedSimpArgs false

theorem edge_trim (s : ByteArray) (hs : s.size ≤ 1048576) : strings_Trim.F s ⟨#[32]⟩ = some ⟨(Lib.trimB (L s) 32).toArray⟩ := by
  unfold strings_Trim.F xTrim1
  rw [Nat.ble_eq_true_of_le (by omega)]
  rfl
theorem specText_l0 (s : ByteArray) (hs : s.size ≤ 1048576) : ∀ n i : Nat, i + n = s.size → Ev (fun k => spec_l4Text.l0 k s i) (if ((bytesL s).drop i).all (vis 32) = true then .inr s else .inl false)
  | 0, i, h => by
    refine Ev.step (fun k => by rw [spec_l4Text.l0]) ?_
    simp (disch := omega) only [cneg]
    rw [List.drop_eq_nil_of_le (by rw [bytesL_len]; omega)]
    exact Ev.pure _
  | n + 1, i, h => by
    have hl := bytesL_len s
    have hi : i < (bytesL s).length := by omega
    refine Ev.step (fun k => by rw [spec_l4Text.l0]) ?_
    simp (disch := omega) only [cpos, Int.toNat_natCast, bt_bytes s i hi]
    rw [all_bytes hi]
    unfold vis
    by_cases c1 : (bytesL s)[i] < 32
    · simp (disch := omega) only [cpos, dneg, Bool.false_and]; exact Ev.pure _
    · by_cases c2 : (bytesL s)[i] > 126
      · simp (disch := omega) only [cpos, cneg, dneg, Bool.and_false, Bool.false_and]; exact Ev.pure _
      · simp (disch := omega) only [cpos, cneg, dpos, Bool.and_self, Bool.true_and, wrap_in]
        exact specText_l0 s hs n (i + 1) (by omega)
theorem isPrint_l0 (s : ByteArray) (hs : s.size ≤ 1048576) : ∀ n i : Nat, i + n = s.size → Ev (fun k => impl_isPrintable.l0 k s i) (if ((bytesL s).drop i).all (vis 32) = true then .inr s else .inl false)
  | 0, i, h => by
    refine Ev.step (fun k => by rw [impl_isPrintable.l0]) ?_
    simp (disch := omega) only [cneg]
    rw [List.drop_eq_nil_of_le (by rw [bytesL_len]; omega)]
    exact Ev.pure _
  | n + 1, i, h => by
    have hl := bytesL_len s
    have hi : i < (bytesL s).length := by omega
    refine Ev.step (fun k => by rw [impl_isPrintable.l0]) ?_
    simp (disch := omega) only [cpos, Int.toNat_natCast, bt_bytes s i hi]
    rw [all_bytes hi]
    unfold vis
    by_cases c1 : (bytesL s)[i] < 32
    · simp (disch := omega) only [cpos, dneg, Bool.false_and]; exact Ev.pure _
    · by_cases c2 : (bytesL s)[i] > 126
      · simp (disch := omega) only [cpos, cneg, dneg, Bool.and_false, Bool.false_and]; exact Ev.pure _
      · simp (disch := omega) only [cpos, cneg, dpos, Bool.and_self, Bool.true_and, wrap_in]
        exact isPrint_l0 s hs n (i + 1) (by omega)
def textB (s : ByteArray) : Bool := decide (s.size ≤ 40) && ((bytesL s).all (vis 32) && edge s)
theorem specText_ev (s : ByteArray) : Ev (fun k => spec_l4Text.F k s) (textB s) := by
  unfold spec_l4Text.F textB
  by_cases c : (s.size : Int) > 40
  · simp (disch := omega) only [cpos, dneg, Bool.false_and]
    exact Ev.pure _
  · simp (disch := omega) only [cneg, dpos, Bool.true_and]
    have := specText_l0 s (by omega) s.size 0 (by omega)
    rw [List.drop_zero] at this
    cases h : (bytesL s).all (vis 32) with
    | false => rw [h] at this; exact Ev.bind this (Ev.pure _)
    | true =>
      rw [h] at this
      refine Ev.bind (a := .inr s) this ?_
      dsimp only
      have he : beqS s ⟨#[]⟩ = decide (s.size = 0) := by
        rw [← Bool.not_not (b := beqS s ⟨#[]⟩), size_pos]
        by_cases hz : s.size = 0
        · simp [hz]
        · rw [decide_eq_true (by omega : 0 < s.size), decide_eq_false hz]; rfl
      rw [he]
      unfold edge
      by_cases hz : s.size = 0
      · rw [decide_eq_true hz]; exact Ev.pure _
      · rw [decide_eq_false hz]
        simp (disch := omega) only [cond_false, cond_true, cpos, wrap_in]
        rw [show ((s.size : Int) - 1).toNat = s.size - 1 by omega, show (0 : Int).toNat = 0 from rfl, Bool.false_or, Bool.true_and]
        cases (bt s 0 != 32) with
        | true => exact Ev.pure _
        | false => exact Ev.pure _
theorem isText_ev (s : ByteArray) : Ev (fun k => impl_isText.F k s) (textB s) := by
  unfold impl_isText.F textB
  by_cases c : (s.size : Int) ≤ 40
  · simp (disch := omega) only [cpos, dpos, Bool.true_and]
    refine Ev.bind ?_ (Ev.pure _)
    unfold impl_isPrintable.F
    have := isPrint_l0 s (by omega) s.size 0 (by omega)
    rw [List.drop_zero] at this
    cases h : (bytesL s).all (vis 32) with
    | false => rw [h] at this; exact Ev.bind this (Ev.pure _)
    | true =>
      rw [h] at this
      refine Ev.bind (a := .inr s) this ?_
      dsimp only
      refine Ev.bind0 (edge_trim s (by omega)) ?_
      simp only [edge_eq, Bool.true_and]
      exact Ev.pure _
  · simp (disch := omega) only [cneg, dneg, Bool.false_and]
    exact Ev.pure _
end Go.Proofs.YtdbfalcfejhjfaaDoor
end
section
/- Plain laws: the distance of two texts, two ways. -/
namespace Go.Proofs.YtdbfalcfejhjfaaDoor
open Go.Gx
set_option linter.unusedVariables false
set_option linter.unusedSimpArgs false

/-! ### The words of the plain form -/
theorem dLower (b : Int) : impl_isLower.F b = some (decide (97 ≤ b) && decide (b ≤ 122)) := by
  unfold impl_isLower.F
  simp only [ge_iff_le]
  cases decide (97 ≤ b) <;> rfl
theorem dDigit (b : Int) : impl_isDigit.F b = some (decide (48 ≤ b) && decide (b ≤ 57)) := by
  unfold impl_isDigit.F
  simp only [ge_iff_le]
  cases decide (48 ≤ b) <;> rfl
theorem sDigit (b : Int) : spec_l6Digit.F b = some (decide (48 ≤ b) && decide (b ≤ 57)) := by
  unfold spec_l6Digit.F
  simp only [ge_iff_le]
  cases decide (48 ≤ b) <;> rfl
theorem roomT {n : Nat} (h : n ≤ 8388608) : room n .str = true := by
  unfold room
  rw [Nat.ble_eq]
  have : nb .str = 16 := rfl
  rw [this]; omega
theorem roomB {n : Nat} (h : n ≤ 8388608) : room n (.int .u8) = true := by
  unfold room
  rw [Nat.ble_eq]
  have : nb (.int .u8) = 1 := rfl
  rw [this]; omega
theorem roomI {n : Nat} (h : n ≤ 1000000000) : room n (.int .i64) = true := by
  unfold room
  rw [Nat.ble_eq]
  have : nb (.int .i64) = 8 := rfl
  rw [this]; omega
theorem simple_cut (s : ByteArray) (acc : List ByteArray) (cur : List Int) (i : Int) (h0 : 0 ≤ i) (h1 : i ≤ 1048576) (ha : acc.length ≤ 1048576) {r : List ByteArray} (ih : Ev (fun k => spec_l6Simple.l0 k s (acc ++ (bit1 cur).map strL) [] (i + 1)) r) :
    Ev (fun k => bif (decide ((cur.length : Int) > 0)) then (bif room (acc.length + ([(strL cur)] : List ByteArray).length) .str then (spec_l6Simple.l0 k s (acc ++ ([(strL cur)] : List ByteArray)) ([] : List Int) (IntKind.wrap .i64 (i + 1))) else none) else (spec_l6Simple.l0 k s acc ([] : List Int) (IntKind.wrap .i64 (i + 1)))) r := by
  by_cases c : cur = []
  · subst c
    have : ¬ (([] : List Int).length : Int) > 0 := by simp
    simp (disch := first | exact this | omega) only [cneg, wrap_in]
    unfold bit1 at ih
    rw [if_pos rfl, List.map_nil, List.append_nil] at ih
    exact ih
  · have : (cur.length : Int) > 0 := by
      have := List.length_pos_iff.2 c
      omega
    have hr : room (acc.length + ([strL cur] : List ByteArray).length) .str = true := roomT (by simp; omega)
    simp (disch := first | exact this | omega) only [cpos, hr, cond_true, wrap_in]
    unfold bit1 at ih
    rw [if_neg c] at ih
    exact ih
theorem simple_l0 (s : ByteArray) (hs : s.size ≤ 1048575) : ∀ n i : Nat, i + n = s.size → ∀ (acc : List ByteArray) (cur : List Int), acc.length ≤ i → cur.length ≤ i → Ev (fun k => spec_l6Simple.l0 k s acc cur i) (acc ++ (spW cur ((bytesL s).drop i)).map strL)
  | 0, i, h, acc, cur, ha, hc => by
    have hl := bytesL_len s
    have e0 : (bytesL s).drop i = [] := List.drop_eq_nil_of_le (by omega)
    refine Ev.step (fun k => by rw [spec_l6Simple.l0]) ?_
    rw [e0]
    simp (disch := omega) only [cpos, ceq]
    refine simple_cut s acc cur i (by omega) (by omega) (by omega) ?_
    refine Ev.step (fun k => by rw [spec_l6Simple.l0]) ?_
    simp (disch := omega) only [cneg]
    exact Ev.pure _
  | n + 1, i, h, acc, cur, ha, hc => by
    have hl := bytesL_len s
    have hi : i < (bytesL s).length := by omega
    refine Ev.step (fun k => by rw [spec_l6Simple.l0]) ?_
    rw [List.drop_eq_getElem_cons hi]
    simp (disch := omega) only [cpos, cne, Int.toNat_natCast, bt_bytes s i hi]
    by_cases c : (bytesL s)[i] = 32
    · simp (disch := first | exact c | omega) only [ceq]
      unfold spW
      rw [if_pos c, List.map_append, ← List.append_assoc]
      refine simple_cut s acc cur i (by omega) (by omega) (by omega) ?_
      exact simple_l0 s hs n (i + 1) (by omega) _ [] (by unfold bit1; split <;> simp <;> omega) (by simp)
    · simp (disch := first | exact c | omega) only [cne]
      conv => rhs; unfold spW
      rw [if_neg c]
      refine Ev.bind0 (specLetter_ev _) ?_
      have put : kpI (bytesL s)[i] = true → Ev (fun k => (spec_l6LowerByte.F (bytesL s)[i]).bind fun r2 => bif room (cur.length + ([r2] : List Int).length) (.int .u8) then (spec_l6Simple.l0 k s acc (cur ++ ([r2] : List Int)) (IntKind.wrap .i64 ((i : Int) + 1))) else none) (acc ++ (if kpI (bytesL s)[i] = true then spW (cur ++ [lowI (bytesL s)[i]]) ((bytesL s).drop (i + 1)) else spW cur ((bytesL s).drop (i + 1))).map strL) := fun hk => by
        rw [if_pos hk]
        refine Ev.bind0 (specLowerByte_ev _) ?_
        have hr : room (cur.length + ([lowI (bytesL s)[i]] : List Int).length) (.int .u8) = true := roomB (by simp; omega)
        simp (disch := omega) only [hr, cond_true, wrap_in]
        exact simple_l0 s hs n (i + 1) (by omega) acc _ (by omega) (by simp; omega)
      cases hlt : ltrI (bytesL s)[i] with
      | true =>
        simp only [cond_true]
        exact put (by unfold kpI; rw [hlt]; rfl)
      | false =>
        simp only [cond_false]
        refine Ev.bind0 (sDigit _) ?_
        cases hd : decide (48 ≤ (bytesL s)[i]) && decide ((bytesL s)[i] ≤ 57) with
        | true =>
          simp only [cond_true]
          exact put (by unfold kpI; rw [hlt, hd]; rfl)
        | false =>
          have hk : ¬ kpI (bytesL s)[i] = true := by unfold kpI; rw [hlt, hd]; decide
          rw [if_neg hk]
          simp (disch := omega) only [cond_false, wrap_in]
          exact simple_l0 s hs n (i + 1) (by omega) acc cur (by omega) (by omega)
theorem simple_ev (s : ByteArray) (hs : s.size ≤ 1048575) : Ev (fun k => spec_l6Simple.F k s) (kw (plT s)) := by
  unfold spec_l6Simple.F
  have := simple_l0 s hs s.size 0 (by omega) [] [] (Nat.le_refl _) (Nat.le_refl _)
  rw [List.drop_zero, List.nil_append, ← plT_words] at this
  exact Ev.bind this (Ev.pure _)
theorem pf_l0 (ys : List Int) (hl : ys.length ≤ 1048576) : ∀ n i : Nat, i + n = ys.length → ∀ acc : List Int, acc.length ≤ i → Ev (fun k => impl_plainForm.l0 k acc ys ys.length i) (acc ++ (ys.drop i).filter kpL)
  | 0, i, h, acc, ha => by
    refine Ev.step (fun k => by rw [impl_plainForm.l0]) ?_
    simp (disch := omega) only [cneg]
    rw [List.drop_eq_nil_of_le (by omega), List.filter_nil, List.append_nil]
    exact Ev.pure _
  | n + 1, i, h, acc, ha => by
    have hi : i < ys.length := by omega
    refine Ev.step (fun k => by rw [impl_plainForm.l0]) ?_
    rw [List.drop_eq_getElem_cons hi, List.filter_cons]
    simp (disch := omega) only [cpos, Int.toNat_natCast, getD_at hi]
    have hr : room (acc.length + ([ys[i]] : List Int).length) (.int .u8) = true := roomB (by simp; omega)
    have put : Ev (fun k => impl_plainForm.l0 k (acc ++ [ys[i]]) ys ys.length ((i : Int) + 1)) (acc ++ ys[i] :: (ys.drop (i + 1)).filter kpL) := by
      have := pf_l0 ys hl n (i + 1) (by omega) (acc ++ [ys[i]]) (by simp; omega)
      rw [List.append_assoc] at this
      exact this
    refine Ev.bind0 (dLower _) ?_
    cases h1 : decide (97 ≤ ys[i]) && decide (ys[i] ≤ 122) with
    | true =>
      have hk : kpL ys[i] = true := by unfold kpL; rw [h1]; rfl
      rw [if_pos hk]
      simp (disch := omega) only [cond_true, hr, wrap_in]
      exact put
    | false =>
      simp only [cond_false]
      refine Ev.bind0 (dDigit _) ?_
      cases h2 : decide (48 ≤ ys[i]) && decide (ys[i] ≤ 57) with
      | true =>
        have hk : kpL ys[i] = true := by unfold kpL; rw [h1, h2]; rfl
        rw [if_pos hk]
        simp (disch := omega) only [cond_true, hr, wrap_in]
        exact put
      | false =>
        by_cases c : ys[i] = 32
        · have hk : kpL ys[i] = true := by unfold kpL; rw [h1, h2, c]; rfl
          rw [if_pos hk]
          simp (disch := first | exact c | omega) only [cond_false, ceq, hr, cond_true, wrap_in]
          exact put
        · have hk : ¬ kpL ys[i] = true := by
            unfold kpL
            rw [h1, h2, show (ys[i] == 32) = false by simpa using c]; decide
          rw [if_neg hk]
          simp (disch := first | exact c | omega) only [cond_false, cne, wrap_in]
          exact pf_l0 ys hl n (i + 1) (by omega) acc (by omega)
theorem plain_ev (s : ByteArray) (hs : s.size ≤ 40) : ∃ t, Ev (fun k => spec_l20Plain.F k s) t ∧ Ev (fun k => impl_plainForm.F k s) t ∧ t.size ≤ 100000000 := by
  have hw := kw_small (plT s)
  have hl := kw_len (plT s)
  have hp := plT_size s
  obtain ⟨t, t1, t2, _, t3⟩ := join_ev (kw (plT s)) (fun x hx => by have := (hw x hx).2; omega) (by omega)
  have hlow := lowS_size s
  have eb : bytesL (lowS s) = (bytesL s).map lowI := by
    unfold lowS
    exact bytes_str _ fun y hy => by
      obtain ⟨b, hb, rfl⟩ := List.mem_map.1 hy
      exact lowI_range (bytes_mem hb)
  refine ⟨t, ?_, ?_, ?_⟩
  · unfold spec_l20Plain.F
    exact Ev.bind (simple_ev s (by omega)) (Ev.bind t1 (Ev.pure _))
  · unfold impl_plainForm.F
    refine Ev.bind (lower_ev s (by omega)) ?_
    simp (disch := omega) only [cble]
    have hlen : (bytesL (lowS s)).length ≤ 1048576 := by rw [bytesL_len]; omega
    have := pf_l0 (bytesL (lowS s)) hlen _ 0 (Nat.zero_add _) [] (Nat.le_refl _)
    rw [List.drop_zero, List.nil_append, eb] at this
    rw [eb]
    refine Ev.bind this (Ev.bind (a := kw (plT s)) (wordsOf_ev (plT s) (by omega)) (Ev.bind0 t2 (Ev.pure _)))
  · refine Nat.le_trans t3 ?_
    have : (kw (plT s)).length ≤ 41 := by omega
    calc 1048577 * (kw (plT s)).length ≤ 1048577 * 41 := Nat.mul_le_mul_left _ this
      _ ≤ 100000000 := by decide

/-! ### Rows of distances -/
def rowI (n : Nat) : List Int := (List.range n).map fun (j : Nat) => (j : Int)
theorem rowI_len (n : Nat) : (rowI n).length = n := by simp [rowI]
theorem rowI_next (n : Nat) : rowI n ++ [(n : Int)] = rowI (n + 1) := by
  unfold rowI
  rw [List.range_succ, List.map_append]; rfl
theorem rowI_get {n j : Nat} (h : j < n) : (rowI n).getD j 0 = j := by
  simp [rowI, List.getD, h]
theorem specRow (a b : ByteArray) (hb : b.size ≤ 100000000) : ∀ m i : Nat, i + m = b.size + 1 → Ev (fun k => spec_l20Edit.l0 k a b (rowI i) i) (a, b, rowI (b.size + 1))
  | 0, i, h => by
    refine Ev.step (fun k => by rw [spec_l20Edit.l0]) ?_
    simp (disch := omega) only [cneg]
    rw [show i = b.size + 1 by omega]
    exact Ev.pure _
  | m + 1, i, h => by
    refine Ev.step (fun k => by rw [spec_l20Edit.l0]) ?_
    have hr : room ((rowI i).length + ([(i : Int)] : List Int).length) (.int .i64) = true := roomI (by rw [rowI_len]; simp; omega)
    simp (disch := omega) only [cpos, hr, cond_true, wrap_in, rowI_next]
    exact specRow a b hb m (i + 1) (by omega)
theorem implRow (a b : ByteArray) (hb : b.size ≤ 100000000) : ∀ m i : Nat, i + m = b.size + 1 → Ev (fun k => impl_textDistance.l0 k a b (rowI i) ((b.size : Int) + 1) i) (a, b, rowI (b.size + 1))
  | 0, i, h => by
    refine Ev.step (fun k => by rw [impl_textDistance.l0]) ?_
    simp (disch := omega) only [cneg]
    rw [show i = b.size + 1 by omega]
    exact Ev.pure _
  | m + 1, i, h => by
    refine Ev.step (fun k => by rw [impl_textDistance.l0]) ?_
    have hr : room ((rowI i).length + ([(i : Int)] : List Int).length) (.int .i64) = true := roomI (by rw [rowI_len]; simp; omega)
    simp (disch := omega) only [cpos, hr, cond_true, wrap_in, rowI_next]
    exact implRow a b hb m (i + 1) (by omega)
theorem least_ev (a b : Int) : spec_l1Least.F a b = some (if a < b then a else b) := by
  unfold spec_l1Least.F
  by_cases c : a < b
  · simp (disch := omega) only [cpos]; rw [if_pos c]
  · simp (disch := omega) only [cneg]; rw [if_neg c]
def Bd (row : List Int) (n : Nat) (c : Int) : Prop := row.length = n ∧ ∀ j, j < n → 0 ≤ row.getD j 0 ∧ row.getD j 0 ≤ c
theorem bd_put {row : List Int} {n : Nat} {c x : Int} (h : Bd row n c) (h0 : 0 ≤ x) (h1 : x ≤ c) : Bd (row ++ [x]) (n + 1) c := by
  refine ⟨by simp [h.1], fun j hj => ?_⟩
  have hl := h.1
  by_cases c1 : j < n
  · have e : (row ++ [x]).getD j 0 = row.getD j 0 := by
      rw [List.getD_eq_getElem?_getD, List.getElem?_append_left (by omega), ← List.getD_eq_getElem?_getD]
    rw [e]; exact h.2 j c1
  · have e : (row ++ [x]).getD j 0 = x := by
      rw [List.getD_eq_getElem?_getD, List.getElem?_append_right (by omega), show j - row.length = 0 by omega]; rfl
    rw [e]; exact ⟨h0, h1⟩
theorem dp_l4 (a b : ByteArray) (hb : b.size ≤ 100000000) (row : List Int) (c : Int) (hc : 0 ≤ c) (hc2 : c ≤ 10000000000) (hrow : Bd row (b.size + 1) c) (i : Nat) (hi : 1 ≤ i) (hi2 : i ≤ a.size) (ha : a.size ≤ 4200000000) : ∀ m q : Nat, q + m = b.size + 1 → 1 ≤ q → ∀ nx : List Int, Bd nx q (c + 1) →
    ∃ r, Ev (fun k => spec_l20Edit.l4 k a b row i nx q) (a, b, (i : Int), r) ∧ Ev (fun k => impl_textDistance.l4 k a b row i nx q) (a, b, (i : Int), r) ∧ Bd r (b.size + 1) (c + 1)
  | 0, q, h, h1, nx, hn => by
    refine ⟨nx, Ev.step (fun k => by rw [spec_l20Edit.l4]) ?_, Ev.step (fun k => by rw [impl_textDistance.l4]) ?_, by rw [← h]; exact hn⟩
    · simp (disch := omega) only [cneg]; exact Ev.pure _
    · simp (disch := omega) only [cneg]; exact Ev.pure _
  | m + 1, q, h, h1, nx, hn => by
    have hrl := hrow.1
    have hnl := hn.1
    obtain ⟨p1, p2⟩ := hrow.2 q (by omega)
    obtain ⟨r1, r2⟩ := hrow.2 (q - 1) (by omega)
    obtain ⟨n1, n2⟩ := hn.2 (q - 1) (by omega)
    have eq1 : ((q : Int) - 1).toNat = q - 1 := by omega
    have ei1 : ((i : Int) - 1).toNat = i - 1 := by omega
    have hr : ∀ x : Int, room (nx.length + ([x] : List Int).length) (.int .i64) = true := fun x => roomI (by simp; omega)
    by_cases cb : bt a (i - 1) = bt b (q - 1)
    · obtain ⟨x, x1, x2, x3, x4⟩ : ∃ x : Int, (if (if row.getD q 0 < nx.getD (q - 1) 0 then row.getD q 0 else nx.getD (q - 1) 0) + 1 < row.getD (q - 1) 0 then (if row.getD q 0 < nx.getD (q - 1) 0 then row.getD q 0 else nx.getD (q - 1) 0) + 1 else row.getD (q - 1) 0) = x ∧
          (if row.getD (q - 1) 0 + 0 < (if nx.getD (q - 1) 0 + 1 < row.getD q 0 + 1 then nx.getD (q - 1) 0 + 1 else row.getD q 0 + 1) then row.getD (q - 1) 0 + 0 else (if nx.getD (q - 1) 0 + 1 < row.getD q 0 + 1 then nx.getD (q - 1) 0 + 1 else row.getD q 0 + 1)) = x ∧ 0 ≤ x ∧ x ≤ c + 1 := by
        refine ⟨_, rfl, ?_, ?_, ?_⟩
        · repeat' split
          all_goals omega
        · repeat' split
          all_goals omega
        · repeat' split
          all_goals omega
      obtain ⟨r, e1, e2, e3⟩ := dp_l4 a b hb row c hc hc2 hrow i hi hi2 ha m (q + 1) (by omega) (by omega) (nx ++ [x]) (bd_put hn x3 x4)
      refine ⟨r, Ev.step (fun k => by rw [spec_l20Edit.l4]) ?_, Ev.step (fun k => by rw [impl_textDistance.l4]) ?_, e3⟩
      · simp (disch := omega) only [cpos, Int.toNat_natCast, wrap_in, eq1]
        refine Ev.bind0 (least_ev _ _) ?_
        have b1 : 0 ≤ (if row.getD q 0 < nx.getD (q - 1) 0 then row.getD q 0 else nx.getD (q - 1) 0) ∧ (if row.getD q 0 < nx.getD (q - 1) 0 then row.getD q 0 else nx.getD (q - 1) 0) ≤ c + 1 := by split <;> omega
        simp (disch := first | exact cb | omega) only [cpos, Int.toNat_natCast, wrap_in, ei1, eq1, ceq]
        refine Ev.bind0 (least_ev _ _) ?_
        rw [x1]
        simp (disch := omega) only [hr, cond_true, wrap_in]
        exact e1
      · simp (disch := first | exact cb | omega) only [cpos, Int.toNat_natCast, wrap_in, ei1, eq1, ceq, x2, hr, cond_true]
        exact e2
    · obtain ⟨x, x1, x2, x3, x4⟩ : ∃ x : Int, (if (if row.getD q 0 < nx.getD (q - 1) 0 then row.getD q 0 else nx.getD (q - 1) 0) + 1 < row.getD (q - 1) 0 + 1 then (if row.getD q 0 < nx.getD (q - 1) 0 then row.getD q 0 else nx.getD (q - 1) 0) + 1 else row.getD (q - 1) 0 + 1) = x ∧
          (if row.getD (q - 1) 0 + 1 < (if nx.getD (q - 1) 0 + 1 < row.getD q 0 + 1 then nx.getD (q - 1) 0 + 1 else row.getD q 0 + 1) then row.getD (q - 1) 0 + 1 else (if nx.getD (q - 1) 0 + 1 < row.getD q 0 + 1 then nx.getD (q - 1) 0 + 1 else row.getD q 0 + 1)) = x ∧ 0 ≤ x ∧ x ≤ c + 1 := by
        refine ⟨_, rfl, ?_, ?_, ?_⟩
        · repeat' split
          all_goals omega
        · repeat' split
          all_goals omega
        · repeat' split
          all_goals omega
      obtain ⟨r, e1, e2, e3⟩ := dp_l4 a b hb row c hc hc2 hrow i hi hi2 ha m (q + 1) (by omega) (by omega) (nx ++ [x]) (bd_put hn x3 x4)
      refine ⟨r, Ev.step (fun k => by rw [spec_l20Edit.l4]) ?_, Ev.step (fun k => by rw [impl_textDistance.l4]) ?_, e3⟩
      · simp (disch := omega) only [cpos, Int.toNat_natCast, wrap_in, eq1]
        refine Ev.bind0 (least_ev _ _) ?_
        have b1 : 0 ≤ (if row.getD q 0 < nx.getD (q - 1) 0 then row.getD q 0 else nx.getD (q - 1) 0) ∧ (if row.getD q 0 < nx.getD (q - 1) 0 then row.getD q 0 else nx.getD (q - 1) 0) ≤ c + 1 := by split <;> omega
        simp (disch := first | exact cb | omega) only [cpos, Int.toNat_natCast, wrap_in, ei1, eq1, cne]
        refine Ev.bind0 (least_ev _ _) ?_
        rw [x1]
        simp (disch := omega) only [hr, cond_true, wrap_in]
        exact e1
      · simp (disch := first | exact cb | omega) only [cpos, Int.toNat_natCast, wrap_in, ei1, eq1, cne, x2, hr, cond_true]
        exact e2
theorem dp_l2 (a b : ByteArray) (hb : b.size ≤ 100000000) (ha : a.size ≤ 100000000) : ∀ m i : Nat, i + m = a.size + 1 → 1 ≤ i → ∀ row : List Int, Bd row (b.size + 1) ((b.size + i : Nat) : Int) →
    ∃ r, Ev (fun k => spec_l20Edit.l2 k a b row i) (b, r) ∧ Ev (fun k => impl_textDistance.l2 k a b row i) (b, r) ∧ r.length = b.size + 1 ∧ 0 ≤ r.getD b.size 0 ∧ r.getD b.size 0 ≤ 400000000
  | 0, i, h, h1, row, hr => by
    have := hr.2 b.size (by omega)
    refine ⟨row, Ev.step (fun k => by rw [spec_l20Edit.l2]) ?_, Ev.step (fun k => by rw [impl_textDistance.l2]) ?_, hr.1, this.1, by omega⟩
    · simp (disch := omega) only [cneg]; exact Ev.pure _
    · simp (disch := omega) only [cneg]; exact Ev.pure _
  | m + 1, i, h, h1, row, hr => by
    have hb1 : Bd [(i : Int)] 1 (((b.size + i : Nat) : Int) + 1) := ⟨rfl, fun j hj => by
      obtain rfl : j = 0 := by omega
      show 0 ≤ (i : Int) ∧ (i : Int) ≤ _
      omega⟩
    obtain ⟨nx, n1, n2, n3⟩ := dp_l4 a b hb row ((b.size + i : Nat) : Int) (by omega) (by omega) hr i h1 (by omega) (by omega) b.size 1 (by omega) (Nat.le_refl _) [(i : Int)] hb1
    obtain ⟨r, r1, r2, r3⟩ := dp_l2 a b hb ha m (i + 1) (by omega) (by omega) nx (by
      rw [show ((b.size + (i + 1) : Nat) : Int) = ((b.size + i : Nat) : Int) + 1 by omega]
      exact n3)
    refine ⟨r, Ev.step (fun k => by rw [spec_l20Edit.l2]) ?_, Ev.step (fun k => by rw [impl_textDistance.l2]) ?_, r3⟩
    · simp (disch := omega) only [cpos]
      refine Ev.bind n1 ?_
      simp (disch := omega) only [wrap_in]
      exact r1
    · simp (disch := omega) only [cpos]
      refine Ev.bind n2 ?_
      simp (disch := omega) only [wrap_in]
      exact r2
theorem dist_ev (s t : ByteArray) (hs : s.size ≤ 40) (ht : t.size ≤ 40) : ∃ d : Int, Ev (fun k => spec_l20Distance.F k s t) d ∧ Ev (fun k => impl_textDistance.F k s t) d ∧ 0 ≤ d := by
  obtain ⟨a, a1, a2, a3⟩ := plain_ev s hs
  obtain ⟨b, b1, b2, b3⟩ := plain_ev t ht
  have h0 : Bd (rowI (b.size + 1)) (b.size + 1) ((b.size + 1 : Nat) : Int) := ⟨rowI_len _, fun j hj => by rw [rowI_get hj]; omega⟩
  obtain ⟨r, r1, r2, r3, r4, r5⟩ := dp_l2 a b b3 a3 a.size 1 (by omega) (Nat.le_refl _) (rowI (b.size + 1)) h0
  refine ⟨r.getD b.size 0, ?_, ?_, r4⟩
  · unfold spec_l20Distance.F
    refine Ev.bind a1 (Ev.bind b1 (Ev.bind (a := r.getD b.size 0) ?_ (Ev.pure _)))
    unfold spec_l20Edit.F
    refine Ev.bind (specRow a b b3 (b.size + 1) 0 (by omega)) (Ev.bind r1 ?_)
    simp (disch := omega) only [cpos, Int.toNat_natCast]
    exact Ev.pure _
  · unfold impl_textDistance.F
    refine Ev.bind a2 (Ev.bind b2 ?_)
    simp (disch := omega) only [wrap_in]
    refine Ev.bind (implRow a b b3 (b.size + 1) 0 (by omega)) (Ev.bind r2 ?_)
    simp (disch := omega) only [cpos, Int.toNat_natCast]
    exact Ev.pure _
end Go.Proofs.YtdbfalcfejhjfaaDoor
end
section
/- The plain law of TextDistance. -/
namespace Go.Proofs.YtdbfalcfejhjfaaDoor
open Go.Gx
set_option linter.unusedVariables false
set_option linter.unusedSimpArgs false

theorem textB_size {s : ByteArray} (h : textB s = true) : s.size ≤ 40 := by
  unfold textB at h
  simp only [Bool.and_eq_true, decide_eq_true_eq] at h
  exact h.1
theorem textDistance_ev (s t : ByteArray) : ∃ r, Ev (fun k => spec_TextDistance.F k s t) r ∧ Ev (fun k => impl_TextDistance.F k s t) r := by
  have s1 := specText_ev s
  have s2 := isText_ev s
  have t1 := specText_ev t
  have t2 := isText_ev t
  unfold spec_TextDistance.F impl_TextDistance.F
  cases hs : textB s with
  | false =>
    rw [hs] at s1 s2
    exact ⟨_, Ev.bind s1 (Ev.pure _), Ev.bind s2 (Ev.pure _)⟩
  | true =>
    rw [hs] at s1 s2
    cases ht : textB t with
    | false =>
      rw [ht] at t1 t2
      exact ⟨_, Ev.bind s1 (Ev.bind t1 (Ev.pure _)), Ev.bind s2 (Ev.bind t2 (Ev.pure _))⟩
    | true =>
      rw [ht] at t1 t2
      obtain ⟨d, d1, d2, _⟩ := dist_ev s t (textB_size hs) (textB_size ht)
      exact ⟨_, Ev.bind s1 (Ev.bind t1 (Ev.bind d1 (Ev.pure _))), Ev.bind s2 (Ev.bind t2 (Ev.bind d2 (Ev.pure _)))⟩
theorem textDistance_law (s t : ByteArray) (hs : WF .str s) (ht : WF .str t) : ∃ k, laws_FnExactTextDistance.F k s t = some true := by
  refine Ev.get (?_ : Ev (fun k => laws_FnExactTextDistance.F k s t) true)
  unfold laws_FnExactTextDistance.F
  by_cases c0 : (s.size : Int) > 1048576
  · simp (disch := omega) only [cpos]
    exact Ev.pure _
  by_cases c1 : (t.size : Int) > 1048576
  · simp (disch := omega) only [cpos, cneg]
    exact Ev.pure _
  simp (disch := omega) only [cneg]
  obtain ⟨v, v1, v2⟩ := textDistance_ev s t
  refine Ev.bind v1 (Ev.bind v2 ?_)
  simp only [bne_self_eq_false, beq_self_eq_true, Bool.not_true, cond_false]
  exact Ev.pure _
end Go.Proofs.YtdbfalcfejhjfaaDoor
end
section
/- The law FnExactTextDistance returns true for every input, the listed package variables being as the program's text lays it: the card. -/
namespace Go.Proofs.YtdbfalcfejhjfaaDoor
open Go.Gx Go.RowKit Go.ChangeShapes Go.WideShapes Go.ChangeAt
set_option linter.unusedVariables false
theorem fnExactTextDistance_own : ownKnob Tryd.prog.godebug = none := by kernel_rfl
set_option maxRecDepth 100000 in
theorem fnExactTextDistance_contract (H : Type) (enc : TypeId × Value → H) (W : World) (base : Nat) (args : Array Value) (ds gs : List (DataW H)) (before : List MemPlace)
    (hval : ∀ (j : Nat) t v, Tryd.f3.params[j]? = some t → args[j]? = some v → Value.okWide Tryd.prog W .any base t v)
    (hW : DataW.Whole enc Tryd.prog Tryd.f3.params.toList Rows.fnExactTextDistanceSpec.vars false W args.toList ds gs before) (hsh : W.ShapedOpen Tryd.prog) :
    Calls Tryd.prog 3 args W fun e W' => ∃ v, e = .returned v ∧ Rows.fnExactTextDistanceSpec.post enc Tryd.prog Tryd.f3 false true false false W args v W' := by
  have hgs : gs = [] := by
    obtain ⟨p, q, _, hV, _⟩ := hW
    exact (trodVars_none hV).1
  subst hgs
  have hds : ∃ d1 d2, ds = [d1, d2] := by
    obtain ⟨p, q, hA, _⟩ := hW
    obtain ⟨_, _, d1, e0, _, _, _, rfl, _, _, h0⟩ := trodAll_cons hA
    obtain ⟨_, _, d2, e1, _, _, _, rfl, _, _, h1⟩ := trodAll_cons h0
    obtain ⟨_, rfl, _⟩ := trodAll_nil h1
    exact ⟨d1, d2, rfl⟩
  obtain ⟨d1, d2, rfl⟩ := hds
  have hgl : GlOk envX (Lt W) W := by
    refine ⟨fun g b h => (by cases h), fun g hg => ?_⟩
    have hg' : giT g = true := hg
    unfold giT at hg'
    split at hg'
    · obtain ⟨m, hm⟩ := cell_of_shapedOpen_int (P := Tryd.prog) (g := 2) (t := 3) (zero := #[.int .i64 0]) hsh (of_decide_eq_true (by kernel_rfl)) (by kernel_rfl) rfl (by kernel_rfl) (by kernel_rfl) (by kernel_rfl)
      exact ⟨World.block_lt_of_cell? _ _ hm, m, hm⟩
    · cases hg'
  refine law_contract (τs := [.str, .str]) (r := .t .bool true) envOk (by kernel_rfl) rfl (by kernel_rfl) (by kernel_rfl) rfl (by kernel_rfl) (by kernel_rfl) (fun t ht => ?_) rfl (fun x hx => by
      obtain ⟨k, hk⟩ := textDistance_law x.1 x.2.1 hx.1 hx.2.1
      exact laws_FnExactTextDistance.good envOk _ k _ _ hk) rfl hval hW hgl (fun q hq W' _ => ?_)
  · have : t ∈ [9, 9] := ht
    simp only [List.mem_cons, List.not_mem_nil, or_false] at this
    rcases this with rfl | rfl <;> exact ⟨by kernel_rfl, Nat.le_of_ble_eq_true (by kernel_rfl)⟩
  · obtain ⟨_, rfl⟩ := trodVars_none hq
    exact rfl
set_option maxRecDepth 100000 in
noncomputable def fnExactTextDistance_world (os : Os) : World :=
  { World.holding Tryd.prog os ⟨#[], #[], []⟩ with heap := (((World.holding Tryd.prog os ⟨#[], #[], []⟩).heap.modify 1 fun
      | .cells _ t frozen => .cells #[.int .u8 128, .int .u8 191, .int .u8 160, .int .u8 191, .int .u8 128, .int .u8 159, .int .u8 144, .int .u8 191, .int .u8 128, .int .u8 143, .int .u8 0, .int .u8 0, .int .u8 0, .int .u8 0, .int .u8 0, .int .u8 0, .int .u8 0, .int .u8 0, .int .u8 0, .int .u8 0, .int .u8 0, .int .u8 0, .int .u8 0, .int .u8 0, .int .u8 0, .int .u8 0, .int .u8 0, .int .u8 0, .int .u8 0, .int .u8 0, .int .u8 0, .int .u8 0] t frozen
      | o => o).modify 0 fun
      | .cells _ t frozen => .cells (Pinned.utf8FirstZ.map fun (n : Nat) => Value.int .u8 (n : Int)).toArray t frozen
      | o => o) }
theorem fnExactTextDistance_met (os : Os) : laidMet Tryd.prog Rows.fnExactTextDistanceRow.laid ((fnExactTextDistance_world os).forCall (fun _ _ => 0) ⟨#[], #[.string ⟨#[]⟩, .string ⟨#[]⟩], []⟩).memory :=
  laidMet_of_run' 8 (by kernel_rfl) (by kernel_rfl)
theorem fnExactTextDistance_reads (os : Os) {H : Type} (enc : TypeId × Value → H) : ∃ places, DataW.whole enc Tryd.prog ((fnExactTextDistance_world os).forCall (fun _ _ => 0) ⟨#[], #[.string ⟨#[]⟩, .string ⟨#[]⟩], []⟩).memory Tryd.f3.params.toList Rows.fnExactTextDistanceSpec.vars false #[.string ⟨#[]⟩, .string ⟨#[]⟩].toList 8 = some ([.lit (.string []), .lit (.string [])], [], places) :=
  ⟨[], by kernel_rfl⟩
set_option maxRecDepth 100000 in
theorem fnExactTextDistance_lifted (os : Os) (started : os.Started) (H : Type) (enc : TypeId × Value → H) (F : Stop.Interp) :
    ReturnsInHanded {} Tryd.checked os 3 .any ((OpenSpec.ofChange Rows.fnExactTextDistanceSpec).preRow enc Tryd.prog Tryd.f3 Rows.fnExactTextDistanceRow.domain false Rows.fnExactTextDistanceRow.laid) (((OpenSpec.ofChange Rows.fnExactTextDistanceSpec).at F).post enc Tryd.prog Tryd.f3 false true false false) := by
  obtain ⟨places, hx⟩ := fnExactTextDistance_reads os enc
  refine returnsInHanded_of_row (C := Tryd.checked) (s := OpenSpec.ofChange Rows.fnExactTextDistanceSpec) fnExactTextDistance_own started (by kernel_rfl) (by kernel_rfl)
    (witness_row_at (enc := enc) (C := Tryd.checked) false (fnExactTextDistance_world os) #[.string ⟨#[]⟩, .string ⟨#[]⟩] rfl (by kernel_rfl) (by kernel_rfl) (by kernel_rfl)
      (OpenSpec.preRow_of_cond 8 hx (by kernel_rfl) (fun k hk => by cases hk) (by kernel_rfl) (fnExactTextDistance_met os))) ?_
  intro W base args ds gs before hval hW _ _ _ _ hsh _
  exact fnExactTextDistance_contract H enc W base args ds gs before hval hW hsh
theorem fnExactTextDistance_said : Rows.FnExactTextDistanceSaid :=
  OpenClaim.holds_of_cond 3 Tryd.f3 rfl rfl rfl rfl rfl rfl rfl ⟨rfl, rfl, rfl, rfl, rfl⟩ rfl rfl rfl rfl rfl (by kernel_rfl) (by kernel_rfl) (by kernel_rfl)
    (of_decide_eq_true (by kernel_rfl)) (by unfold Func.isWrapper; first | (rw [if_pos (by decide +kernel)]; kernel_rfl) | (rw [if_neg (by decide +kernel)]; exact ⟨rfl, rfl⟩))
    (fun os started H enc _ F => by rw [OpenClaim.pre_eq_preRow]; exact fnExactTextDistance_lifted os started H enc F)
theorem fnExactTextDistance_plain (f : FuncId) (fn : Func) (hf : Tryd.pinned.checked.prog.funcNamed "loop.example/g00896/laws.FnExactTextDistance" = some f) (hfn : Tryd.pinned.checked.prog.funcs[f]? = some fn) :
    false = Tryd.pinned.checked.prog.looks [] ∧ ∀ (j : Nat) t, fn.params[j]? = some t → Tryd.pinned.checked.prog.wantsStandIn t = false := by
  obtain rfl : f = 3 := (Option.some.inj ((show Tryd.prog.funcNamed "loop.example/g00896/laws.FnExactTextDistance" = some 3 by kernel_rfl).symm.trans hf)).symm
  obtain rfl : fn = Tryd.f3 := (Option.some.inj ((show Tryd.prog.funcs[3]? = some Tryd.f3 by kernel_rfl).symm.trans hfn)).symm
  refine ⟨by kernel_rfl, fun j t ht => ?_⟩
  have ht' : t ∈ [9, 9] := by simpa using Array.mem_of_getElem? (show (#[9, 9] : Array Nat)[j]? = some t from ht)
  simp only [List.mem_cons, List.not_mem_nil, or_false] at ht'
  rcases ht' with rfl | rfl
  · exact (show Tryd.prog.wantsStandIn 9 = false by kernel_rfl)
  · exact (show Tryd.prog.wantsStandIn 9 = false by kernel_rfl)
theorem FnExactTextDistance_holds : Rows.FnExactTextDistanceCardSaid :=
  Claim7.holds_tied_plain_at .later [] _ _ _ _ fnExactTextDistance_said (fun _ h => by cases h) (by kernel_rfl) (fun _ h => by cases h) fnExactTextDistance_row_tie rfl ⟨rfl, rfl⟩ (by kernel_rfl) rfl fnExactTextDistance_plain (by kernel_rfl)
#print axioms FnExactTextDistance_holds
end Go.Proofs.YtdbfalcfejhjfaaDoor
end
