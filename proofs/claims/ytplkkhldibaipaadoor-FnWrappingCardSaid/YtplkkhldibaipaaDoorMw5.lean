/- The law FnWrapping returns true for every input, the listed package variables being as the program's text lays it: the card. -/
import Derived.Test.YtplkkhldibaipaaDoorMw3
import Derived.Shelf.Vars
import Derived.Below
import Derived.Lib.IndexMore
import Derived.Lib.Split
import Derived.Lib.SplitLaws
import Derived.Lib.Repeat
import Derived.Deep.Draws
import Derived.Lib.Join
import Derived.Lib.SlTrimSet
import Derived.Lib.IndexAny
import Derived.Lib.TrimByte
import Derived.Laws.AppendOwn
import Derived.Test.YtplkkhldibaipaaDoorMw4
import Derived.Test.YtplkkhldibaipaaDoorProg
import Derived.KernelRfl
import Derived.Lib.IndexBytes
import Derived.Lib.IndexLaws
import Derived.Lib.CountLaws
import Derived.Test.YtplkkhldibaipaaDoorCards
import Derived.Test.YtplkkhldibaipaaDoorTie
import Derived.WalkKit
import Derived.ProofKit
import Derived.OpenShut
import Derived.Deep.DeepHandedRow
import Derived.Lib.LaidTab
section
namespace Go.Gx
open Go.RowKit Go.Lib
set_option linter.unusedVariables false
theorem ext_goes {P : Program} {f : FuncId} {fn : Func} {c : Code} (hf : P.funcs[f]? = some fn) (hb : fn.body = some c) (hname : (fn.name == "runtime.NumGoroutine") = false) {args : Array Value} {w : World} {R : Value → World → Prop}
    (h : Calls P f args w fun e w' => ∃ v, e = .returned v ∧ R v w') : Goes P f args w R := by
  have hcall : (callFunc f args).run P w = .ok (.enter f args) w := by
    have hn' : fn.name ≠ "runtime.NumGoroutine" := by simpa using hname
    simp [callFunc, hf, hn', hb]
  unfold Goes
  rw [hcall]
  exact h
theorem args_nil {S : Nat → Prop} {w : World} {pv : Nat → Value} {vs : List Value} (h : ArgsOk S w pv [] vs) : vs = [] := List.eq_nil_of_length_eq_zero h.1
theorem args_cons {S : Nat → Prop} {w : World} {pv : Nat → Value} {a : AV} {al : List AV} {vs : List Value} (h : ArgsOk S w pv (a :: al) vs) : ∃ cs vs', AR S w (fun _ => none) (fun _ => none) pv a cs ∧ vs = valOf a cs :: vs' ∧ ArgsOk S w pv al vs' := by
  match vs, h with
  | [], h => cases h.1
  | v :: vs', ⟨h1, h2⟩ =>
    obtain ⟨cs, hc, rfl⟩ := h2 0 a v rfl rfl
    exact ⟨cs, vs', hc, rfl, by simpa using h1, fun i b u hb hu => h2 (i + 1) b u (by simpa using hb) (by simpa using hu)⟩
theorem args_str {S : Nat → Prop} {w : World} {pv : Nat → Value} {s : ByteArray} {al : List AV} {vs : List Value} (h : ArgsOk S w pv (.t .str s :: al) vs) : ∃ vs', vs = .string s :: vs' ∧ ArgsOk S w pv al vs' := by
  obtain ⟨cs, vs', hc, rfl, h'⟩ := args_cons h
  cases hc with | t _ _ _ hc => cases hc; exact ⟨vs', rfl, h'⟩
theorem args_int {S : Nat → Prop} {w : World} {pv : Nat → Value} {k : IntKind} {n : Int} {al : List AV} {vs : List Value} (h : ArgsOk S w pv (.t (.int k) n :: al) vs) : ∃ vs', vs = .int k n :: vs' ∧ ArgsOk S w pv al vs' := by
  obtain ⟨cs, vs', hc, rfl, h'⟩ := args_cons h
  cases hc with | t _ _ _ hc => cases hc; exact ⟨vs', rfl, h'⟩
section
variable {P : Program} {E : Env} {pv : Nat → Value} {f : FuncId} {fn : Func} {c : Code}
/-- An answer that leads nowhere. -/
theorem ext_flat (hf : P.funcs[f]? = some fn) (hb : fn.body = some c) (hname : (fn.name == "runtime.NumGoroutine") = false) {args : List AV} {τ : Ty} {y : den τ} {v : Value} (hy : ∀ S w, ∃ cs, CR S w τ y cs ∧ v = valOf (.t τ y) cs)
    (h : ∀ S w vs, (∀ b, S b → b < w.heap.size) → GlOk E S w → ArgsOk S w pv args vs → Calls P f vs.toArray w fun e w' => e = .returned v ∧ Below w.heap.size w w') : Meets P E pv (.f f) args (.t τ y) := by
  intro S w vs hS hgl hargs
  refine ext_goes hf hb hname ((h S w vs hS hgl hargs).mono fun e w' ⟨he, hbl⟩ => ⟨v, he, hbl, S, fun b hb => hb, fun b hb => .inl hb, ?_⟩)
  obtain ⟨cs, hc, rfl⟩ := hy S w'
  exact ⟨none, .plain _ _ (.t _ _ _ hc)⟩
/-- New texts in a block of their own. -/
theorem ext_strs (hf : P.funcs[f]? = some fn) (hb : fn.body = some c) (hname : (fn.name == "runtime.NumGoroutine") = false) {args : List AV} {te : Nat} {xs : List ByteArray} (hx : xs.length ≤ maxLen)
    (h : ∀ S w vs, (∀ b, S b → b < w.heap.size) → GlOk E S w → ArgsOk S w pv args vs → Calls P f vs.toArray w fun e w' => e = .returned (.slice (some ⟨w.heap.size, 0, none⟩) xs.length xs.length) ∧ w' = w.alloc (.cells (xs.map Value.string).toArray te)) : Meets P E pv (.f f) args (.fr te .str xs) := by
  intro S w vs hS hgl hargs
  refine ext_goes hf hb hname ((h S w vs hS hgl hargs).mono fun e w' ⟨he, hw⟩ => ⟨_, he, ?_⟩)
  subst hw
  refine ⟨(Below.refl _ w).alloc (Nat.le_refl _) _, S, fun b hb => hb, fun b hb => .inl hb, some w.heap.size, .fr te .str xs w.heap.size xs.length (Nat.le_refl _) (fun hs => absurd (hS _ hs) (Nat.lt_irrefl _)) ⟨(xs.map Value.string).toArray, (0, 0), ?_, ?_, Nat.le_refl _, hx, fun _ => rfl, .inl (Nat.le_refl _), by decide, fun i hi => ⟨[.string xs[i]], .str _, fun j v hj => ?_⟩⟩⟩
  · show (w.heap.push _)[w.heap.size]? = _
    simp
  · simp [nc]
  · cases j with
    | zero =>
      simp only [List.getElem?_cons_zero, Option.some.injEq] at hj
      subst hj
      simp [nc, hi]
    | succ j => simp at hj
end
/-! ### The functions -/
def xContains (s sub : ByteArray) : Option Bool := bif Nat.ble s.size 4294967280 then some (Lib.contains s.data.toList sub.data.toList) else none
theorem ext_contains {P : Program} {E : Env} {pv : Nat → Value} {f : FuncId} {fn : Func} {c : Code} (hf : P.funcs[f]? = some fn) (hb : fn.body = some c) (hname : (fn.name == "runtime.NumGoroutine") = false) {mx : Nat} (hmx : E.gi mx = true)
    (hc : ∀ (s sub : ByteArray) (m : Int) (w : World), s.size < 4294967281 → w.cell? ⟨mx, 0, none⟩ = some (.int .i64 m) → Calls P f #[.string s, .string sub] w fun e w' => e = .returned (.bool (Lib.contains s.data.toList sub.data.toList)) ∧ w' = w)
    {s sub : ByteArray} {y : Bool} (h : xContains s sub = some y) : Meets P E pv (.f f) (tvals [.str, .str] (s, sub, ())) (.t .bool y) := by
  unfold xContains at h
  cases hs : Nat.ble s.size 4294967280 with
  | false => rw [hs] at h; cases h
  | true =>
    rw [hs] at h
    cases h
    refine ext_flat hf hb hname (v := .bool _) (fun S w => ⟨_, .bool _, rfl⟩) fun S w vs hS hgl ha => ?_
    obtain ⟨_, rfl, ha1⟩ := args_str ha
    obtain ⟨_, rfl, ha2⟩ := args_str ha1
    obtain rfl := args_nil ha2
    obtain ⟨_, m, hm⟩ := hgl.2 mx hmx
    refine (hc s sub m w (Nat.lt_succ_of_le (Nat.le_of_ble_eq_true hs)) hm).mono fun e w' ⟨he, hw⟩ => ⟨he, ?_⟩
    subst hw
    exact Below.refl _ _
def xSplit (s sep : ByteArray) : Option (List ByteArray) := bif Nat.ble s.size 4294967280 && Nat.ble 1 sep.size then some (Lib.splitB sep 0 (Lib.countB s sep) s) else none
theorem ext_split {P : Program} {E : Env} {pv : Nat → Value} {f : FuncId} {fn : Func} {c : Code} (hf : P.funcs[f]? = some fn) (hb : fn.body = some c) (hname : (fn.name == "runtime.NumGoroutine") = false) {mx : Nat} (hmx : E.gi mx = true) {te : Nat}
    (hc : ∀ (s sep : ByteArray) (m : Int) (w : World), s.size < 4294967281 → w.cell? ⟨mx, 0, none⟩ = some (.int .i64 m) → 1 ≤ sep.size → Calls P f #[.string s, .string sep] w fun e w' =>
      e = .returned (.slice (some ⟨w.heap.size, 0, none⟩) (Lib.countB s sep + 1) (Lib.countB s sep + 1)) ∧ w' = w.alloc (.cells ((Lib.splitB sep 0 (Lib.countB s sep) s).map Value.string).toArray te))
    {s sep : ByteArray} {y : List ByteArray} (h : xSplit s sep = some y) : Meets P E pv (.f f) (tvals [.str, .str] (s, sep, ())) (.fr te .str y) := by
  unfold xSplit at h
  cases hs : Nat.ble s.size 4294967280 && Nat.ble 1 sep.size with
  | false => rw [hs] at h; cases h
  | true =>
    rw [hs] at h
    cases h
    rw [Bool.and_eq_true] at hs
    have h1 := Nat.le_of_ble_eq_true hs.1
    have h2 := Nat.le_of_ble_eq_true hs.2
    have hl := Lib.splitB_all sep h2 0 _ s rfl
    have hle := Lib.countB_le sep h2 s.size s (Nat.le_refl _)
    have hm : maxLen = 9223372036854775807 := by decide
    refine ext_strs hf hb hname (by rw [hl, hm]; omega) fun S w vs hS hgl ha => ?_
    obtain ⟨_, rfl, ha1⟩ := args_str ha
    obtain ⟨_, rfl, ha2⟩ := args_str ha1
    obtain rfl := args_nil ha2
    obtain ⟨_, m, hm⟩ := hgl.2 mx hmx
    rw [hl]
    exact hc s sep m w (by omega) hm h2
def xRepeat (s : ByteArray) (n : Int) : Option ByteArray := bif decide (0 ≤ n) && (decide (n ≤ 9223372036854775807) && Nat.ble (s.size * n.toNat) 140737488355328) then some ⟨(Lib.repeatL s.data.toList n.toNat).toArray⟩ else none
theorem ext_repeat {P : Program} {E : Env} {pv : Nat → Value} {f : FuncId} {fn : Func} {c : Code} (hf : P.funcs[f]? = some fn) (hb : fn.body = some c) (hname : (fn.name == "runtime.NumGoroutine") = false)
    (hc : ∀ (s : ByteArray) (c : Nat) (w : World), c ≤ 9223372036854775807 → s.size * c ≤ 140737488355328 → Calls P f #[.string s, .int .i64 c] w fun e w' => e = .returned (.string ⟨(Lib.repeatL s.data.toList c).toArray⟩) ∧ Below w.heap.size w w')
    {s : ByteArray} {n : Int} {y : ByteArray} (h : xRepeat s n = some y) : Meets P E pv (.f f) (tvals [.str, .int .i64] (s, n, ())) (.t .str y) := by
  unfold xRepeat at h
  cases hs : decide (0 ≤ n) && (decide (n ≤ 9223372036854775807) && Nat.ble (s.size * n.toNat) 140737488355328) with
  | false => rw [hs] at h; cases h
  | true =>
    rw [hs] at h
    cases h
    simp only [Bool.and_eq_true, decide_eq_true_eq] at hs
    refine ext_flat hf hb hname (v := .string _) (fun S w => ⟨_, .str _, rfl⟩) fun S w vs hS hgl ha => ?_
    obtain ⟨_, rfl, ha1⟩ := args_str ha
    obtain ⟨_, rfl, ha2⟩ := args_int ha1
    obtain rfl := args_nil ha2
    have e : n = (n.toNat : Int) := by omega
    have := hc s n.toNat w (by omega) (Nat.le_of_ble_eq_true hs.2.2)
    rw [← e] at this
    exact this
def ascii (s : ByteArray) : Bool := s.data.toList.all fun b => decide (b.toNat < 128)
theorem ascii_at {s : ByteArray} (h : ascii s = true) : ∀ (j : Nat) b, s.data.toList[j]? = some b → b.toNat < 128 := fun j b hj => by
  unfold ascii at h
  rw [List.all_eq_true] at h
  exact of_decide_eq_true (h b (List.mem_of_getElem? hj))
def xTrim (s cs : ByteArray) : Option ByteArray := bif Nat.ble s.size 9223372036854775807 && (Nat.ble cs.size 4294967280 && ascii cs) then some ⟨(Lib.trimS s.data.toList cs.data.toList).toArray⟩ else none
theorem ext_trim {P : Program} {E : Env} {pv : Nat → Value} {f : FuncId} {fn : Func} {c : Code} (hf : P.funcs[f]? = some fn) (hb : fn.body = some c) (hname : (fn.name == "runtime.NumGoroutine") = false)
    (hc : ∀ (s cs : ByteArray) (w : World), s.size ≤ 9223372036854775807 → cs.size < 4294967281 → (∀ (j : Nat) b, cs.data.toList[j]? = some b → b.toNat < 128) → Calls P f #[.string s, .string cs] w fun e w' => e = .returned (.string ⟨(Lib.trimS s.data.toList cs.data.toList).toArray⟩) ∧ Below w.heap.size w w')
    {s cs : ByteArray} {y : ByteArray} (h : xTrim s cs = some y) : Meets P E pv (.f f) (tvals [.str, .str] (s, cs, ())) (.t .str y) := by
  unfold xTrim at h
  cases hs : Nat.ble s.size 9223372036854775807 && (Nat.ble cs.size 4294967280 && ascii cs) with
  | false => rw [hs] at h; cases h
  | true =>
    rw [hs] at h
    cases h
    simp only [Bool.and_eq_true] at hs
    refine ext_flat hf hb hname (v := .string _) (fun S w => ⟨_, .str _, rfl⟩) fun S w vs hS hgl ha => ?_
    obtain ⟨_, rfl, ha1⟩ := args_str ha
    obtain ⟨_, rfl, ha2⟩ := args_str ha1
    obtain rfl := args_nil ha2
    exact hc s cs w (Nat.le_of_ble_eq_true hs.1) (Nat.lt_succ_of_le (Nat.le_of_ble_eq_true hs.2.1)) (ascii_at hs.2.2)
def xIndexAny (s cs : ByteArray) : Option Int := bif Nat.ble s.size 4294967280 && (Nat.ble cs.size 4294967280 && (ascii s && ascii cs)) then some (Lib.indexAny s.data.toList cs.data.toList) else none
theorem ext_indexAny {P : Program} {E : Env} {pv : Nat → Value} {f : FuncId} {fn : Func} {c : Code} (hf : P.funcs[f]? = some fn) (hb : fn.body = some c) (hname : (fn.name == "runtime.NumGoroutine") = false)
    (hc : ∀ (s cs : ByteArray) (w : World), s.size < 4294967281 → cs.size < 4294967281 → (∀ (j : Nat) b, s.data.toList[j]? = some b → b.toNat < 128) → (∀ (j : Nat) b, cs.data.toList[j]? = some b → b.toNat < 128) → Calls P f #[.string s, .string cs] w fun e w' => e = .returned (.int .i64 (Lib.indexAny s.data.toList cs.data.toList)) ∧ Below w.heap.size w w')
    {s cs : ByteArray} {y : Int} (h : xIndexAny s cs = some y) : Meets P E pv (.f f) (tvals [.str, .str] (s, cs, ())) (.t (.int .i64) y) := by
  unfold xIndexAny at h
  cases hs : Nat.ble s.size 4294967280 && (Nat.ble cs.size 4294967280 && (ascii s && ascii cs)) with
  | false => rw [hs] at h; cases h
  | true =>
    rw [hs] at h
    cases h
    simp only [Bool.and_eq_true] at hs
    refine ext_flat hf hb hname (v := .int .i64 _) (fun S w => ⟨_, .int _ _, rfl⟩) fun S w vs hS hgl ha => ?_
    obtain ⟨_, rfl, ha1⟩ := args_str ha
    obtain ⟨_, rfl, ha2⟩ := args_str ha1
    obtain rfl := args_nil ha2
    exact hc s cs w (Nat.lt_succ_of_le (Nat.le_of_ble_eq_true hs.1)) (Nat.lt_succ_of_le (Nat.le_of_ble_eq_true hs.2.1)) (ascii_at hs.2.2.1) (ascii_at hs.2.2.2)
/-- The pieces before and behind, and whether there is one. -/
def xCut (s sep : ByteArray) : Option (ByteArray × ByteArray × Bool) := bif Nat.ble s.size 4294967280 then some (⟨(Lib.cut s.data.toList sep.data.toList).1.toArray⟩, ⟨(Lib.cut s.data.toList sep.data.toList).2.1.toArray⟩, (Lib.cut s.data.toList sep.data.toList).2.2) else none
theorem drewN_below (w : World) (n : Nat) : Below w.heap.size w (w.drewN n) := ⟨rfl, rfl, rfl, Nat.le_refl _, fun _ _ => rfl⟩
theorem ext_cut {P : Program} {E : Env} {pv : Nat → Value} {f : FuncId} {fn : Func} {c : Code} (hf : P.funcs[f]? = some fn) (hb : fn.body = some c) (hname : (fn.name == "runtime.NumGoroutine") = false) {mx : Nat} (hmx : E.gi mx = true)
    (hc : ∀ (s sep : ByteArray) (m : Int) (w : World), s.size < 4294967281 → w.cell? ⟨mx, 0, none⟩ = some (.int .i64 m) → Calls P f #[.string s, .string sep] w fun e w' =>
      e = .returned (.tuple #[.string ⟨(Lib.cut s.data.toList sep.data.toList).1.toArray⟩, .string ⟨(Lib.cut s.data.toList sep.data.toList).2.1.toArray⟩, .bool (Lib.cut s.data.toList sep.data.toList).2.2]) ∧ ∃ n, w' = w.drewN n)
    {s sep : ByteArray} {y : ByteArray × ByteArray × Bool} (h : xCut s sep = some y) : Meets P E pv (.f f) (tvals [.str, .str] (s, sep, ())) (.tup [.t .str y.1, .t .str y.2.1, .t .bool y.2.2]) := by
  unfold xCut at h
  cases hs : Nat.ble s.size 4294967280 with
  | false => rw [hs] at h; cases h
  | true =>
    rw [hs] at h
    cases h
    intro S w vs hS hgl ha
    obtain ⟨_, rfl, ha1⟩ := args_str ha
    obtain ⟨_, rfl, ha2⟩ := args_str ha1
    obtain rfl := args_nil ha2
    obtain ⟨_, m, hm⟩ := hgl.2 mx hmx
    refine ext_goes hf hb hname ((hc s sep m w (Nat.lt_succ_of_le (Nat.le_of_ble_eq_true hs)) hm).mono fun e w' ⟨he, n, hw⟩ => ⟨_, he, hw ▸ drewN_below w n, S, fun b hb => hb, fun b hb => .inl hb, ?_⟩)
    refine ⟨[.string _, .string _, .bool _], [none, none, none], rfl, rfl, rfl, fun i r v g h1 h2 h3 => ?_, fun i j g hne h1 => ?_⟩
    · match i, h1, h2, h3 with
      | 0, h1, h2, h3 => cases h1; cases h2; cases h3; exact .plain _ _ (.t _ _ _ (.str _))
      | 1, h1, h2, h3 => cases h1; cases h2; cases h3; exact .plain _ _ (.t _ _ _ (.str _))
      | 2, h1, h2, h3 => cases h1; cases h2; cases h3; exact .plain _ _ (.t _ _ _ (.bool _))
      | n + 3, h1, _, _ => simp at h1
    · match i, h1 with
      | 0, h1 => cases h1
      | 1, h1 => cases h1
      | 2, h1 => cases h1
      | n + 3, h1 => simp at h1
def xJoin (xs : List ByteArray) (sep : ByteArray) : Option ByteArray := bif Nat.ble xs.length 140737488355328 && Nat.ble (Lib.join (xs.map (·.data.toList)) sep.data.toList).length 140737488355328 then some ⟨(Lib.join (xs.map (·.data.toList)) sep.data.toList).toArray⟩ else none
theorem ext_join {P : Program} {E : Env} {pv : Nat → Value} {f : FuncId} {fn : Func} {c : Code} (hf : P.funcs[f]? = some fn) (hb : fn.body = some c) (hname : (fn.name == "runtime.NumGoroutine") = false)
    (hc0 : ∀ (a : Option Addr) (c : Nat) (sep : ByteArray) (w : World), Calls P f #[.slice a 0 c, .string sep] w fun e w' => e = .returned (.string ⟨#[]⟩) ∧ w' = w)
    (hc : ∀ (bk o c : Nat) (xs : List ByteArray) (sep : ByteArray) (w : World), (∀ (j : Nat) x, xs[j]? = some x → w.cell? ⟨bk, o + j, none⟩ = some (.string x)) → bk < w.heap.size → xs.length ≤ 140737488355328 → xs.length ≤ c →
      (Lib.join (xs.map (·.data.toList)) sep.data.toList).length ≤ 140737488355328 → Calls P f #[.slice (some ⟨bk, o, none⟩) xs.length c, .string sep] w fun e w' => e = .returned (.string ⟨(Lib.join (xs.map (·.data.toList)) sep.data.toList).toArray⟩) ∧ Below w.heap.size w w')
    {xs : List ByteArray} {sep : ByteArray} {y : ByteArray} (h : xJoin xs sep = some y) : Meets P E pv (.f f) (tvals [.sl .str, .str] (xs, sep, ())) (.t .str y) := by
  unfold xJoin at h
  cases hs : Nat.ble xs.length 140737488355328 && Nat.ble (Lib.join (xs.map (·.data.toList)) sep.data.toList).length 140737488355328 with
  | false => rw [hs] at h; cases h
  | true =>
    rw [hs] at h
    cases h
    rw [Bool.and_eq_true] at hs
    refine ext_flat hf hb hname (v := .string _) (fun S w => ⟨_, .str _, rfl⟩) fun S w vs hS hgl ha => ?_
    obtain ⟨cs, _, hcr, rfl, ha1⟩ := args_cons ha
    obtain ⟨_, rfl, ha2⟩ := args_str ha1
    obtain rfl := args_nil ha2
    cases hcr with
    | t _ _ _ hcr =>
      cases hcr with
      | sl e xs A c cv hle hm h1 h2 =>
        match xs, A, hle, h1, h2, hs with
        | [], A, _, _, _, _ => exact (hc0 A c sep w).mono fun e w' ⟨he, hw⟩ => ⟨he, hw ▸ Below.refl _ _⟩
        | x :: l, A, hle, h1, h2, hs =>
          obtain ⟨g, o, rfl, hg, _⟩ := h2 0 (Nat.succ_pos _)
          refine hc g o c (x :: l) sep w (fun j z hj => ?_) (hS g hg) (Nat.le_of_ble_eq_true hs.1) hle (Nat.le_of_ble_eq_true hs.2)
          obtain ⟨hj', hz⟩ := List.getElem?_eq_some_iff.1 hj
          obtain ⟨g', o', e', _, hcell⟩ := h2 j hj'
          cases e'
          have hcv := h1 j hj'
          rw [hz] at hcv
          have hq : ∀ q, CR S w .str z q → q[0]? = some (.string z) := fun q hq => by cases hq; rfl
          have := hcell 0 (.string z) (hq _ hcv)
          simpa [nc] using this
def xTrim1 (s cs : ByteArray) : Option ByteArray := match cs with
  | ⟨⟨[c]⟩⟩ => bif Nat.ble s.size 9223372036854775807 && Nat.blt c.toNat 128 then some ⟨(Lib.trimB s.data.toList c).toArray⟩ else none
  | _ => none
theorem ext_trim1 {P : Program} {E : Env} {pv : Nat → Value} {f : FuncId} {fn : Func} {c : Code} (hf : P.funcs[f]? = some fn) (hb : fn.body = some c) (hname : (fn.name == "runtime.NumGoroutine") = false)
    (hc : ∀ (s : ByteArray) (c : UInt8), c.toNat < 128 → ∀ (w : World), s.size ≤ 9223372036854775807 → Calls P f #[.string s, .string ⟨#[c]⟩] w fun e w' => e = .returned (.string ⟨(Lib.trimB s.data.toList c).toArray⟩) ∧ (w' = w ∨ w' = w.drew))
    {s cs : ByteArray} {y : ByteArray} (h : xTrim1 s cs = some y) : Meets P E pv (.f f) (tvals [.str, .str] (s, cs, ())) (.t .str y) := by
  unfold xTrim1 at h
  split at h
  · rename_i c0
    cases hs : Nat.ble s.size 9223372036854775807 && Nat.blt c0.toNat 128 with
    | false => rw [hs] at h; cases h
    | true =>
      rw [hs] at h
      cases h
      rw [Bool.and_eq_true] at hs
      refine ext_flat hf hb hname (v := .string _) (fun S w => ⟨_, .str _, rfl⟩) fun S w vs hS hgl ha => ?_
      obtain ⟨_, rfl, ha1⟩ := args_str ha
      obtain ⟨_, rfl, ha2⟩ := args_str ha1
      obtain rfl := args_nil ha2
      refine (hc s c0 (Nat.le_of_ble_eq_true hs.2) w (Nat.le_of_ble_eq_true hs.1)).mono fun e w' ⟨he, hw⟩ => ⟨he, ?_⟩
      rcases hw with rfl | rfl
      · exact Below.refl _ _
      · exact (Below.refl _ _).drew
  · cases h
def xClone (xs : List ByteArray) : Option (List ByteArray) := bif Nat.ble (xs.length * 16) 140737488355328 then some xs else none
theorem ext_clone {P : Program} {E : Env} {pv : Nat → Value} {f : FuncId} {fn : Func} {c : Code} (hf : P.funcs[f]? = some fn) (hb : fn.body = some c) (hname : (fn.name == "runtime.NumGoroutine") = false) {te : Nat}
    (hc : ∀ (b off n c : Nat) (zs : List ByteArray) (w : World), n ≤ zs.length → n * 16 ≤ 140737488355328 → (∀ j, j < zs.length → w.cell? ⟨b, off + j, none⟩ = some (.string (zs.getD j ByteArray.empty))) →
      Calls P f #[.slice (some ⟨b, off, none⟩) n c] w fun e w' => ∃ v', e = .returned v' ∧ w'.ownsRow w.heap.size te 1 v' n ((zs.take n).map Value.string) ∧ v' ≠ .slice none 0 0 ∧ Below w.heap.size w w')
    (hcn : ∀ (n c : Nat) (w : World), Calls P f #[.slice none n c] w fun e w' => e = .returned (.slice none 0 0) ∧ w' = w)
    (hcz : ∀ (a : Addr) (c : Nat) (w : World), Calls P f #[.slice (some a) 0 c] w fun e w' => ∃ v', e = .returned v' ∧ w'.ownsRow w.heap.size te 1 v' 0 [] ∧ v' ≠ .slice none 0 0 ∧ Below w.heap.size w w')
    {xs : List ByteArray} {y : List ByteArray} (h : xClone xs = some y) : Meets P E pv (.f f) (tvals [.sl .str] (xs, ())) (.fr te .str y) := by
  have hc0 : ∀ (A : Option Addr) (c : Nat) (w : World), Calls P f #[.slice A 0 c] w fun e w' => ∃ v', e = .returned v' ∧ w'.ownsRow w.heap.size te 1 v' 0 [] ∧ Below w.heap.size w w' := fun A c w => by
    cases A with
    | none => exact (hcn 0 c w).mono fun e w' ⟨he, hw⟩ => ⟨_, he, ⟨rfl, .inl ⟨rfl, rfl⟩⟩, hw ▸ Below.refl _ _⟩
    | some a => exact (hcz a c w).mono fun e w' ⟨v, he, ho, _, hb⟩ => ⟨v, he, ho, hb⟩
  unfold xClone at h
  cases hs : Nat.ble (xs.length * 16) 140737488355328 with
  | false => rw [hs] at h; cases h
  | true =>
    rw [hs] at h
    cases h
    have hs := Nat.le_of_ble_eq_true hs
    intro S w vs hS hgl ha
    have fin : ∀ (v' : Value) (w' : World), w'.ownsRow w.heap.size te 1 v' xs.length (xs.map Value.string) → Below w.heap.size w w' → Below w.heap.size w w' ∧ ∃ S' : Nat → Prop, (∀ b, S b → S' b) ∧ (∀ b, S' b → S b ∨ (w.heap.size ≤ b ∧ b < w'.heap.size)) ∧ RR S' w' w.heap.size pv (.fr te .str xs) v' := fun v' w' ho hbl => by
      refine ⟨hbl, S, fun b hb => hb, fun b hb => .inl hb, ?_⟩
      obtain ⟨h1, ⟨rfl, h2⟩ | ⟨g, cap, cur, rfl, h3, h4, h5, h6, h7, h8⟩⟩ := ho
      · obtain rfl : xs = [] := List.eq_nil_of_length_eq_zero h2
        exact ⟨none, .frNil te .str (by decide)⟩
      · refine ⟨some g, .fr te .str xs g cap h3 (fun hs => absurd (hS _ hs) (by omega)) ⟨cur, (0, 0), h4, h7, h5, h6, fun _ => rfl, .inl (Nat.le_refl _), by decide, fun i hi => ⟨[.string xs[i]], .str _, fun j v hj => ?_⟩⟩⟩
        cases j with
        | zero =>
          simp only [List.getElem?_cons_zero, Option.some.injEq] at hj
          subst hj
          have h9 := congrArg (·[i]?) h8
          simp only [Nat.mul_one, List.getElem?_take, if_pos hi, List.getElem?_map, List.getElem?_eq_getElem hi, Option.map_some] at h9
          simpa [nc] using h9
        | succ j => simp at hj
    obtain ⟨cs, _, hcr, rfl, ha1⟩ := args_cons ha
    obtain rfl := args_nil ha1
    cases hcr with
    | t _ _ _ hcr =>
      cases hcr with
      | sl e xs A c cv hle hm h1 h2 =>
        match xs, A, hle, h1, h2, hs, fin with
        | [], A, _, _, _, _, fin => exact ext_goes hf hb hname ((hc0 A c w).mono fun e w' ⟨v', he, ho, hbl⟩ => ⟨v', he, fin _ _ ho hbl⟩)
        | x :: l, A, hle, h1, h2, hs, fin =>
          obtain ⟨g, o, rfl, hg, _⟩ := h2 0 (Nat.succ_pos _)
          refine ext_goes hf hb hname ((hc g o (x :: l).length c (x :: l) w (Nat.le_refl _) hs fun j hj => ?_).mono fun e w' ⟨v', he, ho, _, hbl⟩ => ⟨v', he, fin _ _ (by rw [List.take_length] at ho; exact ho) hbl⟩)
          obtain ⟨g', o', e', _, hcell⟩ := h2 j hj
          cases e'
          have hcv := h1 j hj
          have hq : ∀ z q, CR S w .str z q → q[0]? = some (.string z) := fun z q hq => by cases hq; rfl
          have := hcell 0 _ (hq _ _ hcv)
          rw [List.getD_eq_getElem?_getD, List.getElem?_eq_getElem hj, Option.getD_some]
          simpa [nc] using this
end Go.Gx
end
section
namespace Go.Proofs.YtplkkhldibaipaaDoor
open Go.Gx
set_option linter.unusedVariables false
set_option maxRecDepth 100000
def tyT (t : Nat) : Option Ty := match t with
  | 2 => some (.int .i64)
  | 3 => some (.int .i64)
  | 4 => some .bool
  | 5 => some (.int .u8)
  | 6 => some (.int .u8)
  | 9 => some .str
  | 10 => some .str
  | 11 => some .str
  | 21 => some (.int .i32)
  | 22 => some (.sl (.int .u8))
  | 26 => some (.sl .str)
  | 34 => some (.int .u64)
  | 36 => some .cur
  | 43 => some (.sl (.int .i64))
  | 48 => some (.int .u64)
  | 64 => some (.int .u32)
  | 77 => some (.arr 256 (.int .u8))
  | 88 => some (.int .u8)
  | _ => none
def elT (t : Nat) : Nat := match t with
  | 22 => 5
  | 26 => 9
  | 43 => 3
  | _ => 0
def mdT (f : Nat) : Bool := match f with
  | 12 => true
  | 19 => true
  | 20 => true
  | 21 => true
  | _ => false
def glT (g : Nat) : Option AV := match g with
  | _ => none
def giT (g : Nat) : Bool := match g with
  | 0 => true
  | _ => false
def envX : Env := ⟨tyT, elT, glT, mdT, giT⟩
theorem env_ty : ∀ T τ, envX.ty T = some τ → TyOk Tryd.prog envX T τ := fun T τ h => by
  dsimp only [envX, tyT] at h
  split at h <;> first
    | (cases h; done)
    | (cases h; exact tyOk_of (by kernel_rfl) (by kernel_rfl))
theorem envOk : EnvOk Tryd.prog envX := ⟨env_ty, by kernel_rfl, fun T h => by
  dsimp only [envX, tyT] at h
  split at h <;> first
    | (cases h; done)
    | exact date_eq env_ty rfl (by kernel_rfl) (by kernel_rfl) (by kernel_rfl), fun T h => by
  dsimp only [envX, tyT] at h
  split at h <;> first
    | (cases h; done)
    | exact abbr_eq env_ty rfl (by kernel_rfl) (by kernel_rfl) (by kernel_rfl)⟩
/-! ### 4 loop.example/g00896/laws.vBig -/
def laws_vBig.F (a0 : List Int) : Option (Bool) := some (decide ((a0.length : Int) > 65536))
def laws_vBig.C : Cal → Option CArm := fun c => match c with
  | _ => none
theorem laws_vBig.run (a0 : List Int) : runF envX (tabC laws_vBig.C) (tabL 6 0 (fun _ => none)) Tryd.f4 [.t (.sl (.int .u8)) a0] (viewR1 (.t .bool)) = laws_vBig.F a0 := by kernel_rfl
theorem laws_vBig.G (hE : EnvOk Tryd.prog envX) (pv : Nat → Value) : ∀ cal A, laws_vBig.C cal = some A → ArmOk Tryd.prog envX pv cal A := by
  intro cal A h
  unfold laws_vBig.C at h
  cases h
theorem laws_vBig.good (hE : EnvOk Tryd.prog envX) (pv : Nat → Value) (a0 : List Int) {y : _} (h : laws_vBig.F a0 = some y) : Meets Tryd.prog envX pv (.f 4) (tvals [(.sl (.int .u8))] (a0, ())) (.t .bool y) :=
  fun_plain hE (laws_vBig.G hE pv) (f := 4) (fn := Tryd.f4) (by kernel_rfl) rfl (by kernel_rfl) (by kernel_rfl) ((laws_vBig.run a0).trans h) fun r hr => wk_view1 hr
/-! ### 21 (*loop.example/g00896/spec.l1Cur).next -/
def spec_l1Cur_next.F (a0 : Cur) : Option (Cur × Int) := bif (decide (a0.at_ < (a0.code.length : Int))) then (bif decide (0 ≤ a0.at_) then (bif decide (a0.at_ < (a0.code.length : Int)) then (bif (decide ((IntKind.wrap .i64 (a0.at_ + 1)) ≤ (a0.code.length : Int))) then (some ((⟨a0.code, (IntKind.wrap .i64 (a0.at_ + 1)), (IntKind.wrap .u64 ((IntKind.wrap .u64 ((IntKind.wrap .u64 (a0.seed * 6364136223846793005)) + (IntKind.wrap .u64 (IntKind.wrap .i64 (a0.code.getD (a0.at_ : Int).toNat 0))))) + 896896))⟩ : Cur), (IntKind.wrap .i64 (a0.code.getD (a0.at_ : Int).toNat 0)))) else (bif decide (0 ≤ 40) then (some ((⟨a0.code, (IntKind.wrap .i64 (a0.at_ + 1)), (IntKind.wrap .u64 ((IntKind.wrap .u64 ((IntKind.wrap .u64 (a0.seed * 6364136223846793005)) + (IntKind.wrap .u64 (IntKind.wrap .i64 (a0.code.getD (a0.at_ : Int).toNat 0))))) + 896896))⟩ : Cur), (IntKind.wrap .i64 (IntKind.wrap .u64 ((BitVec.ofInt (IntKind.bits .u64) (Int.fdiv (IntKind.wrap .u64 ((IntKind.wrap .u64 ((IntKind.wrap .u64 (a0.seed * 6364136223846793005)) + (IntKind.wrap .u64 (IntKind.wrap .i64 (a0.code.getD (a0.at_ : Int).toNat 0))))) + 896896)) (2 ^ min (40 : Int).toNat (IntKind.bits .u64))) &&& BitVec.ofInt (IntKind.bits .u64) 255).toNat : Int))))) else none)) else none) else none) else (bif (decide ((IntKind.wrap .i64 (a0.at_ + 1)) ≤ (a0.code.length : Int))) then (some ((⟨a0.code, (IntKind.wrap .i64 (a0.at_ + 1)), (IntKind.wrap .u64 ((IntKind.wrap .u64 ((IntKind.wrap .u64 (a0.seed * 6364136223846793005)) + (IntKind.wrap .u64 0))) + 896896))⟩ : Cur), 0)) else (bif decide (0 ≤ 40) then (some ((⟨a0.code, (IntKind.wrap .i64 (a0.at_ + 1)), (IntKind.wrap .u64 ((IntKind.wrap .u64 ((IntKind.wrap .u64 (a0.seed * 6364136223846793005)) + (IntKind.wrap .u64 0))) + 896896))⟩ : Cur), (IntKind.wrap .i64 (IntKind.wrap .u64 ((BitVec.ofInt (IntKind.bits .u64) (Int.fdiv (IntKind.wrap .u64 ((IntKind.wrap .u64 ((IntKind.wrap .u64 (a0.seed * 6364136223846793005)) + (IntKind.wrap .u64 0))) + 896896)) (2 ^ min (40 : Int).toNat (IntKind.bits .u64))) &&& BitVec.ofInt (IntKind.bits .u64) 255).toNat : Int))))) else none))
def spec_l1Cur_next.C : Cal → Option CArm := fun c => match c with
  | _ => none
theorem spec_l1Cur_next.run (a0 : Cur) : runM envX (tabC spec_l1Cur_next.C) (tabL 62 0 (fun _ => none)) Tryd.f21 mbase (.bx .cur a0) [] (viewK (.bx .cur) (viewR1 (.t (.int .i64)))) = spec_l1Cur_next.F a0 := by kernel_rfl
theorem spec_l1Cur_next.G (hE : EnvOk Tryd.prog envX) (pv : Nat → Value) : ∀ cal A, spec_l1Cur_next.C cal = some A → ArmOk Tryd.prog envX pv cal A := by
  intro cal A h
  unfold spec_l1Cur_next.C at h
  cases h
theorem spec_l1Cur_next.good (hE : EnvOk Tryd.prog envX) (pv : Nat → Value) (a0 : Cur) {y : _} (h : spec_l1Cur_next.F a0 = some y) : MeetsM Tryd.prog envX pv 21 (.bx .cur a0) (tvals [] (())) (.kep (.bx .cur y.1) (.t (.int .i64) y.2)) :=
  funM_plain hE (spec_l1Cur_next.G hE pv) (f := 21) (fn := Tryd.f21) (by kernel_rfl) rfl (by kernel_rfl) (.inl rfl) (by kernel_rfl) ((spec_l1Cur_next.run a0).trans h) fun r hr => wk_viewK (fun r y h => wk_view1 h) hr
/-! ### 12 (*loop.example/g00896/spec.l1Cur).pick -/
def spec_l1Cur_pick.F (a0 : Cur) (a1 : Int) : Option (Cur × Int) := bif (decide (a1 ≤ 1)) then (some (a0, 0)) else ((spec_l1Cur_next.F a0).bind fun r1 => bif (decide (a1 > 200)) then ((spec_l1Cur_next.F r1.1).bind fun r2 => bif (a1 == 0) then (none) else (some (r2.1, (Int.tmod (IntKind.wrap .i64 ((IntKind.wrap .i64 (r1.2 * 256)) + r2.2)) a1)))) else (bif (a1 == 0) then (none) else (some (r1.1, (Int.tmod r1.2 a1)))))
def spec_l1Cur_pick.C : Cal → Option CArm := fun c => match c with
  | .f 21 => some (.m (.bx .cur) [] _ (fun x0 x => spec_l1Cur_next.F x0) (fun r => .kep (.bx .cur r.1) (.t (.int .i64) r.2)))
  | _ => none
theorem spec_l1Cur_pick.run (a0 : Cur) (a1 : Int) : runM envX (tabC spec_l1Cur_pick.C) (tabL 20 0 (fun _ => none)) Tryd.f12 mbase (.bx .cur a0) [.t (.int .i64) a1] (viewK (.bx .cur) (viewR1 (.t (.int .i64)))) = spec_l1Cur_pick.F a0 a1 := by kernel_rfl
theorem spec_l1Cur_pick.G (hE : EnvOk Tryd.prog envX) (pv : Nat → Value) : ∀ cal A, spec_l1Cur_pick.C cal = some A → ArmOk Tryd.prog envX pv cal A := by
  intro cal A h
  unfold spec_l1Cur_pick.C at h
  split at h
  · cases h; exact ⟨_, rfl, fun x0 x y hy => spec_l1Cur_next.good hE pv x0 hy⟩
  · cases h
theorem spec_l1Cur_pick.good (hE : EnvOk Tryd.prog envX) (pv : Nat → Value) (a0 : Cur) (a1 : Int) {y : _} (h : spec_l1Cur_pick.F a0 a1 = some y) : MeetsM Tryd.prog envX pv 12 (.bx .cur a0) (tvals [(.int .i64)] (a1, ())) (.kep (.bx .cur y.1) (.t (.int .i64) y.2)) :=
  funM_plain hE (spec_l1Cur_pick.G hE pv) (f := 12) (fn := Tryd.f12) (by kernel_rfl) rfl (by kernel_rfl) (.inl rfl) (by kernel_rfl) ((spec_l1Cur_pick.run a0 a1).trans h) fun r hr => wk_viewK (fun r y h => wk_view1 h) hr
/-! ### 19 (*loop.example/g00896/spec.l1Cur).of -/
def spec_l1Cur_of.F (a0 : Cur) (a1 : List ByteArray) : Option (Cur × ByteArray) := (spec_l1Cur_pick.F a0 (a1.length : Int)).bind fun r1 => bif decide (0 ≤ r1.2) then (bif decide (r1.2 < (a1.length : Int)) then (some (r1.1, (a1.getD (r1.2 : Int).toNat (⟨#[]⟩ : ByteArray)))) else none) else none
def spec_l1Cur_of.C : Cal → Option CArm := fun c => match c with
  | .f 12 => some (.m (.bx .cur) [(.int .i64)] _ (fun x0 x => spec_l1Cur_pick.F x0 x.1) (fun r => .kep (.bx .cur r.1) (.t (.int .i64) r.2)))
  | _ => none
theorem spec_l1Cur_of.run (a0 : Cur) (a1 : List ByteArray) : runM envX (tabC spec_l1Cur_of.C) (tabL 12 0 (fun _ => none)) Tryd.f19 mbase (.bx .cur a0) [.t (.sl .str) a1] (viewK (.bx .cur) (viewR1 (.t .str))) = spec_l1Cur_of.F a0 a1 := by kernel_rfl
theorem spec_l1Cur_of.G (hE : EnvOk Tryd.prog envX) (pv : Nat → Value) : ∀ cal A, spec_l1Cur_of.C cal = some A → ArmOk Tryd.prog envX pv cal A := by
  intro cal A h
  unfold spec_l1Cur_of.C at h
  split at h
  · cases h; exact ⟨_, rfl, fun x0 x y hy => spec_l1Cur_pick.good hE pv x0 x.1 hy⟩
  · cases h
theorem spec_l1Cur_of.good (hE : EnvOk Tryd.prog envX) (pv : Nat → Value) (a0 : Cur) (a1 : List ByteArray) {y : _} (h : spec_l1Cur_of.F a0 a1 = some y) : MeetsM Tryd.prog envX pv 19 (.bx .cur a0) (tvals [(.sl .str)] (a1, ())) (.kep (.bx .cur y.1) (.t .str y.2)) :=
  funM_plain hE (spec_l1Cur_of.G hE pv) (f := 19) (fn := Tryd.f19) (by kernel_rfl) rfl (by kernel_rfl) (.inl rfl) (by kernel_rfl) ((spec_l1Cur_of.run a0 a1).trans h) fun r hr => wk_viewK (fun r y h => wk_view1 h) hr
/-! ### 20 (*loop.example/g00896/spec.l1Cur).among -/
def spec_l1Cur_among.F (a0 : Cur) (a1 : List Int) : Option (Cur × Int) := (spec_l1Cur_pick.F a0 (a1.length : Int)).bind fun r1 => bif decide (0 ≤ r1.2) then (bif decide (r1.2 < (a1.length : Int)) then (some (r1.1, (a1.getD (r1.2 : Int).toNat 0))) else none) else none
def spec_l1Cur_among.C : Cal → Option CArm := fun c => match c with
  | .f 12 => some (.m (.bx .cur) [(.int .i64)] _ (fun x0 x => spec_l1Cur_pick.F x0 x.1) (fun r => .kep (.bx .cur r.1) (.t (.int .i64) r.2)))
  | _ => none
theorem spec_l1Cur_among.run (a0 : Cur) (a1 : List Int) : runM envX (tabC spec_l1Cur_among.C) (tabL 12 0 (fun _ => none)) Tryd.f20 mbase (.bx .cur a0) [.t (.sl (.int .i64)) a1] (viewK (.bx .cur) (viewR1 (.t (.int .i64)))) = spec_l1Cur_among.F a0 a1 := by kernel_rfl
theorem spec_l1Cur_among.G (hE : EnvOk Tryd.prog envX) (pv : Nat → Value) : ∀ cal A, spec_l1Cur_among.C cal = some A → ArmOk Tryd.prog envX pv cal A := by
  intro cal A h
  unfold spec_l1Cur_among.C at h
  split at h
  · cases h; exact ⟨_, rfl, fun x0 x y hy => spec_l1Cur_pick.good hE pv x0 x.1 hy⟩
  · cases h
theorem spec_l1Cur_among.good (hE : EnvOk Tryd.prog envX) (pv : Nat → Value) (a0 : Cur) (a1 : List Int) {y : _} (h : spec_l1Cur_among.F a0 a1 = some y) : MeetsM Tryd.prog envX pv 20 (.bx .cur a0) (tvals [(.sl (.int .i64))] (a1, ())) (.kep (.bx .cur y.1) (.t (.int .i64) y.2)) :=
  funM_plain hE (spec_l1Cur_among.G hE pv) (f := 20) (fn := Tryd.f20) (by kernel_rfl) rfl (by kernel_rfl) (.inl rfl) (by kernel_rfl) ((spec_l1Cur_among.run a0 a1).trans h) fun r hr => wk_viewK (fun r y h => wk_view1 h) hr
/-! ### 11 loop.example/g00896/spec.DrawWrapText -/
def spec_DrawWrapText.l0 : Nat → Cur → ByteArray → Int → Option (Cur × ByteArray)
  | 0, _, _, _ => none
  | k + 1, x4, x5, x6 => bif (decide (x6 > 0)) then ((spec_l1Cur_of.F x4 ([(⟨#[97]⟩ : ByteArray), (⟨#[111, 110]⟩ : ByteArray), (⟨#[114, 105, 118, 101, 114, 115]⟩ : ByteArray), (⟨#[99, 97, 114, 116, 111, 103, 114, 97, 112, 104, 121]⟩ : ByteArray), (⟨#[97, 110, 100]⟩ : ByteArray), (⟨#[]⟩ : ByteArray)] : List ByteArray)).bind fun r2 => bif Nat.ble (x5.size + r2.2.size) 9223372036854775807 then (bif (decide (x6 > 1)) then (bif Nat.ble ((x5 ++ r2.2).size + (⟨#[32]⟩ : ByteArray).size) 9223372036854775807 then (spec_DrawWrapText.l0 k r2.1 ((x5 ++ r2.2) ++ (⟨#[32]⟩ : ByteArray)) (IntKind.wrap .i64 (x6 - 1))) else none) else (spec_DrawWrapText.l0 k r2.1 (x5 ++ r2.2) (IntKind.wrap .i64 (x6 - 1)))) else none) else (some (x4, x5))
def spec_DrawWrapText.F (k : Nat) (a0 : List Int) : Option (ByteArray × Int) := (spec_l1Cur_pick.F (⟨a0, 0, 0⟩ : Cur) 20).bind fun r1 => (spec_DrawWrapText.l0 k r1.1 (⟨#[]⟩ : ByteArray) r1.2).bind fun y3 => (spec_l1Cur_among.F y3.1 ([10, 12, 20, 30, 120, 10, 9, 121] : List Int)).bind fun r4 => some (y3.2, r4.2)
def spec_DrawWrapText.C (k : Nat) : Cal → Option CArm := fun c => match c with
  | .f 12 => some (.m (.bx .cur) [(.int .i64)] _ (fun x0 x => spec_l1Cur_pick.F x0 x.1) (fun r => .kep (.bx .cur r.1) (.t (.int .i64) r.2)))
  | .f 19 => some (.m (.bx .cur) [(.sl .str)] _ (fun x0 x => spec_l1Cur_of.F x0 x.1) (fun r => .kep (.bx .cur r.1) (.t .str r.2)))
  | .f 20 => some (.m (.bx .cur) [(.sl (.int .i64))] _ (fun x0 x => spec_l1Cur_among.F x0 x.1) (fun r => .kep (.bx .cur r.1) (.t (.int .i64) r.2)))
  | _ => none
def spec_DrawWrapText.sp0 : List Sp := [.boxT 4 1032 .cur, .t 5 .str, .t 6 (.int .i64)]
def spec_DrawWrapText.sp0_0 : List Sp := [.boxT 4 1032 .cur, .t 5 .str]
def spec_DrawWrapText.A0 : LArm := .one spec_DrawWrapText.sp0 spec_DrawWrapText.sp0_0 (Cur × ByteArray) (fun k x => spec_DrawWrapText.l0 k x.1 x.2.1 x.2.2.1) (.exit 0) (fun y => (y.1, y.2, ())) (fun x => (x.1, x.2.1))
def spec_DrawWrapText.L : Nat → Option LArm := fun b => match b with
  | 0 => some spec_DrawWrapText.A0
  | _ => none
theorem spec_DrawWrapText.run (k : Nat) (a0 : List Int) : runF envX (tabC (spec_DrawWrapText.C k)) (tabL 29 k spec_DrawWrapText.L) Tryd.f11 [.t (.sl (.int .u8)) a0] (viewR2 (.t .str) (.t (.int .i64))) = spec_DrawWrapText.F k a0 := by kernel_rfl
theorem spec_DrawWrapText.step0 (k : Nat) (x4 : Cur) (x5 : ByteArray) (x6 : Int) : runC envX (tabC (spec_DrawWrapText.C k)) (tabL 29 k spec_DrawWrapText.L) 0 (loopAt Tryd.f11 0) (stOf 29 spec_DrawWrapText.sp0 (x4, x5, x6, ())) (spec_DrawWrapText.A0.cont 29 k) = spec_DrawWrapText.l0 (k + 1) x4 x5 x6 := by kernel_rfl
theorem spec_DrawWrapText.G (hE : EnvOk Tryd.prog envX) (pv : Nat → Value) (k : Nat) : ∀ cal A, spec_DrawWrapText.C k cal = some A → ArmOk Tryd.prog envX pv cal A := by
  intro cal A h
  unfold spec_DrawWrapText.C at h
  split at h
  · cases h; exact ⟨_, rfl, fun x0 x y hy => spec_l1Cur_pick.good hE pv x0 x.1 hy⟩
  · cases h; exact ⟨_, rfl, fun x0 x y hy => spec_l1Cur_of.good hE pv x0 x.1 hy⟩
  · cases h; exact ⟨_, rfl, fun x0 x y hy => spec_l1Cur_among.good hE pv x0 x.1 hy⟩
  · cases h
theorem spec_DrawWrapText.good (hE : EnvOk Tryd.prog envX) (pv : Nat → Value) (k : Nat) (a0 : List Int) {y : _} (h : spec_DrawWrapText.F k a0 = some y) : Meets Tryd.prog envX pv (.f 11) (tvals [(.sl (.int .u8))] (a0, ())) (.tup [.t .str y.1, .t (.int .i64) y.2]) :=
  fun_loops hE (t := spec_DrawWrapText.C) k (fun k _ => spec_DrawWrapText.G hE pv k) (f := 11) (fn := Tryd.f11) (by kernel_rfl) rfl (by kernel_rfl) (by kernel_rfl) (lt := spec_DrawWrapText.L) (by kernel_rfl) (fun b A h => by
    unfold spec_DrawWrapText.L at h; split at h
    · cases h; exact ⟨by kernel_rfl, by kernel_rfl, fun _ => rfl, fun _ => rfl⟩
    · cases h) (fun b A h => by
    unfold spec_DrawWrapText.L at h; split at h
    · cases h; exact fun k x => spec_DrawWrapText.step0 k x.1 x.2.1 x.2.2.1
    · cases h) ((spec_DrawWrapText.run k a0).trans h) fun r hr => wk_view2 hr
/-! ### 5 loop.example/g00896/spec.DrawHangingLines -/
def spec_DrawHangingLines.F (k : Nat) (a0 : List Int) : Option (ByteArray × Int × Int) := (spec_DrawWrapText.F k a0).bind fun r1 => (spec_l1Cur_pick.F (⟨a0, 0, 0⟩ : Cur) 11).bind fun r2 => some (r1.1, r1.2, (IntKind.wrap .i64 (r2.2 - 1)))
def spec_DrawHangingLines.C (k : Nat) : Cal → Option CArm := fun c => match c with
  | .f 11 => some (.p [(.sl (.int .u8))] _ (fun x => spec_DrawWrapText.F k x.1) (fun r => (.tup [.t .str r.1, .t (.int .i64) r.2])))
  | .f 12 => some (.m (.bx .cur) [(.int .i64)] _ (fun x0 x => spec_l1Cur_pick.F x0 x.1) (fun r => .kep (.bx .cur r.1) (.t (.int .i64) r.2)))
  | _ => none
theorem spec_DrawHangingLines.run (k : Nat) (a0 : List Int) : runF envX (tabC (spec_DrawHangingLines.C k)) (tabL 21 0 (fun _ => none)) Tryd.f5 [.t (.sl (.int .u8)) a0] (viewR3 (.t .str) (.t (.int .i64)) (.t (.int .i64))) = spec_DrawHangingLines.F k a0 := by kernel_rfl
theorem spec_DrawHangingLines.G (hE : EnvOk Tryd.prog envX) (pv : Nat → Value) (k : Nat) : ∀ cal A, spec_DrawHangingLines.C k cal = some A → ArmOk Tryd.prog envX pv cal A := by
  intro cal A h
  unfold spec_DrawHangingLines.C at h
  split at h
  · cases h; exact fun x y hy => spec_DrawWrapText.good hE pv k x.1 hy
  · cases h; exact ⟨_, rfl, fun x0 x y hy => spec_l1Cur_pick.good hE pv x0 x.1 hy⟩
  · cases h
theorem spec_DrawHangingLines.good (hE : EnvOk Tryd.prog envX) (pv : Nat → Value) (k : Nat) (a0 : List Int) {y : _} (h : spec_DrawHangingLines.F k a0 = some y) : Meets Tryd.prog envX pv (.f 5) (tvals [(.sl (.int .u8))] (a0, ())) (.tup [.t .str y.1, .t (.int .i64) y.2.1, .t (.int .i64) y.2.2]) :=
  fun_plain hE (spec_DrawHangingLines.G hE pv k) (f := 5) (fn := Tryd.f5) (by kernel_rfl) rfl (by kernel_rfl) (by kernel_rfl) ((spec_DrawHangingLines.run k a0).trans h) fun r hr => wk_view3 hr
/-! ### 17 loop.example/g00896/impl.inside -/
def impl_inside.F (a0 : Int) (a1 : Int) (a2 : Int) : Option (Bool) := bif (decide (a0 ≥ a1)) then (some (decide (a0 ≤ a2))) else (some false)
def impl_inside.C : Cal → Option CArm := fun c => match c with
  | _ => none
theorem impl_inside.run (a0 : Int) (a1 : Int) (a2 : Int) : runF envX (tabC impl_inside.C) (tabL 15 0 (fun _ => none)) Tryd.f17 [.t (.int .i64) a0, .t (.int .i64) a1, .t (.int .i64) a2] (viewR1 (.t .bool)) = impl_inside.F a0 a1 a2 := by kernel_rfl
theorem impl_inside.G (hE : EnvOk Tryd.prog envX) (pv : Nat → Value) : ∀ cal A, impl_inside.C cal = some A → ArmOk Tryd.prog envX pv cal A := by
  intro cal A h
  unfold impl_inside.C at h
  cases h
theorem impl_inside.good (hE : EnvOk Tryd.prog envX) (pv : Nat → Value) (a0 : Int) (a1 : Int) (a2 : Int) {y : _} (h : impl_inside.F a0 a1 a2 = some y) : Meets Tryd.prog envX pv (.f 17) (tvals [(.int .i64), (.int .i64), (.int .i64)] (a0, a1, a2, ())) (.t .bool y) :=
  fun_plain hE (impl_inside.G hE pv) (f := 17) (fn := Tryd.f17) (by kernel_rfl) rfl (by kernel_rfl) (by kernel_rfl) ((impl_inside.run a0 a1 a2).trans h) fun r hr => wk_view1 hr
/-! ### 13 loop.example/g00896/impl.canWrap -/
def impl_canWrap.F (a0 : ByteArray) (a1 : Int) : Option (Bool) := bif (decide ((a0.size : Int) ≤ 4000)) then ((impl_inside.F a1 10 120).bind fun r1 => some r1) else (some false)
def impl_canWrap.C : Cal → Option CArm := fun c => match c with
  | .f 17 => some (.p [(.int .i64), (.int .i64), (.int .i64)] _ (fun x => impl_inside.F x.1 x.2.1 x.2.2.1) (fun r => (.t .bool r)))
  | _ => none
theorem impl_canWrap.run (a0 : ByteArray) (a1 : Int) : runF envX (tabC impl_canWrap.C) (tabL 12 0 (fun _ => none)) Tryd.f13 [.t .str a0, .t (.int .i64) a1] (viewR1 (.t .bool)) = impl_canWrap.F a0 a1 := by kernel_rfl
theorem impl_canWrap.G (hE : EnvOk Tryd.prog envX) (pv : Nat → Value) : ∀ cal A, impl_canWrap.C cal = some A → ArmOk Tryd.prog envX pv cal A := by
  intro cal A h
  unfold impl_canWrap.C at h
  split at h
  · cases h; exact fun x y hy => impl_inside.good hE pv x.1 x.2.1 x.2.2.1 hy
  · cases h
theorem impl_canWrap.good (hE : EnvOk Tryd.prog envX) (pv : Nat → Value) (a0 : ByteArray) (a1 : Int) {y : _} (h : impl_canWrap.F a0 a1 = some y) : Meets Tryd.prog envX pv (.f 13) (tvals [.str, (.int .i64)] (a0, a1, ())) (.t .bool y) :=
  fun_plain hE (impl_canWrap.G hE pv) (f := 13) (fn := Tryd.f13) (by kernel_rfl) rfl (by kernel_rfl) (by kernel_rfl) ((impl_canWrap.run a0 a1).trans h) fun r hr => wk_view1 hr
/-! ### 22 strings.Split -/
def strings_Split.F (a0 : ByteArray) (a1 : ByteArray) : Option (List ByteArray) := xSplit a0 a1
theorem strings_Split.good (hE : EnvOk Tryd.prog envX) (pv : Nat → Value) (a0 : ByteArray) (a1 : ByteArray) {y : _} (h : strings_Split.F a0 a1 = some y) : Meets Tryd.prog envX pv (.f 22) (tvals [.str, .str] (a0, a1, ())) (.fr 9 .str y) :=
  ext_split (fn := Tryd.f22) (by kernel_rfl) rfl (by kernel_rfl) (mx := 0) (by kernel_rfl) Tryd.strings_Split h
/-! ### 23 strings.Repeat -/
def strings_Repeat.F (a0 : ByteArray) (a1 : Int) : Option (ByteArray) := xRepeat a0 a1
theorem strings_Repeat.good (hE : EnvOk Tryd.prog envX) (pv : Nat → Value) (a0 : ByteArray) (a1 : Int) {y : _} (h : strings_Repeat.F a0 a1 = some y) : Meets Tryd.prog envX pv (.f 23) (tvals [.str, (.int .i64)] (a0, a1, ())) (.t .str y) :=
  ext_repeat (fn := Tryd.f23) (by kernel_rfl) rfl (by kernel_rfl) Tryd.strings_Repeat h
/-! ### 14 loop.example/g00896/impl.hangingLines -/
def impl_hangingLines.l0 : Nat → Int → Int → (List ByteArray) → ByteArray → Int → (List ByteArray) → Int → Int → Option ((List ByteArray) × ByteArray)
  | 0, _, _, _, _, _, _, _, _ => none
  | k + 1, x1, x2, x7, x8, x9, x14, x15, x16 => bif (decide (x16 < x15)) then (bif decide (0 ≤ x16) then (bif decide (x16 < (x14.length : Int)) then (bif (decide (x9 > 0)) then (bif (decide ((IntKind.wrap .i64 ((IntKind.wrap .i64 ((x8.size : Int) + 1)) + ((x14.getD ((x16 : Int).toNat) (⟨#[]⟩ : ByteArray)).size : Int))) > x1)) then (bif room (x7.length + ([x8] : List ByteArray).length) .str then ((strings_Repeat.F (⟨#[32]⟩ : ByteArray) x2).bind fun r2 => bif (decide ((0 : Int) > 0)) then (bif Nat.ble (r2.size + (⟨#[32]⟩ : ByteArray).size) 9223372036854775807 then (bif Nat.ble ((r2 ++ (⟨#[32]⟩ : ByteArray)).size + (x14.getD ((x16 : Int).toNat) (⟨#[]⟩ : ByteArray)).size) 9223372036854775807 then (impl_hangingLines.l0 k x1 x2 (x7 ++ ([x8] : List ByteArray)) ((r2 ++ (⟨#[32]⟩ : ByteArray)) ++ (x14.getD ((x16 : Int).toNat) (⟨#[]⟩ : ByteArray))) (IntKind.wrap .i64 (0 + 1)) x14 x15 (IntKind.wrap .i64 (x16 + 1))) else none) else none) else (bif Nat.ble (r2.size + (x14.getD ((x16 : Int).toNat) (⟨#[]⟩ : ByteArray)).size) 9223372036854775807 then (impl_hangingLines.l0 k x1 x2 (x7 ++ ([x8] : List ByteArray)) (r2 ++ (x14.getD ((x16 : Int).toNat) (⟨#[]⟩ : ByteArray))) (IntKind.wrap .i64 (0 + 1)) x14 x15 (IntKind.wrap .i64 (x16 + 1))) else none)) else none) else (bif (decide (x9 > 0)) then (bif Nat.ble (x8.size + (⟨#[32]⟩ : ByteArray).size) 9223372036854775807 then (bif Nat.ble ((x8 ++ (⟨#[32]⟩ : ByteArray)).size + (x14.getD ((x16 : Int).toNat) (⟨#[]⟩ : ByteArray)).size) 9223372036854775807 then (impl_hangingLines.l0 k x1 x2 x7 ((x8 ++ (⟨#[32]⟩ : ByteArray)) ++ (x14.getD ((x16 : Int).toNat) (⟨#[]⟩ : ByteArray))) (IntKind.wrap .i64 (x9 + 1)) x14 x15 (IntKind.wrap .i64 (x16 + 1))) else none) else none) else (bif Nat.ble (x8.size + (x14.getD ((x16 : Int).toNat) (⟨#[]⟩ : ByteArray)).size) 9223372036854775807 then (impl_hangingLines.l0 k x1 x2 x7 (x8 ++ (x14.getD ((x16 : Int).toNat) (⟨#[]⟩ : ByteArray))) (IntKind.wrap .i64 (x9 + 1)) x14 x15 (IntKind.wrap .i64 (x16 + 1))) else none))) else (bif (decide (x9 > 0)) then (bif Nat.ble (x8.size + (⟨#[32]⟩ : ByteArray).size) 9223372036854775807 then (bif Nat.ble ((x8 ++ (⟨#[32]⟩ : ByteArray)).size + (x14.getD ((x16 : Int).toNat) (⟨#[]⟩ : ByteArray)).size) 9223372036854775807 then (impl_hangingLines.l0 k x1 x2 x7 ((x8 ++ (⟨#[32]⟩ : ByteArray)) ++ (x14.getD ((x16 : Int).toNat) (⟨#[]⟩ : ByteArray))) (IntKind.wrap .i64 (x9 + 1)) x14 x15 (IntKind.wrap .i64 (x16 + 1))) else none) else none) else (bif Nat.ble (x8.size + (x14.getD ((x16 : Int).toNat) (⟨#[]⟩ : ByteArray)).size) 9223372036854775807 then (impl_hangingLines.l0 k x1 x2 x7 (x8 ++ (x14.getD ((x16 : Int).toNat) (⟨#[]⟩ : ByteArray))) (IntKind.wrap .i64 (x9 + 1)) x14 x15 (IntKind.wrap .i64 (x16 + 1))) else none))) else none) else none) else (some (x7, x8))
def impl_hangingLines.F (k : Nat) (a0 : ByteArray) (a1 : Int) (a2 : Int) : Option (List ByteArray) := (strings_Split.F a0 (⟨#[32]⟩ : ByteArray)).bind fun r1 => (impl_hangingLines.l0 k a1 a2 ([] : List ByteArray) (⟨#[]⟩ : ByteArray) 0 r1 (r1.length : Int) 0).bind fun y3 => bif room (y3.1.length + ([y3.2] : List ByteArray).length) .str then (some (y3.1 ++ ([y3.2] : List ByteArray))) else none
def impl_hangingLines.C (k : Nat) : Cal → Option CArm := fun c => match c with
  | .f 22 => some (.p [.str, .str] _ (fun x => strings_Split.F x.1 x.2.1) (fun r => (.fr 9 .str r)))
  | .f 23 => some (.p [.str, (.int .i64)] _ (fun x => strings_Repeat.F x.1 x.2.1) (fun r => (.t .str r)))
  | _ => none
def impl_hangingLines.sp0 : List Sp := [.t 1 (.int .i64), .t 2 (.int .i64), .own 7 1024 9 .str false true, .t 8 .str, .t 9 (.int .i64), .own 14 2052 9 .str false true, .t 15 (.int .i64), .t 16 (.int .i64)]
def impl_hangingLines.sp0_0 : List Sp := [.own 7 1024 9 .str false true, .t 8 .str]
def impl_hangingLines.A0 : LArm := .one impl_hangingLines.sp0 impl_hangingLines.sp0_0 ((List ByteArray) × ByteArray) (fun k x => impl_hangingLines.l0 k x.1 x.2.1 x.2.2.1 x.2.2.2.1 x.2.2.2.2.1 x.2.2.2.2.2.1 x.2.2.2.2.2.2.1 x.2.2.2.2.2.2.2.1) (.exit 0) (fun y => (y.1, y.2, ())) (fun x => (x.1, x.2.1))
def impl_hangingLines.L : Nat → Option LArm := fun b => match b with
  | 0 => some impl_hangingLines.A0
  | _ => none
theorem impl_hangingLines.run (k : Nat) (a0 : ByteArray) (a1 : Int) (a2 : Int) : runF envX (tabC (impl_hangingLines.C k)) (tabL 52 k impl_hangingLines.L) Tryd.f14 [.t .str a0, .t (.int .i64) a1, .t (.int .i64) a2] (viewR1 (.fr 9 .str)) = impl_hangingLines.F k a0 a1 a2 := by kernel_rfl
theorem impl_hangingLines.step0 (k : Nat) (x1 : Int) (x2 : Int) (x7 : List ByteArray) (x8 : ByteArray) (x9 : Int) (x14 : List ByteArray) (x15 : Int) (x16 : Int) : runC envX (tabC (impl_hangingLines.C k)) (tabL 52 k impl_hangingLines.L) 0 (loopAt Tryd.f14 0) (stOf 52 impl_hangingLines.sp0 (x1, x2, x7, x8, x9, x14, x15, x16, ())) (impl_hangingLines.A0.cont 52 k) = impl_hangingLines.l0 (k + 1) x1 x2 x7 x8 x9 x14 x15 x16 := by kernel_rfl
theorem impl_hangingLines.G (hE : EnvOk Tryd.prog envX) (pv : Nat → Value) (k : Nat) : ∀ cal A, impl_hangingLines.C k cal = some A → ArmOk Tryd.prog envX pv cal A := by
  intro cal A h
  unfold impl_hangingLines.C at h
  split at h
  · cases h; exact fun x y hy => strings_Split.good hE pv x.1 x.2.1 hy
  · cases h; exact fun x y hy => strings_Repeat.good hE pv x.1 x.2.1 hy
  · cases h
theorem impl_hangingLines.good (hE : EnvOk Tryd.prog envX) (pv : Nat → Value) (k : Nat) (a0 : ByteArray) (a1 : Int) (a2 : Int) {y : _} (h : impl_hangingLines.F k a0 a1 a2 = some y) : Meets Tryd.prog envX pv (.f 14) (tvals [.str, (.int .i64), (.int .i64)] (a0, a1, a2, ())) (.fr 9 .str y) :=
  fun_loops hE (t := impl_hangingLines.C) k (fun k _ => impl_hangingLines.G hE pv k) (f := 14) (fn := Tryd.f14) (by kernel_rfl) rfl (by kernel_rfl) (by kernel_rfl) (lt := impl_hangingLines.L) (by kernel_rfl) (fun b A h => by
    unfold impl_hangingLines.L at h; split at h
    · cases h; exact ⟨by kernel_rfl, by kernel_rfl, fun _ => rfl, fun _ => rfl⟩
    · cases h) (fun b A h => by
    unfold impl_hangingLines.L at h; split at h
    · cases h; exact fun k x => impl_hangingLines.step0 k x.1 x.2.1 x.2.2.1 x.2.2.2.1 x.2.2.2.2.1 x.2.2.2.2.2.1 x.2.2.2.2.2.2.1 x.2.2.2.2.2.2.2.1
    · cases h) ((impl_hangingLines.run k a0 a1 a2).trans h) fun r hr => wk_view1 hr
/-! ### 6 loop.example/g00896/impl.WrapText -/
def impl_WrapText.F (k : Nat) (a0 : ByteArray) (a1 : Int) : Option ((List ByteArray) × Bool) := (impl_canWrap.F a0 a1).bind fun r1 => bif (!r1) then (some ([], false)) else ((impl_hangingLines.F k a0 a1 0).bind fun r2 => some (r2, true))
def impl_WrapText.C (k : Nat) : Cal → Option CArm := fun c => match c with
  | .f 13 => some (.p [.str, (.int .i64)] _ (fun x => impl_canWrap.F x.1 x.2.1) (fun r => (.t .bool r)))
  | .f 14 => some (.p [.str, (.int .i64), (.int .i64)] _ (fun x => impl_hangingLines.F k x.1 x.2.1 x.2.2.1) (fun r => (.fr 9 .str r)))
  | _ => none
theorem impl_WrapText.run (k : Nat) (a0 : ByteArray) (a1 : Int) : runF envX (tabC (impl_WrapText.C k)) (tabL 13 0 (fun _ => none)) Tryd.f6 [.t .str a0, .t (.int .i64) a1] (viewR2 (.fr 9 .str) (.t .bool)) = impl_WrapText.F k a0 a1 := by kernel_rfl
theorem impl_WrapText.G (hE : EnvOk Tryd.prog envX) (pv : Nat → Value) (k : Nat) : ∀ cal A, impl_WrapText.C k cal = some A → ArmOk Tryd.prog envX pv cal A := by
  intro cal A h
  unfold impl_WrapText.C at h
  split at h
  · cases h; exact fun x y hy => impl_canWrap.good hE pv x.1 x.2.1 hy
  · cases h; exact fun x y hy => impl_hangingLines.good hE pv k x.1 x.2.1 x.2.2.1 hy
  · cases h
theorem impl_WrapText.good (hE : EnvOk Tryd.prog envX) (pv : Nat → Value) (k : Nat) (a0 : ByteArray) (a1 : Int) {y : _} (h : impl_WrapText.F k a0 a1 = some y) : Meets Tryd.prog envX pv (.f 6) (tvals [.str, (.int .i64)] (a0, a1, ())) (.tup [.fr 9 .str y.1, .t .bool y.2]) :=
  fun_plain hE (impl_WrapText.G hE pv k) (f := 6) (fn := Tryd.f6) (by kernel_rfl) rfl (by kernel_rfl) (by kernel_rfl) ((impl_WrapText.run k a0 a1).trans h) fun r hr => wk_view2 hr
/-! ### 18 loop.example/g00896/spec.l1In -/
def spec_l1In.F (a0 : Int) (a1 : Int) (a2 : Int) : Option (Bool) := bif (decide (a0 ≥ a1)) then (some (decide (a0 ≤ a2))) else (some false)
def spec_l1In.C : Cal → Option CArm := fun c => match c with
  | _ => none
theorem spec_l1In.run (a0 : Int) (a1 : Int) (a2 : Int) : runF envX (tabC spec_l1In.C) (tabL 15 0 (fun _ => none)) Tryd.f18 [.t (.int .i64) a0, .t (.int .i64) a1, .t (.int .i64) a2] (viewR1 (.t .bool)) = spec_l1In.F a0 a1 a2 := by kernel_rfl
theorem spec_l1In.G (hE : EnvOk Tryd.prog envX) (pv : Nat → Value) : ∀ cal A, spec_l1In.C cal = some A → ArmOk Tryd.prog envX pv cal A := by
  intro cal A h
  unfold spec_l1In.C at h
  cases h
theorem spec_l1In.good (hE : EnvOk Tryd.prog envX) (pv : Nat → Value) (a0 : Int) (a1 : Int) (a2 : Int) {y : _} (h : spec_l1In.F a0 a1 a2 = some y) : Meets Tryd.prog envX pv (.f 18) (tvals [(.int .i64), (.int .i64), (.int .i64)] (a0, a1, a2, ())) (.t .bool y) :=
  fun_plain hE (spec_l1In.G hE pv) (f := 18) (fn := Tryd.f18) (by kernel_rfl) rfl (by kernel_rfl) (by kernel_rfl) ((spec_l1In.run a0 a1 a2).trans h) fun r hr => wk_view1 hr
/-! ### 15 loop.example/g00896/spec.l17Width -/
def spec_l17Width.F (a0 : ByteArray) (a1 : Int) : Option (Bool) := bif (decide ((a0.size : Int) ≤ 4000)) then ((spec_l1In.F a1 10 120).bind fun r1 => some r1) else (some false)
def spec_l17Width.C : Cal → Option CArm := fun c => match c with
  | .f 18 => some (.p [(.int .i64), (.int .i64), (.int .i64)] _ (fun x => spec_l1In.F x.1 x.2.1 x.2.2.1) (fun r => (.t .bool r)))
  | _ => none
theorem spec_l17Width.run (a0 : ByteArray) (a1 : Int) : runF envX (tabC spec_l17Width.C) (tabL 12 0 (fun _ => none)) Tryd.f15 [.t .str a0, .t (.int .i64) a1] (viewR1 (.t .bool)) = spec_l17Width.F a0 a1 := by kernel_rfl
theorem spec_l17Width.G (hE : EnvOk Tryd.prog envX) (pv : Nat → Value) : ∀ cal A, spec_l17Width.C cal = some A → ArmOk Tryd.prog envX pv cal A := by
  intro cal A h
  unfold spec_l17Width.C at h
  split at h
  · cases h; exact fun x y hy => spec_l1In.good hE pv x.1 x.2.1 x.2.2.1 hy
  · cases h
theorem spec_l17Width.good (hE : EnvOk Tryd.prog envX) (pv : Nat → Value) (a0 : ByteArray) (a1 : Int) {y : _} (h : spec_l17Width.F a0 a1 = some y) : Meets Tryd.prog envX pv (.f 15) (tvals [.str, (.int .i64)] (a0, a1, ())) (.t .bool y) :=
  fun_plain hE (spec_l17Width.G hE pv) (f := 15) (fn := Tryd.f15) (by kernel_rfl) rfl (by kernel_rfl) (by kernel_rfl) ((spec_l17Width.run a0 a1).trans h) fun r hr => wk_view1 hr
/-! ### 24 loop.example/g00896/spec.l1Split -/
def spec_l1Split.l0 : Nat → ByteArray → Int → (List ByteArray) → Int → Int → Option (ByteArray × (List ByteArray) × Int)
  | 0, _, _, _, _, _ => none
  | k + 1, x0, x1, x5, x6, x7 => bif (decide (x7 < (x0.size : Int))) then (bif decide (0 ≤ x7) then (bif decide (x7 < (x0.size : Int)) then (bif ((bt x0 (x7 : Int).toNat) == x1) then (bif decide (0 ≤ x7) then (bif decide (x7 ≤ (x0.size : Int)) then (bif decide (0 ≤ x6) then (bif decide (x6 ≤ x7) then (bif room (x5.length + ([(x0.extract (x6 : Int).toNat (x7 : Int).toNat)] : List ByteArray).length) .str then (spec_l1Split.l0 k x0 x1 (x5 ++ ([(x0.extract (x6 : Int).toNat (x7 : Int).toNat)] : List ByteArray)) (IntKind.wrap .i64 (x7 + 1)) (IntKind.wrap .i64 (x7 + 1))) else none) else none) else none) else none) else none) else (spec_l1Split.l0 k x0 x1 x5 x6 (IntKind.wrap .i64 (x7 + 1)))) else none) else none) else (some (x0, x5, x6))
def spec_l1Split.F (k : Nat) (a0 : ByteArray) (a1 : Int) : Option (List ByteArray) := (spec_l1Split.l0 k a0 a1 ([] : List ByteArray) 0 0).bind fun y1 => bif decide (0 ≤ y1.2.2) then (bif decide (y1.2.2 ≤ (y1.1.size : Int)) then (bif room (y1.2.1.length + ([(y1.1.extract (y1.2.2 : Int).toNat y1.1.size)] : List ByteArray).length) .str then (some (y1.2.1 ++ ([(y1.1.extract (y1.2.2 : Int).toNat y1.1.size)] : List ByteArray))) else none) else none) else none
def spec_l1Split.C (k : Nat) : Cal → Option CArm := fun c => match c with
  | _ => none
def spec_l1Split.sp0 : List Sp := [.t 0 .str, .t 1 (.int .u8), .own 5 1024 9 .str false true, .t 6 (.int .i64), .t 7 (.int .i64)]
def spec_l1Split.sp0_0 : List Sp := [.t 0 .str, .own 5 1024 9 .str false true, .t 6 (.int .i64)]
def spec_l1Split.A0 : LArm := .one spec_l1Split.sp0 spec_l1Split.sp0_0 (ByteArray × (List ByteArray) × Int) (fun k x => spec_l1Split.l0 k x.1 x.2.1 x.2.2.1 x.2.2.2.1 x.2.2.2.2.1) (.exit 0) (fun y => (y.1, y.2.1, y.2.2, ())) (fun x => (x.1, x.2.1, x.2.2.1))
def spec_l1Split.L : Nat → Option LArm := fun b => match b with
  | 0 => some spec_l1Split.A0
  | _ => none
theorem spec_l1Split.run (k : Nat) (a0 : ByteArray) (a1 : Int) : runF envX (tabC (spec_l1Split.C k)) (tabL 35 k spec_l1Split.L) Tryd.f24 [.t .str a0, .t (.int .u8) a1] (viewR1 (.fr 9 .str)) = spec_l1Split.F k a0 a1 := by kernel_rfl
theorem spec_l1Split.step0 (k : Nat) (x0 : ByteArray) (x1 : Int) (x5 : List ByteArray) (x6 : Int) (x7 : Int) : runC envX (tabC (spec_l1Split.C k)) (tabL 35 k spec_l1Split.L) 0 (loopAt Tryd.f24 0) (stOf 35 spec_l1Split.sp0 (x0, x1, x5, x6, x7, ())) (spec_l1Split.A0.cont 35 k) = spec_l1Split.l0 (k + 1) x0 x1 x5 x6 x7 := by kernel_rfl
theorem spec_l1Split.G (hE : EnvOk Tryd.prog envX) (pv : Nat → Value) (k : Nat) : ∀ cal A, spec_l1Split.C k cal = some A → ArmOk Tryd.prog envX pv cal A := by
  intro cal A h
  unfold spec_l1Split.C at h
  cases h
theorem spec_l1Split.good (hE : EnvOk Tryd.prog envX) (pv : Nat → Value) (k : Nat) (a0 : ByteArray) (a1 : Int) {y : _} (h : spec_l1Split.F k a0 a1 = some y) : Meets Tryd.prog envX pv (.f 24) (tvals [.str, (.int .u8)] (a0, a1, ())) (.fr 9 .str y) :=
  fun_loops hE (t := spec_l1Split.C) k (fun k _ => spec_l1Split.G hE pv k) (f := 24) (fn := Tryd.f24) (by kernel_rfl) rfl (by kernel_rfl) (by kernel_rfl) (lt := spec_l1Split.L) (by kernel_rfl) (fun b A h => by
    unfold spec_l1Split.L at h; split at h
    · cases h; exact ⟨by kernel_rfl, by kernel_rfl, fun _ => rfl, fun _ => rfl⟩
    · cases h) (fun b A h => by
    unfold spec_l1Split.L at h; split at h
    · cases h; exact fun k x => spec_l1Split.step0 k x.1 x.2.1 x.2.2.1 x.2.2.2.1 x.2.2.2.2.1
    · cases h) ((spec_l1Split.run k a0 a1).trans h) fun r hr => wk_view1 hr
/-! ### 16 loop.example/g00896/spec.l17Lines -/
def spec_l17Lines.l0 : Nat → ByteArray → Int → Int → ByteArray → Option (ByteArray × Int × ByteArray)
  | 0, _, _, _, _ => none
  | k + 1, x0, x1, x2, x7 => bif (decide ((x7.size : Int) < x2)) then (bif Nat.ble (x7.size + (⟨#[32]⟩ : ByteArray).size) 9223372036854775807 then (spec_l17Lines.l0 k x0 x1 x2 (x7 ++ (⟨#[32]⟩ : ByteArray))) else none) else (some (x0, x1, x7))
def spec_l17Lines.l2 : Nat → Int → ByteArray → (List ByteArray) → (List ByteArray) → ByteArray → Int → Option ((List ByteArray) × ByteArray)
  | 0, _, _, _, _, _, _ => none
  | k + 1, x1, x7, x8, x9, x10, x11 => bif (decide (x11 < (x8.length : Int))) then (bif decide (0 ≤ x11) then (bif decide (x11 < (x8.length : Int)) then (bif (decide ((IntKind.wrap .i64 ((IntKind.wrap .i64 ((x10.size : Int) + 1)) + ((x8.getD ((x11 : Int).toNat) (⟨#[]⟩ : ByteArray)).size : Int))) ≤ x1)) then (bif Nat.ble (x10.size + (⟨#[32]⟩ : ByteArray).size) 9223372036854775807 then (bif decide (0 ≤ x11) then (bif decide (x11 < (x8.length : Int)) then (bif Nat.ble ((x10 ++ (⟨#[32]⟩ : ByteArray)).size + (x8.getD ((x11 : Int).toNat) (⟨#[]⟩ : ByteArray)).size) 9223372036854775807 then (spec_l17Lines.l2 k x1 x7 x8 x9 ((x10 ++ (⟨#[32]⟩ : ByteArray)) ++ (x8.getD ((x11 : Int).toNat) (⟨#[]⟩ : ByteArray))) (IntKind.wrap .i64 (x11 + 1))) else none) else none) else none) else none) else (bif room (x9.length + ([x10] : List ByteArray).length) .str then (bif decide (0 ≤ x11) then (bif decide (x11 < (x8.length : Int)) then (bif Nat.ble (x7.size + (x8.getD ((x11 : Int).toNat) (⟨#[]⟩ : ByteArray)).size) 9223372036854775807 then (spec_l17Lines.l2 k x1 x7 x8 (x9 ++ ([x10] : List ByteArray)) (x7 ++ (x8.getD ((x11 : Int).toNat) (⟨#[]⟩ : ByteArray))) (IntKind.wrap .i64 (x11 + 1))) else none) else none) else none) else none)) else none) else none) else (some (x9, x10))
def spec_l17Lines.F (k : Nat) (a0 : ByteArray) (a1 : Int) (a2 : Int) : Option (List ByteArray) := (spec_l17Lines.l0 k a0 a1 a2 (⟨#[]⟩ : ByteArray)).bind fun y1 => (spec_l1Split.F k y1.1 32).bind fun r2 => bif decide (0 ≤ 0) then (bif decide (0 < (r2.length : Int)) then ((spec_l17Lines.l2 k y1.2.1 y1.2.2 r2 ([] : List ByteArray) (r2.getD ((0 : Int).toNat) (⟨#[]⟩ : ByteArray)) 1).bind fun y3 => bif room (y3.1.length + ([y3.2] : List ByteArray).length) .str then (some (y3.1 ++ ([y3.2] : List ByteArray))) else none) else none) else none
def spec_l17Lines.C (k : Nat) : Cal → Option CArm := fun c => match c with
  | .f 24 => some (.p [.str, (.int .u8)] _ (fun x => spec_l1Split.F k x.1 x.2.1) (fun r => (.fr 9 .str r)))
  | _ => none
def spec_l17Lines.sp0 : List Sp := [.t 0 .str, .t 1 (.int .i64), .t 2 (.int .i64), .t 7 .str]
def spec_l17Lines.sp0_0 : List Sp := [.t 0 .str, .t 1 (.int .i64), .t 7 .str]
def spec_l17Lines.A0 : LArm := .one spec_l17Lines.sp0 spec_l17Lines.sp0_0 (ByteArray × Int × ByteArray) (fun k x => spec_l17Lines.l0 k x.1 x.2.1 x.2.2.1 x.2.2.2.1) (.exit 0) (fun y => (y.1, y.2.1, y.2.2, ())) (fun x => (x.1, x.2.1, x.2.2.1))
def spec_l17Lines.sp2 : List Sp := [.t 1 (.int .i64), .t 7 .str, .own 8 4100 9 .str false true, .own 9 5120 9 .str false true, .t 10 .str, .t 11 (.int .i64)]
def spec_l17Lines.sp2_0 : List Sp := [.own 9 5120 9 .str false true, .t 10 .str]
def spec_l17Lines.A2 : LArm := .one spec_l17Lines.sp2 spec_l17Lines.sp2_0 ((List ByteArray) × ByteArray) (fun k x => spec_l17Lines.l2 k x.1 x.2.1 x.2.2.1 x.2.2.2.1 x.2.2.2.2.1 x.2.2.2.2.2.1) (.exit 2) (fun y => (y.1, y.2, ())) (fun x => (x.1, x.2.1))
def spec_l17Lines.L : Nat → Option LArm := fun b => match b with
  | 0 => some spec_l17Lines.A0
  | 2 => some spec_l17Lines.A2
  | _ => none
theorem spec_l17Lines.run (k : Nat) (a0 : ByteArray) (a1 : Int) (a2 : Int) : runF envX (tabC (spec_l17Lines.C k)) (tabL 62 k spec_l17Lines.L) Tryd.f16 [.t .str a0, .t (.int .i64) a1, .t (.int .i64) a2] (viewR1 (.fr 9 .str)) = spec_l17Lines.F k a0 a1 a2 := by kernel_rfl
theorem spec_l17Lines.step0 (k : Nat) (x0 : ByteArray) (x1 : Int) (x2 : Int) (x7 : ByteArray) : runC envX (tabC (spec_l17Lines.C k)) (tabL 62 k spec_l17Lines.L) 0 (loopAt Tryd.f16 0) (stOf 62 spec_l17Lines.sp0 (x0, x1, x2, x7, ())) (spec_l17Lines.A0.cont 62 k) = spec_l17Lines.l0 (k + 1) x0 x1 x2 x7 := by kernel_rfl
theorem spec_l17Lines.step2 (k : Nat) (x1 : Int) (x7 : ByteArray) (x8 : List ByteArray) (x9 : List ByteArray) (x10 : ByteArray) (x11 : Int) : runC envX (tabC (spec_l17Lines.C k)) (tabL 62 k spec_l17Lines.L) 2 (loopAt Tryd.f16 2) (stOf 62 spec_l17Lines.sp2 (x1, x7, x8, x9, x10, x11, ())) (spec_l17Lines.A2.cont 62 k) = spec_l17Lines.l2 (k + 1) x1 x7 x8 x9 x10 x11 := by kernel_rfl
theorem spec_l17Lines.G (hE : EnvOk Tryd.prog envX) (pv : Nat → Value) (k : Nat) : ∀ cal A, spec_l17Lines.C k cal = some A → ArmOk Tryd.prog envX pv cal A := by
  intro cal A h
  unfold spec_l17Lines.C at h
  split at h
  · cases h; exact fun x y hy => spec_l1Split.good hE pv k x.1 x.2.1 hy
  · cases h
theorem spec_l17Lines.good (hE : EnvOk Tryd.prog envX) (pv : Nat → Value) (k : Nat) (a0 : ByteArray) (a1 : Int) (a2 : Int) {y : _} (h : spec_l17Lines.F k a0 a1 a2 = some y) : Meets Tryd.prog envX pv (.f 16) (tvals [.str, (.int .i64), (.int .i64)] (a0, a1, a2, ())) (.fr 9 .str y) :=
  fun_loops hE (t := spec_l17Lines.C) k (fun k _ => spec_l17Lines.G hE pv k) (f := 16) (fn := Tryd.f16) (by kernel_rfl) rfl (by kernel_rfl) (by kernel_rfl) (lt := spec_l17Lines.L) (by kernel_rfl) (fun b A h => by
    unfold spec_l17Lines.L at h; split at h
    · cases h; exact ⟨by kernel_rfl, by kernel_rfl, fun _ => rfl, fun _ => rfl⟩
    · cases h; exact ⟨by kernel_rfl, by kernel_rfl, fun _ => rfl, fun _ => rfl⟩
    · cases h) (fun b A h => by
    unfold spec_l17Lines.L at h; split at h
    · cases h; exact fun k x => spec_l17Lines.step0 k x.1 x.2.1 x.2.2.1 x.2.2.2.1
    · cases h; exact fun k x => spec_l17Lines.step2 k x.1 x.2.1 x.2.2.1 x.2.2.2.1 x.2.2.2.2.1 x.2.2.2.2.2.1
    · cases h) ((spec_l17Lines.run k a0 a1 a2).trans h) fun r hr => wk_view1 hr
/-! ### 7 loop.example/g00896/spec.WrapText -/
def spec_WrapText.F (k : Nat) (a0 : ByteArray) (a1 : Int) : Option ((List ByteArray) × Bool) := (spec_l17Width.F a0 a1).bind fun r1 => bif (!r1) then (some (([] : List ByteArray), false)) else ((spec_l17Lines.F k a0 a1 0).bind fun r2 => some (r2, true))
def spec_WrapText.C (k : Nat) : Cal → Option CArm := fun c => match c with
  | .f 15 => some (.p [.str, (.int .i64)] _ (fun x => spec_l17Width.F x.1 x.2.1) (fun r => (.t .bool r)))
  | .f 16 => some (.p [.str, (.int .i64), (.int .i64)] _ (fun x => spec_l17Lines.F k x.1 x.2.1 x.2.2.1) (fun r => (.fr 9 .str r)))
  | _ => none
theorem spec_WrapText.run (k : Nat) (a0 : ByteArray) (a1 : Int) : runF envX (tabC (spec_WrapText.C k)) (tabL 14 0 (fun _ => none)) Tryd.f7 [.t .str a0, .t (.int .i64) a1] (viewR2 (.fr 9 .str) (.t .bool)) = spec_WrapText.F k a0 a1 := by kernel_rfl
theorem spec_WrapText.G (hE : EnvOk Tryd.prog envX) (pv : Nat → Value) (k : Nat) : ∀ cal A, spec_WrapText.C k cal = some A → ArmOk Tryd.prog envX pv cal A := by
  intro cal A h
  unfold spec_WrapText.C at h
  split at h
  · cases h; exact fun x y hy => spec_l17Width.good hE pv x.1 x.2.1 hy
  · cases h; exact fun x y hy => spec_l17Lines.good hE pv k x.1 x.2.1 x.2.2.1 hy
  · cases h
theorem spec_WrapText.good (hE : EnvOk Tryd.prog envX) (pv : Nat → Value) (k : Nat) (a0 : ByteArray) (a1 : Int) {y : _} (h : spec_WrapText.F k a0 a1 = some y) : Meets Tryd.prog envX pv (.f 7) (tvals [.str, (.int .i64)] (a0, a1, ())) (.tup [.fr 9 .str y.1, .t .bool y.2]) :=
  fun_plain hE (spec_WrapText.G hE pv k) (f := 7) (fn := Tryd.f7) (by kernel_rfl) rfl (by kernel_rfl) (by kernel_rfl) ((spec_WrapText.run k a0 a1).trans h) fun r hr => wk_view2 hr
/-! ### 8 loop.example/g00896/laws.vTexts -/
def laws_vTexts.l0 : Nat → (List ByteArray) → (List ByteArray) → Int → Option (Sum Bool Unit)
  | 0, _, _, _ => none
  | k + 1, x0, x1, x5 => bif (decide (x5 < (x0.length : Int))) then (bif decide (0 ≤ x5) then (bif decide (x5 < (x0.length : Int)) then (bif decide (0 ≤ x5) then (bif decide (x5 < (x1.length : Int)) then (bif (!beqS (x0.getD (x5 : Int).toNat (⟨#[]⟩ : ByteArray)) (x1.getD (x5 : Int).toNat (⟨#[]⟩ : ByteArray))) then (some (.inl false)) else (laws_vTexts.l0 k x0 x1 (IntKind.wrap .i64 (x5 + 1)))) else none) else none) else none) else none) else (some (.inr ()))
def laws_vTexts.F (k : Nat) (a0 : List ByteArray) (a1 : List ByteArray) : Option (Bool) := bif ((a0.length : Int) != (a1.length : Int)) then (some false) else ((laws_vTexts.l0 k a0 a1 0).bind fun y1 => match y1 with | .inl z2 => some z2 | .inr z2 => some true)
def laws_vTexts.C (k : Nat) : Cal → Option CArm := fun c => match c with
  | _ => none
def laws_vTexts.sp0 : List Sp := [.t 0 (.sl .str), .t 1 (.sl .str), .t 5 (.int .i64)]
def laws_vTexts.sp0_0 : List Sp := [.t 4 .bool]
def laws_vTexts.sp0_1 : List Sp := []
def laws_vTexts.A0 : LArm := .two laws_vTexts.sp0 laws_vTexts.sp0_0 laws_vTexts.sp0_1 (Bool) (Unit) (fun k x => laws_vTexts.l0 k x.1 x.2.1 x.2.2.1) .ret (.exit 0) (fun y => (y, ())) (fun x => x.1) (fun y => ()) (fun x => ())
def laws_vTexts.L : Nat → Option LArm := fun b => match b with
  | 0 => some laws_vTexts.A0
  | _ => none
theorem laws_vTexts.run (k : Nat) (a0 : List ByteArray) (a1 : List ByteArray) : runF envX (tabC (laws_vTexts.C k)) (tabL 26 k laws_vTexts.L) Tryd.f8 [.t (.sl .str) a0, .t (.sl .str) a1] (viewR1 (.t .bool)) = laws_vTexts.F k a0 a1 := by kernel_rfl
theorem laws_vTexts.step0 (k : Nat) (x0 : List ByteArray) (x1 : List ByteArray) (x5 : Int) : runC envX (tabC (laws_vTexts.C k)) (tabL 26 k laws_vTexts.L) 0 (loopAt Tryd.f8 0) (stOf 26 laws_vTexts.sp0 (x0, x1, x5, ())) (laws_vTexts.A0.cont 26 k) = laws_vTexts.l0 (k + 1) x0 x1 x5 := by kernel_rfl
theorem laws_vTexts.G (hE : EnvOk Tryd.prog envX) (pv : Nat → Value) (k : Nat) : ∀ cal A, laws_vTexts.C k cal = some A → ArmOk Tryd.prog envX pv cal A := by
  intro cal A h
  unfold laws_vTexts.C at h
  cases h
theorem laws_vTexts.good (hE : EnvOk Tryd.prog envX) (pv : Nat → Value) (k : Nat) (a0 : List ByteArray) (a1 : List ByteArray) {y : _} (h : laws_vTexts.F k a0 a1 = some y) : Meets Tryd.prog envX pv (.f 8) (tvals [(.sl .str), (.sl .str)] (a0, a1, ())) (.t .bool y) :=
  fun_loops hE (t := laws_vTexts.C) k (fun k _ => laws_vTexts.G hE pv k) (f := 8) (fn := Tryd.f8) (by kernel_rfl) rfl (by kernel_rfl) (by kernel_rfl) (lt := laws_vTexts.L) (by kernel_rfl) (fun b A h => by
    unfold laws_vTexts.L at h; split at h
    · cases h; exact ⟨by kernel_rfl, by kernel_rfl, by kernel_rfl, fun _ => rfl, fun _ => rfl, fun _ => rfl⟩
    · cases h) (fun b A h => by
    unfold laws_vTexts.L at h; split at h
    · cases h; exact fun k x => laws_vTexts.step0 k x.1 x.2.1 x.2.2.1
    · cases h) ((laws_vTexts.run k a0 a1).trans h) fun r hr => wk_view1 hr
/-! ### 9 loop.example/g00896/impl.HangingLines -/
def impl_HangingLines.F (k : Nat) (a0 : ByteArray) (a1 : Int) (a2 : Int) : Option ((List ByteArray) × Bool) := (impl_canWrap.F a0 a1).bind fun r1 => bif (!r1) then (some ([], false)) else ((impl_inside.F a2 0 8).bind fun r2 => bif (!r2) then (some ([], false)) else ((impl_hangingLines.F k a0 a1 a2).bind fun r3 => some (r3, true)))
def impl_HangingLines.C (k : Nat) : Cal → Option CArm := fun c => match c with
  | .f 13 => some (.p [.str, (.int .i64)] _ (fun x => impl_canWrap.F x.1 x.2.1) (fun r => (.t .bool r)))
  | .f 17 => some (.p [(.int .i64), (.int .i64), (.int .i64)] _ (fun x => impl_inside.F x.1 x.2.1 x.2.2.1) (fun r => (.t .bool r)))
  | .f 14 => some (.p [.str, (.int .i64), (.int .i64)] _ (fun x => impl_hangingLines.F k x.1 x.2.1 x.2.2.1) (fun r => (.fr 9 .str r)))
  | _ => none
theorem impl_HangingLines.run (k : Nat) (a0 : ByteArray) (a1 : Int) (a2 : Int) : runF envX (tabC (impl_HangingLines.C k)) (tabL 21 0 (fun _ => none)) Tryd.f9 [.t .str a0, .t (.int .i64) a1, .t (.int .i64) a2] (viewR2 (.fr 9 .str) (.t .bool)) = impl_HangingLines.F k a0 a1 a2 := by kernel_rfl
theorem impl_HangingLines.G (hE : EnvOk Tryd.prog envX) (pv : Nat → Value) (k : Nat) : ∀ cal A, impl_HangingLines.C k cal = some A → ArmOk Tryd.prog envX pv cal A := by
  intro cal A h
  unfold impl_HangingLines.C at h
  split at h
  · cases h; exact fun x y hy => impl_canWrap.good hE pv x.1 x.2.1 hy
  · cases h; exact fun x y hy => impl_inside.good hE pv x.1 x.2.1 x.2.2.1 hy
  · cases h; exact fun x y hy => impl_hangingLines.good hE pv k x.1 x.2.1 x.2.2.1 hy
  · cases h
theorem impl_HangingLines.good (hE : EnvOk Tryd.prog envX) (pv : Nat → Value) (k : Nat) (a0 : ByteArray) (a1 : Int) (a2 : Int) {y : _} (h : impl_HangingLines.F k a0 a1 a2 = some y) : Meets Tryd.prog envX pv (.f 9) (tvals [.str, (.int .i64), (.int .i64)] (a0, a1, a2, ())) (.tup [.fr 9 .str y.1, .t .bool y.2]) :=
  fun_plain hE (impl_HangingLines.G hE pv k) (f := 9) (fn := Tryd.f9) (by kernel_rfl) rfl (by kernel_rfl) (by kernel_rfl) ((impl_HangingLines.run k a0 a1 a2).trans h) fun r hr => wk_view2 hr
/-! ### 10 loop.example/g00896/spec.HangingLines -/
def spec_HangingLines.F (k : Nat) (a0 : ByteArray) (a1 : Int) (a2 : Int) : Option ((List ByteArray) × Bool) := (spec_l17Width.F a0 a1).bind fun r1 => bif (!r1) then (some (([] : List ByteArray), false)) else ((spec_l1In.F a2 0 8).bind fun r2 => bif (!r2) then (some (([] : List ByteArray), false)) else ((spec_l17Lines.F k a0 a1 a2).bind fun r3 => some (r3, true)))
def spec_HangingLines.C (k : Nat) : Cal → Option CArm := fun c => match c with
  | .f 15 => some (.p [.str, (.int .i64)] _ (fun x => spec_l17Width.F x.1 x.2.1) (fun r => (.t .bool r)))
  | .f 18 => some (.p [(.int .i64), (.int .i64), (.int .i64)] _ (fun x => spec_l1In.F x.1 x.2.1 x.2.2.1) (fun r => (.t .bool r)))
  | .f 16 => some (.p [.str, (.int .i64), (.int .i64)] _ (fun x => spec_l17Lines.F k x.1 x.2.1 x.2.2.1) (fun r => (.fr 9 .str r)))
  | _ => none
theorem spec_HangingLines.run (k : Nat) (a0 : ByteArray) (a1 : Int) (a2 : Int) : runF envX (tabC (spec_HangingLines.C k)) (tabL 22 0 (fun _ => none)) Tryd.f10 [.t .str a0, .t (.int .i64) a1, .t (.int .i64) a2] (viewR2 (.fr 9 .str) (.t .bool)) = spec_HangingLines.F k a0 a1 a2 := by kernel_rfl
theorem spec_HangingLines.G (hE : EnvOk Tryd.prog envX) (pv : Nat → Value) (k : Nat) : ∀ cal A, spec_HangingLines.C k cal = some A → ArmOk Tryd.prog envX pv cal A := by
  intro cal A h
  unfold spec_HangingLines.C at h
  split at h
  · cases h; exact fun x y hy => spec_l17Width.good hE pv x.1 x.2.1 hy
  · cases h; exact fun x y hy => spec_l1In.good hE pv x.1 x.2.1 x.2.2.1 hy
  · cases h; exact fun x y hy => spec_l17Lines.good hE pv k x.1 x.2.1 x.2.2.1 hy
  · cases h
theorem spec_HangingLines.good (hE : EnvOk Tryd.prog envX) (pv : Nat → Value) (k : Nat) (a0 : ByteArray) (a1 : Int) (a2 : Int) {y : _} (h : spec_HangingLines.F k a0 a1 a2 = some y) : Meets Tryd.prog envX pv (.f 10) (tvals [.str, (.int .i64), (.int .i64)] (a0, a1, a2, ())) (.tup [.fr 9 .str y.1, .t .bool y.2]) :=
  fun_plain hE (spec_HangingLines.G hE pv k) (f := 10) (fn := Tryd.f10) (by kernel_rfl) rfl (by kernel_rfl) (by kernel_rfl) ((spec_HangingLines.run k a0 a1 a2).trans h) fun r hr => wk_view2 hr
/-! ### 3 loop.example/g00896/laws.FnWrapping -/
def laws_FnWrapping.l2 : Nat → ByteArray → Int → (List ByteArray) → ByteArray → Int → Int → Int → Option (ByteArray × Int × (List ByteArray) × ByteArray × Int × Int)
  | 0, _, _, _, _, _, _, _ => none
  | k + 1, x3, x4, x6, x14, x15, x16, x17 => bif decide (0 ≤ x15) then (bif decide (x15 < (x6.length : Int)) then (bif (decide (x17 < ((x6.getD ((x15 : Int).toNat) (⟨#[]⟩ : ByteArray)).size : Int))) then (bif decide (0 ≤ x15) then (bif decide (x15 < (x6.length : Int)) then (bif decide (0 ≤ x17) then (bif decide (x17 < ((x6.getD ((x15 : Int).toNat) (⟨#[]⟩ : ByteArray)).size : Int)) then (bif ((bt (x6.getD ((x15 : Int).toNat) (⟨#[]⟩ : ByteArray)) (x17 : Int).toNat) == 32) then (laws_FnWrapping.l2 k x3 x4 x6 x14 x15 (IntKind.wrap .i64 (x16 + 1)) (IntKind.wrap .i64 (x17 + 1))) else (laws_FnWrapping.l2 k x3 x4 x6 x14 x15 x16 (IntKind.wrap .i64 (x17 + 1)))) else none) else none) else none) else none) else (some (x3, x4, x6, x14, x15, x16))) else none) else none
def laws_FnWrapping.l0 : Nat → ByteArray → Int → (List ByteArray) → ByteArray → Int → Option (Sum Bool (ByteArray × Int × (List ByteArray) × ByteArray))
  | 0, _, _, _, _, _ => none
  | k + 1, x3, x4, x6, x14, x15 => bif (decide (x15 < (x6.length : Int))) then (bif (decide (x15 > 0)) then (bif Nat.ble (x14.size + (⟨#[32]⟩ : ByteArray).size) 9223372036854775807 then (bif decide (0 ≤ x15) then (bif decide (x15 < (x6.length : Int)) then (bif Nat.ble ((x14 ++ (⟨#[32]⟩ : ByteArray)).size + (x6.getD ((x15 : Int).toNat) (⟨#[]⟩ : ByteArray)).size) 9223372036854775807 then ((laws_FnWrapping.l2 k x3 x4 x6 ((x14 ++ (⟨#[32]⟩ : ByteArray)) ++ (x6.getD ((x15 : Int).toNat) (⟨#[]⟩ : ByteArray))) x15 0 0).bind fun y9 => bif decide (0 ≤ y9.2.2.2.2.1) then (bif decide (y9.2.2.2.2.1 < (y9.2.2.1.length : Int)) then (bif (decide (((y9.2.2.1.getD ((y9.2.2.2.2.1 : Int).toNat) (⟨#[]⟩ : ByteArray)).size : Int) > y9.2.1)) then (bif (decide (y9.2.2.2.2.2 > 0)) then (some (.inl false)) else (laws_FnWrapping.l0 k y9.1 y9.2.1 y9.2.2.1 y9.2.2.2.1 (IntKind.wrap .i64 (y9.2.2.2.2.1 + 1)))) else (laws_FnWrapping.l0 k y9.1 y9.2.1 y9.2.2.1 y9.2.2.2.1 (IntKind.wrap .i64 (y9.2.2.2.2.1 + 1)))) else none) else none) else none) else none) else none) else none) else (bif decide (0 ≤ x15) then (bif decide (x15 < (x6.length : Int)) then (bif Nat.ble (x14.size + (x6.getD ((x15 : Int).toNat) (⟨#[]⟩ : ByteArray)).size) 9223372036854775807 then ((laws_FnWrapping.l2 k x3 x4 x6 (x14 ++ (x6.getD ((x15 : Int).toNat) (⟨#[]⟩ : ByteArray))) x15 0 0).bind fun y10 => bif decide (0 ≤ y10.2.2.2.2.1) then (bif decide (y10.2.2.2.2.1 < (y10.2.2.1.length : Int)) then (bif (decide (((y10.2.2.1.getD ((y10.2.2.2.2.1 : Int).toNat) (⟨#[]⟩ : ByteArray)).size : Int) > y10.2.1)) then (bif (decide (y10.2.2.2.2.2 > 0)) then (some (.inl false)) else (laws_FnWrapping.l0 k y10.1 y10.2.1 y10.2.2.1 y10.2.2.2.1 (IntKind.wrap .i64 (y10.2.2.2.2.1 + 1)))) else (laws_FnWrapping.l0 k y10.1 y10.2.1 y10.2.2.1 y10.2.2.2.1 (IntKind.wrap .i64 (y10.2.2.2.2.1 + 1)))) else none) else none) else none) else none) else none)) else (some (.inr (x3, x4, x6, x14)))
def laws_FnWrapping.F (k : Nat) (a0 : List Int) : Option (Bool) := (laws_vBig.F a0).bind fun r1 => bif r1 then (some true) else ((spec_DrawHangingLines.F k a0).bind fun r2 => (impl_WrapText.F k r2.1 r2.2.1).bind fun r3 => (spec_WrapText.F k r2.1 r2.2.1).bind fun r4 => bif (!(r3.2 == r4.2)) then (some false) else ((laws_vTexts.F k r3.1 r4.1).bind fun r5 => bif (!r5) then (some false) else ((impl_HangingLines.F k r2.1 r2.2.1 r2.2.2).bind fun r6 => (spec_HangingLines.F k r2.1 r2.2.1 r2.2.2).bind fun r7 => bif (!(r6.2 == r7.2)) then (some false) else ((laws_vTexts.F k r6.1 r7.1).bind fun r8 => bif (!r8) then (some false) else (bif (!r3.2) then (some ((r3.1.length : Int) == 0)) else ((laws_FnWrapping.l0 k r2.1 r2.2.1 r3.1 (⟨#[]⟩ : ByteArray) 0).bind fun y11 => match y11 with | .inl z12 => some z12 | .inr z12 => (impl_HangingLines.F k z12.1 z12.2.1 0).bind fun r13 => bif (beqS z12.2.2.2 z12.1) then (bif r13.2 then ((laws_vTexts.F k r13.1 z12.2.2.1).bind fun r14 => some r14) else (some false)) else (some false)))))))
def laws_FnWrapping.C (k : Nat) : Cal → Option CArm := fun c => match c with
  | .f 4 => some (.p [(.sl (.int .u8))] _ (fun x => laws_vBig.F x.1) (fun r => (.t .bool r)))
  | .f 5 => some (.p [(.sl (.int .u8))] _ (fun x => spec_DrawHangingLines.F k x.1) (fun r => (.tup [.t .str r.1, .t (.int .i64) r.2.1, .t (.int .i64) r.2.2])))
  | .f 6 => some (.p [.str, (.int .i64)] _ (fun x => impl_WrapText.F k x.1 x.2.1) (fun r => (.tup [.fr 9 .str r.1, .t .bool r.2])))
  | .f 7 => some (.p [.str, (.int .i64)] _ (fun x => spec_WrapText.F k x.1 x.2.1) (fun r => (.tup [.fr 9 .str r.1, .t .bool r.2])))
  | .f 8 => some (.p [(.sl .str), (.sl .str)] _ (fun x => laws_vTexts.F k x.1 x.2.1) (fun r => (.t .bool r)))
  | .f 9 => some (.p [.str, (.int .i64), (.int .i64)] _ (fun x => impl_HangingLines.F k x.1 x.2.1 x.2.2.1) (fun r => (.tup [.fr 9 .str r.1, .t .bool r.2])))
  | .f 10 => some (.p [.str, (.int .i64), (.int .i64)] _ (fun x => spec_HangingLines.F k x.1 x.2.1 x.2.2.1) (fun r => (.tup [.fr 9 .str r.1, .t .bool r.2])))
  | _ => none
def laws_FnWrapping.sp2 : List Sp := [.t 3 .str, .t 4 (.int .i64), .own 6 4104 9 .str false true, .t 14 .str, .t 15 (.int .i64), .t 16 (.int .i64), .t 17 (.int .i64)]
def laws_FnWrapping.sp2_0 : List Sp := [.t 3 .str, .t 4 (.int .i64), .own 6 4104 9 .str false true, .t 14 .str, .t 15 (.int .i64), .t 16 (.int .i64)]
def laws_FnWrapping.A2 : LArm := .one laws_FnWrapping.sp2 laws_FnWrapping.sp2_0 (ByteArray × Int × (List ByteArray) × ByteArray × Int × Int) (fun k x => laws_FnWrapping.l2 k x.1 x.2.1 x.2.2.1 x.2.2.2.1 x.2.2.2.2.1 x.2.2.2.2.2.1 x.2.2.2.2.2.2.1) (.exit 2) (fun y => (y.1, y.2.1, y.2.2.1, y.2.2.2.1, y.2.2.2.2.1, y.2.2.2.2.2, ())) (fun x => (x.1, x.2.1, x.2.2.1, x.2.2.2.1, x.2.2.2.2.1, x.2.2.2.2.2.1))
def laws_FnWrapping.sp0 : List Sp := [.t 3 .str, .t 4 (.int .i64), .own 6 4104 9 .str false true, .t 14 .str, .t 15 (.int .i64)]
def laws_FnWrapping.sp0_0 : List Sp := [.t 2 .bool]
def laws_FnWrapping.sp0_1 : List Sp := [.t 3 .str, .t 4 (.int .i64), .own 6 4104 9 .str false true, .t 14 .str]
def laws_FnWrapping.A0 : LArm := .two laws_FnWrapping.sp0 laws_FnWrapping.sp0_0 laws_FnWrapping.sp0_1 (Bool) (ByteArray × Int × (List ByteArray) × ByteArray) (fun k x => laws_FnWrapping.l0 k x.1 x.2.1 x.2.2.1 x.2.2.2.1 x.2.2.2.2.1) .ret (.exit 0) (fun y => (y, ())) (fun x => x.1) (fun y => (y.1, y.2.1, y.2.2.1, y.2.2.2, ())) (fun x => (x.1, x.2.1, x.2.2.1, x.2.2.2.1))
def laws_FnWrapping.L : Nat → Option LArm := fun b => match b with
  | 2 => some laws_FnWrapping.A2
  | 0 => some laws_FnWrapping.A0
  | _ => none
theorem laws_FnWrapping.run (k : Nat) (a0 : List Int) : runF envX (tabC (laws_FnWrapping.C k)) (tabL 139 k laws_FnWrapping.L) Tryd.f3 [.t (.sl (.int .u8)) a0] (viewR1 (.t .bool)) = laws_FnWrapping.F k a0 := by kernel_rfl
theorem laws_FnWrapping.step2 (k : Nat) (x3 : ByteArray) (x4 : Int) (x6 : List ByteArray) (x14 : ByteArray) (x15 : Int) (x16 : Int) (x17 : Int) : runC envX (tabC (laws_FnWrapping.C k)) (tabL 139 k laws_FnWrapping.L) 2 (loopAt Tryd.f3 2) (stOf 139 laws_FnWrapping.sp2 (x3, x4, x6, x14, x15, x16, x17, ())) (laws_FnWrapping.A2.cont 139 k) = laws_FnWrapping.l2 (k + 1) x3 x4 x6 x14 x15 x16 x17 := by kernel_rfl
theorem laws_FnWrapping.step0 (k : Nat) (x3 : ByteArray) (x4 : Int) (x6 : List ByteArray) (x14 : ByteArray) (x15 : Int) : runC envX (tabC (laws_FnWrapping.C k)) (tabL 139 k laws_FnWrapping.L) 0 (loopAt Tryd.f3 0) (stOf 139 laws_FnWrapping.sp0 (x3, x4, x6, x14, x15, ())) (laws_FnWrapping.A0.cont 139 k) = laws_FnWrapping.l0 (k + 1) x3 x4 x6 x14 x15 := by kernel_rfl
theorem laws_FnWrapping.G (hE : EnvOk Tryd.prog envX) (pv : Nat → Value) (k : Nat) : ∀ cal A, laws_FnWrapping.C k cal = some A → ArmOk Tryd.prog envX pv cal A := by
  intro cal A h
  unfold laws_FnWrapping.C at h
  split at h
  · cases h; exact fun x y hy => laws_vBig.good hE pv x.1 hy
  · cases h; exact fun x y hy => spec_DrawHangingLines.good hE pv k x.1 hy
  · cases h; exact fun x y hy => impl_WrapText.good hE pv k x.1 x.2.1 hy
  · cases h; exact fun x y hy => spec_WrapText.good hE pv k x.1 x.2.1 hy
  · cases h; exact fun x y hy => laws_vTexts.good hE pv k x.1 x.2.1 hy
  · cases h; exact fun x y hy => impl_HangingLines.good hE pv k x.1 x.2.1 x.2.2.1 hy
  · cases h; exact fun x y hy => spec_HangingLines.good hE pv k x.1 x.2.1 x.2.2.1 hy
  · cases h
theorem laws_FnWrapping.good (hE : EnvOk Tryd.prog envX) (pv : Nat → Value) (k : Nat) (a0 : List Int) {y : _} (h : laws_FnWrapping.F k a0 = some y) : Meets Tryd.prog envX pv (.f 3) (tvals [(.sl (.int .u8))] (a0, ())) (.t .bool y) :=
  fun_loops hE (t := laws_FnWrapping.C) k (fun k _ => laws_FnWrapping.G hE pv k) (f := 3) (fn := Tryd.f3) (by kernel_rfl) rfl (by kernel_rfl) (by kernel_rfl) (lt := laws_FnWrapping.L) (by kernel_rfl) (fun b A h => by
    unfold laws_FnWrapping.L at h; split at h
    · cases h; exact ⟨by kernel_rfl, by kernel_rfl, fun _ => rfl, fun _ => rfl⟩
    · cases h; exact ⟨by kernel_rfl, by kernel_rfl, by kernel_rfl, fun _ => rfl, fun _ => rfl, fun _ => rfl⟩
    · cases h) (fun b A h => by
    unfold laws_FnWrapping.L at h; split at h
    · cases h; exact fun k x => laws_FnWrapping.step2 k x.1 x.2.1 x.2.2.1 x.2.2.2.1 x.2.2.2.2.1 x.2.2.2.2.2.1 x.2.2.2.2.2.2.1
    · cases h; exact fun k x => laws_FnWrapping.step0 k x.1 x.2.1 x.2.2.1 x.2.2.2.1 x.2.2.2.2.1
    · cases h) ((laws_FnWrapping.run k a0).trans h) fun r hr => wk_view1 hr
end Go.Proofs.YtplkkhldibaipaaDoor
end
section
/- Plain laws: the lines of a text. -/
namespace Go.Proofs.YtplkkhldibaipaaDoor
open Go.Gx
set_option linter.unusedVariables false
set_option linter.unusedSimpArgs false

theorem getD_at {α : Type} {xs : List α} {i : Nat} (h : i < xs.length) (d : α) : xs.getD i d = xs[i] := by simp [List.getD, List.getElem?_eq_getElem h]
theorem size_app (s t : ByteArray) : (s ++ t).size = s.size + t.size := by
  rw [← L_size, L_append, List.length_append, L_size, L_size]
theorem in_ev (a b c : Int) : spec_l1In.F a b c = some (decide (a ≥ b) && decide (a ≤ c)) := by
  unfold spec_l1In.F
  cases decide (a ≥ b) <;> rfl
theorem inside_ev (a b c : Int) : impl_inside.F a b c = some (decide (a ≥ b) && decide (a ≤ c)) := by
  unfold impl_inside.F
  cases decide (a ≥ b) <;> rfl
def fits (s : ByteArray) (w : Int) : Bool := decide ((s.size : Int) ≤ 4000) && (decide (w ≥ 10) && decide (w ≤ 120))
theorem width_ev (s : ByteArray) (w : Int) : spec_l17Width.F s w = some (fits s w) := by
  unfold spec_l17Width.F fits
  rw [in_ev]
  cases decide ((s.size : Int) ≤ 4000) <;> rfl
theorem canWrap_ev (s : ByteArray) (w : Int) : impl_canWrap.F s w = some (fits s w) := by
  unfold impl_canWrap.F fits
  rw [inside_ev]
  cases decide ((s.size : Int) ≤ 4000) <;> rfl

/-! ### Words -/
theorem sub_tail (s : ByteArray) (st a : Nat) : (s.extract st s.size).extract a (s.extract st s.size).size = s.extract (st + a) s.size := by
  apply L_inj
  have e : (L s).take s.size = L s := List.take_of_length_le (Nat.le_refl _)
  rw [L_extract, L_extract s (st + a), ← L_size (s.extract st s.size), L_extract, List.take_length, List.drop_drop, e]
theorem sub_head (s : ByteArray) (st i : Nat) (h : st ≤ i) (hi : i ≤ s.size) : (s.extract st s.size).extract 0 (i - st) = s.extract st i := by
  apply L_inj
  rw [L_extract, L_extract, L_extract, List.drop_zero, List.take_of_length_le (show (L s).length ≤ s.size from Nat.le_refl _), List.drop_take]
def sp : ByteArray := ⟨#[32]⟩
theorem ib_hit {l : List UInt8} {c : UInt8} {i : Nat} (h : l[i]? = some c) (hn : ∀ j, j < i → l[j]? ≠ some c) : Lib.indexByte l c = i := by
  have hg := Lib.indexByte_ge l c
  by_cases e : Lib.indexByte l c = -1
  · exact absurd h (Lib.indexByte_none e i)
  · obtain ⟨o, ho⟩ : ∃ o : Nat, Lib.indexByte l c = o := ⟨(Lib.indexByte l c).toNat, by omega⟩
    obtain ⟨h1, h2⟩ := Lib.indexByte_some ho
    rcases Nat.lt_trichotomy o i with h3 | h3 | h3
    · exact absurd h1 (hn o h3)
    · rw [ho, h3]
    · exact absurd h (h2 i h3)
theorem ib_miss {l : List UInt8} {c : UInt8} (hn : ∀ j : Nat, l[j]? ≠ some c) : Lib.indexByte l c = -1 := by
  have hg := Lib.indexByte_ge l c
  by_cases e : Lib.indexByte l c = -1
  · exact e
  · obtain ⟨o, ho⟩ : ∃ o : Nat, Lib.indexByte l c = o := ⟨(Lib.indexByte l c).toNat, by omega⟩
    exact absurd (Lib.indexByte_some ho).1 (hn o)
theorem indexB_sp (s : ByteArray) : Lib.indexB s sp = Lib.indexByte (L s) 32 := Lib.one s sp rfl
theorem sub_at (s : ByteArray) (st j : Nat) : (L (s.extract st s.size))[j]? = (L s)[st + j]? := by
  rw [L_extract, List.take_of_length_le (show (L s).length ≤ s.size from Nat.le_refl _), List.getElem?_drop]
def wordsFrom (s : ByteArray) (st : Nat) : List ByteArray := Lib.splitB sp 0 (Lib.countB (s.extract st s.size) sp) (s.extract st s.size)
theorem words_end (s : ByteArray) (st : Nat) (h : ∀ j, st ≤ j → (L s)[j]? ≠ some 32) : wordsFrom s st = [s.extract st s.size] := by
  unfold wordsFrom
  rw [Lib.countB_miss _ _ ((indexB_sp _).trans (ib_miss fun j => by rw [sub_at]; exact h _ (by omega)))]
  rfl
theorem words_hit (s : ByteArray) (st i : Nat) (h1 : st ≤ i) (hi : i < s.size) (hb : (L s)[i]? = some 32) (h : ∀ j, st ≤ j → j < i → (L s)[j]? ≠ some 32) : wordsFrom s st = s.extract st i :: wordsFrom s (i + 1) := by
  have e : Lib.indexB (s.extract st s.size) sp = ((i - st : Nat) : Int) := (indexB_sp _).trans (ib_hit (by rw [sub_at, show st + (i - st) = i by omega]; exact hb) fun j hj => by rw [sub_at]; exact h _ (by omega) (by omega))
  have e1 : sp.size = 1 := rfl
  unfold wordsFrom
  rw [Lib.countB_hit _ _ _ (by rw [e1]; exact Nat.le_refl _) e, Nat.add_comm 1, Lib.splitB_hit _ _ _ _ _ e, Nat.add_zero, sub_head s st i h1 (by omega), e1, sub_tail, show st + (i - st + 1) = i + 1 by omega]
theorem split_l0 (s : ByteArray) (hs : s.size ≤ 4000) : ∀ n i : Nat, i + n = s.size → ∀ st : Nat, st ≤ i → (∀ j, st ≤ j → j < i → (L s)[j]? ≠ some 32) → ∀ acc : List ByteArray, acc.length ≤ i →
    ∃ acc' st', Ev (fun k => spec_l1Split.l0 k s 32 acc st i) (s, acc', ((st' : Nat) : Int)) ∧ st' ≤ s.size ∧ acc'.length ≤ s.size ∧ acc' ++ [s.extract st' s.size] = acc ++ wordsFrom s st
  | 0, i, h, st, h1, hn, acc, ha => by
    refine ⟨acc, st, Ev.step (fun k => by rw [spec_l1Split.l0]) ?_, by omega, by omega, ?_⟩
    · simp (disch := omega) only [cneg]
      exact Ev.pure _
    · rw [words_end s st fun j hj => ?_]
      by_cases hj2 : j < i
      · exact hn j hj hj2
      · rw [List.getElem?_eq_none (by rw [L_size]; omega)]; exact fun h => by cases h
  | n + 1, i, h, st, h1, hn, acc, ha => by
    have hi : i < (L s).length := by rw [L_size]; omega
    have hbt : bt s i = ((L s)[i].toNat : Int) := by rw [L_bt, getD_at hi]
    by_cases c : bt s i = 32
    · have hb : (L s)[i]? = some 32 := by
        rw [List.getElem?_eq_getElem hi]
        congr 1
        apply UInt8.toNat_inj.1
        have : (32 : UInt8).toNat = 32 := rfl
        omega
      obtain ⟨acc', st', r1, r2, r3, r4⟩ := split_l0 s hs n (i + 1) (by omega) (i + 1) (Nat.le_refl _) (fun j h1 h2 => by omega) (acc ++ [s.extract st i]) (by simp; omega)
      refine ⟨acc', st', Ev.step (fun k => by rw [spec_l1Split.l0]) ?_, r2, r3, ?_⟩
      · have hr : room (acc.length + ([s.extract st i] : List ByteArray).length) .str = true := by
          unfold room
          rw [Nat.ble_eq]
          have : nb .str = 16 := rfl
          rw [this]
          simp; omega
        simp (disch := omega) only [cpos, Int.toNat_natCast, ceq, hr, cond_true, wrap_in]
        exact r1
      · rw [r4, words_hit s st i h1 (by omega) hb hn]; simp
    · obtain ⟨acc', st', r1, r2, r3, r4⟩ := split_l0 s hs n (i + 1) (by omega) st (by omega) (fun j h1 h2 => by
        rcases Nat.lt_or_ge j i with h3 | h3
        · exact hn j h1 h3
        · obtain rfl : j = i := by omega
          rw [List.getElem?_eq_getElem hi]
          intro e
          apply c
          rw [hbt, Option.some.inj e]; rfl) acc (by omega)
      refine ⟨acc', st', Ev.step (fun k => by rw [spec_l1Split.l0]) ?_, r2, r3, r4⟩
      simp (disch := omega) only [cpos, Int.toNat_natCast, cne, wrap_in]
      exact r1
theorem sub_self (s : ByteArray) : s.extract 0 s.size = s := by
  apply L_inj
  rw [L_extract, List.take_of_length_le (show (L s).length ≤ s.size from Nat.le_refl _), List.drop_zero]
def words (s : ByteArray) : List ByteArray := Lib.splitB sp 0 (Lib.countB s sp) s
theorem words_from (s : ByteArray) : wordsFrom s 0 = words s := by unfold wordsFrom words; rw [sub_self]
theorem specSplit_ev (s : ByteArray) (hs : s.size ≤ 4000) : Ev (fun k => spec_l1Split.F k s 32) (words s) := by
  unfold spec_l1Split.F
  obtain ⟨acc', st', r1, r2, r3, r4⟩ := split_l0 s hs s.size 0 (by omega) 0 (Nat.le_refl _) (fun j h1 h2 => by omega) [] (Nat.le_refl _)
  refine Ev.bind r1 ?_
  have hr : room (acc'.length + ([s.extract st' s.size] : List ByteArray).length) .str = true := by
    unfold room
    rw [Nat.ble_eq]
    have : nb .str = 16 := rfl
    rw [this]
    simp; omega
  simp (disch := omega) only [cpos, Int.toNat_natCast, hr, cond_true, r4, words_from, List.nil_append]
  exact Ev.pure _
theorem split_ev (s : ByteArray) (hs : s.size ≤ 4000) : strings_Split.F s ⟨#[32]⟩ = some (words s) := by
  unfold strings_Split.F xSplit
  rw [Nat.ble_eq_true_of_le (by omega)]
  rfl
theorem words_small : ∀ (k : Nat) (s : ByteArray), ∀ x ∈ Lib.splitB sp 0 k s, x.size ≤ s.size
  | 0, s, x, hx => by
    rw [Lib.splitB_zero] at hx
    simp only [List.mem_singleton] at hx
    rw [hx]; exact Nat.le_refl _
  | k + 1, s, x, hx => by
    unfold Lib.splitB at hx
    split at hx
    · simp only [List.mem_singleton] at hx
      rw [hx]; exact Nat.le_refl _
    · rcases List.mem_cons.1 hx with rfl | hx
      · rw [ByteArray.size_extract]; omega
      · have := words_small k _ x hx
        rw [ByteArray.size_extract] at this
        omega
theorem words_len (s : ByteArray) : 1 ≤ (words s).length ∧ (words s).length ≤ s.size + 1 := by
  unfold words
  have h1 : 1 ≤ sp.size := Nat.le_refl 1
  rw [Lib.splitB_all sp h1 0 _ s rfl]
  have := Lib.countB_le sp h1 s.size s (Nat.le_refl _)
  omega

/-! ### Indents -/
def indent (n : Nat) : ByteArray := ⟨(Lib.repeatL [32] n).toArray⟩
theorem indent_L (n : Nat) : L (indent n) = List.replicate n 32 := by
  unfold indent
  rw [L_mk]
  induction n with
  | zero => rfl
  | succ n ih => rw [Lib.repeatL, ih]; rfl
theorem indent_size (n : Nat) : (indent n).size = n := by rw [← L_size, indent_L, List.length_replicate]
theorem indent_next (n : Nat) : indent n ++ ⟨#[32]⟩ = indent (n + 1) := by
  apply L_inj
  rw [L_append, indent_L, indent_L, List.replicate_succ']; rfl
theorem indent_l0 (s : ByteArray) (w : Int) (m : Nat) (hm : m ≤ 8) : ∀ n j : Nat, j + n = m → Ev (fun k => spec_l17Lines.l0 k s w m (indent j)) (s, w, indent m)
  | 0, j, h => by
    refine Ev.step (fun k => by rw [spec_l17Lines.l0]) ?_
    rw [indent_size]
    simp (disch := omega) only [cneg]
    rw [show j = m by omega]
    exact Ev.pure _
  | n + 1, j, h => by
    have e1 : (⟨#[32]⟩ : ByteArray).size = 1 := rfl
    refine Ev.step (fun k => by rw [spec_l17Lines.l0]) ?_
    rw [indent_size]
    simp (disch := omega) only [cpos, e1, cble, indent_next]
    exact indent_l0 s w m hm n (j + 1) (by omega)
theorem repeat_ev (m : Nat) (hm : m ≤ 8) : strings_Repeat.F ⟨#[32]⟩ m = some (indent m) := by
  unfold strings_Repeat.F xRepeat
  have e1 : (⟨#[32]⟩ : ByteArray).size = 1 := rfl
  rw [decide_eq_true (by omega), decide_eq_true (by omega), Nat.ble_eq_true_of_le (by rw [e1, Int.toNat_natCast]; omega)]
  rfl

/-! ### Lines -/
theorem room_str {n : Nat} (h : n ≤ 8192) : room n .str = true := by
  unfold room
  rw [Nat.ble_eq]
  have : nb .str = 16 := rfl
  rw [this]
  omega
theorem lines_l (W : List ByteArray) (m : Nat) (hm : m ≤ 8) (w : Int) (hw1 : 0 ≤ w) (hw2 : w ≤ 120) (hW : ∀ x ∈ W, x.size ≤ 4000) (hlen : W.length ≤ 4001) : ∀ n i : Nat, i + n = W.length → 1 ≤ i → ∀ (acc : List ByteArray) (line : ByteArray) (cnt : Int), acc.length ≤ i → line.size ≤ 5000 * (i + 1) → 1 ≤ cnt → cnt ≤ i →
    ∃ r, Ev (fun k => spec_l17Lines.l2 k w (indent m) W acc line i) r ∧ Ev (fun k => impl_hangingLines.l0 k w m acc line cnt W W.length i) r ∧ r.1.length ≤ 4001
  | 0, i, h, h0, acc, line, cnt, ha, hl, hc, hc2 => by
    refine ⟨(acc, line), Ev.step (fun k => by rw [spec_l17Lines.l2]) ?_, Ev.step (fun k => by rw [impl_hangingLines.l0]) ?_, ?_⟩
    · simp (disch := omega) only [cneg]; exact Ev.pure _
    · simp (disch := omega) only [cneg]; exact Ev.pure _
    · show acc.length ≤ 4001; omega
  | n + 1, i, h, h0, acc, line, cnt, ha, hl, hc, hc2 => by
    have hi : i < W.length := by omega
    have hx := hW _ (List.getElem_mem hi)
    have e1 : (⟨#[32]⟩ : ByteArray).size = 1 := rfl
    have ei := indent_size m
    by_cases c : (line.size : Int) + 1 + (W[i].size : Int) ≤ w
    · obtain ⟨r, r1, r2, r3⟩ := lines_l W m hm w hw1 hw2 hW hlen n (i + 1) (by omega) (by omega) acc (line ++ ⟨#[32]⟩ ++ W[i]) (cnt + 1) (by omega) (by rw [size_app, size_app, e1]; omega) (by omega) (by omega)
      refine ⟨r, Ev.step (fun k => by rw [spec_l17Lines.l2]) ?_, Ev.step (fun k => by rw [impl_hangingLines.l0]) ?_, r3⟩
      · simp (disch := (try simp only [size_app, e1]); omega) only [cpos, Int.toNat_natCast, getD_at hi, wrap_in, cble]
        exact r1
      · simp (disch := (try simp only [size_app, e1]); omega) only [cpos, cneg, Int.toNat_natCast, getD_at hi, wrap_in, cble]
        exact r2
    · obtain ⟨r, r1, r2, r3⟩ := lines_l W m hm w hw1 hw2 hW hlen n (i + 1) (by omega) (by omega) (acc ++ [line]) (indent m ++ W[i]) 1 (by simp; omega) (by rw [size_app, ei]; omega) (by omega) (by omega)
      have hr : room (acc.length + ([line] : List ByteArray).length) .str = true := room_str (by simp; omega)
      refine ⟨r, Ev.step (fun k => by rw [spec_l17Lines.l2]) ?_, Ev.step (fun k => by rw [impl_hangingLines.l0]) ?_, r3⟩
      · simp (disch := (try simp only [size_app, e1, ei]); omega) only [cpos, cneg, Int.toNat_natCast, getD_at hi, wrap_in, cble, hr, cond_true]
        exact r1
      · simp (disch := (try simp only [size_app, e1, ei]); omega) only [cpos, cneg, Int.toNat_natCast, getD_at hi, wrap_in, hr, cond_true]
        refine Ev.bind0 (repeat_ev m hm) ?_
        simp (disch := (try simp only [size_app, e1, ei]); omega) only [cpos, cneg, Int.toNat_natCast, wrap_in, cble]
        exact r2
theorem lines_ev (s : ByteArray) (hs : s.size ≤ 4000) (m : Nat) (hm : m ≤ 8) (w : Int) (hw1 : 0 ≤ w) (hw2 : w ≤ 120) : ∃ r, Ev (fun k => spec_l17Lines.F k s w m) r ∧ Ev (fun k => impl_hangingLines.F k s w m) r ∧ r.length ≤ 4002 := by
  unfold spec_l17Lines.F impl_hangingLines.F
  obtain ⟨hl1, hl2⟩ := words_len s
  have hW : ∀ x ∈ words s, x.size ≤ 4000 := fun x hx => Nat.le_trans (words_small _ _ x hx) hs
  have h0 : 0 < (words s).length := by omega
  have hx := hW _ (List.getElem_mem h0)
  have e0 : (⟨#[]⟩ : ByteArray).size = 0 := rfl
  have e00 : ∀ t : ByteArray, (⟨#[]⟩ : ByteArray) ++ t = t := fun t => L_inj (by rw [L_append]; rfl)
  obtain ⟨r, r1, r2, r3⟩ := lines_l (words s) m hm w hw1 hw2 hW (by omega) ((words s).length - 1) 1 (by omega) (Nat.le_refl _) [] (words s)[0] 1 (by simp) (by omega) (by omega) (by omega)
  have hr : room (r.1.length + ([r.2] : List ByteArray).length) .str = true := room_str (by simp; omega)
  refine ⟨r.1 ++ [r.2], ?_, ?_, by simp; omega⟩
  · have hi := indent_l0 s w m hm m 0 (by omega)
    rw [show indent 0 = ⟨#[]⟩ from rfl] at hi
    refine Ev.bind hi (Ev.bind (specSplit_ev s hs) ?_)
    simp (disch := omega) only [cpos]
    rw [show ((0 : Int).toNat) = 0 from rfl, getD_at h0]
    refine Ev.bind r1 ?_
    simp only [hr, cond_true]
    exact Ev.pure _
  · refine Ev.bind0 (split_ev s hs) (Ev.bind (a := r) ?_ ?_)
    · refine Ev.step (fun k => by rw [impl_hangingLines.l0]) ?_
      rw [show ((0 : Int).toNat) = 0 from rfl, getD_at h0, e00]
      have r2' : Ev (fun k => impl_hangingLines.l0 k w m [] (words s)[0] (0 + 1) (words s) (words s).length (0 + 1)) r := r2
      simp (disch := (try simp only [e0]); omega) only [cpos, cneg, wrap_in, cble]
      exact r2'
    · simp only [hr, cond_true]
      exact Ev.pure _

/-! ### The laws -/
theorem hanging_ev (s : ByteArray) (w d : Int) : ∃ ls b, Ev (fun k => spec_HangingLines.F k s w d) (ls, b) ∧ Ev (fun k => impl_HangingLines.F k s w d) (ls, b) ∧ ls.length ≤ 4002 := by
  unfold spec_HangingLines.F impl_HangingLines.F
  have w1 := width_ev s w
  have w2 := canWrap_ev s w
  cases hf : fits s w with
  | false =>
    rw [hf] at w1 w2
    exact ⟨[], false, Ev.bind0 w1 (Ev.pure _), Ev.bind0 w2 (Ev.pure _), by simp⟩
  | true =>
    rw [hf] at w1 w2
    have d1 := in_ev d 0 8
    have d2 := inside_ev d 0 8
    cases hd : decide (d ≥ 0) && decide (d ≤ 8) with
    | false =>
      rw [hd] at d1 d2
      exact ⟨[], false, Ev.bind0 w1 (Ev.bind0 d1 (Ev.pure _)), Ev.bind0 w2 (Ev.bind0 d2 (Ev.pure _)), by simp⟩
    | true =>
      rw [hd] at d1 d2
      unfold fits at hf
      simp only [Bool.and_eq_true, decide_eq_true_eq] at hf hd
      obtain ⟨m, rfl⟩ : ∃ m : Nat, d = m := ⟨d.toNat, by omega⟩
      obtain ⟨r, r1, r2, r3⟩ := lines_ev s (by omega) m (by omega) w (by omega) (by omega)
      refine ⟨r, true, Ev.bind0 w1 ?_, Ev.bind0 w2 ?_, r3⟩
      · simp only [Bool.not_true, cond_false]
        refine Ev.bind0 d1 ?_
        simp only [Bool.not_true, cond_false]
        exact Ev.bind r1 (Ev.pure _)
      · simp only [Bool.not_true, cond_false]
        refine Ev.bind0 d2 ?_
        simp only [Bool.not_true, cond_false]
        exact Ev.bind r2 (Ev.pure _)
theorem wrap_ev (s : ByteArray) (w : Int) : ∃ ls b, Ev (fun k => spec_WrapText.F k s w) (ls, b) ∧ Ev (fun k => impl_WrapText.F k s w) (ls, b) ∧ ls.length ≤ 4002 := by
  unfold spec_WrapText.F impl_WrapText.F
  have w1 := width_ev s w
  have w2 := canWrap_ev s w
  cases hf : fits s w with
  | false =>
    rw [hf] at w1 w2
    exact ⟨[], false, Ev.bind0 w1 (Ev.pure _), Ev.bind0 w2 (Ev.pure _), by simp⟩
  | true =>
    rw [hf] at w1 w2
    unfold fits at hf
    simp only [Bool.and_eq_true, decide_eq_true_eq] at hf
    obtain ⟨r, r1, r2, r3⟩ := lines_ev s (by omega) 0 (by omega) w (by omega) (by omega)
    exact ⟨r, true, Ev.bind0 w1 (Ev.bind r1 (Ev.pure _)), Ev.bind0 w2 (Ev.bind r2 (Ev.pure _)), r3⟩
end Go.Proofs.YtplkkhldibaipaaDoor
end
section
/- Plain laws: what holds of the lines of a text. -/
namespace Go.Proofs.YtplkkhldibaipaaDoor
open Go.Gx
set_option linter.unusedVariables false
set_option linter.unusedSimpArgs false

/-! ### Words put together -/
def J (xs : List ByteArray) : List UInt8 := Lib.join (xs.map L) [32]
theorem joinTail_cons (x : List UInt8) (r : List (List UInt8)) : Lib.joinTail [32] (x :: r) = 32 :: (x ++ Lib.joinTail [32] r) := by simp [Lib.joinTail]
theorem joinTail_snoc (x : List UInt8) (r : List (List UInt8)) : Lib.joinTail [32] (r ++ [x]) = Lib.joinTail [32] r ++ (32 :: x) := by simp [Lib.joinTail]
theorem J_one (x : ByteArray) : J [x] = L x := by simp [J, Lib.join_one]
theorem J_snoc {xs : List ByteArray} (h : xs ≠ []) (x : ByteArray) : J (xs ++ [x]) = J xs ++ (32 :: L x) := by
  cases xs with
  | nil => exact absurd rfl h
  | cons y l =>
    unfold J
    rw [List.cons_append, List.map_cons, List.map_cons, Lib.join_cons, Lib.join_cons, List.map_append, List.map_cons, List.map_nil, joinTail_snoc, List.append_assoc]
theorem J_cons (x : ByteArray) {xs : List ByteArray} (h : xs ≠ []) : J (x :: xs) = L x ++ (32 :: J xs) := by
  cases xs with
  | nil => exact absurd rfl h
  | cons y l =>
    unfold J
    rw [List.map_cons, Lib.join_cons, List.map_cons, joinTail_cons, Lib.join_cons]
theorem J_last (acc : List ByteArray) (line x : ByteArray) : J (acc ++ [line ++ ⟨#[32]⟩ ++ x]) = J (acc ++ [line]) ++ (32 :: L x) := by
  have e : L (line ++ ⟨#[32]⟩ ++ x) = L line ++ (32 :: L x) := by
    rw [L_append, L_append]
    show L line ++ [32] ++ L x = _
    simp
  cases acc with
  | nil => rw [List.nil_append, List.nil_append, J_one, J_one, e]
  | cons y l =>
    rw [J_snoc (by simp), J_snoc (by simp), e]
    simp
theorem wordsFrom_ne (s : ByteArray) (st : Nat) : wordsFrom s st ≠ [] := by
  unfold wordsFrom
  intro h
  have := Lib.splitB_all sp (Nat.le_refl 1) 0 _ (s.extract st s.size) rfl
  rw [h] at this
  simp at this
theorem bt_is {s : ByteArray} {i : Nat} (hi : i < s.size) : (L s)[i]? = some 32 ∨ (L s)[i]? ≠ some 32 := by
  by_cases h : (L s)[i]? = some 32
  · exact .inl h
  · exact .inr h
theorem words_join_l (s : ByteArray) : ∀ n i : Nat, i + n = s.size → ∀ st : Nat, st ≤ i → (∀ j, st ≤ j → j < i → (L s)[j]? ≠ some 32) → J (wordsFrom s st) = (L s).drop st ∧ ∀ x ∈ wordsFrom s st, (32 : UInt8) ∉ L x
  | 0, i, h, st, h1, hn => by
    have hn' : ∀ j, st ≤ j → (L s)[j]? ≠ some 32 := fun j hj => by
      by_cases hj2 : j < i
      · exact hn j hj hj2
      · rw [List.getElem?_eq_none (by rw [L_size]; omega)]; exact fun h => by cases h
    rw [words_end s st hn']
    have e : L (s.extract st s.size) = (L s).drop st := by rw [L_extract, List.take_of_length_le (show (L s).length ≤ s.size from Nat.le_refl _)]
    refine ⟨by rw [J_one, e], fun x hx => ?_⟩
    rw [List.mem_singleton] at hx
    rw [hx, e]
    intro hm
    obtain ⟨j, hj⟩ := List.getElem?_of_mem hm
    rw [List.getElem?_drop] at hj
    exact hn' (st + j) (by omega) hj
  | n + 1, i, h, st, h1, hn => by
    have hi : i < s.size := by omega
    rcases bt_is hi with c | c
    · obtain ⟨h3, h4⟩ := words_join_l s n (i + 1) (by omega) (i + 1) (Nat.le_refl _) (fun j h1 h2 => by omega)
      rw [words_hit s st i h1 hi c hn]
      have e : L (s.extract st i) = ((L s).drop st).take (i - st) := by rw [L_extract, List.drop_take]
      refine ⟨?_, fun x hx => ?_⟩
      · rw [J_cons _ (wordsFrom_ne s (i + 1)), h3, e]
        have hil : i < (L s).length := by rw [L_size]; exact hi
        have h32 : (L s)[i] = 32 := by rw [List.getElem?_eq_getElem hil] at c; exact Option.some.inj c
        have hd : ((L s).drop st).drop (i - st) = 32 :: (L s).drop (i + 1) := by
          rw [List.drop_drop, show st + (i - st) = i by omega, List.drop_eq_getElem_cons hil, h32]
        rw [← hd, List.take_append_drop]
      · rcases List.mem_cons.1 hx with rfl | hx
        · rw [e]
          intro hm
          obtain ⟨j, hj⟩ := List.getElem?_of_mem hm
          rw [List.getElem?_take] at hj
          split at hj
          · rename_i hlt
            rw [List.getElem?_drop] at hj
            exact hn (st + j) (by omega) (by omega) hj
          · cases hj
        · exact h4 x hx
    · exact words_join_l s n (i + 1) (by omega) st (by omega) (fun j h3 h4 => by
        rcases Nat.lt_or_ge j i with h5 | h5
        · exact hn j h3 h5
        · obtain rfl : j = i := by omega
          exact c)
theorem words_join (s : ByteArray) : J (words s) = L s ∧ ∀ x ∈ words s, (32 : UInt8) ∉ L x := by
  have := words_join_l s s.size 0 (by omega) 0 (Nat.le_refl _) (fun j h1 h2 => by omega)
  rw [words_from, List.drop_zero] at this
  exact this

/-! ### Lines -/
def okLine (w : Int) (x : ByteArray) : Prop := (x.size : Int) ≤ w ∨ (32 : UInt8) ∉ L x
theorem lines_p (W : List ByteArray) (hs : ∀ x ∈ W, (32 : UInt8) ∉ L x) (w : Int) (hw1 : 0 ≤ w) (hw2 : w ≤ 120) (hW : ∀ x ∈ W, x.size ≤ 4000) (hlen : W.length ≤ 4001) : ∀ n i : Nat, i + n = W.length → 1 ≤ i → ∀ (acc : List ByteArray) (line : ByteArray), acc.length ≤ i → line.size ≤ 5000 * (i + 1) →
    J (acc ++ [line]) = J (W.take i) → (∀ x ∈ acc ++ [line], okLine w x) →
    EvP (fun k => spec_l17Lines.l2 k w (indent 0) W acc line i) fun r => J (r.1 ++ [r.2]) = J W ∧ ∀ x ∈ r.1 ++ [r.2], okLine w x
  | 0, i, h, h0, acc, line, ha, hl, hj, ho => by
    refine EvP.step (fun k => by rw [spec_l17Lines.l2]) ?_
    simp (disch := omega) only [cneg]
    refine EvP.pure _ ⟨?_, ho⟩
    rw [List.take_of_length_le (by omega)] at hj
    exact hj
  | n + 1, i, h, h0, acc, line, ha, hl, hj, ho => by
    have hi : i < W.length := by omega
    have hx := hW _ (List.getElem_mem hi)
    have e1 : (⟨#[32]⟩ : ByteArray).size = 1 := rfl
    have ei := indent_size 0
    have hne : W.take i ≠ [] := fun e => by
      have := congrArg List.length e
      rw [List.length_take, List.length_nil] at this
      omega
    have hnext : J (W.take (i + 1)) = J (W.take i) ++ (32 :: L W[i]) := by
      rw [List.take_add_one, List.getElem?_eq_getElem hi]
      exact J_snoc hne _
    by_cases c : (line.size : Int) + 1 + (W[i].size : Int) ≤ w
    · refine EvP.step (fun k => by rw [spec_l17Lines.l2]) ?_
      simp (disch := (try simp only [size_app, e1]); omega) only [cpos, Int.toNat_natCast, getD_at hi, wrap_in, cble]
      refine lines_p W hs w hw1 hw2 hW hlen n (i + 1) (by omega) (by omega) acc (line ++ ⟨#[32]⟩ ++ W[i]) (by omega) (by rw [size_app, size_app, e1]; omega) (by rw [J_last, hj, hnext]) fun x hx' => ?_
      rcases List.mem_append.1 hx' with hx' | hx'
      · exact ho x (List.mem_append_left _ hx')
      · rw [List.mem_singleton] at hx'
        left
        rw [hx', size_app, size_app, e1]
        omega
    · have hr : room (acc.length + ([line] : List ByteArray).length) .str = true := room_str (by simp; omega)
      refine EvP.step (fun k => by rw [spec_l17Lines.l2]) ?_
      simp (disch := (try simp only [size_app, e1, ei]); omega) only [cpos, cneg, Int.toNat_natCast, getD_at hi, wrap_in, cble, hr, cond_true]
      have e0 : indent 0 ++ W[i] = W[i] := L_inj (by rw [L_append, indent_L]; rfl)
      rw [e0]
      refine lines_p W hs w hw1 hw2 hW hlen n (i + 1) (by omega) (by omega) (acc ++ [line]) W[i] (by simp; omega) (by omega) (by rw [J_snoc (by simp), hj, hnext]) fun x hx' => ?_
      rcases List.mem_append.1 hx' with hx' | hx'
      · exact ho x hx'
      · rw [List.mem_singleton] at hx'
        right
        rw [hx']
        exact hs _ (List.getElem_mem hi)
/-- The lines without an indent: what they are put together, and that a long one is a single word. -/
theorem lines_prop (s : ByteArray) (hs : s.size ≤ 4000) (w : Int) (hw1 : 0 ≤ w) (hw2 : w ≤ 120) : EvP (fun k => spec_l17Lines.F k s w 0) fun r => J r = L s ∧ ∀ x ∈ r, okLine w x := by
  unfold spec_l17Lines.F
  obtain ⟨hl1, hl2⟩ := words_len s
  obtain ⟨hj, hn⟩ := words_join s
  have hW : ∀ x ∈ words s, x.size ≤ 4000 := fun x hx => Nat.le_trans (words_small _ _ x hx) hs
  have h0 : 0 < (words s).length := by omega
  have hx := hW _ (List.getElem_mem h0)
  have hi := indent_l0 s w 0 (by omega) 0 0 (by omega)
  rw [show indent 0 = ⟨#[]⟩ from rfl] at hi
  refine EvP.of hi (EvP.of (specSplit_ev s hs) ?_)
  simp (disch := omega) only [cpos]
  rw [show ((0 : Int).toNat) = 0 from rfl, getD_at h0]
  have h1 : (words s).take 1 = [(words s)[0]] := by
    rw [List.take_add_one, List.getElem?_eq_getElem h0]; rfl
  have := lines_p (words s) hn w hw1 hw2 hW (by omega) ((words s).length - 1) 1 (by omega) (Nat.le_refl _) [] (words s)[0] (by simp) (by omega) (by rw [h1]; rfl) (fun x hx => by
    rw [List.nil_append, List.mem_singleton] at hx
    right
    rw [hx]
    exact hn _ (List.getElem_mem h0))
  obtain ⟨r2, q1, q2, q3⟩ : ∃ r : List ByteArray × ByteArray, Ev (fun k => spec_l17Lines.l2 k w (indent 0) (words s) [] (words s)[0] 1) r ∧ J (r.1 ++ [r.2]) = J (words s) ∧ ∀ x ∈ r.1 ++ [r.2], okLine w x := by
    obtain ⟨r, a, b, c⟩ := this
    exact ⟨r, a, b, c⟩
  obtain ⟨q, z1, z2, z3⟩ := lines_l (words s) 0 (by omega) w hw1 hw2 hW (by omega) ((words s).length - 1) 1 (by omega) (Nat.le_refl _) [] (words s)[0] 1 (by simp) (by omega) (by omega) (by omega)
  obtain rfl := Ev.uniq q1 z1
  refine EvP.of q1 ?_
  have hr : room (r2.1.length + ([r2.2] : List ByteArray).length) .str = true := room_str (by simp; omega)
  simp only [hr, cond_true]
  exact EvP.pure _ ⟨by rw [q2, hj], q3⟩
end Go.Proofs.YtplkkhldibaipaaDoor
end
section
/- The plain law of FnWrapping. -/
namespace Go.Proofs.YtplkkhldibaipaaDoor
open Go.Gx
set_option linter.unusedVariables false
set_option linter.unusedSimpArgs false

/-! ### What is drawn -/
theorem and255 (z : Int) : 0 ≤ IntKind.wrap .i64 (IntKind.wrap .u64 ((BitVec.ofInt (IntKind.bits .u64) z &&& BitVec.ofInt (IntKind.bits .u64) 255).toNat : Int)) ∧ IntKind.wrap .i64 (IntKind.wrap .u64 ((BitVec.ofInt (IntKind.bits .u64) z &&& BitVec.ofInt (IntKind.bits .u64) 255).toNat : Int)) ≤ 255 := by
  have h1 : (BitVec.ofInt (IntKind.bits .u64) z &&& BitVec.ofInt (IntKind.bits .u64) 255).toNat ≤ 255 := by
    rw [BitVec.toNat_and]
    exact Nat.le_trans Nat.and_le_right (Nat.le_of_eq rfl)
  generalize (BitVec.ofInt (IntKind.bits .u64) z &&& BitVec.ofInt (IntKind.bits .u64) 255).toNat = m at h1
  have h2 : IntKind.wrap .u64 (m : Int) = m := by rw [IntKind.wrap_u64]; omega
  rw [h2, wrap_in (by omega) (by omega)]
  omega
def byt (l : List Int) : Prop := (∀ b ∈ l, 0 ≤ b ∧ b ≤ 255) ∧ l.length ≤ 65536
theorem next_ev (c : Cur) (hc : byt c.code) (h0 : 0 ≤ c.at_) (h1 : c.at_ ≤ 1000000) : ∃ c' x, spec_l1Cur_next.F c = some (c', x) ∧ c'.code = c.code ∧ c'.at_ = c.at_ + 1 ∧ 0 ≤ x ∧ x ≤ 255 := by
  unfold spec_l1Cur_next.F
  have hl := hc.2
  have z40 : (decide ((0 : Nat) ≤ 40)) = true := rfl
  by_cases c1 : c.at_ < (c.code.length : Int)
  · have hi : c.at_.toNat < c.code.length := by omega
    have hb : 0 ≤ c.code.getD c.at_.toNat 0 ∧ c.code.getD c.at_.toNat 0 ≤ 255 := by
      have : c.code.getD c.at_.toNat 0 = c.code[c.at_.toNat] := by simp [List.getD, hi]
      rw [this]; exact hc.1 _ (List.getElem_mem hi)
    by_cases c2 : c.at_ + 1 ≤ (c.code.length : Int)
    · refine ⟨⟨c.code, c.at_ + 1, _⟩, _, by simp (disch := omega) only [cpos, wrap_in]; rfl, rfl, rfl, hb⟩
    · omega
  · have c2 : ¬ c.at_ + 1 ≤ (c.code.length : Int) := by omega
    refine ⟨⟨c.code, c.at_ + 1, _⟩, _, by simp (disch := omega) only [cneg, wrap_in, z40, cond_true]; rfl, rfl, rfl, and255 _⟩
theorem pick_ev (c : Cur) (hc : byt c.code) (h0 : 0 ≤ c.at_) (h1 : c.at_ ≤ 1000000) (n : Int) (hn : 1 ≤ n) (hn2 : n ≤ 200) : ∃ c' x, spec_l1Cur_pick.F c n = some (c', x) ∧ c'.code = c.code ∧ 0 ≤ c'.at_ ∧ c'.at_ ≤ c.at_ + 1 ∧ 0 ≤ x ∧ x < n := by
  unfold spec_l1Cur_pick.F
  by_cases c1 : n ≤ 1
  · refine ⟨c, 0, by simp (disch := omega) only [cpos], rfl, h0, by omega, by omega, by omega⟩
  · obtain ⟨c', x, e1, e2, e3, e4, e5⟩ := next_ev c hc h0 h1
    refine ⟨c', Int.tmod x n, ?_, e2, by omega, by omega, Int.tmod_nonneg _ e4, Int.tmod_lt_of_pos _ (by omega)⟩
    have hz : (n == 0) = false := by rw [beq_eq_false_iff_ne]; omega
    simp (disch := omega) only [cneg, e1, Option.bind_some, hz, cond_false]
theorem of_ev (c : Cur) (hc : byt c.code) (h0 : 0 ≤ c.at_) (h1 : c.at_ ≤ 1000000) (l : List ByteArray) (hn : 1 ≤ l.length) (hn2 : l.length ≤ 200) : ∃ c' x, spec_l1Cur_of.F c l = some (c', x) ∧ c'.code = c.code ∧ 0 ≤ c'.at_ ∧ c'.at_ ≤ c.at_ + 1 ∧ x ∈ l := by
  unfold spec_l1Cur_of.F
  obtain ⟨c', x, e1, e2, e3, e4, e5, e6⟩ := pick_ev c hc h0 h1 (l.length : Int) (by omega) (by omega)
  have hi : x.toNat < l.length := by omega
  refine ⟨c', l.getD x.toNat ⟨#[]⟩, ?_, e2, e3, e4, by rw [getD_at hi]; exact List.getElem_mem hi⟩
  simp (disch := omega) only [e1, Option.bind_some, cpos]
theorem among_ev (c : Cur) (hc : byt c.code) (h0 : 0 ≤ c.at_) (h1 : c.at_ ≤ 1000000) (l : List Int) (hn : 1 ≤ l.length) (hn2 : l.length ≤ 200) : ∃ c' x, spec_l1Cur_among.F c l = some (c', x) ∧ x ∈ l := by
  unfold spec_l1Cur_among.F
  obtain ⟨c', x, e1, e2, e3, e4, e5, e6⟩ := pick_ev c hc h0 h1 (l.length : Int) (by omega) (by omega)
  have hi : x.toNat < l.length := by omega
  refine ⟨c', l.getD x.toNat 0, ?_, by rw [getD_at hi]; exact List.getElem_mem hi⟩
  simp (disch := omega) only [e1, Option.bind_some, cpos]
theorem draw_l0 : ∀ n : Nat, n ≤ 20 → ∀ (c : Cur), byt c.code → 0 ≤ c.at_ → c.at_ + n ≤ 1000000 → ∀ s : ByteArray, s.size + 12 * n ≤ 1000000 → EvP (fun k => spec_DrawWrapText.l0 k c s n) fun r => byt r.1.code ∧ 0 ≤ r.1.at_ ∧ r.1.at_ ≤ c.at_ + n ∧ r.2.size ≤ s.size + 12 * n
  | 0, _, c, hc, h0, h1, s, hs => by
    refine EvP.step (fun k => by rw [spec_DrawWrapText.l0]) ?_
    simp (disch := omega) only [cneg]
    exact EvP.pure _ ⟨hc, h0, by show c.at_ ≤ c.at_ + _; omega, by show s.size ≤ _; omega⟩
  | n + 1, hn, c, hc, h0, h1, s, hs => by
    obtain ⟨c', x, e1, e2, e3, e4, e5⟩ := of_ev c hc h0 (by omega) [(⟨#[97]⟩ : ByteArray), (⟨#[111, 110]⟩ : ByteArray), (⟨#[114, 105, 118, 101, 114, 115]⟩ : ByteArray), (⟨#[99, 97, 114, 116, 111, 103, 114, 97, 112, 104, 121]⟩ : ByteArray), (⟨#[97, 110, 100]⟩ : ByteArray), (⟨#[]⟩ : ByteArray)] (by decide) (by decide)
    have hx : x.size ≤ 11 := by
      simp only [List.mem_cons, List.not_mem_nil, or_false] at e5
      rcases e5 with rfl | rfl | rfl | rfl | rfl | rfl <;> decide
    have e32 : (⟨#[32]⟩ : ByteArray).size = 1 := rfl
    have hc' : byt c'.code := by rw [e2]; exact hc
    refine EvP.step (fun k => by rw [spec_DrawWrapText.l0]) ?_
    simp (disch := omega) only [cpos]
    refine EvP.of0 e1 ?_
    by_cases c1 : ((n + 1 : Nat) : Int) > 1
    · simp (disch := (try simp only [size_app, e32]); omega) only [cpos, cble, wrap_in]
      rw [show (((n + 1 : Nat) : Int) - 1) = (n : Int) by omega]
      refine EvP.mono (draw_l0 n (by omega) c' hc' e3 (by omega) (s ++ x ++ ⟨#[32]⟩) (by rw [size_app, size_app, e32]; omega)) fun r hr => ⟨hr.1, hr.2.1, by omega, ?_⟩
      have := hr.2.2.2
      rw [size_app, size_app, e32] at this
      omega
    · simp (disch := (try simp only [size_app, e32]); omega) only [cneg, cble, wrap_in]
      rw [show (((n + 1 : Nat) : Int) - 1) = (n : Int) by omega]
      refine EvP.mono (draw_l0 n (by omega) c' hc' e3 (by omega) (s ++ x) (by rw [size_app]; omega)) fun r hr => ⟨hr.1, hr.2.1, by omega, ?_⟩
      have := hr.2.2.2
      rw [size_app] at this
      omega
theorem drawWrap_ev (code : List Int) (hc : byt code) : EvP (fun k => spec_DrawWrapText.F k code) fun r => r.1.size ≤ 300 ∧ 9 ≤ r.2 ∧ r.2 ≤ 121 := by
  unfold spec_DrawWrapText.F
  obtain ⟨c', x, e1, e2, e3, e4, e5, e6⟩ := pick_ev ⟨code, 0, 0⟩ hc (Int.le_refl 0) (show (0 : Int) ≤ 1000000 by decide) 20 (by omega) (by omega)
  refine EvP.of0 e1 ?_
  have e4 : c'.at_ ≤ 1 := e4
  have hc' : byt c'.code := by rw [e2]; exact hc
  obtain ⟨m, rfl⟩ : ∃ m : Nat, x = m := ⟨x.toNat, by omega⟩
  have hz : (⟨#[]⟩ : ByteArray).size = 0 := rfl
  refine EvP.bind (draw_l0 m (by omega) c' hc' e3 (by omega) ⟨#[]⟩ (by rw [hz]; omega)) fun r hr => ?_
  obtain ⟨h1, h2, h3, h4⟩ := hr
  rw [hz] at h4
  obtain ⟨c2, y, f1, f2⟩ := among_ev r.1 h1 h2 (by omega) [10, 12, 20, 30, 120, 10, 9, 121] (by decide) (by decide)
  refine EvP.of0 f1 (EvP.pure _ ⟨by show r.2.size ≤ 300; omega, ?_⟩)
  simp only [List.mem_cons, List.not_mem_nil, or_false] at f2
  show 9 ≤ y ∧ y ≤ 121
  omega
theorem drawHang_ev (code : List Int) (hc : byt code) : EvP (fun k => spec_DrawHangingLines.F k code) fun r => r.1.size ≤ 300 ∧ 9 ≤ r.2.1 ∧ r.2.1 ≤ 121 := by
  unfold spec_DrawHangingLines.F
  refine EvP.bind (drawWrap_ev code hc) fun r hr => ?_
  obtain ⟨c', x, e1, e2, e3, e4, e5, e6⟩ := pick_ev ⟨code, 0, 0⟩ hc (Int.le_refl 0) (show (0 : Int) ≤ 1000000 by decide) 11 (by omega) (by omega)
  exact EvP.of0 e1 (EvP.pure _ hr)

/-! ### Texts -/
theorem vTexts_l0 (xs : List ByteArray) (hlen : xs.length ≤ 1048576) : ∀ n i : Nat, i + n = xs.length → Ev (fun k => laws_vTexts.l0 k xs xs i) (.inr ())
  | 0, i, h => by
    refine Ev.step (fun k => by rw [laws_vTexts.l0]) ?_
    simp (disch := omega) only [cneg]
    exact Ev.pure _
  | n + 1, i, h => by
    refine Ev.step (fun k => by rw [laws_vTexts.l0]) ?_
    simp (disch := omega) only [cpos, Int.toNat_natCast, beqS_self, Bool.not_true, cond_false, wrap_in]
    exact vTexts_l0 xs hlen n (i + 1) (by omega)
theorem vTexts_ev (xs : List ByteArray) (hlen : xs.length ≤ 1048576) : Ev (fun k => laws_vTexts.F k xs xs) true := by
  unfold laws_vTexts.F
  simp (disch := omega) only [cbeq]
  exact Ev.bind (vTexts_l0 xs hlen xs.length 0 (by omega)) (Ev.pure _)
theorem mem_J {xs : List ByteArray} {x : ByteArray} (h : x ∈ xs) : x.size ≤ (J xs).length := by
  induction xs with
  | nil => cases h
  | cons y l ih =>
    by_cases hl : l = []
    · subst hl
      rw [List.mem_singleton] at h
      rw [J_one, h, L_size]; exact Nat.le_refl _
    · rw [J_cons y hl, List.length_append, List.length_cons, L_size]
      rcases List.mem_cons.1 h with rfl | h
      · omega
      · have := ih h; omega
theorem count_l2 (s : ByteArray) (w : Int) (r : List ByteArray) (all : ByteArray) (i : Nat) (hi : i < r.length) (hs : r[i].size ≤ 1048576) : ∀ n j : Nat, j + n = r[i].size → ∀ c : Nat, c ≤ j → (0 < c → (32 : UInt8) ∈ L r[i]) →
    EvP (fun k => laws_FnWrapping.l2 k s w r all i c j) fun q => ∃ m : Nat, q = (s, w, r, all, (i : Int), (m : Int)) ∧ (0 < m → (32 : UInt8) ∈ L r[i])
  | 0, j, h, c, hc, hm => by
    refine EvP.step (fun k => by rw [laws_FnWrapping.l2]) ?_
    simp (disch := omega) only [cpos, cneg, Int.toNat_natCast, getD_at hi]
    exact EvP.pure _ ⟨c, rfl, hm⟩
  | n + 1, j, h, c, hc, hm => by
    have hj : j < (L r[i]).length := by rw [L_size]; omega
    have hbt : bt r[i] j = ((L r[i])[j].toNat : Int) := by rw [L_bt, getD_at hj]
    refine EvP.step (fun k => by rw [laws_FnWrapping.l2]) ?_
    simp (disch := omega) only [cpos, Int.toNat_natCast, getD_at hi]
    by_cases c1 : bt r[i] j = 32
    · simp (disch := first | exact c1 | omega) only [ceq, wrap_in]
      refine count_l2 s w r all i hi hs n (j + 1) (by omega) (c + 1) (by omega) fun _ => ?_
      have : (L r[i])[j] = 32 := by
        apply UInt8.toNat_inj.1
        have : (32 : UInt8).toNat = 32 := rfl
        omega
      rw [← this]
      exact List.getElem_mem hj
    · simp (disch := first | exact c1 | omega) only [cne, wrap_in]
      exact count_l2 s w r all i hi hs n (j + 1) (by omega) c (by omega) hm
theorem check_l0 (s : ByteArray) (w : Int) (r : List ByteArray) (hr : r.length ≤ 4002) (ho : ∀ x ∈ r, okLine w x) (hz : ∀ x ∈ r, x.size ≤ 300) : ∀ n i : Nat, i + n = r.length → ∀ all : ByteArray, L all = J (r.take i) → all.size ≤ 400 * i →
    EvP (fun k => laws_FnWrapping.l0 k s w r all i) fun q => ∃ t, q = .inr (s, w, r, t) ∧ L t = J r
  | 0, i, h, all, ha, hs => by
    refine EvP.step (fun k => by rw [laws_FnWrapping.l0]) ?_
    simp (disch := omega) only [cneg]
    rw [List.take_of_length_le (by omega)] at ha
    exact EvP.pure _ ⟨all, rfl, ha⟩
  | n + 1, i, h, all, ha, hs => by
    have hi : i < r.length := by omega
    have hx := hz _ (List.getElem_mem hi)
    have e32 : (⟨#[32]⟩ : ByteArray).size = 1 := rfl
    have rest : ∀ t : ByteArray, L t = J (r.take (i + 1)) → t.size ≤ 400 * (i + 1) → EvP (fun k => (laws_FnWrapping.l2 k s w r t i 0 0).bind fun y9 => bif decide (0 ≤ y9.2.2.2.2.1) then (bif decide (y9.2.2.2.2.1 < (y9.2.2.1.length : Int)) then (bif (decide (((y9.2.2.1.getD ((y9.2.2.2.2.1 : Int).toNat) (⟨#[]⟩ : ByteArray)).size : Int) > y9.2.1)) then (bif (decide (y9.2.2.2.2.2 > 0)) then (some (.inl false)) else (laws_FnWrapping.l0 k y9.1 y9.2.1 y9.2.2.1 y9.2.2.2.1 (IntKind.wrap .i64 (y9.2.2.2.2.1 + 1)))) else (laws_FnWrapping.l0 k y9.1 y9.2.1 y9.2.2.1 y9.2.2.2.1 (IntKind.wrap .i64 (y9.2.2.2.2.1 + 1)))) else none) else none) fun q => ∃ t, q = .inr (s, w, r, t) ∧ L t = J r := fun t h1 h2 => by
      have ih := check_l0 s w r hr ho hz n (i + 1) (by omega) t h1 h2
      refine EvP.bind (count_l2 s w r t i hi (by omega) r[i].size 0 (by omega) 0 (Nat.le_refl _) (fun h => by omega)) fun q hq => ?_
      obtain ⟨m, rfl, hm⟩ := hq
      simp (disch := omega) only [cpos, Int.toNat_natCast, getD_at hi, wrap_in]
      by_cases c1 : (r[i].size : Int) > w
      · have h0 : m = 0 := by
          rcases Nat.eq_zero_or_pos m with h | h
          · exact h
          · rcases ho _ (List.getElem_mem hi) with h3 | h3
            · omega
            · exact absurd (hm h) h3
        subst h0
        simp (disch := omega) only [cpos, cneg]
        exact ih
      · simp (disch := omega) only [cneg]
        exact ih
    have ht : r.take (i + 1) = r.take i ++ [r[i]] := by rw [List.take_add_one, List.getElem?_eq_getElem hi]; rfl
    refine EvP.step (fun k => by rw [laws_FnWrapping.l0]) ?_
    by_cases c0 : i = 0
    · subst c0
      have ht0 : r.take 0 = [] := rfl
      simp (disch := (try simp only [size_app, e32]); omega) only [cpos, cneg, Int.toNat_natCast, getD_at hi, cble]
      refine rest (all ++ r[0]) ?_ (by rw [size_app]; omega)
      rw [L_append, ha, ht, ht0, List.nil_append, J_one]
      rfl
    · have hne : r.take i ≠ [] := fun e => by
        have := congrArg List.length e
        rw [List.length_take, List.length_nil] at this
        omega
      simp (disch := (try simp only [size_app, e32]); omega) only [cpos, Int.toNat_natCast, getD_at hi, cble]
      refine rest (all ++ ⟨#[32]⟩ ++ r[i]) ?_ (by rw [size_app, size_app, e32]; omega)
      rw [L_append, L_append, ha, ht, J_snoc hne]
      show J (r.take i) ++ [32] ++ L r[i] = _
      simp

/-! ### The law -/
theorem wrapping_law (code : List Int) (hw : WF (.sl (.int .u8)) code) : ∃ k, laws_FnWrapping.F k code = some true := by
  refine Ev.get (?_ : Ev (fun k => laws_FnWrapping.F k code) true)
  unfold laws_FnWrapping.F
  have hv : laws_vBig.F code = some (decide ((code.length : Int) > 65536)) := rfl
  refine Ev.bind0 hv ?_
  by_cases cb : (code.length : Int) > 65536
  · simp (disch := omega) only [cpos]
    exact Ev.pure _
  simp (disch := omega) only [cneg]
  have hc : byt code := by
    refine ⟨fun b hb => ?_, by omega⟩
    obtain ⟨i, hi, rfl⟩ := List.getElem_of_mem hb
    cases hw with
    | sl _ _ _ h =>
      have := h i hi
      cases this with
      | int _ _ h =>
        have h1 : IntKind.u8.min = 0 := rfl
        have h2 : IntKind.u8.max = 255 := rfl
        simp only [Lit.wf, Bool.and_eq_true, decide_eq_true_eq] at h
        omega
  obtain ⟨⟨s, w, d⟩, d1, hs, hw1, hw2⟩ := drawHang_ev code hc
  have hs : s.size ≤ 300 := hs
  have hw1 : 9 ≤ w := hw1
  have hw2 : w ≤ 121 := hw2
  refine Ev.bind d1 ?_
  dsimp only
  obtain ⟨hl, hb, g1, g2, g3⟩ := hanging_ev s w d
  have w1 := width_ev s w
  have w2 := canWrap_ev s w
  cases hf : fits s w with
  | false =>
    rw [hf] at w1 w2
    have s1 : Ev (fun k => spec_WrapText.F k s w) ([], false) := by unfold spec_WrapText.F; exact Ev.bind0 w1 (Ev.pure _)
    have s2 : Ev (fun k => impl_WrapText.F k s w) ([], false) := by unfold impl_WrapText.F; exact Ev.bind0 w2 (Ev.pure _)
    refine Ev.bind s2 (Ev.bind s1 ?_)
    simp only [beq_self_eq_true, Bool.not_true, cond_false]
    refine Ev.bind (vTexts_ev [] (by decide)) ?_
    simp only [Bool.not_true, cond_false]
    refine Ev.bind g2 (Ev.bind g1 ?_)
    simp only [beq_self_eq_true, Bool.not_true, cond_false]
    refine Ev.bind (vTexts_ev hl (by omega)) ?_
    simp only [Bool.not_true, Bool.not_false, cond_false, cond_true]
    exact Ev.pure _
  | true =>
    rw [hf] at w1 w2
    unfold fits at hf
    simp only [Bool.and_eq_true, decide_eq_true_eq] at hf
    obtain ⟨r, r1, r2, r3⟩ := lines_ev s (by omega) 0 (by omega) w (by omega) (by omega)
    obtain ⟨r', p1, p2, p3⟩ := lines_prop s (by omega) w (by omega) (by omega)
    obtain rfl := Ev.uniq r1 p1
    have s1 : Ev (fun k => spec_WrapText.F k s w) (r, true) := by unfold spec_WrapText.F; exact Ev.bind0 w1 (Ev.bind r1 (Ev.pure _))
    have s2 : Ev (fun k => impl_WrapText.F k s w) (r, true) := by unfold impl_WrapText.F; exact Ev.bind0 w2 (Ev.bind r2 (Ev.pure _))
    have s3 : Ev (fun k => impl_HangingLines.F k s w 0) (r, true) := by
      unfold impl_HangingLines.F
      refine Ev.bind0 w2 ?_
      simp only [Bool.not_true, cond_false]
      exact Ev.bind0 (inside_ev 0 0 8) (Ev.bind r2 (Ev.pure _))
    have hz : ∀ x ∈ r, x.size ≤ 300 := fun x hx => by
      have := mem_J hx
      rw [p2, L_size] at this
      omega
    refine Ev.bind s2 (Ev.bind s1 ?_)
    simp only [beq_self_eq_true, Bool.not_true, cond_false]
    refine Ev.bind (vTexts_ev r (by omega)) ?_
    simp only [Bool.not_true, cond_false]
    refine Ev.bind g2 (Ev.bind g1 ?_)
    simp only [beq_self_eq_true, Bool.not_true, cond_false]
    refine Ev.bind (vTexts_ev hl (by omega)) ?_
    simp only [Bool.not_true, cond_false]
    obtain ⟨q, q1, t, rfl, q3⟩ := check_l0 s w r r3 p3 hz r.length 0 (by omega) ⟨#[]⟩ rfl (Nat.zero_le _)
    refine Ev.bind (a := .inr (s, w, r, t)) q1 ?_
    dsimp only
    refine Ev.bind s3 ?_
    have : t = s := L_inj (by rw [q3, p2])
    rw [this, beqS_self]
    simp only [cond_true]
    exact Ev.bind (vTexts_ev r (by omega)) (Ev.pure _)
end Go.Proofs.YtplkkhldibaipaaDoor
end
section
/- The law FnWrapping returns true for every input, the listed package variables being as the program's text lays it: the card. -/
namespace Go.Proofs.YtplkkhldibaipaaDoor
open Go.Gx Go.RowKit Go.ChangeShapes Go.WideShapes Go.ChangeAt
set_option linter.unusedVariables false
theorem fnWrapping_own : ownKnob Tryd.prog.godebug = none := by kernel_rfl
set_option maxRecDepth 100000 in
theorem fnWrapping_contract (H : Type) (enc : TypeId × Value → H) (W : World) (base : Nat) (args : Array Value) (ds gs : List (DataW H)) (before : List MemPlace)
    (hval : ∀ (j : Nat) t v, Tryd.f3.params[j]? = some t → args[j]? = some v → Value.okWide Tryd.prog W .any base t v)
    (hW : DataW.Whole enc Tryd.prog Tryd.f3.params.toList Rows.fnWrappingSpec.vars false W args.toList ds gs before) (hsh : W.ShapedOpen Tryd.prog) :
    Calls Tryd.prog 3 args W fun e W' => ∃ v, e = .returned v ∧ Rows.fnWrappingSpec.post enc Tryd.prog Tryd.f3 false true false false W args v W' := by
  have hgs : gs = [] := by
    obtain ⟨p, q, _, hV, _⟩ := hW
    exact (trodVars_none hV).1
  subst hgs
  have hds : ∃ d1, ds = [d1] := by
    obtain ⟨p, q, hA, _⟩ := hW
    obtain ⟨_, _, d1, e0, _, _, _, rfl, _, _, h0⟩ := trodAll_cons hA
    obtain ⟨_, rfl, _⟩ := trodAll_nil h0
    exact ⟨d1, rfl⟩
  obtain ⟨d1, rfl⟩ := hds
  have hgl : GlOk envX (Lt W) W := by
    refine ⟨fun g b h => (by cases h), fun g hg => ?_⟩
    have hg' : giT g = true := hg
    unfold giT at hg'
    split at hg'
    · obtain ⟨m, hm⟩ := cell_of_shapedOpen_int (P := Tryd.prog) (g := 0) (t := 3) (zero := #[.int .i64 0]) hsh (of_decide_eq_true (by kernel_rfl)) (by kernel_rfl) rfl (by kernel_rfl) (by kernel_rfl) (by kernel_rfl)
      exact ⟨World.block_lt_of_cell? _ _ hm, m, hm⟩
    · cases hg'
  refine law_contract (τs := [(.sl (.int .u8))]) (r := .t .bool true) envOk (by kernel_rfl) rfl (by kernel_rfl) (by kernel_rfl) rfl (by kernel_rfl) (by kernel_rfl) (fun t ht => ?_) rfl (fun x hx => by
      obtain ⟨k, hk⟩ := wrapping_law x.1 hx.1
      exact laws_FnWrapping.good envOk _ k _ hk) rfl hval hW hgl (fun q hq W' _ => ?_)
  · have : t ∈ [22] := ht
    simp only [List.mem_cons, List.not_mem_nil, or_false] at this
    rcases this with rfl <;> exact ⟨by kernel_rfl, Nat.le_of_ble_eq_true (by kernel_rfl)⟩
  · obtain ⟨_, rfl⟩ := trodVars_none hq
    exact rfl
set_option maxRecDepth 100000 in
noncomputable def fnWrapping_world (os : Os) : World :=
  { World.holding Tryd.prog os ⟨#[], #[], []⟩ with heap := (((World.holding Tryd.prog os ⟨#[], #[], []⟩).heap.modify 2 fun
      | .cells _ t frozen => .cells #[.int .u8 128, .int .u8 191, .int .u8 160, .int .u8 191, .int .u8 128, .int .u8 159, .int .u8 144, .int .u8 191, .int .u8 128, .int .u8 143, .int .u8 0, .int .u8 0, .int .u8 0, .int .u8 0, .int .u8 0, .int .u8 0, .int .u8 0, .int .u8 0, .int .u8 0, .int .u8 0, .int .u8 0, .int .u8 0, .int .u8 0, .int .u8 0, .int .u8 0, .int .u8 0, .int .u8 0, .int .u8 0, .int .u8 0, .int .u8 0, .int .u8 0, .int .u8 0] t frozen
      | o => o).modify 1 fun
      | .cells _ t frozen => .cells (Pinned.utf8FirstZ.map fun (n : Nat) => Value.int .u8 (n : Int)).toArray t frozen
      | o => o) }
theorem fnWrapping_met (os : Os) : laidMet Tryd.prog Rows.fnWrappingRow.laid ((fnWrapping_world os).forCall (fun _ _ => 0) ⟨#[], #[.slice none 0 0], []⟩).memory :=
  laidMet_of_run' 8 (by kernel_rfl) (by kernel_rfl)
theorem fnWrapping_reads (os : Os) {H : Type} (enc : TypeId × Value → H) : ∃ places, DataW.whole enc Tryd.prog ((fnWrapping_world os).forCall (fun _ _ => 0) ⟨#[], #[.slice none 0 0], []⟩).memory Tryd.f3.params.toList Rows.fnWrappingSpec.vars false #[.slice none 0 0].toList 8 = some ([.nil], [], places) :=
  ⟨[], by kernel_rfl⟩
set_option maxRecDepth 100000 in
theorem fnWrapping_lifted (os : Os) (started : os.Started) (H : Type) (enc : TypeId × Value → H) (F : Stop.Interp) :
    ReturnsInHanded {} Tryd.checked os 3 .any ((OpenSpec.ofChange Rows.fnWrappingSpec).preRow enc Tryd.prog Tryd.f3 Rows.fnWrappingRow.domain false Rows.fnWrappingRow.laid) (((OpenSpec.ofChange Rows.fnWrappingSpec).at F).post enc Tryd.prog Tryd.f3 false true false false) := by
  obtain ⟨places, hx⟩ := fnWrapping_reads os enc
  refine returnsInHanded_of_row (C := Tryd.checked) (s := OpenSpec.ofChange Rows.fnWrappingSpec) fnWrapping_own started (by kernel_rfl) (by kernel_rfl)
    (witness_row_at (enc := enc) (C := Tryd.checked) false (fnWrapping_world os) #[.slice none 0 0] rfl (by kernel_rfl) (by kernel_rfl) (by kernel_rfl)
      (OpenSpec.preRow_of_cond 8 hx (by kernel_rfl) (fun k hk => by cases hk) (by kernel_rfl) (fnWrapping_met os))) ?_
  intro W base args ds gs before hval hW _ _ _ _ hsh _
  exact fnWrapping_contract H enc W base args ds gs before hval hW hsh
theorem fnWrapping_said : Rows.FnWrappingSaid :=
  OpenClaim.holds_of_cond 3 Tryd.f3 rfl rfl rfl rfl rfl rfl rfl ⟨rfl, rfl, rfl, rfl, rfl⟩ rfl rfl rfl rfl rfl (by kernel_rfl) (by kernel_rfl) (by kernel_rfl)
    (of_decide_eq_true (by kernel_rfl)) (by unfold Func.isWrapper; first | (rw [if_pos (by decide +kernel)]; kernel_rfl) | (rw [if_neg (by decide +kernel)]; exact ⟨rfl, rfl⟩))
    (fun os started H enc _ F => by rw [OpenClaim.pre_eq_preRow]; exact fnWrapping_lifted os started H enc F)
theorem fnWrapping_plain (f : FuncId) (fn : Func) (hf : Tryd.pinned.checked.prog.funcNamed "loop.example/g00896/laws.FnWrapping" = some f) (hfn : Tryd.pinned.checked.prog.funcs[f]? = some fn) :
    false = Tryd.pinned.checked.prog.looks [] ∧ ∀ (j : Nat) t, fn.params[j]? = some t → Tryd.pinned.checked.prog.wantsStandIn t = false := by
  obtain rfl : f = 3 := (Option.some.inj ((show Tryd.prog.funcNamed "loop.example/g00896/laws.FnWrapping" = some 3 by kernel_rfl).symm.trans hf)).symm
  obtain rfl : fn = Tryd.f3 := (Option.some.inj ((show Tryd.prog.funcs[3]? = some Tryd.f3 by kernel_rfl).symm.trans hfn)).symm
  refine ⟨by kernel_rfl, fun j t ht => ?_⟩
  have ht' : t ∈ [22] := by simpa using Array.mem_of_getElem? (show (#[22] : Array Nat)[j]? = some t from ht)
  simp only [List.mem_cons, List.not_mem_nil, or_false] at ht'
  rcases ht' with rfl
  · exact (show Tryd.prog.wantsStandIn 22 = false by kernel_rfl)
theorem FnWrapping_holds : Rows.FnWrappingCardSaid :=
  Claim7.holds_tied_plain_at .later [] _ _ _ _ fnWrapping_said (fun _ h => by cases h) (by kernel_rfl) (fun _ h => by cases h) fnWrapping_row_tie rfl ⟨rfl, rfl⟩ (by kernel_rfl) rfl fnWrapping_plain (by kernel_rfl)
#print axioms FnWrapping_holds
end Go.Proofs.YtplkkhldibaipaaDoor
end
