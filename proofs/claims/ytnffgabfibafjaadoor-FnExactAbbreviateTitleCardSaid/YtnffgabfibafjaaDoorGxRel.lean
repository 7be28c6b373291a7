/- How the interpreter's values lie in the machine's memory. -/
import Derived.Test.YtnffgabfibafjaaDoorGxSpec
import Derived.Tactics
import Derived.LoopN
import Derived.Below
import Derived.Laws.AppendOwn
import Derived.Laws.OwnMore
namespace Go.Gx
open Go.RowKit

/-- Where a row lies: at the start of block g, of cap elements; or nowhere, the slice being nil. -/
inductive Loc where
  | at (g cap : Nat)
  | nilrow
/-- What was there and is to stay as it is; where the row that was handed over lies. -/
structure Old where
  K : Nat → Prop
  pin : Option Loc
instance : CoeFun Old (fun _ => Nat → Prop) := ⟨Old.K⟩
/-- What lies in B is as it was; the streams too; no block has gone. -/
structure Blw (B : Old) (w w' : World) : Prop where
  os : w'.os = w.os
  tape : w'.tape = w.tape
  output : w'.output = w.output
  size : w.heap.size ≤ w'.heap.size
  block : ∀ k, B k → w'.heap[k]? = w.heap[k]?
theorem Blw.refl (B : Old) (w : World) : Blw B w w := ⟨rfl, rfl, rfl, Nat.le_refl _, fun _ _ => rfl⟩
theorem Blw.trans {B : Old} {a b c : World} (h : Blw B a b) (k : Blw B b c) : Blw B a c :=
  ⟨k.os.trans h.os, k.tape.trans h.tape, k.output.trans h.output, Nat.le_trans h.size k.size, fun i hi => (k.block i hi).trans (h.block i hi)⟩
theorem Blw.drew {B : Old} {a w : World} (h : Blw B a w) : Blw B a w.drew := ⟨h.os, h.tape, h.output, h.size, h.block⟩
theorem Blw.alloc {B : Old} {a w : World} (h : Blw B a w) (hB : ∀ k, B k → k < w.heap.size) (o : Obj) : Blw B a (w.alloc o) :=
  h.trans ⟨rfl, rfl, rfl, by simp, fun k hk => Below.heap_alloc _ _ _ (hB k hk)⟩
theorem Blw.of {B : Old} {n : Nat} {w w' : World} (h : Below n w w') (hB : ∀ k, B k → k < n) : Blw B w w' := ⟨h.os, h.tape, h.output, h.size, fun k hk => h.block k (hB k hk)⟩
theorem Blw.to {n : Nat} {w w' : World} (h : Blw ⟨fun b => b < n, none⟩ w w') : Below n w w' := ⟨h.os, h.tape, h.output, h.size, h.block⟩

/-! ### 1. Plain data -/
/-- Plain data reads as these cells. S: blocks that never change any more. -/
inductive CR (S : Nat → Prop) (w : World) : (τ : Ty) → den τ → List Value → Prop
  | int (k : IntKind) (n : Int) : CR S w (.int k) n [.int k n]
  | bool (b : Bool) : CR S w .bool b [.bool b]
  | str (s : ByteArray) : CR S w .str s [.string s]
  | sl (e : Ty) (xs : List (den e)) (A : Option Addr) (c : Nat) (cv : Nat → List Value) (hc : xs.length ≤ c) (hm : c ≤ maxLen)
      (h1 : ∀ i (h : i < xs.length), CR S w e xs[i] (cv i))
      (h2 : ∀ i, i < xs.length → ∃ g o, A = some ⟨g, o, none⟩ ∧ S g ∧ ∀ j v, (cv i)[j]? = some v → w.cell? ⟨g, o + (i * nc e + j), none⟩ = some v) :
      CR S w (.sl e) xs [.slice A xs.length c]
  | arr (n : Nat) (e : Ty) (xs : List (den e)) (cv : Nat → List Value) (hl : xs.length = n) (h1 : ∀ i (h : i < xs.length), CR S w e xs[i] (cv i)) :
      CR S w (.arr n e) xs ((List.range n).flatMap cv)
  | date (d : Date) : CR S w .date d [.int .i64 d.y, .int .i64 d.m, .int .i64 d.d, .bool d.c]
  | name (n : Name) (v : Value) (h : CR S w (.sl .str) n.given [v]) : CR S w .name n [v, .string n.particle, .string n.family, .string n.suffix]
  | entry (e : Entry) (va ve : Value) (ha : CR S w (.sl .name) e.authors [va]) (he : CR S w (.sl .name) e.editors [ve]) :
      CR S w .entry e [.string e.key, .int .i64 e.kind, va, ve, .string e.title, .string e.container, .string e.publisher,
        .int .i64 e.date.y, .int .i64 e.date.m, .int .i64 e.date.d, .bool e.date.c, .int .i64 e.volume, .string e.pages, .string e.cross]
  | lib (l : Library) (v : Value) (h : CR S w (.sl .entry) l.entries [v]) : CR S w .lib l [v]
  | abbr (a : Abbr) : CR S w .abbr a [.string a.word, .string a.short]
  | query (q : Query) (v : Value) (h : CR S w (.sl .query) q.parts [v]) : CR S w .query q [.int .i64 q.op, .string q.field, .string q.word, v]

theorem CR.mono {S S' : Nat → Prop} {w w' : World} (hS : ∀ b, S b → S' b) (hw : ∀ b, S b → w'.heap[b]? = w.heap[b]?) {τ : Ty} {x : den τ} {cs : List Value} (h : CR S w τ x cs) : CR S' w' τ x cs := by
  induction h with
  | int k n => exact .int k n
  | bool b => exact .bool b
  | str s => exact .str s
  | sl e xs A c cv hc hm _ h2 ih =>
    refine .sl e xs A c cv hc hm ih fun i hi => ?_
    obtain ⟨g, o, e1, hs, hcell⟩ := h2 i hi
    exact ⟨g, o, e1, hS g hs, fun j v hv => (World.cell?_of_block (w := w) (a := ⟨g, _, none⟩) (hw g hs)).trans (hcell j v hv)⟩
  | arr n e xs cv hl _ ih => exact .arr n e xs cv hl ih
  | date d => exact .date d
  | name n v _ ih => exact .name n v ih
  | entry e va ve _ _ ih1 ih2 => exact .entry e va ve ih1 ih2
  | lib l v _ ih => exact .lib l v ih
  | abbr a => exact .abbr a
  | query q v _ ih => exact .query q v ih

theorem CR.len {S : Nat → Prop} {w : World} {τ : Ty} {x : den τ} {cs : List Value} (h : CR S w τ x cs) : cs.length = nc τ := by
  induction h with
  | arr n e xs cv hl _ ih =>
    have : ∀ m, m ≤ xs.length → ((List.range m).flatMap cv).length = m * nc e := by
      intro m
      induction m with
      | zero => intro _; simp
      | succ m ihm =>
        intro hm
        rw [List.range_succ, List.flatMap_append, List.length_append, ihm (by omega)]
        simp [ih m (by omega), Nat.succ_mul]
    rw [← hl]
    exact this _ (Nat.le_refl _)
  | _ => rfl

theorem CR.one {S : Nat → Prop} {w : World} {τ : Ty} {x : den τ} {cs : List Value} (h : CR S w τ x cs) : ∀ v ∈ cs, v.oneCell' = true := by
  induction h with
  | arr n e xs cv hl _ ih =>
    intro v hv
    obtain ⟨i, hi, hv⟩ := List.mem_flatMap.1 hv
    exact ih i (by rw [hl]; simpa using hi) v hv
  | name n v _ ih => intro u hu; simp only [List.mem_cons, List.not_mem_nil, or_false] at hu; rcases hu with rfl | rfl | rfl | rfl <;> first | rfl | exact ih _ List.mem_cons_self
  | entry e va ve _ _ ih1 ih2 => intro u hu; simp only [List.mem_cons, List.not_mem_nil, or_false] at hu; rcases hu with rfl | rfl | rfl | rfl | rfl | rfl | rfl | rfl | rfl | rfl | rfl | rfl | rfl | rfl <;> first | rfl | exact ih1 _ List.mem_cons_self | exact ih2 _ List.mem_cons_self
  | lib l v _ ih => exact ih
  | query q v _ ih => intro u hu; simp only [List.mem_cons, List.not_mem_nil, or_false] at hu; rcases hu with rfl | rfl | rfl | rfl <;> first | rfl | exact ih _ List.mem_cons_self
  | _ => intro u hu; simp only [List.mem_cons, List.not_mem_nil, or_false] at hu; (repeat' (rcases hu with rfl | hu)) <;> first | rfl | (subst hu; rfl)

/-! ### 2. Values -/

/-- The offset of a path. -/
def offL : List Ty → Nat → Nat
  | [], _ => 0
  | _, 0 => 0
  | σ :: l, n + 1 => nc σ + offL l n
def offP : Ty → List Nat → Nat
  | _, [] => 0
  | τ, f :: p => offL (fty τ) f + offP ((fty τ).getD f .bool) p

def isAg : AV → Bool
  | .t τ _ => agT τ
  | .agg _ _ => true
  | .hole τ => agT τ
  | _ => false
def valOf (a : AV) (cs : List Value) : Value := cond (isAg a) (.agg cs.toArray) (cs.headD undef)
def valsOf : List AV → List (List Value) → List Value
  | a :: l, cs :: m => valOf a cs :: valsOf l m
  | _, _ => []

/-- The value of a row's tail. -/
def tailV (l : Loc) (len i n : Nat) : Value := match l with
  | .at g cap => .slice (some ⟨g, if cap = i then 0 else i * n, none⟩) (len - i) (cap - i)
  | .nilrow => .slice none 0 0
theorem tailV_one (l : Loc) (len i n : Nat) : (tailV l len i n).oneCell' = true := by cases l <;> rfl
section
variable (S : Nat → Prop) (w : World) (ρ : Nat → Option Loc) (row : Nat → Option Row) (pv : Nat → Value)
inductive AR : AV → List Value → Prop
  | t (τ : Ty) (x : den τ) (cs : List Value) (h : CR S w τ x cs) : AR (.t τ x) cs
  | nil : AR .nil [.slice none 0 0]
  | own (id e : Nat) (τ : Ty) (xs : List (den τ)) (fz app : Bool) (g cap : Nat) (h : row id = some (.flat e τ xs fz app)) (hl : ρ id = some (.at g cap)) :
      AR (.own id) [.slice (some ⟨g, 0, none⟩) xs.length cap]
  | ownNil (id e : Nat) (τ : Ty) (fz app : Bool) (h : row id = some (.flat e τ [] fz app)) (hl : ρ id = some .nilrow) : AR (.own id) [.slice none 0 0]
  | epB (id : Nat) (τ σ : Ty) (a : AV) (g cap : Nat) (p : List Nat) (h : row id = some (.box τ a)) (hl : ρ id = some (.at g cap)) (hp : tyP τ p = some σ) :
      AR (.ep id none p) [.pointer (some ⟨g, offP τ p, none⟩)]
  | epF (id e : Nat) (τ σ : Ty) (xs : List (den τ)) (fz app : Bool) (g cap i : Nat) (p : List Nat) (h : row id = some (.flat e τ xs fz app)) (hl : ρ id = some (.at g cap)) (hi : i < xs.length) (hp : tyP τ p = some σ) :
      AR (.ep id (some i) p) [.pointer (some ⟨g, i * nc τ + offP τ p, none⟩)]
  | tl (id e : Nat) (τ : Ty) (xs : List (den τ)) (fz app : Bool) (l : Loc) (i : Nat) (h : row id = some (.flat e τ xs fz app)) (hl : ρ id = some l) (hi : i ≤ xs.length) (hm : agT τ = false) :
      AR (.ep id (some i) [tmark]) [tailV l xs.length i (nc τ)]
  | tp (τ : Ty) (x : den τ) (cs : List Value) (g o : Nat) (h : CR S w τ x cs) (hS : S g) (hc : ∀ j v, cs[j]? = some v → w.cell? ⟨g, o + j, none⟩ = some v) :
      AR (.tp (.t τ x)) [.pointer (some ⟨g, o, none⟩)]
  | agg (τ : Ty) (fs : List AV) (css : List (List Value)) (hl : fs.length = css.length) (h : ∀ (i : Nat) (a : AV) (cs : List Value), fs[i]? = some a → css[i]? = some cs → AR a cs) : AR (.agg τ fs) css.flatten
  | hole (τ : Ty) (cs : List Value) (hl : cs.length = nc τ) (h1 : ∀ v ∈ cs, v.oneCell' = true) : AR (.hole τ) cs
  | tup (vs : List AV) (css : List (List Value)) (hl : vs.length = css.length) (h : ∀ (i : Nat) (a : AV) (cs : List Value), vs[i]? = some a → css[i]? = some cs → AR a cs) : AR (.tup vs) [.tuple (valsOf vs css).toArray]
  | clo (f : Nat) (caps : List AV) (css : List (List Value)) (hl : caps.length = css.length) (h : ∀ (i : Nat) (a : AV) (cs : List Value), caps[i]? = some a → css[i]? = some cs → AR a cs) :
      AR (.clo f caps) [.func (.func f) #[] (valsOf caps css).toArray]
  | par (i : Nat) (h1 : (pv i).oneCell' = true) : AR (.par i) [pv i]
def VR (a : AV) (v : Value) : Prop := a = .any ∨ ∃ cs, AR S w ρ row pv a cs ∧ v = valOf a cs
end

/-- A value names this row. -/
inductive Occ : AV → Nat → Prop
  | own (id : Nat) : Occ (.own id) id
  | ep (id : Nat) (i : Option Nat) (p : List Nat) : Occ (.ep id i p) id
  | agg (τ : Ty) (fs : List AV) (i : Nat) (a : AV) (id : Nat) (hi : fs[i]? = some a) (h : Occ a id) : Occ (.agg τ fs) id
  | tup (fs : List AV) (i : Nat) (a : AV) (id : Nat) (hi : fs[i]? = some a) (h : Occ a id) : Occ (.tup fs) id
  | clo (f : Nat) (fs : List AV) (i : Nat) (a : AV) (id : Nat) (hi : fs[i]? = some a) (h : Occ a id) : Occ (.clo f fs) id

theorem anyL_false {f : AV → Bool} : ∀ {l : List AV}, anyL f l = false → ∀ {i : Nat} {a : AV}, l[i]? = some a → f a = false
  | [], _, i, a, hi => by simp at hi
  | b :: l, h, 0, a, hi => by
    simp only [anyL, Bool.or_eq_false_iff] at h
    simp only [List.getElem?_cons_zero, Option.some.injEq] at hi
    exact hi ▸ h.1
  | b :: l, h, i + 1, a, hi => by
    simp only [anyL, Bool.or_eq_false_iff] at h
    exact anyL_false h.2 (by simpa using hi)

theorem inR_false {lo hi id : Nat} (h : (Nat.ble lo id && Nat.blt id hi) = false) : ¬ (lo ≤ id ∧ id < hi) := by
  rintro ⟨h1, h2⟩
  rw [Bool.and_eq_false_iff] at h
  rcases h with h | h
  · rw [Nat.ble_eq_true_of_le h1] at h; cases h
  · have : Nat.blt id hi = true := Nat.ble_eq_true_of_le h2
    rw [this] at h; cases h
theorem hasIdN_false {lo hi : Nat} : ∀ {n : Nat} {a : AV}, hasIdN lo hi n a = false → ∀ {id : Nat}, Occ a id → ¬ (lo ≤ id ∧ id < hi)
  | 0, a, h, _, _ => by simp [hasIdN] at h
  | n + 1, a, h, id, ho => by
    cases ho with
    | own => exact inR_false h
    | ep => exact inR_false h
    | agg τ fs i b _ hi hb => exact hasIdN_false (anyL_false (f := hasIdN lo _ n) h hi) hb
    | tup fs i b _ hi hb => exact hasIdN_false (anyL_false (f := hasIdN lo _ n) h hi) hb
    | clo f fs i b _ hi hb => exact hasIdN_false (anyL_false (f := hasIdN lo _ n) h hi) hb

/-- Rows that whoever names them can't tell apart. -/
inductive Same : Row → Row → Prop
  | flat (e τ xs fz app e' ys fz' app') (h : xs.length = ys.length) : Same (.flat e τ xs fz app) (.flat e' τ ys fz' app')
  | box (τ a b) : Same (.box τ a) (.box τ b)
theorem Same.refl (r : Row) : Same r r := by
  cases r with
  | flat e τ xs fz app => exact .flat _ _ _ _ _ _ _ _ _ rfl
  | box τ a => exact .box _ _ _

theorem valsOf_congr {vs : List AV} {css : List (List Value)} : valsOf vs css = valsOf vs css := rfl

section
variable {S S' : Nat → Prop} {w w' : World} {ρ ρ' : Nat → Option Loc} {row row' : Nat → Option Row} {pv : Nat → Value}
/-- The relation lives on. -/
theorem AR.ext {P : Nat → Prop} (hS : ∀ b, S b → S' b) (hw : ∀ b, S b → w'.heap[b]? = w.heap[b]?)
    (hk : ∀ id l r, P id → ρ id = some l → row id = some r → ρ' id = some l ∧ ∃ r', row' id = some r' ∧ Same r r') {a : AV} {cs : List Value} (h : AR S w ρ row pv a cs) :
    (∀ id, Occ a id → P id) → AR S' w' ρ' row' pv a cs := by
  induction h with
  | t τ x cs h => exact fun _ => .t τ x cs (h.mono hS hw)
  | nil => exact fun _ => .nil
  | own id e τ xs fz app g cap h hl =>
    intro hP
    obtain ⟨h1, r', h2, h3⟩ := hk id _ _ (hP id (.own id)) hl h
    cases h3 with
    | flat _ _ _ _ _ e' ys fz' app' hlen =>
      rw [hlen]
      exact .own id e' τ ys fz' app' g cap h2 h1
  | ownNil id e τ fz app h hl =>
    intro hP
    obtain ⟨h1, r', h2, h3⟩ := hk id _ _ (hP id (.own id)) hl h
    cases h3 with
    | flat _ _ _ _ _ e' ys fz' app' hlen =>
      have : ys = [] := List.eq_nil_of_length_eq_zero (by simpa using hlen.symm)
      subst this
      exact .ownNil id e' τ fz' app' h2 h1
  | epB id τ σ a g cap p h hl hp =>
    intro hP
    obtain ⟨h1, r', h2, h3⟩ := hk id _ _ (hP id (.ep id none p)) hl h
    cases h3 with
    | box _ _ b => exact .epB id τ σ b g cap p h2 h1 hp
  | epF id e τ σ xs fz app g cap i p h hl hi hp =>
    intro hP
    obtain ⟨h1, r', h2, h3⟩ := hk id _ _ (hP id (.ep id (some i) p)) hl h
    cases h3 with
    | flat _ _ _ _ _ e' ys fz' app' hlen => exact .epF id e' τ σ ys fz' app' g cap i p h2 h1 (by rw [← hlen]; exact hi) hp
  | tl id e τ xs fz app l i h hl hi hm =>
    intro hP
    obtain ⟨h1, r', h2, h3⟩ := hk id _ _ (hP id (.ep id (some i) [tmark])) hl h
    cases h3 with
    | flat _ _ _ _ _ e' ys fz' app' hlen => rw [hlen] at hi ⊢; exact .tl id e' τ ys fz' app' l i h2 h1 hi hm
  | tp τ x cs g o h hS' hc =>
    intro _
    exact .tp τ x cs g o (h.mono hS hw) (hS g hS') fun j v hv => (World.cell?_of_block (w := w) (a := ⟨g, _, none⟩) (hw g hS')).trans (hc j v hv)
  | agg τ fs css hl _ ih => exact fun hP => .agg τ fs css hl fun i a cs ha hcs => ih i a cs ha hcs fun id ho => hP id (.agg τ fs i a id ha ho)
  | hole τ cs hl h1 => exact fun _ => .hole τ cs hl h1
  | tup vs css hl _ ih => exact fun hP => .tup vs css hl fun i a cs ha hcs => ih i a cs ha hcs fun id ho => hP id (.tup vs i a id ha ho)
  | clo f caps css hl _ ih => exact fun hP => .clo f caps css hl fun i a cs ha hcs => ih i a cs ha hcs fun id ho => hP id (.clo f caps i a id ha ho)
  | par i h1 => exact fun _ => .par i h1

theorem VR.ext {P : Nat → Prop} (hS : ∀ b, S b → S' b) (hw : ∀ b, S b → w'.heap[b]? = w.heap[b]?)
    (hk : ∀ id l r, P id → ρ id = some l → row id = some r → ρ' id = some l ∧ ∃ r', row' id = some r' ∧ Same r r') {a : AV} {v : Value} (h : VR S w ρ row pv a v) (hP : ∀ id, Occ a id → P id) : VR S' w' ρ' row' pv a v := by
  rcases h with h | ⟨cs, h, e⟩
  · exact .inl h
  · exact .inr ⟨cs, h.ext hS hw hk hP, e⟩
end
end Go.Gx
