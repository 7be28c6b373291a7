/- Fields, paths: what they are in memory. -/
import Derived.Test.YtnffgabfibafjaaDoorGxRel
namespace Go.Gx
open Go.RowKit

/-! ### 1. Fitting values -/
inductive Fit : Ty → AV → Prop
  | t (τ : Ty) (x : den τ) : Fit τ (.t τ x)
  | nil (e : Ty) : Fit (.sl e) .nil
  | own (e : Ty) (id : Nat) : Fit (.sl e) (.own id)
  | ep (τ : Ty) (id : Nat) (i : Option Nat) (p : List Nat) (h0 : agT τ = false) (h1 : nc τ = 1) : Fit τ (.ep id i p)
  | tp (τ : Ty) (a : AV) (h0 : agT τ = false) (h1 : nc τ = 1) : Fit τ (.tp a)
  | clo (τ : Ty) (f : Nat) (l : List AV) (h0 : agT τ = false) (h1 : nc τ = 1) : Fit τ (.clo f l)
  | par (τ : Ty) (i : Nat) (h0 : agT τ = false) (h1 : nc τ = 1) : Fit τ (.par i)
  | agg (τ : Ty) (fs : List AV) (hg : agT τ = true) (hl : fs.length = (fty τ).length) (h : ∀ (i : Nat) (σ : Ty) (a : AV), (fty τ)[i]? = some σ → fs[i]? = some a → Fit σ a) : Fit τ (.agg τ fs)
  | hole (τ : Ty) : Fit τ (.hole τ)

theorem all2_spec {f : Ty → AV → Bool} : ∀ {l : List Ty} {fs : List AV}, fitN.all2 f l fs = true → fs.length = l.length ∧ ∀ (i : Nat) (σ : Ty) (a : AV), l[i]? = some σ → fs[i]? = some a → f σ a = true
  | [], [], _ => ⟨rfl, fun i σ a h => by simp at h⟩
  | [], _ :: _, h => by simp [fitN.all2] at h
  | _ :: _, [], h => by simp [fitN.all2] at h
  | σ :: l, a :: fs, h => by
    simp only [fitN.all2, Bool.and_eq_true] at h
    obtain ⟨h1, h2⟩ := all2_spec h.2
    refine ⟨by simp [h1], fun i => ?_⟩
    cases i with
    | zero => intro ρ b hρ hb; simp only [List.getElem?_cons_zero, Option.some.injEq] at hρ hb; subst hρ; subst hb; exact h.1
    | succ i => intro ρ b hρ hb; exact h2 i ρ b (by simpa using hρ) (by simpa using hb)

theorem fitN_fit : ∀ {n : Nat} {τ : Ty} {a : AV}, fitN n τ a = true → Fit τ a
  | 0, _, _, h => by simp [fitN] at h
  | n + 1, τ, a, h => by
    cases a with
    | t σ x =>
      simp only [fitN] at h
      split at h
      · rename_i e _; subst e; exact .t _ x
      · cases h
    | nil => cases τ <;> simp [fitN] at h; exact .nil _
    | own id => cases τ <;> simp [fitN] at h; exact .own _ id
    | ep id i p => simp only [fitN, Bool.and_eq_true, Bool.not_eq_true'] at h; exact .ep τ id i p h.1 (Nat.eq_of_beq_eq_true h.2)
    | tp a => simp only [fitN, Bool.and_eq_true, Bool.not_eq_true'] at h; exact .tp τ a h.1 (Nat.eq_of_beq_eq_true h.2)
    | clo f l => simp only [fitN, Bool.and_eq_true, Bool.not_eq_true'] at h; exact .clo τ f l h.1 (Nat.eq_of_beq_eq_true h.2)
    | par i => simp only [fitN, Bool.and_eq_true, Bool.not_eq_true'] at h; exact .par τ i h.1 (Nat.eq_of_beq_eq_true h.2)
    | bx _ _ | kep _ _ | mov _ _ _ => simp [fitN] at h
    | agg σ fs =>
      simp only [fitN] at h
      split at h
      · rename_i e _; subst e
        simp only [Bool.and_eq_true] at h
        obtain ⟨h1, h2⟩ := all2_spec h.2
        exact .agg _ fs h.1 h1 fun i ρ b hρ hb => fitN_fit (h2 i ρ b hρ hb)
      · cases h
    | hole σ =>
      simp only [fitN] at h
      split at h
      · rename_i e _; subst e; exact .hole _
      · cases h
    | tup _ => simp [fitN] at h
    | fr _ _ _ => simp [fitN] at h
    | any => simp [fitN] at h
theorem fit_fit {τ : Ty} {a : AV} (h : fit τ a = true) : Fit τ a := fitN_fit h

def sumNc : List Ty → Nat
  | [] => 0
  | σ :: l => nc σ + sumNc l
theorem sumNc_replicate (n : Nat) (e : Ty) : sumNc (List.replicate n e) = n * nc e := by
  induction n with
  | zero => simp [sumNc]
  | succ n ih => rw [List.replicate_succ, sumNc, ih, Nat.succ_mul]; omega
theorem nc_fty {τ : Ty} (h : agT τ = true) : nc τ = sumNc (fty τ) := by
  cases τ <;> simp [agT] at h <;> first | rfl | (simp only [fty, sumNc_replicate]; rfl)

theorem seg : ∀ {l : List Ty} {css : List (List Value)}, css.length = l.length → (∀ (i : Nat) (σ : Ty) (c : List Value), l[i]? = some σ → css[i]? = some c → c.length = nc σ) →
    css.flatten.length = sumNc l ∧ ∀ (i : Nat) (c : List Value) (σ : Ty), css[i]? = some c → l[i]? = some σ → (css.flatten.drop (offL l i)).take (nc σ) = c ∧ offL l i + nc σ ≤ css.flatten.length
  | [], [], _, _ => ⟨rfl, fun i c σ h => by simp at h⟩
  | [], _ :: _, h, _ => by simp at h
  | _ :: _, [], h, _ => by simp at h
  | σ :: l, c :: css, h, hc => by
    have hl : css.length = l.length := by simpa using h
    have h0 : c.length = nc σ := hc 0 σ c rfl rfl
    obtain ⟨h1, h2⟩ := seg hl (fun i ρ d hρ hd => hc (i + 1) ρ d (by simpa using hρ) (by simpa using hd))
    refine ⟨by simp [sumNc, h0, h1], fun i => ?_⟩
    cases i with
    | zero =>
      intro d ρ hd hρ
      simp only [List.getElem?_cons_zero, Option.some.injEq] at hd hρ
      subst hd; subst hρ
      refine ⟨?_, by simp [offL, h0]⟩
      simp only [offL, List.drop_zero, List.flatten_cons]
      rw [← h0, List.take_left]
    | succ i =>
      intro d ρ hd hρ
      obtain ⟨h3, h4⟩ := h2 i d ρ (by simpa using hd) (by simpa using hρ)
      refine ⟨?_, by simp only [offL, List.flatten_cons, List.length_append]; omega⟩
      simp only [offL, List.flatten_cons]
      rw [← h0, List.drop_append, List.drop_eq_nil_of_le (by omega)]
      simpa using h3

section
variable {S : Nat → Prop} {w : World} {ρ : Nat → Option Loc} {row : Nat → Option Row} {pv : Nat → Value}

theorem AR.len {τ : Ty} {a : AV} (hf : Fit τ a) : ∀ {cs : List Value}, AR S w ρ row pv a cs → cs.length = nc τ := by
  induction hf with
  | t τ x => intro cs h; cases h with | t _ _ _ h => exact h.len
  | nil e => intro cs h; cases h; rfl
  | own e id => intro cs h; cases h <;> rfl
  | ep τ id i p _ h1 => intro cs h; rw [h1]; cases h <;> rfl
  | tp τ a _ h1 => intro cs h; rw [h1]; cases h; rfl
  | clo τ f l _ h1 => intro cs h; rw [h1]; cases h; rfl
  | par τ i _ h1 => intro cs h; rw [h1]; cases h; rfl
  | agg τ fs hg hl _ ih =>
    intro cs h
    cases h with
    | agg _ _ css hl2 h =>
      rw [nc_fty hg]
      refine (seg (by omega) fun i σ c hσ hc => ?_).1
      have hi : i < fs.length := by rw [hl2]; exact (List.getElem?_eq_some_iff.1 hc).1
      exact ih i σ fs[i] hσ (List.getElem?_eq_getElem hi) (h i fs[i] c (List.getElem?_eq_getElem hi) hc)
  | hole τ => intro cs h; cases h with | hole _ _ hl _ => exact hl

theorem AR.ones {τ : Ty} {a : AV} (hf : Fit τ a) : ∀ {cs : List Value}, AR S w ρ row pv a cs → ∀ v ∈ cs, v.oneCell' = true := by
  induction hf with
  | t τ x => intro cs h; cases h with | t _ _ _ h => exact h.one
  | nil e => intro cs h; cases h; intro v hv; simp only [List.mem_singleton] at hv; subst hv; rfl
  | own e id => intro cs h; cases h <;> (intro v hv; simp only [List.mem_singleton] at hv; subst hv; rfl)
  | ep τ id i p _ h1 => intro cs h; cases h <;> (intro v hv; simp only [List.mem_singleton] at hv; subst hv; first | rfl | exact tailV_one _ _ _ _)
  | tp τ a _ h1 => intro cs h; cases h; intro v hv; simp only [List.mem_singleton] at hv; subst hv; rfl
  | clo τ f l _ h1 => intro cs h; cases h; intro v hv; simp only [List.mem_singleton] at hv; subst hv; rfl
  | par τ i _ h1 => intro cs h; cases h with | par _ h => intro v hv; simp only [List.mem_singleton] at hv; subst hv; exact h
  | agg τ fs hg hl _ ih =>
    intro cs h
    cases h with
    | agg _ _ css hl2 h =>
      intro v hv
      obtain ⟨c, hc, hvc⟩ := List.mem_flatten.1 hv
      obtain ⟨i, hi, rfl⟩ := List.getElem_of_mem hc
      have hi2 : i < fs.length := by omega
      have hi3 : i < (fty τ).length := by omega
      exact ih i (fty τ)[i] fs[i] (List.getElem?_eq_getElem hi3) (List.getElem?_eq_getElem hi2) (h i fs[i] css[i] (List.getElem?_eq_getElem hi2) (List.getElem?_eq_getElem hi)) v hvc
  | hole τ => intro cs h; cases h with | hole _ _ _ h1 => exact h1

/-! ### 2. Structs, taken apart and put together -/
theorem cr_int {k : IntKind} {n : Int} {cs : List Value} (h : CR S w (.int k) n cs) : cs = [.int k n] := by cases h; rfl
theorem cr_bool {b : Bool} {cs : List Value} (h : CR S w .bool b cs) : cs = [.bool b] := by cases h; rfl
theorem cr_str {s : ByteArray} {cs : List Value} (h : CR S w .str s cs) : cs = [.string s] := by cases h; rfl
theorem cr_sl {e : Ty} {xs : List (den e)} {cs : List Value} (h : CR S w (.sl e) xs cs) : ∃ v, cs = [v] := by cases h; exact ⟨_, rfl⟩
theorem cr_date {d : Date} {cs : List Value} (h : CR S w .date d cs) : cs = [.int .i64 d.y, .int .i64 d.m, .int .i64 d.d, .bool d.c] := by cases h; rfl
theorem cr_abbr {a : Abbr} {cs : List Value} (h : CR S w .abbr a cs) : cs = [.string a.word, .string a.short] := by cases h; rfl

theorem asT_ar {τ : Ty} {a : AV} {x : den τ} (h : asT τ a = some x) {cs : List Value} (ha : AR S w ρ row pv a cs) : CR S w τ x cs := by
  cases a with
  | t σ y =>
    simp only [asT] at h
    split at h
    · rename_i e; subst e
      simp only [Option.some.injEq] at h
      cases ha with | t _ _ _ h2 => exact h ▸ h2
    · cases h
  | nil =>
    cases τ <;> simp [asT] at h
    subst h
    cases ha
    exact CR.sl _ [] none 0 (fun _ => []) (by simp) (Nat.zero_le _) (fun i hi => by simp at hi) (fun i hi => by simp at hi)
  | _ => simp [asT] at h
theorem asT_form {τ : Ty} {a : AV} {x : den τ} (h : asT τ a = some x) : a = .t τ x ∨ a = .nil := by
  cases a with
  | t σ y =>
    simp only [asT] at h
    split at h
    · rename_i e; subst e; simp only [Option.some.injEq] at h; exact .inl (h ▸ rfl)
    · cases h
  | nil => exact .inr rfl
  | _ => simp [asT] at h

/-- A list of as many parts. -/
theorem AR.agg_parts {τ : Ty} {fs : List AV} {cs : List Value} (h : AR S w ρ row pv (.agg τ fs) cs) : ∃ css : List (List Value), cs = css.flatten ∧ fs.length = css.length ∧ ∀ (i : Nat) (a : AV) (c : List Value), fs[i]? = some a → css[i]? = some c → AR S w ρ row pv a c := by
  cases h with | agg _ _ css hl h => exact ⟨css, rfl, hl, h⟩

theorem explode_ok {τ : Ty} (hg : agT τ = true) {x : den τ} {cs : List Value} (h : CR S w τ x cs) : AR S w ρ row pv (.agg τ (explode τ x)) cs ∧ Fit τ (.agg τ (explode τ x)) := by
  cases h with
  | int _ _ | bool _ | str _ | sl _ _ _ _ _ _ _ _ _ => simp [agT] at hg
  | arr n e xs cv hl h1 =>
    constructor
    · have e1 : (List.range n).flatMap cv = ((List.range n).map cv).flatten := by rw [List.flatMap_def]
      rw [e1]
      refine .agg _ _ _ (by simp [explode, hl]) fun i a c ha hc => ?_
      simp only [explode, List.getElem?_map, Option.map_eq_some_iff] at ha hc
      obtain ⟨y, hy, rfl⟩ := ha
      obtain ⟨j, hj, rfl⟩ := hc
      have hi : i < xs.length := (List.getElem?_eq_some_iff.1 hy).1
      have hjn : j = i := by
        have := List.getElem?_range (n := n) (i := i) (by omega)
        rw [this] at hj
        simpa using hj.symm
      subst hjn
      have : xs[j] = y := by rw [List.getElem?_eq_getElem hi] at hy; simpa using hy
      exact .t e y _ (this ▸ h1 j hi)
    · refine .agg _ _ hg (by simp [explode, fty, hl]) fun i σ a hσ ha => ?_
      simp only [explode, List.getElem?_map, Option.map_eq_some_iff, fty] at ha hσ
      obtain ⟨y, hy, rfl⟩ := ha
      have : σ = e := by
        rw [List.getElem?_replicate] at hσ
        split at hσ
        · simpa using hσ.symm
        · cases hσ
      subst this
      exact .t _ y
  | date d =>
    constructor
    · refine .agg .date _ [[_], [_], [_], [_]] rfl fun i a c ha hc => ?_
      match i with
      | 0 | 1 | 2 => simp [explode] at ha hc; subst ha; subst hc; exact .t _ _ _ (.int _ _)
      | 3 => simp [explode] at ha hc; subst ha; subst hc; exact .t _ _ _ (.bool _)
      | i + 4 => simp [explode] at ha
    · refine .agg _ _ hg rfl fun i σ a hσ ha => ?_
      match i with
      | 0 | 1 | 2 | 3 => simp [explode, fty] at ha hσ; subst ha; subst hσ; exact .t _ _
      | i + 4 => simp [explode] at ha
  | name n v h =>
    constructor
    · refine .agg .name _ [[v], [_], [_], [_]] rfl fun i a c ha hc => ?_
      match i with
      | 0 => simp [explode] at ha hc; subst ha; subst hc; exact .t _ _ _ h
      | 1 | 2 | 3 => simp [explode] at ha hc; subst ha; subst hc; exact .t _ _ _ (.str _)
      | i + 4 => simp [explode] at ha
    · refine .agg _ _ hg rfl fun i σ a hσ ha => ?_
      match i with
      | 0 | 1 | 2 | 3 => simp [explode, fty] at ha hσ; subst ha; subst hσ; exact .t _ _
      | i + 4 => simp [explode] at ha
  | entry e va ve h1 h2 =>
    constructor
    · refine .agg .entry _ [[_], [_], [va], [ve], [_], [_], [_], [_, _, _, _], [_], [_], [_]] rfl fun i a c ha hc => ?_
      match i with
      | 0 | 4 | 5 | 6 | 9 | 10 => simp [explode] at ha hc; subst ha; subst hc; exact .t _ _ _ (.str _)
      | 1 | 8 => simp [explode] at ha hc; subst ha; subst hc; exact .t _ _ _ (.int _ _)
      | 2 => simp [explode] at ha hc; subst ha; subst hc; exact .t _ _ _ h1
      | 3 => simp [explode] at ha hc; subst ha; subst hc; exact .t _ _ _ h2
      | 7 => simp [explode] at ha hc; subst ha; subst hc; exact .t _ _ _ (.date _)
      | i + 11 => simp [explode] at ha
    · refine .agg _ _ hg rfl fun i σ a hσ ha => ?_
      match i with
      | 0 | 1 | 2 | 3 | 4 | 5 | 6 | 7 | 8 | 9 | 10 => simp [explode, fty] at ha hσ; subst ha; subst hσ; exact .t _ _
      | i + 11 => simp [explode] at ha
  | lib l v h =>
    constructor
    · refine .agg .lib _ [[v]] rfl fun i a c ha hc => ?_
      match i with
      | 0 => simp [explode] at ha hc; subst ha; subst hc; exact .t _ _ _ h
      | i + 1 => simp [explode] at ha
    · refine .agg _ _ hg rfl fun i σ a hσ ha => ?_
      match i with
      | 0 => simp [explode, fty] at ha hσ; subst ha; subst hσ; exact .t _ _
      | i + 1 => simp [explode] at ha
  | abbr b =>
    constructor
    · refine .agg .abbr _ [[_], [_]] rfl fun i a c ha hc => ?_
      match i with
      | 0 | 1 => simp [explode] at ha hc; subst ha; subst hc; exact .t _ _ _ (.str _)
      | i + 2 => simp [explode] at ha
    · refine .agg _ _ hg rfl fun i σ a hσ ha => ?_
      match i with
      | 0 | 1 => simp [explode, fty] at ha hσ; subst ha; subst hσ; exact .t _ _
      | i + 2 => simp [explode] at ha
  | query q v h =>
    constructor
    · refine .agg .query _ [[_], [_], [_], [v]] rfl fun i a c ha hc => ?_
      match i with
      | 0 => simp [explode] at ha hc; subst ha; subst hc; exact .t _ _ _ (.int _ _)
      | 1 | 2 => simp [explode] at ha hc; subst ha; subst hc; exact .t _ _ _ (.str _)
      | 3 => simp [explode] at ha hc; subst ha; subst hc; exact .t _ _ _ h
      | i + 4 => simp [explode] at ha
    · refine .agg _ _ hg rfl fun i σ a hσ ha => ?_
      match i with
      | 0 | 1 | 2 | 3 => simp [explode, fty] at ha hσ; subst ha; subst hσ; exact .t _ _
      | i + 4 => simp [explode] at ha
end
end Go.Gx
