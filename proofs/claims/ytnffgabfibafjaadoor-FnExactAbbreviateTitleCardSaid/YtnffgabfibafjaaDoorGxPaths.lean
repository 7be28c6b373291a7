/- Structs put together; paths read and written. -/
import Derived.Test.YtnffgabfibafjaaDoorGxFields
namespace Go.Gx
open Go.RowKit
section
variable {S : Nat → Prop} {w : World} {ρ : Nat → Option Loc} {row : Nat → Option Row} {pv : Nat → Value}

/-- Values one behind the other. -/
def ARs (S : Nat → Prop) (w : World) (ρ : Nat → Option Loc) (row : Nat → Option Row) (pv : Nat → Value) (fs : List AV) (cs : List Value) : Prop :=
  ∃ css : List (List Value), cs = css.flatten ∧ fs.length = css.length ∧ ∀ (i : Nat) (a : AV) (c : List Value), fs[i]? = some a → css[i]? = some c → AR S w ρ row pv a c
theorem ARs.cons {a : AV} {fs : List AV} {cs : List Value} (h : ARs S w ρ row pv (a :: fs) cs) : ∃ c cs', cs = c ++ cs' ∧ AR S w ρ row pv a c ∧ ARs S w ρ row pv fs cs' := by
  obtain ⟨css, e, hl, h⟩ := h
  cases css with
  | nil => simp at hl
  | cons c css => exact ⟨c, css.flatten, e, h 0 a c rfl rfl, css, rfl, by simpa using hl, fun i b d hb hd => h (i + 1) b d (by simpa using hb) (by simpa using hd)⟩
theorem ARs.nil {cs : List Value} (h : ARs S w ρ row pv [] cs) : cs = [] := by
  obtain ⟨css, e, hl, _⟩ := h
  have : css = [] := List.eq_nil_of_length_eq_zero (by simpa using hl.symm)
  subst this
  exact e

theorem asTs_ok {e : Ty} : ∀ {fs : List AV} {xs : List (den e)} {cs : List Value}, asTs e fs = some xs → ARs S w ρ row pv fs cs → xs.length = fs.length ∧ ∃ cv : Nat → List Value, (∀ i (h : i < xs.length), CR S w e xs[i] (cv i)) ∧ cs = (List.range xs.length).flatMap cv
  | [], xs, cs, h, ha => by
    simp only [asTs, Option.some.injEq] at h
    subst h
    rw [ha.nil]
    exact ⟨rfl, fun _ => [], fun i hi => by simp at hi, by simp⟩
  | a :: fs, xs, cs, h, ha => by
    simp only [asTs] at h
    split at h
    · rename_i x hx
      split at h
      · rename_i ys hys
        simp only [Option.some.injEq] at h
        subst h
        obtain ⟨c, cs', rfl, h1, h2⟩ := ha.cons
        obtain ⟨hl, cv, h3, h4⟩ := asTs_ok hys h2
        refine ⟨by simp [hl], fun i => if i = 0 then c else cv (i - 1), fun i hi => ?_, ?_⟩
        · cases i with
          | zero => simpa using asT_ar hx h1
          | succ i => simpa using h3 i (by simpa using hi)
        · rw [h4, List.length_cons, List.range_succ_eq_map, List.flatMap_cons, List.flatMap_map]
          simp
      · cases h
    · cases h

theorem implode_ok {τ : Ty} {fs : List AV} {a : AV} {cs : List Value} (h : implode τ fs = some a) (ha : ARs S w ρ row pv fs cs) : ∃ x, a = .t τ x ∧ CR S w τ x cs := by
  cases τ with
  | int _ | bool | str | sl _ => simp [implode] at h
  | arr n e =>
    simp only [implode] at h
    split at h
    · rename_i xs hxs
      split at h
      · rename_i hn
        simp only [Option.some.injEq] at h
        obtain ⟨_, cv, h1, h2⟩ := asTs_ok hxs ha
        refine ⟨xs, h.symm, ?_⟩
        rw [h2, hn]
        exact .arr n e xs cv hn h1
      · cases h
    · cases h
  | date =>
    match fs, h with
    | [a, b, c, d], h =>
      simp only [implode] at h
      split at h
      · rename_i a' b' c' d' e1 e2 e3 e4
        simp only [Option.some.injEq] at h
        obtain ⟨c1, r1, rfl, h1, ha⟩ := ha.cons
        obtain ⟨c2, r2, rfl, h2, ha⟩ := ha.cons
        obtain ⟨c3, r3, rfl, h3, ha⟩ := ha.cons
        obtain ⟨c4, r4, rfl, h4, ha⟩ := ha.cons
        rw [ha.nil, cr_int (asT_ar e1 h1), cr_int (asT_ar e2 h2), cr_int (asT_ar e3 h3), cr_bool (asT_ar e4 h4)]
        exact ⟨_, h.symm, .date ⟨a', b', c', d'⟩⟩
      · cases h
  | name =>
    match fs, h with
    | [a, b, c, d], h =>
      simp only [implode] at h
      split at h
      · rename_i a' b' c' d' e1 e2 e3 e4
        simp only [Option.some.injEq] at h
        obtain ⟨c1, r1, rfl, h1, ha⟩ := ha.cons
        obtain ⟨c2, r2, rfl, h2, ha⟩ := ha.cons
        obtain ⟨c3, r3, rfl, h3, ha⟩ := ha.cons
        obtain ⟨c4, r4, rfl, h4, ha⟩ := ha.cons
        have hn := ha.nil
        subst hn
        have g1 := asT_ar e1 h1
        obtain ⟨v, rfl⟩ := cr_sl g1
        rw [cr_str (asT_ar e2 h2), cr_str (asT_ar e3 h3), cr_str (asT_ar e4 h4)]
        exact ⟨_, h.symm, .name ⟨a', b', c', d'⟩ v g1⟩
      · cases h
  | entry =>
    match fs, h with
    | [a, b, c, d, e, f, g, i, j, k, l], h =>
      simp only [implode] at h
      split at h
      · rename_i a' b' c' d' e' f' e1 e2 e3 e4 e5 e6
        split at h
        · rename_i g' i' j' k' l' e7 e8 e9 e10 e11
          simp only [Option.some.injEq] at h
          obtain ⟨c1, r1, rfl, h1, ha⟩ := ha.cons
          obtain ⟨c2, r2, rfl, h2, ha⟩ := ha.cons
          obtain ⟨c3, r3, rfl, h3, ha⟩ := ha.cons
          obtain ⟨c4, r4, rfl, h4, ha⟩ := ha.cons
          obtain ⟨c5, r5, rfl, h5, ha⟩ := ha.cons
          obtain ⟨c6, r6, rfl, h6, ha⟩ := ha.cons
          obtain ⟨c7, r7, rfl, h7, ha⟩ := ha.cons
          obtain ⟨c8, r8, rfl, h8, ha⟩ := ha.cons
          obtain ⟨c9, r9, rfl, h9, ha⟩ := ha.cons
          obtain ⟨c10, r10, rfl, h10, ha⟩ := ha.cons
          obtain ⟨c11, r11, rfl, h11, ha⟩ := ha.cons
          have hn := ha.nil
          subst hn
          have g3 := asT_ar e3 h3
          obtain ⟨va, rfl⟩ := cr_sl g3
          have g4 := asT_ar e4 h4
          obtain ⟨ve, rfl⟩ := cr_sl g4
          rw [cr_str (asT_ar e1 h1), cr_int (asT_ar e2 h2), cr_str (asT_ar e5 h5), cr_str (asT_ar e6 h6), cr_str (asT_ar e7 h7), cr_date (asT_ar e8 h8), cr_int (asT_ar e9 h9), cr_str (asT_ar e10 h10), cr_str (asT_ar e11 h11)]
          exact ⟨_, h.symm, .entry ⟨a', b', c', d', e', f', g', i', j', k', l'⟩ va ve g3 g4⟩
        · cases h
      · cases h
  | lib =>
    match fs, h with
    | [a], h =>
      simp only [implode] at h
      split at h
      · rename_i a' e1
        simp only [Option.some.injEq] at h
        obtain ⟨c1, r1, rfl, h1, ha⟩ := ha.cons
        have hn := ha.nil
        subst hn
        have g1 := asT_ar e1 h1
        obtain ⟨v, rfl⟩ := cr_sl g1
        exact ⟨_, h.symm, .lib ⟨a'⟩ v g1⟩
      · cases h
  | abbr =>
    match fs, h with
    | [a, b], h =>
      simp only [implode] at h
      split at h
      · rename_i a' b' e1 e2
        simp only [Option.some.injEq] at h
        obtain ⟨c1, r1, rfl, h1, ha⟩ := ha.cons
        obtain ⟨c2, r2, rfl, h2, ha⟩ := ha.cons
        rw [ha.nil, cr_str (asT_ar e1 h1), cr_str (asT_ar e2 h2)]
        exact ⟨_, h.symm, .abbr ⟨a', b'⟩⟩
      · cases h
  | query =>
    match fs, h with
    | [a, b, c, d], h =>
      simp only [implode] at h
      split at h
      · rename_i a' b' c' d' e1 e2 e3 e4
        simp only [Option.some.injEq] at h
        obtain ⟨c1, r1, rfl, h1, ha⟩ := ha.cons
        obtain ⟨c2, r2, rfl, h2, ha⟩ := ha.cons
        obtain ⟨c3, r3, rfl, h3, ha⟩ := ha.cons
        obtain ⟨c4, r4, rfl, h4, ha⟩ := ha.cons
        have hn := ha.nil
        subst hn
        have g4 := asT_ar e4 h4
        obtain ⟨v, rfl⟩ := cr_sl g4
        rw [cr_int (asT_ar e1 h1), cr_str (asT_ar e2 h2), cr_str (asT_ar e3 h3)]
        exact ⟨_, h.symm, .query (.mk a' b' c' d') v g4⟩
      · cases h

theorem AR.aggs {τ : Ty} {fs : List AV} {cs : List Value} (h : AR S w ρ row pv (.agg τ fs) cs) : ARs S w ρ row pv fs cs := h.agg_parts
theorem ARs.agg {fs : List AV} {cs : List Value} (h : ARs S w ρ row pv fs cs) (τ : Ty) : AR S w ρ row pv (.agg τ fs) cs := by
  obtain ⟨css, rfl, hl, h⟩ := h
  exact .agg τ fs css hl h

theorem mkSt_ok {τ : Ty} {fs : List AV} {cs : List Value} (hf : Fit τ (.agg τ fs)) (ha : AR S w ρ row pv (.agg τ fs) cs) : AR S w ρ row pv (mkSt τ fs) cs ∧ Fit τ (mkSt τ fs) := by
  unfold mkSt
  split
  · rename_i a h
    obtain ⟨x, rfl, hx⟩ := implode_ok h ha.aggs
    exact ⟨.t τ x cs hx, .t τ x⟩
  · exact ⟨ha, hf⟩

/-- A struct as its fields. -/
theorem as_agg {τ : Ty} {a : AV} {cs : List Value} (hf : Fit τ a) (h : AR S w ρ row pv a cs) {f : Nat} {b : AV} (hb : fieldA a f = some b) :
    ∃ fs, AR S w ρ row pv (.agg τ fs) cs ∧ Fit τ (.agg τ fs) ∧ fs[f]? = some b ∧ (∀ c, setField a f c = some (mkSt τ (fs.set f c))) := by
  cases hf with
  | t _ x =>
    simp only [fieldA] at hb
    have hg : agT τ = true := by
      cases τ <;> first | rfl | (simp [explode] at hb)
    cases h with
    | t _ _ _ h =>
      obtain ⟨h1, h2⟩ := explode_ok (ρ := ρ) (row := row) (pv := pv) hg h
      exact ⟨_, h1, h2, hb, fun c => by simp only [setField, hb]⟩
  | agg _ fs hg hl hh =>
    simp only [fieldA] at hb
    exact ⟨fs, h, .agg τ fs hg hl hh, hb, fun c => by simp only [setField, hb]⟩
  | _ => simp [fieldA] at hb

/-- Cells, a piece of them written over. -/
def splice (cs : List Value) (o : Nat) (c : List Value) : List Value := cs.take o ++ c ++ cs.drop (o + c.length)
theorem splice_length {cs : List Value} {o : Nat} {c : List Value} (h : o + c.length ≤ cs.length) : (splice cs o c).length = cs.length := by
  simp only [splice, List.length_append, List.length_take, List.length_drop]; omega

theorem splice_append (d f : List Value) (o : Nat) (c : List Value) : splice (d ++ f) (d.length + o) c = d ++ splice f o c := by
  have e1 : d.take (d.length + o) = d := List.take_of_length_le (by omega)
  have e2 : d.drop (d.length + o + c.length) = [] := List.drop_eq_nil_of_le (by omega)
  simp only [splice, List.take_append, List.drop_append, e1, e2, List.append_assoc, List.nil_append]
  congr 3
  · congr 1; omega
  · congr 1; omega
theorem seg_set : ∀ {l : List Ty} {css : List (List Value)}, css.length = l.length → (∀ (i : Nat) (σ : Ty) (c : List Value), l[i]? = some σ → css[i]? = some c → c.length = nc σ) →
    ∀ (i : Nat) (c : List Value) (σ : Ty), l[i]? = some σ → c.length = nc σ → (css.set i c).flatten = splice css.flatten (offL l i) c
  | [], _, _, _, i, c, σ, h, _ => by simp at h
  | _ :: _, [], h, _, _, _, _, _, _ => by simp at h
  | σ :: l, d :: css, h, hc, i, c, τ, hτ, hcl => by
    have hl : css.length = l.length := by simpa using h
    have h0 : d.length = nc σ := hc 0 σ d rfl rfl
    cases i with
    | zero =>
      simp only [List.getElem?_cons_zero, Option.some.injEq] at hτ
      subst hτ
      simp only [List.set_cons_zero, List.flatten_cons, offL, splice, List.take_zero, List.nil_append, Nat.zero_add]
      rw [hcl, ← h0, List.drop_left]
    | succ i =>
      have ih := seg_set hl (fun j ρ e hρ he => hc (j + 1) ρ e (by simpa using hρ) (by simpa using he)) i c τ (by simpa using hτ) hcl
      simp only [List.set_cons_succ, List.flatten_cons, ih, offL]
      rw [← h0, splice_append]

theorem Fit.agg_len {τ : Ty} {fs : List AV} (h : Fit τ (.agg τ fs)) : agT τ = true ∧ fs.length = (fty τ).length ∧ ∀ (i : Nat) (σ : Ty) (a : AV), (fty τ)[i]? = some σ → fs[i]? = some a → Fit σ a := by
  cases h with | agg _ _ h1 h2 h3 => exact ⟨h1, h2, h3⟩

theorem field_ok {τ : Ty} {a : AV} {cs : List Value} (hf : Fit τ a) (h : AR S w ρ row pv a cs) {f : Nat} {b : AV} (hb : fieldA a f = some b) :
    ∃ σ, (fty τ)[f]? = some σ ∧ Fit σ b ∧ AR S w ρ row pv b ((cs.drop (offL (fty τ) f)).take (nc σ)) ∧ offL (fty τ) f + nc σ ≤ cs.length := by
  obtain ⟨fs, h1, h2, h3, _⟩ := as_agg hf h hb
  obtain ⟨hg, hl, hh⟩ := h2.agg_len
  obtain ⟨css, rfl, hl2, hc⟩ := h1.agg_parts
  have hfl : f < fs.length := (List.getElem?_eq_some_iff.1 h3).1
  have hσ : (fty τ)[f]? = some ((fty τ)[f]'(by omega)) := List.getElem?_eq_getElem _
  have hcf : css[f]? = some (css[f]'(by omega)) := List.getElem?_eq_getElem _
  have hlen : ∀ (i : Nat) (σ : Ty) (c : List Value), (fty τ)[i]? = some σ → css[i]? = some c → c.length = nc σ := fun i σ c hσ hci => by
    have hi : i < css.length := (List.getElem?_eq_some_iff.1 hci).1
    have hfi : fs[i]? = some (fs[i]'(by omega)) := List.getElem?_eq_getElem _
    exact AR.len (hh i σ _ hσ hfi) (hc i _ c hfi hci)
  obtain ⟨h5, h6⟩ := (seg (by omega) hlen).2 f _ _ hcf hσ
  refine ⟨_, hσ, hh f _ b hσ h3, ?_, h6⟩
  rw [h5]
  exact hc f b _ h3 hcf

theorem set_ok {τ : Ty} {a : AV} {cs : List Value} (hf : Fit τ a) (h : AR S w ρ row pv a cs) {f : Nat} {b a' : AV} (hb : fieldA a f = some b) {σ : Ty} (hσ : (fty τ)[f]? = some σ) {c : AV} {d : List Value} (hfc : Fit σ c) (hc : AR S w ρ row pv c d)
    (hs : setField a f c = some a') : Fit τ a' ∧ AR S w ρ row pv a' (splice cs (offL (fty τ) f) d) := by
  obtain ⟨fs, h1, h2, h3, h4⟩ := as_agg hf h hb
  rw [h4 c] at hs
  simp only [Option.some.injEq] at hs
  subst hs
  obtain ⟨hg, hl, hh⟩ := h2.agg_len
  obtain ⟨css, rfl, hl2, hcc⟩ := h1.agg_parts
  have hlen : ∀ (i : Nat) (σ : Ty) (c : List Value), (fty τ)[i]? = some σ → css[i]? = some c → c.length = nc σ := fun i σ c hσ hci => by
    have hi : i < css.length := (List.getElem?_eq_some_iff.1 hci).1
    have hfi : fs[i]? = some (fs[i]'(by omega)) := List.getElem?_eq_getElem _
    exact AR.len (hh i σ _ hσ hfi) (hcc i _ c hfi hci)
  rw [← seg_set (by omega) hlen f d σ hσ (AR.len hfc hc)]
  have hfit : Fit τ (.agg τ (fs.set f c)) := .agg τ _ hg (by simp [hl]) fun i ρ' b' hρ hb' => by
    rw [List.getElem?_set] at hb'
    split at hb'
    · rename_i e
      subst e
      split at hb'
      · simp only [Option.some.injEq] at hb'
        subst hb'
        rw [hσ] at hρ
        simp only [Option.some.injEq] at hρ
        exact hρ ▸ hfc
      · cases hb'
    · exact hh i ρ' b' hρ hb'
  have har : AR S w ρ row pv (.agg τ (fs.set f c)) (css.set f d).flatten := .agg τ _ _ (by simp [hl2]) fun i b' c' hb' hc' => by
    rw [List.getElem?_set] at hb' hc'
    split at hb'
    · rename_i e
      subst e
      rw [if_pos rfl] at hc'
      split at hb'
      · split at hc'
        · simp only [Option.some.injEq] at hb' hc'
          subst hb'; subst hc'
          exact hc
        · cases hc'
      · cases hb'
    · rename_i e
      rw [if_neg e] at hc'
      exact hcc i b' c' hb' hc'
  obtain ⟨g1, g2⟩ := mkSt_ok hfit har
  exact ⟨g2, g1⟩

theorem getP_ok : ∀ {p : List Nat} {τ : Ty} {a : AV} {cs : List Value}, Fit τ a → AR S w ρ row pv a cs → ∀ {b : AV}, getP a p = some b →
    ∃ σ, tyP τ p = some σ ∧ Fit σ b ∧ AR S w ρ row pv b ((cs.drop (offP τ p)).take (nc σ)) ∧ offP τ p + nc σ ≤ cs.length
  | [], τ, a, cs, hf, h, b, hb => by
    simp only [getP, Option.some.injEq] at hb
    subst hb
    have := AR.len hf h
    refine ⟨τ, rfl, hf, ?_, by simp [offP, this]⟩
    simp only [offP, List.drop_zero]
    rw [← this, List.take_length]
    exact h
  | f :: p, τ, a, cs, hf, h, b, hb => by
    simp only [getP] at hb
    split at hb
    · rename_i c hc
      obtain ⟨σ, h1, h2, h3, h4⟩ := field_ok hf h hc
      obtain ⟨θ, h5, h6, h7, h8⟩ := getP_ok h2 h3 hb
      have hl : ((cs.drop (offL (fty τ) f)).take (nc σ)).length = nc σ := by simp; omega
      have hd : (fty τ).getD f .bool = σ := by rw [List.getD_eq_getElem?_getD, h1]; rfl
      refine ⟨θ, by simp only [tyP, h1]; exact h5, h6, ?_, by simp only [offP, hd]; omega⟩
      simp only [offP, hd]
      have e : (List.drop (offP σ p) (List.take (nc σ) (List.drop (offL (fty τ) f) cs))).take (nc θ) = (cs.drop (offL (fty τ) f + offP σ p)).take (nc θ) := by
        rw [List.drop_take, List.take_take, List.drop_drop]
        congr 1
        omega
      rw [e] at h7
      exact h7
    · cases hb

theorem splice_get {cs c : List Value} {o : Nat} (h : o + c.length ≤ cs.length) (i : Nat) : (splice cs o c)[i]? = if i < o then cs[i]? else if i < o + c.length then c[i - o]? else cs[i]? := by
  have e1 : (cs.take o).length = o := by simp; omega
  simp only [splice, List.append_assoc]
  by_cases h1 : i < o
  · rw [if_pos h1, List.getElem?_append_left (by omega), List.getElem?_take, if_pos h1]
  · rw [if_neg h1, List.getElem?_append_right (by omega), e1]
    by_cases h2 : i < o + c.length
    · rw [if_pos h2, List.getElem?_append_left (by omega)]
    · rw [if_neg h2, List.getElem?_append_right (by omega), List.getElem?_drop]
      congr 1; omega
theorem splice_splice {cs c : List Value} {o n m : Nat} (h : o + n ≤ cs.length) (hm : m + c.length ≤ n) : splice cs o (splice ((cs.drop o).take n) m c) = splice cs (o + m) c := by
  have hl0 : ((cs.drop o).take n).length = n := by simp; omega
  have hl : (splice ((cs.drop o).take n) m c).length = n := by rw [splice_length (by omega), hl0]
  apply List.ext_getElem?
  intro i
  have A := splice_get (cs := cs) (c := splice ((cs.drop o).take n) m c) (o := o) (by omega) i
  have B := splice_get (cs := (cs.drop o).take n) (c := c) (o := m) (by omega) (i - o)
  have C := splice_get (cs := cs) (c := c) (o := o + m) (by omega) i
  have D : i < o + n → ¬ i < o → ((cs.drop o).take n)[i - o]? = cs[i]? := fun h1 h2 => by
    rw [List.getElem?_take, if_pos (by omega), List.getElem?_drop]
    congr 1; omega
  rw [A, C, hl, B]
  by_cases h1 : i < o
  · rw [if_pos h1, if_pos (by omega)]
  · rw [if_neg h1]
    by_cases h2 : i < o + n
    · rw [if_pos h2, D h2 h1]
      by_cases h3 : i < o + m
      · rw [if_pos (show i - o < m by omega), if_pos h3]
      · rw [if_neg (show ¬ i - o < m by omega), if_neg h3]
        by_cases h4 : i < o + m + c.length
        · rw [if_pos (show i - o < m + c.length by omega), if_pos h4]
          congr 1; omega
        · rw [if_neg (show ¬ i - o < m + c.length by omega), if_neg h4]
    · rw [if_neg h2, if_neg (by omega), if_neg (by omega)]

theorem setP_ok : ∀ {p : List Nat} {τ : Ty} {a : AV} {cs : List Value}, Fit τ a → AR S w ρ row pv a cs → ∀ {σ : Ty} {b a' : AV} {d : List Value}, tyP τ p = some σ → Fit σ b → AR S w ρ row pv b d → setP a p b = some a' →
    Fit τ a' ∧ AR S w ρ row pv a' (splice cs (offP τ p) d) ∧ offP τ p + nc σ ≤ cs.length
  | [], τ, a, cs, hf, h, σ, b, a', d, ht, hfb, hb, hs => by
    simp only [tyP, Option.some.injEq] at ht
    subst ht
    simp only [setP, Option.some.injEq] at hs
    subst hs
    have h1 := AR.len hf h
    have h2 := AR.len hfb hb
    refine ⟨hfb, ?_, by simp [offP, h1]⟩
    simp only [offP, splice, List.take_zero, List.nil_append, Nat.zero_add, List.drop_eq_nil_of_le (show cs.length ≤ d.length by omega), List.append_nil]
    exact hb
  | f :: p, τ, a, cs, hf, h, σ, b, a', d, ht, hfb, hb, hs => by
    simp only [setP] at hs
    split at hs
    · rename_i c hc
      split at hs
      · rename_i c' hc'
        obtain ⟨θ, h1, h2, h3, h4⟩ := field_ok hf h hc
        simp only [tyP, h1] at ht
        obtain ⟨h5, h6, h7⟩ := setP_ok h2 h3 ht hfb hb hc'
        obtain ⟨h8, h9⟩ := set_ok hf h hc h1 h5 h6 hs
        have hl : ((cs.drop (offL (fty τ) f)).take (nc θ)).length = nc θ := by simp; omega
        have hd : (fty τ).getD f .bool = θ := by rw [List.getD_eq_getElem?_getD, h1]; rfl
        have hbl := AR.len hfb hb
        refine ⟨h8, ?_, by simp only [offP, hd]; omega⟩
        simp only [offP, hd]
        rw [← splice_splice h4 (by omega)]
        exact h9
      · cases hs
    · cases hs
end
end Go.Gx
