/- A state seen as one of a shape. -/
import Derived.Test.YtnffgabfibafjaaDoorGxFun
namespace Go.Gx
open Go.RowKit
set_option linter.unusedVariables false
set_option linter.unusedSimpArgs false

/-- What a shape's row stands for. -/
inductive Rv (st : St) (id : Nat) : Row → Prop
  | same (r : Row) (h : st.row id = some r) : Rv st id r
  | nil (e : Nat) (τ : Ty) (h : st.row id = none) (hpos : 0 < nc τ) (hne : id ≠ mbase) : Rv st id (.flat e τ [] false true)
  | boxT (τ : Ty) (a : AV) (x : den τ) (h : st.row id = some (.box τ a)) (hx : asT τ a = some x) : Rv st id (.box τ (.t τ x))
  | boxF (τ : Ty) (a : AV) (as : List AV) (fs : List Fp) (x : FX fs) (h : st.row id = some (.box τ a)) (ha : (∃ σ, a = .agg σ as) ∨ (∃ y, a = .t τ y ∧ as = explode τ y)) (hx : fview st.row fs as = some x) : Rv st id (.box τ (.agg τ (fvals fs x)))

theorem Con.fits_eq {c : Con} {a : AV} (h : c.fits a = true) : a = c.val := by
  cases c <;> cases a <;> simp only [Con.fits] at h <;> first
    | cases h
    | skip
  · rename_i f g l
    cases l with
    | nil => rw [Nat.eq_of_beq_eq_true h]; rfl
    | cons => cases h
  · rw [Nat.eq_of_beq_eq_true h]; rfl
  · rename_i id j i p
    cases i with
    | some => cases h
    | none =>
      cases p with
      | nil => rw [Nat.eq_of_beq_eq_true h]; rfl
      | cons => cases h
  · rw [Nat.eq_of_beq_eq_true h]; rfl
  · rename_i vs
    cases vs with
    | nil => rfl
    | cons => cases h
theorem cond_unit {b : Bool} {x : Unit} (h : cond b (some ()) none = some x) : b = true := by cases b <;> first | rfl | cases h
theorem viewOwn_form {row : Nat → Option Row} {id e : Nat} {τ : Ty} {fz app : Bool} {a : AV} {xs : List (den τ)} (h : viewOwn row id e τ fz app a = some xs) :
    (a = .own id ∧ row id = some (.flat e τ xs fz app)) ∨ (a = .nil ∧ row id = none ∧ fz = false ∧ app = true ∧ 0 < nc τ ∧ xs = [] ∧ id ≠ mbase) := by
  unfold viewOwn at h
  split at h
  · rename_i j
    split at h
    · rename_i e' σ ys fz' app' hj hr
      split at h
      · rename_i hσ _ he hf ha
        subst hσ
        cases h
        rw [Nat.eq_of_beq_eq_true hj] at *
        have he := Nat.eq_of_beq_eq_true he
        have hf : fz' = fz := by simpa using hf
        have ha : app' = app := by simpa using ha
        subst he; subst hf; subst ha
        exact .inl ⟨rfl, hr⟩
      · cases h
    · cases h
  · split at h
    · rename_i hr hb hm
      cases h
      exact .inr ⟨rfl, hr, rfl, rfl, Nat.le_of_ble_eq_true hb, rfl, fun e => by rw [e, Nat.beq_refl] at hm; cases hm⟩
    · cases h
  · cases h

theorem frows_rv {st : St} : ∀ {fs : List Fp} {as : List AV} {x : FX fs} {j : Nat} {r0 : Option Row} {r : Row}, fview st.row fs as = some x → frows fs x j r0 = some r → Rv st j r ∨ r0 = some r
  | [], as, x, j, r0, r, _, h => .inr h
  | f :: fs, [], x, j, r0, r, h, _ => by simp [fview] at h
  | f :: fs, a :: as, x, j, r0, r, h, hr => by
    simp only [fview] at h
    split at h
    · rename_i x0 hx0
      split at h
      · rename_i y hy
        cases h
        cases f with
        | own id e τ fz app =>
          simp only [frows, Fp.rowAt, beq_eq] at hr
          by_cases e' : j = id
          · subst e'
            simp only [decide_true, cond_true, Option.some.injEq] at hr
            subst hr
            simp only [Fp.view] at hx0
            rcases viewOwn_form hx0 with ⟨_, h2⟩ | ⟨_, h2, h3, h4, h5, h6, h7⟩
            · exact .inl (.same _ h2)
            · subst h3; subst h4
              rw [h6]
              exact .inl (.nil e τ h2 h5 h7)
          · rw [decide_eq_false e'] at hr
            exact frows_rv hy hr
        | t τ => exact frows_rv hy hr
        | con c => exact frows_rv hy hr
      · cases h
    · cases h
theorem rows_rv {st : St} : ∀ {l : List Sp} {x : SX l} {j : Nat} {r : Row}, view st l = some x → rowsOf l x j = some r → Rv st j r
  | [], x, j, r, _, h => by cases h
  | s :: l, x, j, r, h, hr => by
    simp only [view] at h
    split at h
    · rename_i x0 hx0
      split at h
      · rename_i y hy
        cases h
        cases s with
        | t s τ => exact rows_rv hy hr
        | con s c => exact rows_rv hy hr
        | cl s g cs => exact rows_rv hy hr
        | rd s τ => exact rows_rv hy hr
        | own s id e τ fz app =>
          simp only [rowsOf, Sp.rowAt, beq_eq] at hr
          by_cases e' : j = id
          · subst e'
            simp only [decide_true, cond_true, Option.some.injEq] at hr
            subst hr
            simp only [Sp.view] at hx0
            rcases viewOwn_form hx0 with ⟨_, h2⟩ | ⟨_, h2, h3, h4, h5, h6, h7⟩
            · exact .same _ h2
            · subst h3; subst h4
              rw [h6]
              exact .nil e τ h2 h5 h7
          · rw [decide_eq_false e'] at hr
            exact rows_rv hy hr
        | boxT s id τ =>
          simp only [rowsOf, Sp.rowAt, beq_eq] at hr
          by_cases e' : j = id
          · subst e'
            simp only [decide_true, cond_true, Option.some.injEq] at hr
            subst hr
            simp only [Sp.view] at hx0
            split at hx0
            · rename_i k σ a hs hrow
              split at hx0
              · rename_i e _ _
                subst e
                exact .boxT _ a _ hrow hx0
              · cases hx0
            · cases hx0
          · rw [decide_eq_false e'] at hr
            exact rows_rv hy hr
        | boxF s id τ fs =>
          simp only [rowsOf, Sp.rowAt, beq_eq] at hr
          have hfv : ∃ a as, st.row id = some (.box τ a) ∧ ((∃ σ, a = .agg σ as) ∨ (∃ y, a = .t τ y ∧ as = explode τ y)) ∧ fview st.row fs as = some x0 := by
            simp only [Sp.view] at hx0
            split at hx0
            · rename_i k σ σ' as hs hrow
              split at hx0
              · rename_i e _ _
                subst e
                exact ⟨_, as, hrow, .inl ⟨_, rfl⟩, hx0⟩
              · cases hx0
            · rename_i k σ σ' y hs hrow
              split at hx0
              · rename_i e e' _ _ _
                subst e; subst e'
                exact ⟨_, _, hrow, .inr ⟨y, rfl, rfl⟩, hx0⟩
              · cases hx0
            · cases hx0
          obtain ⟨a, as, h1, h2, h3⟩ := hfv
          by_cases e' : j = id
          · subst e'
            simp only [decide_true, cond_true, Option.some.injEq] at hr
            subst hr
            exact .boxF τ a as fs _ h1 h2 h3
          · rw [decide_eq_false e'] at hr
            rcases frows_rv h3 hr with h4 | h4
            · exact h4
            · exact rows_rv hy h4
      · cases h
    · cases h
theorem frows_has {j : Nat} : ∀ {fs : List Fp} {x : FX fs} {r0 : Option Row}, (j ∈ fids fs ∨ r0 ≠ none) → frows fs x j r0 ≠ none
  | [], x, r0, h => by
    rcases h with h | h
    · cases h
    · exact h
  | f :: fs, x, r0, h => by
    cases f with
    | own id e τ fz app =>
      simp only [frows, Fp.rowAt, beq_eq]
      by_cases e' : j = id
      · simp [e']
      · rw [decide_eq_false e']
        refine frows_has ?_
        rcases h with h | h
        · simp only [fids, Fp.ids] at h
          rcases List.mem_append.1 h with h | h
          · exact absurd (List.mem_singleton.1 h) e'
          · exact .inl h
        · exact .inr h
    | t τ => exact frows_has (fs := fs) (by simpa [fids, Fp.ids] using h)
    | con c => exact frows_has (fs := fs) (by simpa [fids, Fp.ids] using h)
theorem rows_has {j : Nat} : ∀ {l : List Sp} {x : SX l}, j ∈ rowIds l → rowsOf l x j ≠ none
  | [], x, h => by cases h
  | s :: l, x, h => by
    simp only [rowIds] at h
    cases s with
    | t s τ => exact rows_has (l := l) (by simpa [Sp.ids] using h)
    | con s c => exact rows_has (l := l) (by simpa [Sp.ids] using h)
    | cl s g cs => exact rows_has (l := l) (by simpa [Sp.ids] using h)
    | rd s τ => exact rows_has (l := l) (by simpa [Sp.ids] using h)
    | own s id e τ fz app =>
      simp only [rowsOf, Sp.rowAt, beq_eq]
      by_cases e' : j = id
      · simp [e']
      · rw [decide_eq_false e']
        refine rows_has (l := l) ?_
        rcases List.mem_append.1 h with h | h
        · exact absurd (List.mem_singleton.1 h) e'
        · exact h
    | boxT s id τ =>
      simp only [rowsOf, Sp.rowAt, beq_eq]
      by_cases e' : j = id
      · simp [e']
      · rw [decide_eq_false e']
        refine rows_has (l := l) ?_
        rcases List.mem_append.1 h with h | h
        · exact absurd (List.mem_singleton.1 h) e'
        · exact h
    | boxF s id τ fs =>
      simp only [rowsOf, Sp.rowAt, beq_eq]
      by_cases e' : j = id
      · simp [e']
      · rw [decide_eq_false e']
        refine frows_has ?_
        rcases List.mem_append.1 h with h | h
        · rcases List.mem_cons.1 h with h | h
          · exact absurd h e'
          · exact .inl h
        · exact .inr (rows_has (l := l) h)

section
variable {S : Nat → Prop} {w : World} {ρ ρ' : Nat → Option Loc} {st : St} {row' : Nat → Option Row} {pv : Nat → Value} {ids : List Nat}
variable (hrv : ∀ id r, row' id = some r → Rv st id r) (hρ : ∀ id, st.row id ≠ none → ρ' id = ρ id) (hρn : ∀ id, st.row id = none → row' id ≠ none → ρ' id = some .nilrow) (hids : ∀ id, id ∈ ids → row' id ≠ none)
include hrv hρ hρn
theorem own_view {id e : Nat} {τ : Ty} {fz app : Bool} {a : AV} {xs : List (den τ)} {cs : List Value} (h : viewOwn st.row id e τ fz app a = some xs) (hrow : row' id ≠ none) (ha : AR S w ρ st.row pv a cs) : AR S w ρ' row' pv (.own id) cs ∧ isAg a = false := by
  obtain ⟨r, hr⟩ := Option.ne_none_iff_exists'.1 hrow
  rcases viewOwn_form h with ⟨rfl, h2⟩ | ⟨rfl, h2, _⟩
  · have h3 : row' id = some (.flat e τ xs fz app) := by
      cases hrv id r hr with
      | same _ h => rw [hr, ← h, h2]
      | nil _ _ h _ _ => rw [h2] at h; cases h
      | boxT _ _ _ h => rw [h2] at h; cases h
      | boxF _ _ _ _ _ h => rw [h2] at h; cases h
    refine ⟨?_, rfl⟩
    cases ha with
    | own _ e' τ' xs' fz' app' g cap h4 hl =>
      rw [h2] at h4
      cases h4
      exact .own id e τ xs fz app g cap h3 (by rw [hρ id (by rw [h2]; simp)]; exact hl)
    | ownNil _ e' τ' fz' app' h4 hl =>
      rw [h2] at h4
      cases h4
      exact .ownNil id e τ fz app h3 (by rw [hρ id (by rw [h2]; simp)]; exact hl)
  · cases ha
    refine ⟨?_, rfl⟩
    have hn := hρn id h2 hrow
    cases hrv id r hr with
    | same _ h => rw [h2] at h; cases h
    | nil e' τ' _ hpos _ => exact .ownNil id e' τ' false true hr hn
    | boxT _ _ _ h => rw [h2] at h; cases h
    | boxF _ _ _ _ _ h => rw [h2] at h; cases h
include hids in
theorem con_view {c : Con} {cs : List Value} (hc : conOk ids c = true) (ha : AR S w ρ st.row pv c.val cs) : AR S w ρ' row' pv c.val cs := by
  have _ := hρn
  cases c with
  | clo f => cases ha with | clo _ _ css hl hh => exact .clo f [] css hl fun i a cs hi => by simp at hi
  | par i => cases ha with | par _ h => exact .par i h
  | undef => cases ha with | tup _ css hl hh => exact .tup [] css hl fun i a cs hi => by simp at hi
  | own id =>
    have hrow := hids id (by simpa [conOk] using hc)
    obtain ⟨r, hr⟩ := Option.ne_none_iff_exists'.1 hrow
    cases ha with
    | own _ e τ xs fz app g cap h4 hl =>
      have h3 : row' id = some (.flat e τ xs fz app) := by
        cases hrv id r hr with
        | same _ h => rw [hr, ← h, h4]
        | nil _ _ h _ _ => rw [h4] at h; cases h
        | boxT _ _ _ h => rw [h4] at h; cases h
        | boxF _ _ _ _ _ h => rw [h4] at h; cases h
      exact .own id e τ xs fz app g cap h3 (by rw [hρ id (by rw [h4]; simp)]; exact hl)
    | ownNil _ e τ fz app h4 hl =>
      have h3 : row' id = some (.flat e τ [] fz app) := by
        cases hrv id r hr with
        | same _ h => rw [hr, ← h, h4]
        | nil _ _ h _ _ => rw [h4] at h; cases h
        | boxT _ _ _ h => rw [h4] at h; cases h
        | boxF _ _ _ _ _ h => rw [h4] at h; cases h
      exact .ownNil id e τ fz app h3 (by rw [hρ id (by rw [h4]; simp)]; exact hl)
  | ep id =>
    have hrow := hids id (by simpa [conOk] using hc)
    obtain ⟨r, hr⟩ := Option.ne_none_iff_exists'.1 hrow
    cases ha with
    | epB _ τ σ a g cap _ h4 hl hp =>
      have h5 : ρ' id = some (.at g cap) := by rw [hρ id (by rw [h4]; simp)]; exact hl
      cases hrv id r hr with
      | same _ h => rw [h4] at h; cases h; exact .epB id τ σ a g cap [] hr h5 hp
      | nil _ _ h _ _ => rw [h4] at h; cases h
      | boxT τ' a' x h => rw [h4] at h; cases h; exact .epB id τ σ _ g cap [] hr h5 hp
      | boxF τ' a' as fs x h => rw [h4] at h; cases h; exact .epB id τ σ _ g cap [] hr h5 hp
theorem ep_view {id : Nat} {τ : Ty} {a : AV} {cs : List Value} (h : st.row id = some (.box τ a)) (hrow : row' id ≠ none) (ha : AR S w ρ st.row pv (.ep id none []) cs) : AR S w ρ' row' pv (.ep id none []) cs :=
  con_view (ids := [id]) hrv hρ hρn (fun j hj => by simp at hj; subst hj; exact hrow) (c := .ep id) (by simp [conOk]) ha
omit hrv hρ hρn in
theorem asT_ag {τ : Ty} {a : AV} {x : den τ} (h : asT τ a = some x) : isAg (.t τ x) = isAg a := by
  rcases asT_form h with rfl | rfl
  · rfl
  · cases τ <;> simp [asT] at h <;> rfl
include hids in
theorem fview_ok : ∀ {σs : List Ty} {fs : List Fp} {as : List AV} {x : FX fs} {css : List (List Value)}, fview st.row fs as = some x → fpsOk ids σs fs = true → (∀ i, i ∈ fids fs → row' i ≠ none) → as.length = css.length → as.length = σs.length →
    (∀ (i : Nat) (a : AV) (c : List Value), as[i]? = some a → css[i]? = some c → AR S w ρ st.row pv a c) → (∀ (i : Nat) (σ : Ty) (a : AV), σs[i]? = some σ → as[i]? = some a → Fit σ a) →
    (fvals fs x).length = as.length ∧ (∀ (i : Nat) (a : AV) (c : List Value), (fvals fs x)[i]? = some a → css[i]? = some c → AR S w ρ' row' pv a c) ∧ (∀ (i : Nat) (σ : Ty) (a : AV), σs[i]? = some σ → (fvals fs x)[i]? = some a → Fit σ a)
  | σs, [], [], x, css, _, _, _, _, _, _, _ => ⟨rfl, fun i a c h => by simp [fvals] at h, fun i σ a _ h => by simp [fvals] at h⟩
  | _, [], _ :: _, x, css, h, _, _, _, _, _, _ => by simp [fview] at h
  | _, f :: fs, [], x, css, h, _, _, _, _, _, _ => by simp [fview] at h
  | [], f :: fs, a :: as, x, css, h, _, _, _, hl, _, _ => by simp at hl
  | σ :: σs, f :: fs, a :: as, x, [], h, _, _, hl, _, _, _ => by simp at hl
  | σ :: σs, f :: fs, a :: as, x, c :: css, h, hok, hhas, hl, hl2, har, hfit => by
    simp only [fview] at h
    split at h
    · rename_i x0 hx0
      split at h
      · rename_i y hy
        cases h
        simp only [fpsOk, Bool.and_eq_true] at hok
        obtain ⟨h1, h2, h3⟩ := fview_ok (σs := σs) (css := css) hy hok.2 (fun i hi => hhas i (by simp only [fids]; exact List.mem_append_right _ hi)) (by simpa using hl) (by simpa using hl2) (fun i a c ha hc => har (i + 1) a c (by simpa using ha) (by simpa using hc)) (fun i σ a hσ ha => hfit (i + 1) σ a (by simpa using hσ) (by simpa using ha))
        have ha0 := har 0 a c rfl rfl
        have hf0 := hfit 0 σ a rfl rfl
        have hhead : AR S w ρ' row' pv (f.val x0) c ∧ Fit σ (f.val x0) := by
          cases f with
          | t τ =>
            simp only [Fp.view] at hx0
            have hτ : τ = σ := by
              have := hok.1
              simp only [Fp.ok] at this
              split at this
              · rename_i e _; exact e
              · cases this
            subst hτ
            exact ⟨.t τ x0 c (asT_ar hx0 ha0), .t τ x0⟩
          | own id e τ fz app =>
            simp only [Fp.view] at hx0
            refine ⟨(own_view hrv hρ hρn hx0 (hhas id (by simp [fids, Fp.ids])) ha0).1, ?_⟩
            rcases viewOwn_form hx0 with ⟨rfl, _⟩ | ⟨rfl, _⟩
            · exact hf0
            · cases hf0; exact .own _ id
          | con c' =>
            simp only [Fp.view] at hx0
            have := Con.fits_eq (cond_unit hx0)
            subst this
            exact ⟨con_view hrv hρ hρn hids hok.1 ha0, hf0⟩
        refine ⟨by simp [fvals, h1], fun i b d hb hd => ?_, fun i τ b hτ hb => ?_⟩
        · cases i with
          | zero => cases hb; cases hd; exact hhead.1
          | succ i => exact h2 i b d (by simpa [fvals] using hb) (by simpa using hd)
        · cases i with
          | zero => cases hb; cases hτ; exact hhead.2
          | succ i => exact h3 i τ b (by simpa using hτ) (by simpa [fvals] using hb)
      · cases h
    · cases h
end
section
variable {S : Nat → Prop} {w : World} {ρ ρ' : Nat → Option Loc} {row row' : Nat → Option Row} {pv : Nat → Value}
theorem tp_ar {τ : Ty} {b : AV} {x : den τ} {cs : List Value} (hx : asT τ b = some x) (h : AR S w ρ row pv (.tp b) cs) : AR S w ρ' row' pv (.tp (.t τ x)) cs := by
  cases h with
  | tp σ y cs g o hc hS hcell =>
    unfold asT at hx
    dsimp only at hx
    split at hx
    · rename_i e
      subst e
      cases hx
      exact .tp _ _ _ _ _ hc hS hcell
    · cases hx
theorem CK.ok {k : CK} {a : AV} {x : k.X} {cs : List Value} (hx : k.view a = some x) (h : AR S w ρ row pv a cs) : AR S w ρ' row' pv (k.val x) cs ∧ isAg a = isAg (k.val x) := by
  cases k with
  | t τ => exact ⟨.t _ _ _ (asT_ar hx h), (asT_ag hx).symm⟩
  | tp τ =>
    simp only [CK.view] at hx
    split at hx
    · exact ⟨tp_ar hx h, rfl⟩
    · cases hx
theorem viewC_get : ∀ {ks : List CK} {av : List AV} {x : CX ks}, viewC ks av = some x → av.length = (cvals ks x).length ∧ ∀ (i : Nat) a b, av[i]? = some a → (cvals ks x)[i]? = some b → ∃ k : CK, ∃ y : k.X, b = k.val y ∧ k.view a = some y
  | [], [], x, _ => ⟨rfl, fun i a b h => by simp at h⟩
  | [], _ :: _, x, h => by simp [viewC] at h
  | k :: l, [], x, h => by simp [viewC] at h
  | k :: l, a :: al, x, h => by
    simp only [viewC] at h
    split at h
    · rename_i x0 hx
      split at h
      · rename_i y hy
        cases h
        obtain ⟨h1, h2⟩ := viewC_get hy
        refine ⟨by simp [cvals, h1], fun i b c hb hc => ?_⟩
        cases i with
        | zero => cases hb; cases hc; exact ⟨k, x0, rfl, hx⟩
        | succ i => exact h2 i b c (by simpa using hb) (by simpa [cvals] using hc)
      · cases h
    · cases h
theorem valsOf_same : ∀ {al bl : List AV} {css : List (List Value)}, al.length = bl.length → (∀ (i : Nat) a b, al[i]? = some a → bl[i]? = some b → isAg a = isAg b) → valsOf al css = valsOf bl css
  | [], [], _, _, _ => rfl
  | [], _ :: _, _, h, _ => by cases h
  | _ :: _, [], _, h, _ => by cases h
  | a :: al, b :: bl, [], _, _ => rfl
  | a :: al, b :: bl, cs :: css, h, hg => by
    have h0 := hg 0 a b rfl rfl
    have := valsOf_same (al := al) (bl := bl) (css := css) (by simpa using h) fun i a b h1 h2 => hg (i + 1) a b (by simpa using h1) (by simpa using h2)
    simp only [valsOf, this, valOf, h0]
theorem clo_view {g : Nat} {ks : List CK} {caps : List AV} {x : CX ks} {cs : List Value} (hx : viewC ks caps = some x) (h : AR S w ρ row pv (.clo g caps) cs) : AR S w ρ' row' pv (.clo g (cvals ks x)) cs := by
  obtain ⟨h1, h2⟩ := viewC_get hx
  cases h with
  | clo _ _ css hl hcs =>
    have he : valsOf caps css = valsOf (cvals ks x) css := valsOf_same h1 fun i a b ha hb => by
      obtain ⟨k, y, rfl, hy⟩ := h2 i a b ha hb
      have hi : i < css.length := by have := (List.getElem?_eq_some_iff.1 ha).1; omega
      exact (CK.ok (ρ' := ρ) (row' := row) hy (hcs i a _ ha (List.getElem?_eq_getElem hi))).2
    rw [he]
    refine .clo _ _ css (by omega) fun i b c hb hc => ?_
    have hi : i < caps.length := by have := (List.getElem?_eq_some_iff.1 hb).1; omega
    obtain ⟨k, y, rfl, hy⟩ := h2 i _ b (List.getElem?_eq_getElem hi) hb
    exact (CK.ok hy (hcs i _ c (List.getElem?_eq_getElem hi) hc)).1
end
end Go.Gx
