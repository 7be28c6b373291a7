/- Loops: what is found of a loop, round by round, is what the machine does. -/
import Derived.Test.YtnffgabfibafjaaDoorGxView
namespace Go.Gx
open Go.RowKit
set_option linter.unusedVariables false
set_option linter.unusedSimpArgs false

section
variable {w0 : World} {B : Old} {pv : Nat → Value} {S : Nat → Prop} {ρ : Nat → Option Loc} {st : St} {a : Act} {w : World}
def viewLoc (st : St) (ρ : Nat → Option Loc) (row' : Nat → Option Row) : Nat → Option Loc := fun id => match Nat.beq id mbase with
  | true => ρ id
  | false => match st.row id with
    | some _ => ρ id
    | none => match row' id with
      | some _ => some .nilrow
      | none => none
theorem slots_view {row' : Nat → Option Row} {ρ' : Nat → Option Loc} {ids : List Nat} (hrv : ∀ id r, row' id = some r → Rv st id r) (hρ : ∀ id, st.row id ≠ none → ρ' id = ρ id) (hρn : ∀ id, st.row id = none → row' id ≠ none → ρ' id = some .nilrow) (hids : ∀ id, id ∈ ids → row' id ≠ none)
    (hhs : HS S w ρ st.row pv B) (hsl : ∀ t, VR S w ρ st.row pv (st.slot t) (a.tmps.getD t undef)) : ∀ {l : List Sp} {x : SX l}, view st l = some x → spsOk ids l = true → (∀ i, i ∈ rowIds l → row' i ≠ none) → ∀ t, VR S w ρ' row' pv (slotsOf l x t) (a.tmps.getD t undef)
  | [], x, _, _, _, t => .inl rfl
  | s :: l, x, h, hok, hhas, t => by
    simp only [view] at h
    split at h
    · rename_i x0 hx0
      split at h
      · rename_i y hy
        cases h
        simp only [spsOk, Bool.and_eq_true] at hok
        have ih := slots_view hrv hρ hρn hids hhs hsl hy hok.2 (fun i hi => hhas i (by simp only [rowIds]; exact List.mem_append_right _ hi)) t
        have hst := hsl t
        cases s with
        | t s τ =>
          simp only [slotsOf, Sp.slotAt, beq_eq]
          by_cases e : t = s
          · subst e
            simp only [decide_true, cond_true]
            simp only [Sp.view] at hx0
            obtain ⟨cs, h1, h2⟩ := vr_ar hst (by intro e; rw [e] at hx0; simp [asT] at hx0)
            exact .inr ⟨cs, .t τ x0 cs (asT_ar hx0 h1), by rw [h2, valOf, valOf, ← asT_ag hx0]⟩
          · rw [decide_eq_false e]; exact ih
        | con s c =>
          simp only [slotsOf, Sp.slotAt, beq_eq]
          by_cases e : t = s
          · subst e
            simp only [decide_true, cond_true]
            simp only [Sp.view] at hx0
            have := Con.fits_eq (cond_unit hx0)
            rw [this] at hst
            obtain ⟨cs, h1, h2⟩ := vr_ar hst (by cases c <;> simp [Con.val, undefV])
            exact .inr ⟨cs, con_view hrv hρ hρn hids hok.1 h1, h2⟩
          · rw [decide_eq_false e]; exact ih
        | cl s g cs =>
          simp only [slotsOf, Sp.slotAt, beq_eq]
          by_cases e : t = s
          · subst e
            simp only [decide_true, cond_true]
            simp only [Sp.view] at hx0
            split at hx0
            · rename_i f caps hs
              split at hx0
              · rename_i hf
                obtain rfl := Nat.eq_of_beq_eq_true hf
                rw [hs] at hst
                obtain ⟨cs', h1, h2⟩ := vr_ar hst (by simp)
                exact .inr ⟨cs', clo_view hx0 h1, h2⟩
              · cases hx0
            · cases hx0
          · rw [decide_eq_false e]; exact ih
        | rd s τ =>
          simp only [slotsOf, Sp.slotAt, beq_eq]
          by_cases e : t = s
          · subst e
            simp only [decide_true, cond_true]
            simp only [Sp.view] at hx0
            split at hx0
            · rename_i j hs
              split at hx0
              · rename_i e' σ xs app' hrow
                split at hx0
                · rename_i hσ _
                  subst hσ
                  cases hx0
                  rw [hs] at hst
                  obtain ⟨cs', h1, h2⟩ := vr_ar hst (by simp)
                  refine .inr ⟨cs', .t _ _ _ ?_, h2⟩
                  cases h1 with
                  | own _ _ _ _ _ _ g cap h4 hl =>
                    rw [hrow] at h4
                    cases h4
                    exact row_cr hhs (fun _ hb => hb) hrow hl ((hhs.apart j _ g cap hl hrow).2.2 rfl)
                  | ownNil _ _ _ _ _ h4 hl =>
                    rw [hrow] at h4
                    cases h4
                    exact cr_nil S w σ
                · cases hx0
              · cases hx0
            · obtain ⟨cs, h1, h2⟩ := vr_ar hst (by intro e; rw [e] at hx0; simp [asT] at hx0)
              exact .inr ⟨cs, AR.t (.sl τ) x0 cs (asT_ar (τ := .sl τ) (x := x0) hx0 h1), by rw [h2, valOf, valOf, ← asT_ag (τ := .sl τ) (x := x0) hx0]⟩
          · rw [decide_eq_false e]; exact ih
        | own s id e τ fz app =>
          simp only [slotsOf, Sp.slotAt, beq_eq]
          by_cases e' : t = s
          · subst e'
            simp only [decide_true, cond_true]
            simp only [Sp.view] at hx0
            obtain ⟨cs, h1, h2⟩ := vr_ar hst (by intro e; rw [e] at hx0; simp [viewOwn] at hx0)
            obtain ⟨h3, h4⟩ := own_view hrv hρ hρn hx0 (hhas id (by simp [rowIds, Sp.ids])) h1
            exact .inr ⟨cs, h3, by rw [h2, valOf, valOf, h4]; rfl⟩
          · rw [decide_eq_false e']; exact ih
        | boxT s id τ =>
          simp only [slotsOf, Sp.slotAt, beq_eq]
          by_cases e' : t = s
          · subst e'
            simp only [decide_true, cond_true]
            simp only [Sp.view] at hx0
            split at hx0
            · rename_i k σ b hs hrow
              split at hx0
              · rename_i e hk _
                subst e
                have hk := Nat.eq_of_beq_eq_true hk
                subst hk
                rw [hs] at hst
                obtain ⟨cs, h1, h2⟩ := vr_ar hst (by simp)
                exact .inr ⟨cs, ep_view hrv hρ hρn hrow (hhas _ (by simp [rowIds, Sp.ids])) h1, h2⟩
              · cases hx0
            · cases hx0
          · rw [decide_eq_false e']; exact ih
        | boxF s id τ fs =>
          simp only [slotsOf, Sp.slotAt, beq_eq]
          by_cases e' : t = s
          · subst e'
            simp only [decide_true, cond_true]
            have hfv : ∃ b, st.slot t = .ep id none [] ∧ st.row id = some (.box τ b) := by
              simp only [Sp.view] at hx0
              split at hx0
              · rename_i k σ σ' as hs hrow
                split at hx0
                · rename_i e hk _
                  subst e
                  have hk := Nat.eq_of_beq_eq_true hk
                  subst hk
                  exact ⟨_, hs, hrow⟩
                · cases hx0
              · rename_i k σ σ' y hs hrow
                split at hx0
                · rename_i e e' hk _ _
                  subst e
                  have hk := Nat.eq_of_beq_eq_true hk
                  subst hk
                  exact ⟨_, hs, hrow⟩
                · cases hx0
              · cases hx0
            obtain ⟨b, hs, hrow⟩ := hfv
            rw [hs] at hst
            obtain ⟨cs, h1, h2⟩ := vr_ar hst (by simp)
            exact .inr ⟨cs, ep_view hrv hρ hρn hrow (hhas _ (by simp [rowIds, Sp.ids])) h1, h2⟩
          · rw [decide_eq_false e']; exact ih
      · cases h
    · cases h
theorem fids_sub {l : List Sp} {s id : Nat} {τ : Ty} {fs : List Fp} (h : Sp.boxF s id τ fs ∈ l) : ∀ i, i ∈ fids fs → i ∈ rowIds l := by
  induction l with
  | nil => cases h
  | cons p l ih =>
    intro i hi
    rcases List.mem_cons.1 h with e | h
    · subst e
      exact List.mem_append_left _ (List.mem_cons_of_mem _ hi)
    · exact List.mem_append_right _ (ih h i hi)
/-- A box's fields stem from a shape. -/
theorem rows_boxF {ids : List Nat} : ∀ {l : List Sp} {x : SX l} {j : Nat} {τ : Ty} {b : AV}, view st l = some x → spsOk ids l = true → rowsOf l x j = some (.box τ b) →
    (∃ s a, Sp.boxT s j τ ∈ l ∧ st.row j = some (.box τ a) ∧ ∃ y, b = .t τ y ∧ asT τ a = some y) ∨
    (∃ s fs a as, ∃ y : FX fs, Sp.boxF s j τ fs ∈ l ∧ st.row j = some (.box τ a) ∧ ((∃ σ, a = .agg σ as) ∨ (∃ y, a = .t τ y ∧ as = explode τ y)) ∧ fview st.row fs as = some y ∧ b = .agg τ (fvals fs y) ∧ agT τ = true ∧ fpsOk ids (fty τ) fs = true)
  | [], x, j, τ, b, _, _, h => by cases h
  | s :: l, x, j, τ, b, h, hok, hr => by
    simp only [view] at h
    split at h
    · rename_i x0 hx0
      split at h
      · rename_i y hy
        cases h
        simp only [spsOk, Bool.and_eq_true] at hok
        have next : rowsOf l y j = some (.box τ b) → (∃ s' a, Sp.boxT s' j τ ∈ s :: l ∧ st.row j = some (.box τ a) ∧ ∃ y, b = .t τ y ∧ asT τ a = some y) ∨
    (∃ s' fs a as, ∃ y : FX fs, Sp.boxF s' j τ fs ∈ s :: l ∧ st.row j = some (.box τ a) ∧ ((∃ σ, a = .agg σ as) ∨ (∃ y, a = .t τ y ∧ as = explode τ y)) ∧ fview st.row fs as = some y ∧ b = .agg τ (fvals fs y) ∧ agT τ = true ∧ fpsOk ids (fty τ) fs = true) := fun hr => (rows_boxF hy hok.2 hr).imp (fun ⟨s', a, h1, h2⟩ => ⟨s', a, List.mem_cons_of_mem s h1, h2⟩) (fun ⟨s', fs, a, as, z, h1, h2⟩ => ⟨s', fs, a, as, z, List.mem_cons_of_mem s h1, h2⟩)
        cases s with
        | t s τ' => exact next hr
        | con s c => exact next hr
        | cl s g cs => exact next hr
        | rd s τ' => exact next hr
        | own s id e τ' fz app =>
          simp only [rowsOf, Sp.rowAt, beq_eq] at hr
          by_cases e' : j = id
          · subst e'; simp at hr
          · rw [decide_eq_false e'] at hr; exact next hr
        | boxT s id τ' =>
          simp only [rowsOf, Sp.rowAt, beq_eq] at hr
          by_cases e' : j = id
          · subst e'
            simp only [decide_true, cond_true, Option.some.injEq, Row.box.injEq] at hr
            obtain ⟨rfl, rfl⟩ := hr
            simp only [Sp.view] at hx0
            split at hx0
            · rename_i k σ a hs hrow
              split at hx0
              · rename_i e _ _
                subst e
                exact .inl ⟨s, a, List.mem_cons_self, hrow, _, rfl, hx0⟩
              · cases hx0
            · cases hx0
          · rw [decide_eq_false e'] at hr; exact next hr
        | boxF s id τ' fs =>
          simp only [rowsOf, Sp.rowAt, beq_eq] at hr
          have nofr : ∀ {fs : List Fp} {z : FX fs} {r0 : Option Row}, frows fs z j r0 = some (.box τ b) → r0 = some (.box τ b) := by
            intro fs
            induction fs with
            | nil => exact fun h => h
            | cons f fs ih =>
              intro z r0 h
              cases f with
              | own id e τ fz app =>
                simp only [frows, Fp.rowAt, beq_eq] at h
                by_cases e' : j = id
                · subst e'; simp at h
                · rw [decide_eq_false e'] at h; exact ih h
              | t τ => exact ih h
              | con c => exact ih h
          by_cases e' : j = id
          · subst e'
            simp only [decide_true, cond_true, Option.some.injEq, Row.box.injEq] at hr
            obtain ⟨rfl, rfl⟩ := hr
            simp only [Sp.ok, Bool.and_eq_true] at hok
            simp only [Sp.view] at hx0
            split at hx0
            · rename_i k σ σ' as hs hrow
              split at hx0
              · rename_i e _ _
                subst e
                exact .inr ⟨s, fs, _, as, x0, List.mem_cons_self, hrow, .inl ⟨_, rfl⟩, hx0, rfl, hok.1.1, hok.1.2⟩
              · cases hx0
            · rename_i k σ σ' y' hs hrow
              split at hx0
              · rename_i e e' _ _ _
                subst e; subst e'
                exact .inr ⟨s, fs, _, _, x0, List.mem_cons_self, hrow, .inr ⟨y', rfl, rfl⟩, hx0, rfl, hok.1.1, hok.1.2⟩
              · cases hx0
            · cases hx0
          · rw [decide_eq_false e'] at hr
            exact next (nofr hr)
      · cases h
    · cases h
/-- A state, seen as one of a shape. -/
theorem Sim.view {l : List Sp} {x : SX l} (hv : view st l = some x) (hok : spOk l = true) (h : Sim w0 B pv S ρ st a w) : ∃ ρ', Sim w0 B pv S ρ' (stOf st.nt l x) a w := by
  have hrv : ∀ id r, rowsOf l x id = some r → Rv st id r := fun id r hr => rows_rv hv hr
  have hmb : rowsOf l x mbase ≠ none → st.row mbase ≠ none := fun h1 h2 => by
    cases hr : rowsOf l x mbase with
    | none => exact h1 hr
    | some r =>
      cases hrv mbase r hr with
      | same _ h3 => rw [h2] at h3; cases h3
      | nil _ _ _ _ hne => exact hne rfl
      | boxT _ _ _ h3 => rw [h2] at h3; cases h3
      | boxF _ _ _ _ _ h3 => rw [h2] at h3; cases h3
  have hρ : ∀ id, st.row id ≠ none → viewLoc st ρ (rowsOf l x) id = ρ id := fun id hid => by
    unfold viewLoc
    split
    · rfl
    · cases hr : st.row id with
      | none => exact absurd hr hid
      | some r => rfl
  have hρn : ∀ id, st.row id = none → rowsOf l x id ≠ none → viewLoc st ρ (rowsOf l x) id = some .nilrow := fun id h1 h2 => by
    unfold viewLoc
    split
    · rename_i hb
      have := Nat.eq_of_beq_eq_true hb
      subst this
      exact absurd h1 (hmb h2)
    · rw [h1]
      cases hr : rowsOf l x id with
      | none => exact absurd hr h2
      | some r => rfl
  have hat : ∀ id g c, rowsOf l x id ≠ none → viewLoc st ρ (rowsOf l x) id = some (.at g c) → st.row id ≠ none ∧ ρ id = some (.at g c) := fun id g c h0 hl => by
    cases hr : st.row id with
    | none => rw [hρn id hr h0] at hl; cases hl
    | some r => rw [hρ id (by rw [hr]; simp)] at hl; exact ⟨by simp, hl⟩
  have hids : ∀ id, id ∈ rowIds l → rowsOf l x id ≠ none := fun id hid => rows_has hid
  refine ⟨viewLoc st ρ (rowsOf l x), h.size, h.defers, slots_view hrv hρ hρn hids h.hs h.slots hv hok hids, ⟨h.hs.stab, fun id r lc h1 h2 => ?_, fun id id' g c c' h1 h2 h3 h4 => ?_, fun id r g c h1 h2 => ?_, fun l0 hl0 => (by
    have := h.hs.pin l0 hl0
    unfold viewLoc
    rw [Nat.beq_refl]
    exact this)⟩, h.below, h.hB⟩
  · have h1' : rowsOf l x id = some r := h1
    cases r with
    | flat e τ xs fz app =>
      cases hrv id _ h1' with
      | same _ h3 =>
        rw [hρ id (by rw [h3]; simp)] at h2
        have := h.hs.rows id _ lc h3 h2
        cases lc <;> exact this
      | nil _ _ h3 hpos _ =>
        rw [hρn id h3 (by rw [h1']; simp)] at h2
        cases h2
        exact ⟨rfl, rfl, hpos⟩
    | box τ b =>
      have hne : ∀ a, st.row id = some (.box τ a) → ρ id = some lc := fun a h3 => by rw [hρ id (by rw [h3]; simp)] at h2; exact h2
      rcases rows_boxF hv hok h1' with ⟨s, a', _, h3, y, rfl, h5⟩ | ⟨s, fs, a', as, y, hmem, h3, h4, h5, rfl, hag, hfp⟩
      · have h6 := h.hs.rows id _ lc h3 (hne _ h3)
        cases lc with
        | nilrow => exact h6.elim
        | «at» g c =>
          obtain ⟨cur, T, h7, h8, h9⟩ := h6
          exact ⟨cur, T, h7, .t τ y, .t τ y _ (asT_ar h5 h9)⟩
      · have h6 := h.hs.rows id _ lc h3 (hne _ h3)
        cases lc with
        | nilrow => exact h6.elim
        | «at» g c =>
          obtain ⟨cur, T, h7, h8, h9⟩ := h6
          have hagg : AR S w ρ st.row pv (.agg τ as) cur.toList ∧ Fit τ (.agg τ as) := by
            rcases h4 with ⟨σ, rfl⟩ | ⟨z, rfl, rfl⟩
            · cases h8 with
              | agg _ _ k1 k2 k3 => exact ⟨h9, .agg _ _ k1 k2 k3⟩
            · exact explode_ok hag (ar_t h9)
          obtain ⟨css, k1, k2, k3⟩ := hagg.1.agg_parts
          obtain ⟨_, k4, k5⟩ := hagg.2.agg_len
          obtain ⟨k6, k7, k8⟩ := fview_ok hrv hρ hρn hids h5 hfp (fun i hi => hids i (fids_sub hmem i hi)) k2 k4 k3 k5
          refine ⟨cur, T, h7, .agg τ _ hag (by omega) k8, ?_⟩
          rw [k1]
          exact .agg τ _ css (by omega) k7
  · obtain ⟨h5, h6⟩ := hat id g c h3 h1
    obtain ⟨h7, h8⟩ := hat id' g c' h4 h2
    exact h.hs.inj id id' g c c' h6 h8 h5 h7
  · have h2' : rowsOf l x id = some r := h2
    obtain ⟨h5, h6⟩ := hat id g c (by rw [h2']; simp) h1
    cases hrv id r h2' with
    | same _ h3 => exact h.hs.apart id r g c h6 h3
    | nil _ _ h3 _ _ => exact absurd h3 h5
    | boxT τ a' x' h3 => exact h.hs.apart id (.box τ a') g c h6 h3
    | boxF τ a' as fs x' h3 => exact h.hs.apart id (.box τ a') g c h6 h3
end
end Go.Gx
