/- Rows forgotten; the relation of a frame. -/
import Derived.Test.YtnffgabfibafjaaDoorGxSim
namespace Go.Gx
open Go.RowKit

def inR (lo hi id : Nat) : Bool := Nat.ble lo id && Nat.blt id hi
def killL (lo hi : Nat) (ρ : Nat → Option Loc) : Nat → Option Loc := fun id => cond (inR lo hi id) none (ρ id)

theorem zipL_get {f : Ty → AV → AV} : ∀ {l : List Ty} {fs : List AV}, fs.length = l.length → (zipL f l fs).length = fs.length ∧ ∀ (i : Nat) (b : AV), (zipL f l fs)[i]? = some b → ∃ σ a, l[i]? = some σ ∧ fs[i]? = some a ∧ b = f σ a
  | [], [], _ => ⟨rfl, fun i b h => by simp [zipL] at h⟩
  | [], _ :: _, h => by simp at h
  | _ :: _, [], h => by simp at h
  | σ :: l, a :: fs, h => by
    obtain ⟨h1, h2⟩ := zipL_get (f := f) (l := l) (fs := fs) (by simpa using h)
    refine ⟨by simp [zipL, h1], fun i b hb => ?_⟩
    cases i with
    | zero => simp only [zipL, List.getElem?_cons_zero, Option.some.injEq] at hb; exact ⟨σ, a, rfl, rfl, hb.symm⟩
    | succ i =>
      simp only [zipL, List.getElem?_cons_succ] at hb
      obtain ⟨τ, c, h3, h4, h5⟩ := h2 i b hb
      exact ⟨τ, c, by simpa using h3, by simpa using h4, h5⟩

section
variable {S S' : Nat → Prop} {w w' : World} {ρ ρ' : Nat → Option Loc} {row row' : Nat → Option Row} {pv : Nat → Value} {B : Old}

theorem killR_same {lo hi : Nat} {id : Nat} {r : Row} (h : inR lo hi id = false) : ∃ r', killR lo hi id (some r) = some r' ∧ Same r r' ∧ frz r' = frz r := by
  unfold inR at h
  unfold killR
  rw [h]
  cases r with
  | flat e τ xs fz app => exact ⟨_, rfl, .refl _, rfl⟩
  | box τ a => exact ⟨_, rfl, .box _ _ _, rfl⟩
theorem killR_in {lo hi : Nat} {id : Nat} {r : Option Row} (h : inR lo hi id = true) : killR lo hi id r = none := by
  unfold inR at h
  unfold killR
  rw [h]; rfl
theorem killR_none {lo hi : Nat} {id : Nat} : killR lo hi id none = none := by
  unfold killR
  cases (Nat.ble lo id && Nat.blt id hi) <;> rfl

theorem kill_hk {lo hi : Nat} : ∀ id l r, inR lo hi id = false → ρ id = some l → row id = some r → killL lo hi ρ id = some l ∧ ∃ r', killR lo hi id (row id) = some r' ∧ Same r r' := fun id l r h h1 h2 => by
  obtain ⟨r', h3, h4, _⟩ := killR_same (r := r) h
  exact ⟨by simp [killL, h, h1], r', by rw [h2]; exact h3, h4⟩

theorem not_inR {lo hi : Nat} {n : Nat} {a : AV} (h : hasIdN lo hi n a = false) : ∀ id, Occ a id → inR lo hi id = false := fun id ho => by
  cases hb : inR lo hi id with
  | false => rfl
  | true =>
    simp only [inR, Bool.and_eq_true] at hb
    exact absurd ⟨Nat.le_of_ble_eq_true hb.1, Nat.le_of_ble_eq_true hb.2⟩ (hasIdN_false h ho)

theorem killFN_ok {lo hi : Nat} : ∀ {n : Nat} {τ : Ty} {a : AV} {cs : List Value}, Fit τ a → AR S w ρ row pv a cs →
    Fit τ (killFN lo hi n τ a) ∧ AR S w (killL lo hi ρ) (fun id => killR lo hi id (row id)) pv (killFN lo hi n τ a) cs
  | 0, τ, a, cs, hf, h => ⟨.hole τ, .hole τ cs (AR.len hf h) (AR.ones hf h)⟩
  | n + 1, τ, a, cs, hf, h => by
    have other : Fit τ (cond (hasId lo hi a) (.hole τ) a) ∧ AR S w (killL lo hi ρ) (fun id => killR lo hi id (row id)) pv (cond (hasId lo hi a) (.hole τ) a) cs := by
      cases hb : hasId lo hi a with
      | true => exact ⟨.hole τ, .hole τ cs (AR.len hf h) (AR.ones hf h)⟩
      | false => exact ⟨hf, h.ext (fun _ h => h) (fun _ _ => rfl) kill_hk (not_inR hb)⟩
    cases hf with
    | agg _ fs hg hl hh =>
      have h1 : killFN lo hi (n + 1) τ (.agg τ fs) = .agg τ (zipL (killFN lo hi n) (fty τ) fs) := rfl
      rw [h1]
      obtain ⟨css, rfl, hl2, hc⟩ := h.agg_parts
      obtain ⟨h2, h3⟩ := zipL_get (f := killFN lo hi n) hl
      constructor
      · refine .agg τ _ hg (by omega) fun i σ b hσ hb => ?_
        obtain ⟨σ', c, h4, h5, rfl⟩ := h3 i b hb
        rw [hσ] at h4
        simp only [Option.some.injEq] at h4
        subst h4
        have hi : i < css.length := by have := (List.getElem?_eq_some_iff.1 h5).1; omega
        exact (killFN_ok (hh i σ c hσ h5) (hc i c _ h5 (List.getElem?_eq_getElem hi))).1
      · refine .agg τ _ css (by omega) fun i b c hb hcc => ?_
        obtain ⟨σ', d, h4, h5, rfl⟩ := h3 i b hb
        exact (killFN_ok (hh i σ' d h4 h5) (hc i d c h5 hcc)).2
    | t _ x => exact other
    | nil e => exact other
    | own e id => exact other
    | ep _ id i p h0 h1 => exact other
    | tp _ a h0 h1 => exact other
    | clo _ f l h0 h1 => exact other
    | par _ i h0 h1 => exact other
    | hole _ => exact other

theorem inR_one {i j : Nat} (h : i ≠ j) : inR i (i + 1) j = false := by
  unfold inR
  rw [Bool.and_eq_false_iff]
  by_cases c : i ≤ j
  · refine .inr ?_
    cases hb : Nat.blt j (i + 1) with
    | false => rfl
    | true => have := Nat.le_of_ble_eq_true hb; omega
  · refine .inl ?_
    cases hb : Nat.ble i j with
    | false => rfl
    | true => exact absurd (Nat.le_of_ble_eq_true hb) c
theorem killL_out {lo hi j : Nat} {ρ : Nat → Option Loc} (h : inR lo hi j = false) : killL lo hi ρ j = ρ j := by unfold killL; rw [h]; rfl
theorem HS.kill (h : HS S w ρ row pv B) (lo hi : Nat) (hm : inR lo hi mbase = false) : HS S w (killL lo hi ρ) (fun id => killR lo hi id (row id)) pv B := by
  have out : ∀ id l, killL lo hi ρ id = some l → inR lo hi id = false ∧ ρ id = some l := fun id l h1 => by
    unfold killL at h1
    cases hb : inR lo hi id with
    | true => rw [hb] at h1; cases h1
    | false => rw [hb] at h1; exact ⟨rfl, h1⟩
  have up : ∀ id r, inR lo hi id = false → killR lo hi id (row id) = some r → ∃ r0, row id = some r0 ∧ Same r0 r ∧ frz r = frz r0 := fun id r hb h1 => by
    cases h2 : row id with
    | none => rw [h2, killR_none] at h1; cases h1
    | some r0 =>
      obtain ⟨r', h3, h4, h5⟩ := killR_same (r := r0) hb
      rw [h2, h3] at h1
      simp only [Option.some.injEq] at h1
      subst h1
      exact ⟨r0, rfl, h4, h5⟩
  refine ⟨h.stab, fun id r l h1 h2 => ?_, fun id id' g c c' h1 h2 h3 h4 => ?_, fun id r g c h1 h2 => ?_, fun l hl => (killL_out hm).trans (h.pin l hl)⟩
  · obtain ⟨hb, hl⟩ := out id l h2
    cases h3 : row id with
    | none => rw [h3, killR_none] at h1; cases h1
    | some r0 =>
      have ok := h.rows id r0 l h3 hl
      rw [h3] at h1
      unfold killR at h1
      unfold inR at hb
      rw [hb] at h1
      cases r0 with
      | flat e τ xs fz app =>
        simp only [cond_false, Option.some.injEq] at h1
        subst h1
        exact ok.ext (fun _ h => h) (fun _ _ => rfl) kill_hk (fun _ _ _ => rfl) (fun _ _ e => by cases e)
      | box τ a =>
        simp only [cond_false, Option.some.injEq] at h1
        subst h1
        cases l with
        | nilrow => exact ok
        | «at» g c =>
          obtain ⟨cur, T, h4, h5, h6⟩ := ok
          obtain ⟨h7, h8⟩ := killFN_ok (lo := lo) (hi := hi) (n := 6) h5 h6
          exact ⟨cur, T, h4, h7, h8⟩
  · obtain ⟨hb, hl⟩ := out id _ h1
    obtain ⟨hb', hl'⟩ := out id' _ h2
    refine h.inj id id' g c c' hl hl' (fun h5 => h3 (by simp only [h5, killR_none])) (fun h5 => h4 (by simp only [h5, killR_none]))
  · obtain ⟨hb, hl⟩ := out id _ h1
    obtain ⟨r0, h3, _, h4⟩ := up id r hb h2
    rw [h4]
    exact h.apart id r0 g c hl h3

theorem VR.kill {a : AV} {v : Value} (h : VR S w ρ row pv a v) (lo hi : Nat) : VR S w (killL lo hi ρ) (fun id => killR lo hi id (row id)) pv (killA lo hi a) v := by
  unfold killA
  cases hb : hasId lo hi a with
  | true => exact .inl rfl
  | false => exact h.ext (fun _ h => h) (fun _ _ => rfl) kill_hk (not_inR hb)
end

/-! ### A frame -/
structure Sim (w0 : World) (B : Old) (pv : Nat → Value) (S : Nat → Prop) (ρ : Nat → Option Loc) (st : St) (a : Act) (w : World) : Prop where
  size : a.tmps.size = st.nt
  defers : a.defers = []
  slots : ∀ t, VR S w ρ st.row pv (st.slot t) (a.tmps.getD t undef)
  hs : HS S w ρ st.row pv B
  below : Blw B w0 w
  hB : ∀ k, B k → k < w.heap.size

section
variable {w0 : World} {B : Old} {pv : Nat → Value} {S : Nat → Prop} {ρ : Nat → Option Loc} {st : St} {a : Act} {w : World}
theorem getD_put {a : Act} {d : Nat} {v : Value} (hd : d < a.tmps.size) (t : Nat) : (a.put (some d) v).tmps.getD t undef = if t = d then v else a.tmps.getD t undef := by
  simp only [Act.put]
  by_cases h : t = d
  · subst h; simp [hd]
  · rw [if_neg h]
    simp [Array.getElem?_setIfInBounds_ne (Ne.symm h)]
theorem Sim.put (h : Sim w0 B pv S ρ st a w) {d : Option Nat} (hd : ∀ n, d = some n → n < st.nt) {b : AV} {v : Value} (hv : VR S w ρ st.row pv b v) : Sim w0 B pv S ρ (st.putO d b) (a.put d v) w := by
  cases d with
  | none => exact h
  | some d =>
    have hd := hd d rfl
    refine ⟨by simp [Act.put, h.size, St.putO, St.put], h.defers, fun t => ?_, h.hs, h.below, h.hB⟩
    rw [getD_put (by rw [h.size]; exact hd)]
    simp only [St.putO, St.put]
    by_cases e : t = d
    · subst e
      simp only [Nat.beq_refl, cond_true, if_true]
      exact hv
    · rw [if_neg e]
      have : Nat.beq t d = false := by
        cases hb : Nat.beq t d with
        | false => rfl
        | true => exact absurd (Nat.eq_of_beq_eq_true hb) e
      simp only [this, cond_false]
      exact h.slots t
theorem Sim.kill (h : Sim w0 B pv S ρ st a w) (lo hi : Nat) (hm : inR lo hi mbase = false) : Sim w0 B pv S (killL lo hi ρ) (st.kill lo hi) a w :=
  ⟨h.size, h.defers, fun t => (h.slots t).kill lo hi, h.hs.kill lo hi hm, h.below, h.hB⟩
theorem Sim.drew (h : Sim w0 B pv S ρ st a w) : Sim w0 B pv S ρ st a w.drew := by
  have hkk : ∀ id l r, True → ρ id = some l → st.row id = some r → ρ id = some l ∧ ∃ r', st.row id = some r' ∧ Same r r' := fun id l r _ h1 h2 => ⟨h1, r, h2, .refl r⟩
  exact ⟨h.size, h.defers, fun t => VR.ext (w := w) (w' := w.drew) (fun _ h => h) (fun _ _ => rfl) hkk (h.slots t) (fun _ _ => trivial), h.hs.world rfl, h.below.drew, h.hB⟩
end
end Go.Gx
