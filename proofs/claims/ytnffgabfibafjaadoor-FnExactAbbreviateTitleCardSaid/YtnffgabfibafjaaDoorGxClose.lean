/- Values handed to a callee: plain data. -/
import Derived.Test.YtnffgabfibafjaaDoorGxLive
namespace Go.Gx
open Go.RowKit

theorem mapO_get {f : AV → Option AV} : ∀ {fs gs : List AV}, mapO f fs = some gs → gs.length = fs.length ∧ ∀ (i : Nat) (b : AV), gs[i]? = some b → ∃ a, fs[i]? = some a ∧ f a = some b
  | [], gs, h => by
    simp only [mapO, Option.some.injEq] at h
    subst h
    exact ⟨rfl, fun i b h => by simp at h⟩
  | a :: l, gs, h => by
    simp only [mapO] at h
    split at h
    · rename_i b hb
      split at h
      · rename_i m hm
        simp only [Option.some.injEq] at h
        subst h
        obtain ⟨h1, h2⟩ := mapO_get hm
        refine ⟨by simp [h1], fun i c hc => ?_⟩
        cases i with
        | zero =>
          simp only [List.getElem?_cons_zero, Option.some.injEq] at hc
          subst hc
          exact ⟨a, rfl, hb⟩
        | succ i => simpa using h2 i c (by simpa using hc)
      · cases h
    · cases h
theorem implode_ag {τ : Ty} {fs : List AV} {a : AV} (h : implode τ fs = some a) : isAg a = true := by
  unfold implode at h
  repeat' split at h
  all_goals first
    | (cases h; done)
    | (cases h; rfl)
theorem closeR_ag {row : Nat → Option Row} {n : Nat} {a b : AV} (h : closeR row n a = some b) : isAg b = isAg a := by
  cases n with
  | zero => cases h
  | succ n =>
    cases a with
    | agg τ fs =>
      simp only [closeR] at h
      split at h
      · rw [implode_ag h]; rfl
      · cases h
    | ep id i p =>
      cases i <;> simp only [closeR] at h <;> (repeat' split at h) <;> first
        | (cases h; done)
        | (cases h; rfl)
    | _ =>
      simp only [closeR] at h
      (repeat' split at h) <;> first
        | (cases h; done)
        | (cases h; rfl)
theorem valsOf_close {row : Nat → Option Row} {n : Nat} : ∀ {fs gs : List AV}, mapO (closeR row n) fs = some gs → ∀ css, valsOf gs css = valsOf fs css
  | [], gs, h, css => by
    simp only [mapO, Option.some.injEq] at h
    subst h; rfl
  | a :: l, gs, h, css => by
    simp only [mapO] at h
    split at h
    · rename_i b hb
      split at h
      · rename_i m hm
        simp only [Option.some.injEq] at h
        subst h
        cases css with
        | nil => rfl
        | cons c css => simp only [valsOf, valOf, closeR_ag hb, valsOf_close hm css]
      · cases h
    · cases h
theorem mem_go {f : AV → List Nat} {id : Nat} : ∀ {l : List AV} {i : Nat} {a : AV}, l[i]? = some a → id ∈ f a → id ∈ idsN.go f l
  | [], i, a, h, _ => by simp at h
  | b :: l, 0, a, h, hm => by
    simp only [List.getElem?_cons_zero, Option.some.injEq] at h
    subst h
    exact List.mem_append_left _ hm
  | b :: l, i + 1, a, h, hm => List.mem_append_right _ (mem_go (i := i) (by simpa using h) hm)

section
variable {S S1 : Nat → Prop} {w : World} {ρ ρ0 : Nat → Option Loc} {row row0 : Nat → Option Row} {pv : Nat → Value} {B : Old}
/-- What the rows of a value read as stays as it is. -/
def Cov (S1 : Nat → Prop) (w : World) (ρ : Nat → Option Loc) (row : Nat → Option Row) (n : Nat) (a : AV) : Prop :=
  (∀ b, b < w.heap.size → S1 b) ∨ (epsN n a = false ∧ ∀ id, id ∈ idsN n a → ∀ r g c, row id = some r → frz (freezeR r) = true → ρ id = some (.at g c) → S1 g)

theorem row_cr (h : HS S w ρ row pv B) (hsub : ∀ b, S b → S1 b) {id e : Nat} {τ : Ty} {xs : List (den τ)} {fz app : Bool} {g c : Nat} (hr : row id = some (.flat e τ xs fz app)) (hl : ρ id = some (.at g c)) (hg : S1 g) :
    CR S1 w (.sl τ) xs [.slice (some ⟨g, 0, none⟩) xs.length c] := by
  obtain ⟨cur, f, h1, h2, h3, h4, h5, h6, h7, h8⟩ := h.rows id _ _ hr hl
  have hw : ∀ b, S b → w.heap[b]? = w.heap[b]? := fun _ _ => rfl
  have : ∀ i, ∃ cs, ∀ (hi : i < xs.length), CR S w τ xs[i] cs ∧ ∀ j v, cs[j]? = some v → cur[i * nc τ + j]? = some v := fun i => by
    by_cases hi : i < xs.length
    · obtain ⟨cs, hc⟩ := h8 i hi
      exact ⟨cs, fun _ => hc⟩
    · exact ⟨[], fun h => absurd h hi⟩
  let cv := fun i => Classical.choose (this i)
  have hcv := fun i => Classical.choose_spec (this i)
  refine .sl τ xs _ c cv h3 h4 (fun i hi => ((hcv i hi).1.mono hsub hw)) fun i hi => ⟨g, 0, rfl, hg, fun j v hv => ?_⟩
  have := (hcv i hi).2 j v hv
  simp only [World.cell?, h1, Nat.zero_add]
  simpa using this

theorem closeR_ok (h : HS S w ρ row pv B) (hsub : ∀ b, S b → S1 b) : ∀ {n : Nat} {a b : AV} {cs : List Value}, closeR row n a = some b → AR S w ρ row pv a cs → Cov S1 w ρ row n a → AR S1 w ρ0 row0 pv b cs
  | 0, a, b, cs, hc, _, _ => by simp [closeR] at hc
  | n + 1, a, b, cs, hc, ha, hcov => by
    have hw : ∀ b, S b → w.heap[b]? = w.heap[b]? := fun _ _ => rfl
    have kids : ∀ (fs : List AV), (∀ x, x ∈ fs → Cov S1 w ρ row n x) → ∀ (gs : List AV), mapO (closeR row n) fs = some gs → ∀ (css : List (List Value)), fs.length = css.length → (∀ (i : Nat) (a : AV) (cs : List Value), fs[i]? = some a → css[i]? = some cs → AR S w ρ row pv a cs) →
        gs.length = css.length ∧ ∀ (i : Nat) (a : AV) (cs : List Value), gs[i]? = some a → css[i]? = some cs → AR S1 w ρ0 row0 pv a cs := fun fs hcv gs hm css hl hh => by
      obtain ⟨h1, h2⟩ := mapO_get hm
      refine ⟨h1.trans hl, fun i b cs hb hcs => ?_⟩
      obtain ⟨a, h3, h4⟩ := h2 i b hb
      exact closeR_ok h hsub h4 (hh i a cs h3 hcs) (hcv a (List.mem_of_getElem? h3))
    have eps : ∀ {id i p}, a = .ep id i p → ∀ b, b < w.heap.size → S1 b := fun {id i p} e => by
      rcases hcov with h1 | ⟨h1, _⟩
      · exact h1
      · subst e; simp [epsN] at h1
    cases ha with
    | t τ x _ hx =>
      simp only [closeR, Option.some.injEq] at hc
      subst hc
      exact .t τ x _ (hx.mono hsub hw)
    | nil =>
      simp only [closeR, Option.some.injEq] at hc
      subst hc
      exact .nil
    | own id e τ xs fz app g cap hr hl =>
      simp only [closeR, hr, Option.some.injEq] at hc
      subst hc
      refine .t _ _ _ (row_cr h hsub hr hl ?_)
      rcases hcov with h1 | ⟨_, h1⟩
      · exact h1 g (h.rows id _ _ hr hl).lt
      · exact h1 id (by simp [idsN]) _ g cap hr rfl hl
    | ownNil id e τ fz app hr hl =>
      simp only [closeR, hr, Option.some.injEq] at hc
      subst hc
      exact .t _ _ _ (cr_nil S1 w τ)
    | epB id τ σ b0 g cap p hr hl hp =>
      have hall := eps rfl
      simp only [closeR, hr, hp] at hc
      split at hc
      · rename_i c τ' hg hτ'
        simp only [Option.some.injEq] at hτ'
        subst hτ'
        split at hc
        · rename_i d hd
          split at hc
          · rename_i x hx
            simp only [Option.some.injEq] at hc
            subst hc
            obtain ⟨cur, T, h1, h2, h3⟩ := h.rows id _ _ hr hl
            obtain ⟨σ', h4, h5, h6, h7⟩ := getP_ok h2 h3 hg
            rw [hp] at h4
            simp only [Option.some.injEq] at h4
            subst h4
            have := closeR_ok h hsub hd h6 (.inl hall)
            refine .tp _ x _ g _ (asT_ar hx this) (hall g (h.rows id _ _ hr hl).lt) fun j v hj => ?_
            simp only [World.cell?, h1]
            obtain ⟨hj1, hj2⟩ := List.getElem?_eq_some_iff.1 hj
            simp only [List.getElem_take, List.getElem_drop, Array.getElem_toList] at hj2
            simp only [List.length_take, List.length_drop, Array.length_toList] at hj1
            simp [← hj2]
          · cases hc
        · cases hc
      · cases hc
    | epF id e τ σ xs fz app g cap i p hr hl hi hp =>
      have hall := eps rfl
      simp only [closeR, hr] at hc
      split at hc
      · rename_i σ' x hg
        simp only [Option.some.injEq] at hc
        subst hc
        obtain ⟨cur, f, h1, h2, h3, h4, h5, h6, h7, h8⟩ := h.rows id _ _ hr hl
        obtain ⟨c, hc1, hc2⟩ := h8 i hi
        have e1 : xs.getD i (dflt τ) = xs[i] := by simp [List.getD, hi]
        rw [e1] at hg
        obtain ⟨σ2, h9, h10, h11, h12⟩ := getP_ok (ρ := ρ) (row := row) (pv := pv) (.t τ _) (.t τ _ c hc1) hg
        cases h10
        cases h11 with
        | t _ _ _ h11 =>
          refine .tp σ' x _ g _ (h11.mono hsub hw) (hall g (h.rows id _ _ hr hl).lt) fun j v hj => ?_
          simp only [World.cell?, h1]
          have : c[offP τ p + j]? = some v := by
            obtain ⟨hj1, hj2⟩ := List.getElem?_eq_some_iff.1 hj
            simp only [List.getElem_take, List.getElem_drop] at hj2
            simp only [List.length_take, List.length_drop] at hj1
            rw [List.getElem?_eq_getElem (by omega), hj2]
          have := hc2 _ v this
          simpa [Nat.add_assoc] using this
      · cases hc
    | tl id e τ xs fz app l i hr hl hi hm =>
      simp only [closeR, hr, flat_getP hm] at hc
      cases hc
    | tp τ x cs g o hx hS hcell =>
      simp only [closeR, Option.some.injEq] at hc
      subst hc
      exact .tp τ x cs g o (hx.mono hsub hw) (hsub g hS) hcell
    | agg τ fs css hl hh =>
      simp only [closeR] at hc
      split at hc
      · rename_i gs hgs
        have hcv : ∀ x, x ∈ fs → Cov S1 w ρ row n x := fun x hx => by
          rcases hcov with h1 | ⟨h0, h1⟩
          · exact .inl h1
          · obtain ⟨i, hi⟩ := List.getElem?_of_mem hx
            exact .inr ⟨anyL_false (f := epsN n) h0 hi, fun id hm => h1 id (mem_go (f := idsN n) hi hm)⟩
        obtain ⟨h1, h2⟩ := kids fs hcv gs hgs css hl hh
        · obtain ⟨x, rfl, hx⟩ := implode_ok (ρ := ρ0) (row := row0) (pv := pv) hc ⟨css, rfl, h1, h2⟩
          exact .t τ x _ hx
      · cases hc
    | hole τ _ hl h1 => simp [closeR] at hc
    | tup vs css hl hh => simp [closeR] at hc
    | clo f caps css hl hh =>
      simp only [closeR] at hc
      split at hc
      · rename_i gs hgs
        simp only [Option.some.injEq] at hc
        subst hc
        have hcv : ∀ x, x ∈ caps → Cov S1 w ρ row n x := fun x hx => by
          rcases hcov with h1 | ⟨h0, h1⟩
          · exact .inl h1
          · obtain ⟨i, hi⟩ := List.getElem?_of_mem hx
            exact .inr ⟨anyL_false (f := epsN n) h0 hi, fun id hm => h1 id (mem_go (f := idsN n) hi hm)⟩
        obtain ⟨h1, h2⟩ := kids caps hcv gs hgs css hl hh
        rw [← valsOf_close hgs css]
        exact .clo f gs css h1 h2
      · cases hc
    | par i h1 =>
      simp only [closeR, Option.some.injEq] at hc
      subst hc
      exact .par i h1
end
end Go.Gx
