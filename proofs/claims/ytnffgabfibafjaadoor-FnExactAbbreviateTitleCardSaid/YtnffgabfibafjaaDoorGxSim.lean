/- Memory as the interpreter has it: rows, and how they live on. -/
import Derived.Test.YtnffgabfibafjaaDoorGxPaths
namespace Go.Gx
open Go.RowKit

def frz : Row → Bool
  | .flat _ _ _ fz _ => fz
  | .box _ _ => false

section
variable (S : Nat → Prop) (w : World) (ρ : Nat → Option Loc) (row : Nat → Option Row) (pv : Nat → Value)
/-- A row lies there. -/
def RowOk : Row → Loc → Prop
  | .flat e τ xs _ app, .at g cap => ∃ cur f, w.heap[g]? = some (.cells cur e f) ∧ cur.size = cap * nc τ ∧ xs.length ≤ cap ∧ cap ≤ maxLen ∧ (app = true → f = (0, 0)) ∧ (f.2 ≤ f.1 ∨ cur.size ≤ f.1) ∧ 0 < nc τ ∧
      ∀ i (h : i < xs.length), ∃ cs, CR S w τ xs[i] cs ∧ ∀ j v, cs[j]? = some v → cur[i * nc τ + j]? = some v
  | .flat _ τ xs _ app, .nilrow => xs = [] ∧ app = true ∧ 0 < nc τ
  | .box τ a, .at g _ => ∃ cur T, w.heap[g]? = some (.cells cur T (0, 0)) ∧ Fit τ a ∧ AR S w ρ row pv a cur.toList
  | .box _ _, .nilrow => False
structure HS (B : Old) : Prop where
  stab : ∀ b, S b → b < w.heap.size
  rows : ∀ id r l, row id = some r → ρ id = some l → RowOk S w ρ row pv r l
  inj : ∀ id id' g c c', ρ id = some (.at g c) → ρ id' = some (.at g c') → row id ≠ none → row id' ≠ none → id = id'
  apart : ∀ id r g c, ρ id = some (.at g c) → row id = some r → ¬ B g ∧ (frz r = false → ¬ S g) ∧ (frz r = true → S g)
  pin : ∀ l, B.pin = some l → ρ mbase = some l
end

section
variable {S S' : Nat → Prop} {w w' : World} {ρ ρ' : Nat → Option Loc} {row row' : Nat → Option Row} {pv : Nat → Value} {B : Old}

theorem RowOk.lt {r : Row} {g c : Nat} (h : RowOk S w ρ row pv r (.at g c)) : g < w.heap.size := by
  cases r with
  | flat e τ xs fz app => obtain ⟨cur, f, h, _⟩ := h; exact (Array.getElem?_eq_some_iff.1 h).1
  | box τ a => obtain ⟨cur, T, h, _⟩ := h; exact (Array.getElem?_eq_some_iff.1 h).1

/-- A row lives on where its block is as it was. -/
theorem RowOk.ext {P : Nat → Prop} (hS : ∀ b, S b → S' b) (hw : ∀ b, S b → w'.heap[b]? = w.heap[b]?)
    (hk : ∀ id l r, P id → ρ id = some l → row id = some r → ρ' id = some l ∧ ∃ r', row' id = some r' ∧ Same r r') {r : Row} {l : Loc} (h : RowOk S w ρ row pv r l)
    (hb : ∀ g c, l = .at g c → w'.heap[g]? = w.heap[g]?) (hP : ∀ τ a, r = .box τ a → ∀ id, Occ a id → P id) : RowOk S' w' ρ' row' pv r l := by
  cases r with
  | flat e τ xs fz app =>
    cases l with
    | nilrow => exact h
    | «at» g c =>
      obtain ⟨cur, f, h1, h2, h3, h4, h5, h6, h7, h8⟩ := h
      refine ⟨cur, f, (hb g c rfl).trans h1, h2, h3, h4, h5, h6, h7, fun i hi => ?_⟩
      obtain ⟨cs, hc, hv⟩ := h8 i hi
      exact ⟨cs, hc.mono hS hw, hv⟩
  | box τ a =>
    cases l with
    | nilrow => exact h
    | «at» g c =>
      obtain ⟨cur, T, h1, h2, h3⟩ := h
      exact ⟨cur, T, (hb g c rfl).trans h1, h2, h3.ext hS hw hk (hP τ a rfl)⟩

/-- The world grows; rows come to be in new blocks. -/
theorem HS.grow (h : HS S w ρ row pv B) (hB : ∀ k, B k → k < w.heap.size) (hsz : w.heap.size ≤ w'.heap.size) (hold : ∀ b, b < w.heap.size → w'.heap[b]? = w.heap[b]?) (hS : ∀ b, S b → S' b) (hS' : ∀ b, S' b → S b ∨ (w.heap.size ≤ b ∧ b < w'.heap.size))
    (hk : ∀ id l, ρ id = some l → ρ' id = some l ∧ row' id = row id)
    (hn : ∀ id r l, ρ id = none → ρ' id = some l → row' id = some r → RowOk S' w' ρ' row' pv r l ∧ frz r = false ∧ ∀ g c, l = .at g c → w.heap.size ≤ g ∧ ¬ S' g)
    (hi : ∀ id id' g c c', ρ id = none → ρ id' = none → ρ' id = some (.at g c) → ρ' id' = some (.at g c') → row' id ≠ none → row' id' ≠ none → id = id') : HS S' w' ρ' row' pv B := by
  have hw : ∀ b, S b → w'.heap[b]? = w.heap[b]? := fun b hb => hold b (h.stab b hb)
  have hkk : ∀ id l r, True → ρ id = some l → row id = some r → ρ' id = some l ∧ ∃ r', row' id = some r' ∧ Same r r' := fun id l r _ h1 h2 => by
    obtain ⟨h3, h4⟩ := hk id l h1
    exact ⟨h3, r, h4.trans h2, .refl r⟩
  have back : ∀ id l, ρ id = some l → ∀ l', ρ' id = some l' → l' = l := fun id l h1 l' h2 => by rw [(hk id l h1).1] at h2; exact (Option.some.inj h2).symm
  have oldlt : ∀ id r g c, ρ id = some (.at g c) → row id = some r → g < w.heap.size := fun id r g c h1 h2 => (h.rows id r _ h2 h1).lt
  refine ⟨fun b hb => ?_, fun id r l h1 h2 => ?_, fun id id' g c c' h1 h2 h3 h4 => ?_, fun id r g c h1 h2 => ?_, fun l hl => (hk mbase l (h.pin l hl)).1⟩
  · rcases hS' b hb with h1 | h1
    · exact Nat.lt_of_lt_of_le (h.stab b h1) hsz
    · exact h1.2
  · cases hr : ρ id with
    | none => exact (hn id r l hr h2 h1).1
    | some l0 =>
      have := back id l0 hr l h2
      subst this
      have h1' : row id = some r := (hk id l hr).2 ▸ h1
      refine (h.rows id r l h1' hr).ext hS hw hkk (fun g c e => ?_) (fun _ _ _ _ _ => trivial)
      subst e
      exact hold g (oldlt id r g c hr h1')
  · cases hr : ρ id with
    | none =>
      cases hr' : ρ id' with
      | none => exact hi id id' g c c' hr hr' h1 h2 h3 h4
      | some l0 =>
        exfalso
        have := back id' l0 hr' _ h2
        subst this
        cases hrow : row' id with
        | none => exact h3 hrow
        | some r =>
          have h5 := ((hn id r _ hr h1 hrow).2.2 g c rfl).1
          cases hrow' : row' id' with
          | none => exact h4 hrow'
          | some r' => have := oldlt id' r' g c' hr' ((hk id' _ hr').2 ▸ hrow'); omega
    | some l0 =>
      have := back id l0 hr _ h1
      subst this
      cases hr' : ρ id' with
      | none =>
        exfalso
        cases hrow : row' id' with
        | none => exact h4 hrow
        | some r =>
          have h5 := ((hn id' r _ hr' h2 hrow).2.2 g c' rfl).1
          cases hrow' : row' id with
          | none => exact h3 hrow'
          | some r' => have := oldlt id r' g c hr ((hk id _ hr).2 ▸ hrow'); omega
      | some l1 =>
        have := back id' l1 hr' _ h2
        subst this
        exact h.inj id id' g c c' hr hr' ((hk id _ hr).2 ▸ h3) ((hk id' _ hr').2 ▸ h4)
  · cases hr : ρ id with
    | none =>
      obtain ⟨_, h4, h5⟩ := hn id r _ hr h1 h2
      obtain ⟨h6, h7⟩ := h5 g c rfl
      exact ⟨fun hb => absurd (hB g hb) (by omega), fun _ => h7, fun h8 => by rw [h4] at h8; cases h8⟩
    | some l0 =>
      have := back id l0 hr _ h1
      subst this
      have h2' : row id = some r := (hk id _ hr).2 ▸ h2
      obtain ⟨h3, h4, h5⟩ := h.apart id r g c hr h2'
      refine ⟨h3, fun h6 h7 => ?_, fun h6 => hS g (h5 h6)⟩
      rcases hS' g h7 with h8 | h8
      · exact h4 h6 h8
      · have := oldlt id r g c hr h2'
        omega

/-- One row that may change is written in its place. -/
theorem HS.put (h : HS S w ρ row pv B) {id : Nat} {r r' : Row} {l : Loc} (hr : row id = some r) (hl : ρ id = some l) (hs : Same r r') (hz : frz r' = frz r) (hf : frz r = false) (hsz : w'.heap.size = w.heap.size)
    (hold : ∀ b, (∀ g c, l = .at g c → b ≠ g) → w'.heap[b]? = w.heap[b]?) (hrow : ∀ j, row' j = if j = id then some r' else row j)
    (hok : RowOk S w' ρ row' pv r' l) : HS S w' ρ row' pv B := by
  have hSg : ∀ g c, l = .at g c → ¬ S g := fun g c e => (h.apart id r g c (e ▸ hl) hr).2.1 hf
  have hw : ∀ b, S b → w'.heap[b]? = w.heap[b]? := fun b hb => hold b fun g c e e2 => hSg g c e (e2 ▸ hb)
  have hkk : ∀ j l0 r0, True → ρ j = some l0 → row j = some r0 → ρ j = some l0 ∧ ∃ r1, row' j = some r1 ∧ Same r0 r1 := fun j l0 r0 _ h1 h2 => by
    refine ⟨h1, ?_⟩
    rw [hrow]
    by_cases e : j = id
    · subst e
      rw [hr] at h2
      simp only [Option.some.injEq] at h2
      exact ⟨r', by simp, h2 ▸ hs⟩
    · exact ⟨r0, by simp [e, h2], .refl _⟩
  refine ⟨fun b hb => by rw [hsz]; exact h.stab b hb, fun j r0 l0 h1 h2 => ?_, fun j j' g c c' h1 h2 h3 h4 => ?_, fun j r0 g c h1 h2 => ?_, h.pin⟩
  · by_cases e : j = id
    · subst e
      rw [hrow, if_pos rfl] at h1
      simp only [Option.some.injEq] at h1
      rw [hl] at h2
      simp only [Option.some.injEq] at h2
      exact h1 ▸ h2 ▸ hok
    · have h1' : row j = some r0 := by rw [hrow, if_neg e] at h1; exact h1
      refine (h.rows j r0 l0 h1' h2).ext (fun _ h => h) hw hkk (fun g c e2 => hold g fun g' c' e3 e4 => e ?_) (fun _ _ _ _ _ => trivial)
      subst e2; subst e3; subst e4
      exact h.inj j id g c c' h2 hl (by simp [h1']) (by simp [hr])
  · have aux : ∀ j, row' j ≠ none → row j ≠ none := fun j hj hn => hj (by
      rw [hrow]
      by_cases e : j = id
      · subst e; rw [hr] at hn; cases hn
      · simp [e, hn])
    exact h.inj j j' g c c' h1 h2 (aux j h3) (aux j' h4)
  · by_cases e : j = id
    · subst e
      rw [hrow, if_pos rfl] at h2
      simp only [Option.some.injEq] at h2
      obtain ⟨h3, h4, h5⟩ := h.apart j r g c h1 hr
      exact ⟨h3, fun h6 => h4 (by rw [← hz, h2]; exact h6), fun h6 => h5 (by rw [← hz, h2]; exact h6)⟩
    · exact h.apart j r0 g c h1 (by rw [hrow, if_neg e] at h2; exact h2)

/-- The world draws; nothing else. -/
theorem HS.world (h : HS S w ρ row pv B) (hh : w'.heap = w.heap) : HS S w' ρ row pv B := by
  have hkk : ∀ id l r, True → ρ id = some l → row id = some r → ρ id = some l ∧ ∃ r', row id = some r' ∧ Same r r' := fun id l r _ h1 h2 => ⟨h1, r, h2, .refl r⟩
  exact ⟨fun b hb => by rw [hh]; exact h.stab b hb, fun id r l h1 h2 => (h.rows id r l h1 h2).ext (fun _ h => h) (fun _ _ => by rw [hh]) hkk (fun _ _ _ => by rw [hh]) (fun _ _ _ _ _ => trivial), h.inj, h.apart, h.pin⟩

/-- Some rows never change any more. -/
theorem HS.freeze (h : HS S w ρ row pv B) {ids : List Nat} (hrow : ∀ j r, row j = some r → row' j = some (if j ∈ ids then freezeR r else r)) (hno : ∀ j, row j = none → row' j = none)
    (hS : ∀ b, S' b ↔ S b ∨ ∃ id ∈ ids, ∃ r c, row id = some r ∧ frz (freezeR r) = true ∧ ρ id = some (.at b c)) : HS S' w ρ row' pv B := by
  have sub : ∀ b, S b → S' b := fun b hb => (hS b).2 (.inl hb)
  have same : ∀ r, Same r (freezeR r) := fun r => by
    cases r with
    | flat e τ xs fz app => exact .flat _ _ _ _ _ _ _ _ _ rfl
    | box τ a => exact .box _ _ _
  have hkk : ∀ id l r, True → ρ id = some l → row id = some r → ρ id = some l ∧ ∃ r', row' id = some r' ∧ Same r r' := fun id l r _ h1 h2 => by
    refine ⟨h1, _, hrow id r h2, ?_⟩
    split
    · exact same r
    · exact .refl r
  have up : ∀ j r, row' j = some r → ∃ r0, row j = some r0 ∧ r = if j ∈ ids then freezeR r0 else r0 := fun j r h1 => by
    cases h2 : row j with
    | none => rw [hno j h2] at h1; cases h1
    | some r0 => rw [hrow j r0 h2] at h1; exact ⟨r0, rfl, (Option.some.inj h1).symm⟩
  refine ⟨fun b hb => ?_, fun id r l h1 h2 => ?_, fun id id' g c c' h1 h2 h3 h4 => ?_, fun id r g c h1 h2 => ?_, h.pin⟩
  · rcases (hS b).1 hb with h1 | ⟨id, _, r, c, h1, _, h2⟩
    · exact h.stab b h1
    · exact (h.rows id r _ h1 h2).lt
  · obtain ⟨r0, h3, rfl⟩ := up id r h1
    have h4 := (h.rows id r0 l h3 h2).ext sub (fun _ _ => rfl) hkk (fun _ _ _ => rfl) (fun _ _ _ _ _ => trivial)
    split
    · cases r0 with
      | flat e τ xs fz app => cases l <;> exact h4
      | box τ a => exact h4
    · exact h4
  · refine h.inj id id' g c c' h1 h2 (fun h5 => h3 (hno _ h5)) (fun h5 => h4 (hno _ h5))
  · obtain ⟨r0, h3, rfl⟩ := up id r h2
    obtain ⟨h4, h5, h6⟩ := h.apart id r0 g c h1 h3
    refine ⟨h4, fun h7 h8 => ?_, fun h7 => ?_⟩
    · have h9 : frz r0 = false := by
        split at h7
        · cases r0 with
          | flat e τ xs fz app => cases h7
          | box τ a => rfl
        · exact h7
      rcases (hS g).1 h8 with h10 | ⟨id', hm, r', c', h10, h11, h12⟩
      · exact h5 h9 h10
      · have := h.inj id id' g c c' h1 h12 (by simp [h3]) (by simp [h10])
        subst this
        rw [h3] at h10
        simp only [Option.some.injEq] at h10
        subst h10
        rw [if_pos hm] at h7
        rw [h7] at h11
        cases h11
    · split at h7
      · rename_i hm
        exact (hS g).2 (.inr ⟨id, hm, r0, c, h3, h7, h1⟩)
      · exact sub g (h6 h7)
end
end Go.Gx
