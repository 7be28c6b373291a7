/- How a frame lives on: new rows, rows written, rows appended to, rows that never change any more. -/
import Derived.Test.YtnffgabfibafjaaDoorGxMem
namespace Go.Gx
open Go.RowKit

def upd (ρ : Nat → Option Loc) (id : Nat) (l : Loc) : Nat → Option Loc := fun j => if j = id then some l else ρ j
theorem beq_eq {a b : Nat} : Nat.beq a b = decide (a = b) := by
  by_cases h : a = b
  · subst h; simp
  · rw [decide_eq_false h]
    cases hb : Nat.beq a b with
    | false => rfl
    | true => exact absurd (Nat.eq_of_beq_eq_true hb) h
theorem setRow_row (st : St) (id : Nat) (r : Row) (j : Nat) : (st.setRow id r).row j = if j = id then some r else st.row j := by
  simp only [St.setRow, beq_eq]
  by_cases h : j = id <;> simp [h]

section
variable {S S' : Nat → Prop} {w w' : World} {ρ ρ' : Nat → Option Loc} {row row' : Nat → Option Row} {pv : Nat → Value} {B : Old}
/-- A row that nobody names any more is written anew, in its block or in a new one. -/
theorem HS.app (h : HS S w ρ row pv B) (hB : ∀ k, B k → k < w.heap.size) {j : Nat} (hj : j ≠ mbase) {r r' : Row} {l l' : Loc} (hr : row j = some r) (hl : ρ j = some l) (hf : frz r = false) (hf' : frz r' = false)
    (hsz : w.heap.size ≤ w'.heap.size) (hold : ∀ b, b < w.heap.size → (∀ g c, l = .at g c → b ≠ g) → w'.heap[b]? = w.heap[b]?)
    (hl' : ∀ g c', l' = .at g c' → (∃ c, l = .at g c) ∨ w.heap.size ≤ g) (hrow : ∀ i, row' i = if i = j then some r' else killR j (j + 1) i (row i))
    (hok : RowOk S w' (upd (killL j (j + 1) ρ) j l') row' pv r' l') : HS S w' (upd (killL j (j + 1) ρ) j l') row' pv B := by
  have hk := h.kill j (j + 1) (inR_one hj)
  have hne : ∀ i l0, killL j (j + 1) ρ i = some l0 → i ≠ j ∧ ρ i = some l0 := fun i l0 h1 => by
    unfold killL at h1
    cases hb : inR j (j + 1) i with
    | true => rw [hb] at h1; cases h1
    | false =>
      rw [hb] at h1
      refine ⟨?_, h1⟩
      rintro rfl
      exact (inR_false (by simpa [inR] using hb)) ⟨Nat.le_refl _, Nat.lt_succ_self _⟩
  have hw : ∀ b, S b → w'.heap[b]? = w.heap[b]? := fun b hb => hold b (h.stab b hb) fun g c e e2 => (h.apart j r g c (e ▸ hl) hr).2.1 hf (e2 ▸ hb)
  have hrn : ∀ i, i ≠ j → killR j (j + 1) i (row i) ≠ none → row i ≠ none := fun i _ h1 h2 => h1 (by rw [h2]; exact killR_none)
  refine ⟨fun b hb => Nat.lt_of_lt_of_le (h.stab b hb) hsz, fun id r0 l0 h1 h2 => ?_, fun id id' g c c' h1 h2 h3 h4 => ?_, fun id r0 g c h1 h2 => ?_, fun l0 hl0 => ?_⟩
  rotate_left 3
  · simp only [upd, if_neg (Ne.symm hj)]
    exact hk.pin l0 hl0
  · by_cases e : id = j
    · subst e
      rw [hrow, if_pos rfl] at h1
      simp only [Option.some.injEq] at h1
      subst h1
      simp only [upd, if_true, Option.some.injEq] at h2
      subst h2
      exact hok
    · rw [hrow, if_neg e] at h1
      simp only [upd, if_neg e] at h2
      refine RowOk.ext (P := fun _ => True) (fun _ h => h) hw ?_ (hk.rows id r0 l0 h1 h2) ?_ (fun _ _ _ _ _ => trivial)
      · intro i l1 r1 _ h3 h4
        have hi := (hne i l1 h3).1
        refine ⟨by simp only [upd, if_neg hi]; exact h3, r1, ?_, .refl r1⟩
        rw [hrow, if_neg hi]; exact h4
      · rintro g c rfl
        have hlt := (hk.rows id r0 _ h1 h2).lt
        refine hold g hlt fun g' c' e' e2 => e ?_
        subst e2
        exact h.inj id j _ c c' (hne id _ h2).2 (e' ▸ hl) (hrn id e (by rw [h1]; simp)) (by rw [hr]; simp)
  · rw [hrow] at h3 h4
    by_cases e : id = j <;> by_cases e' : id' = j
    · exact e.trans e'.symm
    · exfalso
      subst e
      simp only [upd, if_true, Option.some.injEq] at h1
      simp only [upd, if_neg e'] at h2
      rw [if_neg e'] at h4
      rcases hl' g c h1 with ⟨c0, e0⟩ | h5
      · exact e' (h.inj id' id g c' c0 (hne id' _ h2).2 (e0 ▸ hl) (hrn id' e' h4) (by rw [hr]; simp))
      · cases h6 : killR id (id + 1) id' (row id') with
        | none => exact h4 h6
        | some r0 => have := (hk.rows id' r0 _ h6 h2).lt; omega
    · exfalso
      subst e'
      simp only [upd, if_true, Option.some.injEq] at h2
      simp only [upd, if_neg e] at h1
      rw [if_neg e] at h3
      rcases hl' g c' h2 with ⟨c0, e0⟩ | h5
      · exact e (h.inj id id' g c c0 (hne id _ h1).2 (e0 ▸ hl) (hrn id e h3) (by rw [hr]; simp))
      · cases h6 : killR id' (id' + 1) id (row id) with
        | none => exact h3 h6
        | some r0 => have := (hk.rows id r0 _ h6 h1).lt; omega
    · simp only [upd, if_neg e] at h1
      simp only [upd, if_neg e'] at h2
      rw [if_neg e] at h3
      rw [if_neg e'] at h4
      exact h.inj id id' g c c' (hne id _ h1).2 (hne id' _ h2).2 (hrn id e h3) (hrn id' e' h4)
  · by_cases e : id = j
    · subst e
      rw [hrow, if_pos rfl] at h2
      simp only [Option.some.injEq] at h2
      subst h2
      simp only [upd, if_true, Option.some.injEq] at h1
      refine ⟨?_, fun _ hS => ?_, fun h3 => ?_⟩
      · rcases hl' g c h1 with ⟨c0, e0⟩ | h5
        · exact (h.apart id r g c0 (e0 ▸ hl) hr).1
        · exact fun hb => absurd (hB g hb) (by omega)
      · rcases hl' g c h1 with ⟨c0, e0⟩ | h5
        · exact (h.apart id r g c0 (e0 ▸ hl) hr).2.1 hf hS
        · have := h.stab g hS; omega
      · rw [hf'] at h3; cases h3
    · rw [hrow, if_neg e] at h2
      simp only [upd, if_neg e] at h1
      exact hk.apart id r0 g c h1 h2
end

section
variable {w0 : World} {B : Old} {pv : Nat → Value} {S S' : Nat → Prop} {ρ ρ' : Nat → Option Loc} {st : St} {a : Act} {w w' : World} {row' : Nat → Option Row}
theorem Sim.grow (h : Sim w0 B pv S ρ st a w) (hb : Blw B w0 w') (hsz : w.heap.size ≤ w'.heap.size) (hold : ∀ b, b < w.heap.size → w'.heap[b]? = w.heap[b]?) (hS : ∀ b, S b → S' b) (hS' : ∀ b, S' b → S b ∨ (w.heap.size ≤ b ∧ b < w'.heap.size))
    (hk : ∀ id l, ρ id = some l → ρ' id = some l ∧ row' id = st.row id)
    (hn : ∀ id r l, ρ id = none → ρ' id = some l → row' id = some r → RowOk S' w' ρ' row' pv r l ∧ frz r = false ∧ ∀ g c, l = .at g c → w.heap.size ≤ g ∧ ¬ S' g)
    (hi : ∀ id id' g c c', ρ id = none → ρ id' = none → ρ' id = some (.at g c) → ρ' id' = some (.at g c') → row' id ≠ none → row' id' ≠ none → id = id') : Sim w0 B pv S' ρ' ⟨st.slot, row', st.nt⟩ a w' := by
  refine ⟨h.size, h.defers, fun t => ?_, h.hs.grow h.hB hsz hold hS hS' hk hn hi, hb, fun k hk => Nat.lt_of_lt_of_le (h.hB k hk) hsz⟩
  exact VR.ext (P := fun _ => True) hS (fun b hb => hold b (h.hs.stab b hb)) (fun id l r _ h1 h2 => by
    obtain ⟨h3, h4⟩ := hk id l h1
    exact ⟨h3, r, h4.trans h2, .refl r⟩) (h.slots t) (fun _ _ => trivial)
theorem Sim.cong {st' : St} (h : Sim w0 B pv S ρ st a w) (h1 : st'.slot = st.slot) (h2 : st'.row = st.row) (h3 : st'.nt = st.nt) : Sim w0 B pv S ρ st' a w := by
  cases st; cases st'
  simp only at h1 h2 h3
  subst h1; subst h2; subst h3
  exact h
/-- A row comes to be. -/
theorem Sim.make (h : Sim w0 B pv S ρ st a w) (hb : Blw B w0 w') (hsz : w.heap.size ≤ w'.heap.size) (hold : ∀ b, b < w.heap.size → w'.heap[b]? = w.heap[b]?) {id : Nat} (hid : ρ id = none) {r : Row} (hf : frz r = false) {l : Loc}
    (hl : ∀ g c, l = .at g c → w.heap.size ≤ g)
    (hok : ∀ ρ' row', (∀ i l, ρ i = some l → ρ' i = some l ∧ row' i = st.row i) → RowOk S w' ρ' row' pv r l) : Sim w0 B pv S (upd ρ id l) (st.setRow id r) a w' := by
  have hk : ∀ i l0, ρ i = some l0 → upd ρ id l i = some l0 ∧ (st.setRow id r).row i = st.row i := fun i l0 h1 => by
    have : i ≠ id := by rintro rfl; rw [hid] at h1; cases h1
    rw [setRow_row]
    simp [upd, this, h1]
  refine (h.grow (S' := S) (ρ' := upd ρ id l) (row' := (st.setRow id r).row) hb hsz hold (fun _ h => h) (fun _ h => .inl h) hk ?_ ?_).cong rfl rfl rfl
  · intro i r0 l0 h1 h2 h3
    have e : i = id := by
      apply Classical.byContradiction
      intro e
      simp only [upd, if_neg e, h1] at h2
      cases h2
    subst e
    simp only [upd, if_true, Option.some.injEq] at h2
    rw [setRow_row, if_pos rfl] at h3
    simp only [Option.some.injEq] at h3
    subst h2; subst h3
    refine ⟨hok _ _ hk, hf, fun g c e => ⟨hl g c e, fun hS => ?_⟩⟩
    have := h.hs.stab g hS
    have := hl g c e
    omega
  · intro i i' g c c' h1 h2 h3 h4 _ _
    have e : ∀ i, ρ i = none → ∀ l0, upd ρ id l i = some l0 → i = id := fun i h1 l0 h2 => by
      apply Classical.byContradiction
      intro e
      simp only [upd, if_neg e, h1] at h2
      cases h2
    rw [e i h1 _ h3, e i' h2 _ h4]
/-- A row is written. -/
theorem Sim.sto (h : Sim w0 B pv S ρ st a w) (hb : Blw B w0 w') {id : Nat} {r r' : Row} {l : Loc} (hr : st.row id = some r) (hl : ρ id = some l) (hs : Same r r') (hz : frz r' = frz r) (hf : frz r = false) (hsz : w'.heap.size = w.heap.size)
    (hold : ∀ b, (∀ g c, l = .at g c → b ≠ g) → w'.heap[b]? = w.heap[b]?)
    (hok : ∀ row', (∀ i l r, ρ i = some l → st.row i = some r → ∃ r', row' i = some r' ∧ Same r r') → RowOk S w' ρ row' pv r' l) : Sim w0 B pv S ρ (st.setRow id r') a w' := by
  have hrow := setRow_row st id r'
  have hkk : ∀ i l r0, ρ i = some l → st.row i = some r0 → ∃ r1, (st.setRow id r').row i = some r1 ∧ Same r0 r1 := fun i l r0 _ h2 => by
    rw [hrow]
    by_cases e : i = id
    · subst e
      rw [hr] at h2
      simp only [Option.some.injEq] at h2
      subst h2
      exact ⟨r', by rw [if_pos rfl], hs⟩
    · exact ⟨r0, by rw [if_neg e]; exact h2, .refl _⟩
  have hSg : ∀ g c, l = .at g c → ¬ S g := fun g c e => (h.hs.apart id r g c (e ▸ hl) hr).2.1 hf
  have hw : ∀ b, S b → w'.heap[b]? = w.heap[b]? := fun b hb => hold b fun g c e e2 => hSg g c e (e2 ▸ hb)
  refine ⟨h.size, h.defers, fun t => ?_, h.hs.put hr hl hs hz hf hsz hold hrow (hok _ hkk), hb, by rw [hsz]; exact h.hB⟩
  exact VR.ext (P := fun _ => True) (fun _ h => h) hw (fun i l r0 _ h1 h2 => ⟨h1, hkk i l r0 h1 h2⟩) (h.slots t) (fun _ _ => trivial)
/-- The world grows; what is known of it is as it was. -/
theorem Sim.growX (h : Sim w0 B pv S ρ st a w) (hb : Blw B w0 w') (hsz : w.heap.size ≤ w'.heap.size) (hw : ∀ b, S b → w'.heap[b]? = w.heap[b]?) (hr : ∀ id r g c, ρ id = some (.at g c) → st.row id = some r → w'.heap[g]? = w.heap[g]?)
    (hS : ∀ b, S b → S' b) (hS' : ∀ b, S' b → S b ∨ ((∀ id r c, ρ id = some (.at b c) → st.row id ≠ some r) ∧ b < w'.heap.size)) : Sim w0 B pv S' ρ st a w' := by
  have hkk : ∀ i l r0, True → ρ i = some l → st.row i = some r0 → ρ i = some l ∧ ∃ r1, st.row i = some r1 ∧ Same r0 r1 := fun i l r0 _ h1 h2 => ⟨h1, r0, h2, .refl _⟩
  refine ⟨h.size, h.defers, fun t => VR.ext (P := fun _ => True) hS hw hkk (h.slots t) (fun _ _ => trivial), ⟨fun b hb' => ?_, fun j r0 l0 h1 h2 => ?_, h.hs.inj, fun j r0 g c h1 h2 => ?_, h.hs.pin⟩, hb, fun k hk => Nat.lt_of_lt_of_le (h.hB k hk) hsz⟩
  · rcases hS' b hb' with h1 | h1
    · exact Nat.lt_of_lt_of_le (h.hs.stab b h1) hsz
    · exact h1.2
  · exact (h.hs.rows j r0 l0 h1 h2).ext hS hw hkk (fun g c e => by subst e; exact hr j r0 g c h2 h1) (fun _ _ _ _ _ => trivial)
  · obtain ⟨k1, k2, k3⟩ := h.hs.apart j r0 g c h1 h2
    refine ⟨k1, fun h3 h4 => ?_, fun h3 => hS g (k3 h3)⟩
    rcases hS' g h4 with h5 | h5
    · exact k2 h3 h5
    · exact h5.1 j r0 c h1 h2
/-- A row is appended to. -/
theorem Sim.app (h : Sim w0 B pv S ρ st a w) (hb : Blw B w0 w') {j : Nat} (hj : j ≠ mbase) {r r' : Row} {l l' : Loc} (hr : st.row j = some r) (hl : ρ j = some l) (hf : frz r = false) (hf' : frz r' = false)
    (hsz : w.heap.size ≤ w'.heap.size) (hold : ∀ b, b < w.heap.size → (∀ g c, l = .at g c → b ≠ g) → w'.heap[b]? = w.heap[b]?)
    (hl' : ∀ g c', l' = .at g c' → (∃ c, l = .at g c) ∨ w.heap.size ≤ g)
    (hok : ∀ ρ' row', RowOk S w' ρ' row' pv r' l') : Sim w0 B pv S (upd (killL j (j + 1) ρ) j l') ((st.kill j (j + 1)).setRow j r') a w' := by
  have hrow := setRow_row (st.kill j (j + 1)) j r'
  have hw : ∀ b, S b → w'.heap[b]? = w.heap[b]? := fun b hb => hold b (h.hs.stab b hb) fun g c e e2 => (h.hs.apart j r g c (e ▸ hl) hr).2.1 hf (e2 ▸ hb)
  refine ⟨h.size, h.defers, fun t => ?_, h.hs.app h.hB hj hr hl hf hf' hsz hold hl' hrow (hok _ _), hb, fun k hk => Nat.lt_of_lt_of_le (h.hB k hk) hsz⟩
  refine VR.ext (P := fun _ => True) (fun _ h => h) hw (fun i l0 r0 _ h1 h2 => ?_) ((h.slots t).kill j (j + 1)) (fun _ _ => trivial)
  have hi : i ≠ j := by
    rintro rfl
    unfold killL at h1
    have : inR i (i + 1) i = true := by simp [inR, Nat.blt, Nat.ble_eq]
    rw [this] at h1
    cases h1
  refine ⟨by simp only [upd, if_neg hi]; exact h1, r0, ?_, .refl _⟩
  rw [hrow, if_neg hi]
  exact h2

/-! ### Rows that never change any more -/
theorem freeze_row : ∀ (ids : List Nat) (st : St) (j : Nat), (st.freeze ids).row j = (st.row j).map (fun r => if j ∈ ids then freezeR r else r)
  | [], st, j => by simp [St.freeze]
  | id :: ids, st, j => by
    unfold St.freeze
    have ff : ∀ r, freezeR (freezeR r) = freezeR r := fun r => by cases r <;> rfl
    split
    · rename_i r hr
      rw [freeze_row ids, setRow_row]
      by_cases e : j = id
      · subst e
        simp only [if_true, hr, Option.map_some, List.mem_cons, true_or]
        by_cases h : j ∈ ids <;> simp [h, ff]
      · simp [e]
    · rename_i hr
      rw [freeze_row ids]
      by_cases e : j = id
      · subst e; simp [hr]
      · simp [e]
theorem freeze_slot : ∀ (ids : List Nat) (st : St), (st.freeze ids).slot = st.slot ∧ (st.freeze ids).nt = st.nt
  | [], st => ⟨rfl, rfl⟩
  | id :: ids, st => by
    unfold St.freeze
    split
    · exact freeze_slot ids _
    · exact freeze_slot ids _
def frzS (S : Nat → Prop) (ρ : Nat → Option Loc) (row : Nat → Option Row) (ids : List Nat) : Nat → Prop := fun b => S b ∨ ∃ id ∈ ids, ∃ r c, row id = some r ∧ frz (freezeR r) = true ∧ ρ id = some (.at b c)
theorem Sim.frzs (h : Sim w0 B pv S ρ st a w) (ids : List Nat) : Sim w0 B pv (frzS S ρ st.row ids) ρ (st.freeze ids) a w := by
  have hrow := freeze_row ids st
  have same : ∀ r, Same r (freezeR r) := fun r => by
    cases r with
    | flat e τ xs fz app => exact .flat _ _ _ _ _ _ _ _ _ rfl
    | box τ a => exact .box _ _ _
  refine ⟨h.size.trans (freeze_slot ids st).2.symm, h.defers, fun t => ?_, ?_, h.below, h.hB⟩
  · rw [(freeze_slot ids st).1]
    refine VR.ext (P := fun _ => True) (fun _ h => .inl h) (fun _ _ => rfl) (fun i l r _ h1 h2 => ⟨h1, ?_⟩) (h.slots t) (fun _ _ => trivial)
    rw [hrow, h2]
    by_cases e : i ∈ ids
    · exact ⟨freezeR r, by simp [e], same r⟩
    · exact ⟨r, by simp [e], .refl r⟩
  · refine h.hs.freeze (ids := ids) (fun j r hj => by rw [hrow, hj]; rfl) (fun j hj => by rw [hrow, hj]; rfl) (fun b => Iff.rfl)
end
end Go.Gx
