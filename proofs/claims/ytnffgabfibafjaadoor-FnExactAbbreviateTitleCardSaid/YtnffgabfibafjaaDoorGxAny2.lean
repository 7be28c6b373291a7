/- A region whose order is open: any order comes to the same. The states between. -/
import Derived.Test.YtnffgabfibafjaaDoorGxAny
namespace Go.Gx
open Go.RowKit
set_option linter.unusedVariables false
set_option linter.unusedSimpArgs false

section
variable {E : Env} {G : Cal → List AV → AV → Prop} {ops : Array Oper} {rid : Nat}
def Site (rid i id : Nat) : Prop := (rid * 256 + i) * 4 ≤ id ∧ id < (rid * 256 + i) * 4 + 4
theorem Site.ne {rid i j id : Nat} (h : Site rid i id) (h' : Site rid j id) : i = j := by unfold Site at *; omega
/-- Rows after a step. -/
theorem step_rows {i : Nat} {o : Oper} {s s' : St} (h : StepR E G ops rid i o s s') : s'.nt = s.nt ∧ (∀ k, i < k → (∀ id, Site rid k id → s.row id = none) → ∀ id, Site rid k id → s'.row id = none) ∧
    (effB o = false → (∀ id, Site rid i id → s.row id = none) → SubRow s.row s'.row ∧ (∀ id, ¬ Site rid i id → s'.row id = s.row id) ∧ ∃ v, ∀ t, s'.slot t = if o.dst = some t then v else s.slot t) := by
  obtain ⟨hd, ⟨hw, u, h, rfl⟩ | ⟨hw, rfl⟩⟩ := h
  · obtain ⟨h1, h2, h3, h4, h5⟩ := h.upd
    have hz := h2 rfl
    refine ⟨apply_nt _ _ _, fun k hk hf id hid => ?_, fun hq hf => ?_⟩
    · have e1 : ((s.freeze u.frz).setRows u.news).row id = none := by
        rw [hz]
        rcases (h1 s).2.1 id with e | ⟨p, hp, e⟩
        · exact e.trans (hf id hid)
        · have := ((h1 s).1 p hp).2
          unfold Site at hid
          omega
      have e2 : ∀ s2 : St, s2.row id = none → ∀ j r, s.row j ≠ none → (s2.setRow j r).row id = none := fun s2 h6 j r h7 => by
        rw [setRow_row, if_neg (by rintro rfl; exact h7 (hf id hid))]
        exact h6
      have e3 : ∀ (s2 : St) (j : Nat), s2.row id = none → (s2.kill j (j + 1)).row id = none := fun s2 j h6 => by
        show killR j (j + 1) id (s2.row id) = none
        rw [h6, killR_none]
      unfold St.apply
      rw [(putO_row _ _ _).1]
      cases hsto : u.sto with
      | none =>
        cases happ : u.app with
        | none => exact e1
        | some p => obtain ⟨j, r⟩ := p; exact e2 _ (e3 _ _ e1) _ _ (h4 j r happ)
      | some q =>
        obtain ⟨k', r'⟩ := q
        cases happ : u.app with
        | none => exact e2 _ e1 _ _ (h5 k' r' hsto)
        | some p => obtain ⟨j, r⟩ := p; exact e2 _ (e2 _ (e3 _ _ e1) _ _ (h4 j r happ)) _ _ (h5 k' r' hsto)
    · obtain ⟨h6, h7⟩ := h3 rfl hq
      have e : s.apply o.dst u = (s.setRows u.news).putO o.dst u.v := by
        unfold St.apply
        rw [hz, h6, h7]
        rfl
      rw [e]
      refine ⟨fun id r hr => ?_, fun id hid => ?_, u.v, fun t => ?_⟩
      · rw [(putO_row _ _ _).1]
        rcases (h1 s).2.1 id with e | ⟨p, hp, e⟩
        · rw [e]; exact hr
        · have := hf id (by have := ((h1 s).1 p hp).2; unfold Site; omega)
          rw [hr] at this
          cases this
      · rw [(putO_row _ _ _).1]
        rcases (h1 s).2.1 id with e | ⟨p, hp, e⟩
        · exact e
        · exact absurd (show Site rid i id by have := ((h1 s).1 p hp).2; unfold Site; omega) hid
      · rw [putO_slot, (setRows_nt _ _).2]
  · refine ⟨(putO_row _ _ _).2, fun k hk hf id hid => by rw [(putO_row _ _ _).1]; exact hf id hid, fun _ _ => ⟨fun id r hr => by rw [(putO_row _ _ _).1]; exact hr, fun id _ => by rw [(putO_row _ _ _).1], undefV, fun t => putO_slot _ _ _ _⟩⟩

variable {sq : Nat → St} (hsq : ∀ i o, ops[i]? = some o → StepR E G ops rid i o (sq i) (sq (i + 1))) (h0 : ∀ k, k < ops.size → ∀ id, Site rid k id → (sq 0).row id = none)
include hsq h0
theorem fresh_row : ∀ i, i ≤ ops.size → ∀ k, i ≤ k → k < ops.size → ∀ id, Site rid k id → (sq i).row id = none
  | 0, _, k, _, hk, id, hid => h0 k hk id hid
  | i + 1, hi, k, hk, hk2, id, hid => by
    have ho : ops[i]? = some ops[i] := Array.getElem?_eq_getElem (by omega)
    exact (step_rows (hsq i _ ho)).2.1 k (by omega) (fun id hid => fresh_row i (by omega) k (by omega) hk2 id hid) id hid
omit h0 in
theorem nt_eq : ∀ i, i ≤ ops.size → (sq i).nt = (sq 0).nt
  | 0, _ => rfl
  | i + 1, hi => by
    have ho : ops[i]? = some ops[i] := Array.getElem?_eq_getElem (by omega)
    rw [(step_rows (hsq i _ ho)).1]
    exact nt_eq i (by omega)
theorem seg_rows {b e1 : Nat} (he : e1 ≤ ops.size) (hq : ∀ i o, b ≤ i → i < e1 → ops[i]? = some o → effB o = false) {i : Nat} (hb : b ≤ i) : ∀ d, i + d ≤ e1 → SubRow (sq i).row (sq (i + d)).row ∧ ∀ id, (∀ k, i ≤ k → k < i + d → ¬ Site rid k id) → (sq (i + d)).row id = (sq i).row id
  | 0, _ => ⟨fun _ _ h => h, fun _ _ => rfl⟩
  | d + 1, hd => by
    obtain ⟨h1, h2⟩ := seg_rows he hq hb d (by omega)
    have ho : ops[i + d]? = some ops[i + d] := Array.getElem?_eq_getElem (by omega)
    obtain ⟨h3, h4, _⟩ := (step_rows (hsq (i + d) _ ho)).2.2 (hq (i + d) _ (by omega) (by omega) ho) (fun id hid => fresh_row hsq h0 (i + d) (by omega) (i + d) (Nat.le_refl _) (by omega) id hid)
    exact ⟨fun id r h => h3 id r (h1 id r h), fun id hid => (h4 id (hid (i + d) (by omega) (by omega))).trans (h2 id fun k hk1 hk2 => hid k hk1 (by omega))⟩
theorem seg_slot {b e1 : Nat} (he : e1 ≤ ops.size) (hq : ∀ i o, b ≤ i → i < e1 → ops[i]? = some o → effB o = false) {i : Nat} (hb : b ≤ i) (hi : i < e1) {o : Oper} (ho : ops[i]? = some o) (t : Nat) (ht : o.dst ≠ some t) : (sq (i + 1)).slot t = (sq i).slot t := by
  obtain ⟨_, _, v, hv⟩ := (step_rows (hsq i _ ho)).2.2 (hq i o hb hi ho) (fun id hid => fresh_row hsq h0 i (by omega) i (Nat.le_refl _) (by omega) id hid)
  rw [hv, if_neg ht]
end

/-- What is seen when only some have been carried out. -/
def ovl (ops : Array Oper) (sq : Nat → St) (X : Nat → Bool) (b : Nat) : Nat → Nat → AV
  | 0, t => (sq b).slot t
  | m + 1, t => match X (b + m), ops[b + m]? with
    | true, some o => if o.dst = some t then (sq (b + m + 1)).slot t else ovl ops sq X b m t
    | _, _ => ovl ops sq X b m t
section
variable {ops : Array Oper} {sq : Nat → St} {X : Nat → Bool} {b : Nat}
theorem ovl_succ_no {m t : Nat} (h : X (b + m) = false ∨ ∀ o, ops[b + m]? = some o → o.dst ≠ some t) : ovl ops sq X b (m + 1) t = ovl ops sq X b m t := by
  simp only [ovl]
  split
  · rename_i o h1 h2
    rcases h with h | h
    · rw [h] at h1; cases h1
    · rw [if_neg (h o h2)]
  · rfl
theorem ovl_succ_yes {m t : Nat} {o : Oper} (h : X (b + m) = true) (ho : ops[b + m]? = some o) (hd : o.dst = some t) : ovl ops sq X b (m + 1) t = (sq (b + m + 1)).slot t := by
  simp only [ovl, h, ho, hd, if_true]
/-- Nobody beyond k writes here. -/
theorem ovl_stay {k t : Nat} : ∀ {m : Nat}, k ≤ m → (∀ i, b + k ≤ i → i < b + m → X i = false ∨ ∀ o, ops[i]? = some o → o.dst ≠ some t) → ovl ops sq X b m t = ovl ops sq X b k t
  | 0, h, _ => by
    have : k = 0 := by omega
    subst this; rfl
  | m + 1, h, hn => by
    by_cases e : k = m + 1
    · subst e; rfl
    · rw [ovl_succ_no (hn (b + m) (by omega) (by omega))]
      exact ovl_stay (by omega) fun i h1 h2 => hn i h1 (by omega)
/-- All that write here have been carried out. -/
theorem ovl_seq {t : Nat} : ∀ {m : Nat}, (∀ i, b ≤ i → i < b + m → ∃ o, ops[i]? = some o ∧ (o.dst = some t → X i = true) ∧ (o.dst ≠ some t → (sq (i + 1)).slot t = (sq i).slot t)) → ovl ops sq X b m t = (sq (b + m)).slot t
  | 0, _ => rfl
  | m + 1, h => by
    obtain ⟨o, ho, h1, h2⟩ := h (b + m) (by omega) (by omega)
    by_cases hd : o.dst = some t
    · rw [ovl_succ_yes (h1 hd) ho hd]; rfl
    · rw [ovl_succ_no (.inr fun o' ho' => by rw [ho] at ho'; cases ho'; exact hd), ovl_seq fun i hi1 hi2 => h i hi1 (by omega)]
      exact (h2 hd).symm
theorem ovl_congr {X' : Nat → Bool} {t : Nat} : ∀ {m : Nat}, (∀ i, b ≤ i → i < b + m → X' i = X i ∨ ∀ o, ops[i]? = some o → o.dst ≠ some t) → ovl ops sq X' b m t = ovl ops sq X b m t
  | 0, _ => rfl
  | m + 1, h => by
    have ih := ovl_congr (m := m) fun i h1 h2 => h i h1 (by omega)
    rcases h (b + m) (by omega) (by omega) with h1 | h1
    · simp only [ovl, h1, ih]
    · rw [ovl_succ_no (.inr h1), ovl_succ_no (.inr h1), ih]
end
end Go.Gx
