/- A region whose order is open: any order comes to the same. The states between. -/
import Derived.Test.YtolcacancfmmiaaGreatDoorMbi2
import Derived.Test.YtolcacancfmmiaaGreatDoorMbi1
section
namespace Go.Gx
open Go.RowKit
set_option linter.unusedVariables false
set_option linter.unusedSimpArgs false
section
variable {E : Env} {G : Cal → List AV → AV → Prop} {ops : Array Oper} {rid : Nat}
def Site (rid i id : Nat) : Prop := (rid * 256 + i) * 4 ≤ id ∧ id < (rid * 256 + i) * 4 + 4
theorem Site.ne {rid i j id : Nat} (h : Site rid i id) (h' : Site rid j id) : i = j := by unfold Site at *; omega
def CurStep (E : Env) (o : Oper) (row row' : Nat → Option Row) : Prop := ∀ id, row' id = row id ∨ (rcls E id = ocls E o ∧ ∃ r r', row id = some r ∧ row' id = some r' ∧ hidR E id r = true ∧ hidR E id r' = true)
theorem step_rows {i : Nat} {o : Oper} {s s' : St} (h : StepR E G ops rid i o s s') : s'.nt = s.nt ∧ (∀ k, i < k → (∀ id, Site rid k id → s.row id = none) → ∀ id, Site rid k id → s'.row id = none) ∧
    (effS E o = false → (∀ id, Site rid i id → s.row id = none) →
      (softO E o = false → SubRow s.row s'.row ∧ (∀ id, ¬ Site rid i id → s'.row id = s.row id) ∧ (E.so = true → ∀ id r, Site rid i id → s'.row id = some r → hidR E id r = false)) ∧
      (softO E o = true → CurStep E o s.row s'.row) ∧
      ∃ v, ∀ t, s'.slot t = if o.dst = some t then v else s.slot t) := by
  obtain ⟨hd, ⟨hw, u, h, rfl⟩ | ⟨hw, rfl⟩⟩ := h
  · obtain ⟨h1, hz, h4, h5, h3, hsf, hnc⟩ := h.upd
    refine ⟨apply_nt _ _ _, fun k hk hf id hid => ?_, fun hq hf => ?_⟩
    · have e1 : ((s.freeze u.frz).setRows u.news).row id = none := by
        rw [hz]
        rcases (h1 s).2.1 id with e | ⟨p, hp, e⟩
        · exact e.trans (hf id hid)
        · have := ((h1 s).1 p hp).2
          unfold Site at hid
          omega
      have e2 : ∀ s2 : St, s2.row id = none → ∀ j r, s.row j ≠ none → (s2.setRow j r).row id = none := fun s2 h6 j r h7 => by
        rw [setRow_row, if_neg (by rintro rfl; exact h7 (hf id hid))]
        exact h6
      have e3 : ∀ (s2 : St) (j : Nat), s2.row id = none → (s2.kill j (j + 1)).row id = none := fun s2 j h6 => by
        show killR j (j + 1) id (s2.row id) = none
        rw [h6, killR_none]
      unfold St.apply
      rw [(putO_row _ _ _).1]
      cases hsto : u.sto with
      | none =>
        cases happ : u.app with
        | none => exact e1
        | some p => obtain ⟨j, r⟩ := p; exact e2 _ (e3 _ _ e1) _ _ (h4 j r happ)
      | some q =>
        obtain ⟨k', r'⟩ := q
        cases happ : u.app with
        | none => exact e2 _ e1 _ _ (h5 k' r' hsto)
        | some p => obtain ⟨j, r⟩ := p; exact e2 _ (e2 _ (e3 _ _ e1) _ _ (h4 j r happ)) _ _ (h5 k' r' hsto)
    · cases hso : softO E o with
      | false =>
        obtain ⟨h6, h7⟩ := h3 hq hso
        have e : s.apply o.dst u = (s.setRows u.news).putO o.dst u.v := by
          unfold St.apply
          rw [hz, h6, h7]
          rfl
        rw [e]
        refine ⟨fun _ => ⟨fun id r hr => ?_, fun id hid => ?_, fun hE id r hid hr => ?_⟩, fun h => (by cases h), u.v, fun t => ?_⟩
        · rw [(putO_row _ _ _).1]
          rcases (h1 s).2.1 id with e | ⟨p, hp, e⟩
          · rw [e]; exact hr
          · have := hf id (by have := ((h1 s).1 p hp).2; unfold Site; omega)
            rw [hr] at this
            cases this
        · rw [(putO_row _ _ _).1]
          rcases (h1 s).2.1 id with e | ⟨p, hp, e⟩
          · exact e
          · exact absurd (show Site rid i id by have := ((h1 s).1 p hp).2; unfold Site; omega) hid
        · rw [(putO_row _ _ _).1] at hr
          rcases (h1 s).2.1 id with e | ⟨p, hp, e⟩
          · rw [e, hf id hid] at hr; cases hr
          · have h8 := ((h1 s).1 p hp).1
            rw [e, hr] at h8
            cases h8
            have := noCur_mem (hnc hE) p hp
            rwa [e] at this
        · rw [putO_slot, (setRows_nt _ _).2]
      | true =>
        obtain ⟨h6, h7, h8, j, x, y, h9, h10, h11, h12, h13⟩ := softU_eq (hsf hso)
        have e : s.apply o.dst u = (s.setRow j y).putO o.dst u.v := by
          unfold St.apply
          rw [h6, h7, h8, h9]
          rfl
        rw [e]
        refine ⟨fun h => (by cases h), fun _ id => ?_, u.v, fun t => putO_slot _ _ _ _⟩
        rw [(putO_row _ _ _).1, setRow_row]
        by_cases e1 : id = j
        · subst e1; rw [if_pos rfl]; exact .inr ⟨h11, _, _, h10, rfl, h12, h13⟩
        · rw [if_neg e1]; exact .inl rfl
  · refine ⟨(putO_row _ _ _).2, fun k hk hf id hid => by rw [(putO_row _ _ _).1]; exact hf id hid, fun _ hf => ⟨fun _ => ⟨fun id r hr => by rw [(putO_row _ _ _).1]; exact hr, fun id _ => by rw [(putO_row _ _ _).1], fun _ id r hid hr => by rw [(putO_row _ _ _).1, hf id hid] at hr; cases hr⟩, fun _ id => .inl (by rw [(putO_row _ _ _).1]), undefV, fun t => putO_slot _ _ _ _⟩⟩
variable {sq : Nat → St} (hsq : ∀ i o, ops[i]? = some o → StepR E G ops rid i o (sq i) (sq (i + 1))) (h0 : ∀ k, k < ops.size → ∀ id, Site rid k id → (sq 0).row id = none)
include hsq h0
theorem fresh_row : ∀ i, i ≤ ops.size → ∀ k, i ≤ k → k < ops.size → ∀ id, Site rid k id → (sq i).row id = none
  | 0, _, k, _, hk, id, hid => h0 k hk id hid
  | i + 1, hi, k, hk, hk2, id, hid => by
    have ho : ops[i]? = some ops[i] := Array.getElem?_eq_getElem (by omega)
    exact (step_rows (hsq i _ ho)).2.1 k (by omega) (fun id hid => fresh_row i (by omega) k (by omega) hk2 id hid) id hid
omit h0 in
theorem nt_eq : ∀ i, i ≤ ops.size → (sq i).nt = (sq 0).nt
  | 0, _ => rfl
  | i + 1, hi => by
    have ho : ops[i]? = some ops[i] := Array.getElem?_eq_getElem (by omega)
    rw [(step_rows (hsq i _ ho)).1]
    exact nt_eq i (by omega)
theorem seg_rows {b e1 : Nat} (he : e1 ≤ ops.size) (hq : ∀ i o, b ≤ i → i < e1 → ops[i]? = some o → effS E o = false) {i : Nat} (hb : b ≤ i) : ∀ d, i + d ≤ e1 →
    (∀ id r, (sq i).row id = some r → ∃ r', (sq (i + d)).row id = some r' ∧ (r' = r ∨ (hidR E id r = true ∧ hidR E id r' = true ∧ E.so = true))) ∧
    (∀ id, (∀ k, i ≤ k → k < i + d → ¬ Site rid k id) → (sq i).row id = none → (sq (i + d)).row id = none) ∧
    (E.so = true → ∀ id r', (sq (i + d)).row id = some r' → hidR E id r' = true → ∃ r, (sq i).row id = some r ∧ hidR E id r = true) ∧
    (∀ id, (∀ j o, i ≤ j → j < i + d → ops[j]? = some o → softO E o = true → ocls E o ≠ rcls E id) → ∀ r, (sq i).row id = some r → (sq (i + d)).row id = some r)
  | 0, _ => ⟨fun id r h => ⟨r, h, .inl rfl⟩, fun _ _ h => h, fun _ id r h h' => ⟨r, h, h'⟩, fun _ _ _ h => h⟩
  | d + 1, hd => by
    obtain ⟨h1, h2, h3, h4⟩ := seg_rows he hq hb d (by omega)
    have ho : ops[i + d]? = some ops[i + d] := Array.getElem?_eq_getElem (by omega)
    obtain ⟨k1, k2, _⟩ := (step_rows (hsq (i + d) _ ho)).2.2 (hq (i + d) _ (by omega) (by omega) ho) (fun id hid => fresh_row hsq h0 (i + d) (by omega) (i + d) (Nat.le_refl _) (by omega) id hid)
    cases hso : softO E ops[i + d] with
    | false =>
      obtain ⟨k3, k4, k5⟩ := k1 hso
      refine ⟨fun id r h => ?_, fun id hid h => ?_, fun hE id r' h h' => ?_, fun id hn r h => k3 id r (h4 id (fun j o a b c => hn j o a (by omega) c) r h)⟩
      · obtain ⟨r', h5, h6⟩ := h1 id r h
        exact ⟨r', k3 id r' h5, h6⟩
      · exact (k4 id (hid (i + d) (by omega) (by omega))).trans (h2 id (fun k a b => hid k a (by omega)) h)
      · by_cases hsite : Site rid (i + d) id
        · rw [k5 hE id r' hsite h] at h'; cases h'
        · exact h3 hE id r' ((k4 id hsite).symm.trans h) h'
    | true =>
      have k3 := k2 hso
      refine ⟨fun id r h => ?_, fun id hid h => ?_, fun hE id r' h h' => ?_, fun id hn r h => ?_⟩
      · obtain ⟨r', h5, h6⟩ := h1 id r h
        rcases k3 id with e | ⟨_, r1, r2, e1, e2, e3, e4⟩
        · exact ⟨r', e.trans h5, h6⟩
        · rw [h5] at e1
          cases e1
          refine ⟨r2, e2, .inr ⟨?_, e4, by simp [softO] at hso; exact hso.1⟩⟩
          rcases h6 with rfl | h6
          · exact e3
          · exact h6.1
      · have h5 := h2 id (fun k a b => hid k a (by omega)) h
        rcases k3 id with e | ⟨_, r1, r2, e1, e2, e3, e4⟩
        · exact e.trans h5
        · rw [h5] at e1; cases e1
      · rcases k3 id with e | ⟨_, r1, r2, e1, e2, e3, e4⟩
        · exact h3 hE id r' (e.symm.trans h) h'
        · exact h3 hE id r1 e1 e3
      · have h5 := h4 id (fun j o a b c => hn j o a (by omega) c) r h
        rcases k3 id with e | ⟨e, _⟩
        · exact e.trans h5
        · exact absurd e.symm (hn (i + d) _ (by omega) (by omega) ho hso)
theorem seg_slot {b e1 : Nat} (he : e1 ≤ ops.size) (hq : ∀ i o, b ≤ i → i < e1 → ops[i]? = some o → effS E o = false) {i : Nat} (hb : b ≤ i) (hi : i < e1) {o : Oper} (ho : ops[i]? = some o) (t : Nat) (ht : o.dst ≠ some t) : (sq (i + 1)).slot t = (sq i).slot t := by
  obtain ⟨_, _, v, hv⟩ := (step_rows (hsq i _ ho)).2.2 (hq i o hb hi ho) (fun id hid => fresh_row hsq h0 i (by omega) i (Nat.le_refl _) (by omega) id hid)
  rw [hv, if_neg ht]
end
def rx (E : Env) (sq : Nat → St) (m : Nat → Nat) (e1 : Nat) : Nat → Option Row := fun id => match (sq e1).row id with
  | some r => match hidR E id r with
    | true => (sq (m (rcls E id))).row id
    | false => some r
  | none => none
theorem rx_self (E : Env) (sq : Nat → St) {m : Nat → Nat} {e1 : Nat} (h : ∀ c, m c = e1) : rx E sq m e1 = (sq e1).row := by
  funext id
  unfold rx
  cases hr : (sq e1).row id with
  | none => rfl
  | some r =>
    cases hc : hidR E id r
    · simp only [hc]
    · simp only [hc, h, hr]
theorem rx_cur {E : Env} {sq : Nat → St} {m : Nat → Nat} {e1 id : Nat} {r : Row} (h : (sq e1).row id = some r) (hc : hidR E id r = true) : rx E sq m e1 id = (sq (m (rcls E id))).row id := by unfold rx; simp only [h, hc]
theorem rx_non {E : Env} {sq : Nat → St} {m : Nat → Nat} {e1 id : Nat} {r : Row} (h : (sq e1).row id = some r) (hc : hidR E id r = false) : rx E sq m e1 id = some r := by unfold rx; simp only [h, hc]
theorem rx_none {E : Env} {sq : Nat → St} {m : Nat → Nat} {e1 id : Nat} (h : (sq e1).row id = none) : rx E sq m e1 id = none := by unfold rx; simp only [h]
section
variable {E : Env} {sq : Nat → St} {i e1 : Nat} {m : Nat → Nat} (h1 : ∀ id r, (sq i).row id = some r → ∃ r', (sq e1).row id = some r' ∧ (r' = r ∨ (hidR E id r = true ∧ hidR E id r' = true ∧ E.so = true)))
include h1
theorem rx_sub (hm : ∀ id r, (sq i).row id = some r → (sq (m (rcls E id))).row id = some r) : SubRow (sq i).row (rx E sq m e1) := fun id r h => by
  obtain ⟨r', h2, h3⟩ := h1 id r h
  cases hc : hidR E id r' with
  | true => rw [rx_cur h2 hc]; exact hm id r h
  | false =>
    rw [rx_non h2 hc]
    rcases h3 with rfl | h3
    · rfl
    · rw [h3.2.1] at hc; cases hc
theorem rx_hideO {c : Nat} (hm : m c = i) : SubRow (hideO E c (sq i).row) (hideO E c (rx E sq m e1)) := fun id r h => by
  have h2 := hideO_sub E c _ _ _ h
  have hc := hideO_no h
  obtain ⟨r', h3, h4⟩ := h1 id r h2
  cases hh : hidR E id r' with
  | true =>
    have hr : hidR E id r = true := by
      rcases h4 with rfl | h4
      · exact hh
      · exact h4.1
    have hcl : rcls E id = c := by
      rw [hr] at hc
      simp only [Bool.true_and, Bool.not_eq_false'] at hc
      exact Nat.eq_of_beq_eq_true hc
    refine hideO_at ?_ hc
    rw [rx_cur h3 hh, hcl, hm]
    exact h2
  | false =>
    refine hideO_at ?_ hc
    rw [rx_non h3 hh]
    rcases h4 with rfl | h4
    · rfl
    · rw [h4.2.1] at hh; cases hh
theorem rx_hide : SubRow (hideC E (sq i).row) (hideC E (rx E sq m e1)) := fun id r h => by
  have h2 := hide_sub E _ _ _ h
  have hc : hidR E id r = false := by
    unfold hideC at h
    rw [h2] at h
    cases hc : hidR E id r with
    | true => simp only [hc] at h; cases h
    | false => rfl
  obtain ⟨r', h3, h4⟩ := h1 id r h2
  rcases h4 with rfl | h4
  · exact hide_at (rx_non h3 hc) hc
  · rw [h4.1] at hc; cases hc
end
def ovl (ops : Array Oper) (sq : Nat → St) (X : Nat → Bool) (b : Nat) : Nat → Nat → AV
  | 0, t => (sq b).slot t
  | m + 1, t => match X (b + m), ops[b + m]? with
    | true, some o => if o.dst = some t then (sq (b + m + 1)).slot t else ovl ops sq X b m t
    | _, _ => ovl ops sq X b m t
section
variable {ops : Array Oper} {sq : Nat → St} {X : Nat → Bool} {b : Nat}
theorem ovl_succ_no {m t : Nat} (h : X (b + m) = false ∨ ∀ o, ops[b + m]? = some o → o.dst ≠ some t) : ovl ops sq X b (m + 1) t = ovl ops sq X b m t := by
  simp only [ovl]
  split
  · rename_i o h1 h2
    rcases h with h | h
    · rw [h] at h1; cases h1
    · rw [if_neg (h o h2)]
  · rfl
theorem ovl_succ_yes {m t : Nat} {o : Oper} (h : X (b + m) = true) (ho : ops[b + m]? = some o) (hd : o.dst = some t) : ovl ops sq X b (m + 1) t = (sq (b + m + 1)).slot t := by
  simp only [ovl, h, ho, hd, if_true]
theorem ovl_stay {k t : Nat} : ∀ {m : Nat}, k ≤ m → (∀ i, b + k ≤ i → i < b + m → X i = false ∨ ∀ o, ops[i]? = some o → o.dst ≠ some t) → ovl ops sq X b m t = ovl ops sq X b k t
  | 0, h, _ => by
    have : k = 0 := by omega
    subst this; rfl
  | m + 1, h, hn => by
    by_cases e : k = m + 1
    · subst e; rfl
    · rw [ovl_succ_no (hn (b + m) (by omega) (by omega))]
      exact ovl_stay (by omega) fun i h1 h2 => hn i h1 (by omega)
theorem ovl_seq {t : Nat} : ∀ {m : Nat}, (∀ i, b ≤ i → i < b + m → ∃ o, ops[i]? = some o ∧ (o.dst = some t → X i = true) ∧ (o.dst ≠ some t → (sq (i + 1)).slot t = (sq i).slot t)) → ovl ops sq X b m t = (sq (b + m)).slot t
  | 0, _ => rfl
  | m + 1, h => by
    obtain ⟨o, ho, h1, h2⟩ := h (b + m) (by omega) (by omega)
    by_cases hd : o.dst = some t
    · rw [ovl_succ_yes (h1 hd) ho hd]; rfl
    · rw [ovl_succ_no (.inr fun o' ho' => by rw [ho] at ho'; cases ho'; exact hd), ovl_seq fun i hi1 hi2 => h i hi1 (by omega)]
      exact (h2 hd).symm
theorem ovl_congr {X' : Nat → Bool} {t : Nat} : ∀ {m : Nat}, (∀ i, b ≤ i → i < b + m → X' i = X i ∨ ∀ o, ops[i]? = some o → o.dst ≠ some t) → ovl ops sq X' b m t = ovl ops sq X b m t
  | 0, _ => rfl
  | m + 1, h => by
    have ih := ovl_congr (m := m) fun i h1 h2 => h i h1 (by omega)
    rcases h (b + m) (by omega) (by omega) with h1 | h1
    · simp only [ovl, h1, ih]
    · rw [ovl_succ_no (.inr h1), ovl_succ_no (.inr h1), ih]
end
end Go.Gx
end
section
/- A region whose order is open: any order comes to the same. -/
namespace Go.Gx
open Go.RowKit
set_option linter.unusedVariables false
set_option linter.unusedSimpArgs false
theorem Sim.rows {w0 : World} {B : Old} {pv : Nat → Value} {S : Nat → Prop} {ρ : Nat → Option Loc} {st : St} {a : Act} {w : World} (h : Sim w0 B pv S ρ st a w) {row' : Nat → Option Row} (hr : ∀ id l, ρ id = some l → row' id = st.row id) : Sim w0 B pv S ρ ⟨st.slot, row', st.nt⟩ a w :=
  h.grow h.below (Nat.le_refl _) (fun _ _ => rfl) (fun _ h => h) (fun _ h => .inl h) (fun id l h1 => ⟨h1, hr id l h1⟩) (fun id r l h1 h2 => by rw [h1] at h2; cases h2) (fun id id' g c c' h1 _ h2 => by rw [h1] at h2; cases h2)
theorem Sim.slotsEq {w0 : World} {B : Old} {pv : Nat → Value} {S : Nat → Prop} {ρ : Nat → Option Loc} {st : St} {a : Act} {w : World} (h : Sim w0 B pv S ρ st a w) {st' : St} (h1 : ∀ t, st'.slot t = st.slot t) (h2 : st'.row = st.row) (h3 : st'.nt = st.nt) : Sim w0 B pv S ρ st' a w :=
  h.cong (funext h1) h2 h3
theorem nextEff {E : Env} {ops : Array Oper} : ∀ (d b : Nat), b + d = ops.size → ∃ e1, b ≤ e1 ∧ e1 ≤ ops.size ∧ (∀ i o, b ≤ i → i < e1 → ops[i]? = some o → effS E o = false) ∧ (e1 = ops.size ∨ ∃ o, ops[e1]? = some o ∧ effS E o = true)
  | 0, b, h => ⟨b, Nat.le_refl _, by omega, fun i o h1 h2 => by omega, .inl (by omega)⟩
  | d + 1, b, h => by
    have ho : ops[b]? = some ops[b] := Array.getElem?_eq_getElem (by omega)
    cases hb : effS E ops[b] with
    | true => exact ⟨b, Nat.le_refl _, by omega, fun i o h1 h2 => by omega, .inr ⟨_, ho, hb⟩⟩
    | false =>
      obtain ⟨e1, h1, h2, h3, h4⟩ := nextEff (E := E) (ops := ops) d (b + 1) (by omega)
      refine ⟨e1, by omega, h2, fun i o h5 h6 h7 => ?_, h4⟩
      by_cases e : i = b
      · subst e; rw [ho] at h7; cases h7; exact hb
      · exact h3 i o (by omega) h6 h7
theorem nextSoft {E : Env} {ops : Array Oper} (c : Nat) : ∀ (d b : Nat), b + d ≤ ops.size → ∃ m, b ≤ m ∧ m ≤ b + d ∧ (∀ i o, b ≤ i → i < m → ops[i]? = some o → softO E o = true → ocls E o ≠ c) ∧ (m = b + d ∨ ∃ o, ops[m]? = some o ∧ softO E o = true ∧ ocls E o = c)
  | 0, b, h => ⟨b, Nat.le_refl _, Nat.le_refl _, fun i o h1 h2 => by omega, .inl rfl⟩
  | d + 1, b, h => by
    have ho : ops[b]? = some ops[b] := Array.getElem?_eq_getElem (by omega)
    by_cases hb : softO E ops[b] = true ∧ ocls E ops[b] = c
    · exact ⟨b, Nat.le_refl _, by omega, fun i o h1 h2 => by omega, .inr ⟨_, ho, hb⟩⟩
    · obtain ⟨m, h1, h2, h3, h4⟩ := nextSoft (E := E) (ops := ops) c d (b + 1) (by omega)
      refine ⟨m, by omega, by omega, fun i o h5 h6 h7 h8 => ?_, h4.imp (fun e => by omega) _root_.id⟩
      by_cases e : i = b
      · subst e; rw [ho] at h7; cases h7; exact fun e => hb ⟨h8, e⟩
      · exact h3 i o (by omega) h6 h7 h8
theorem nextSofts {E : Env} {ops : Array Oper} {b e1 : Nat} (hb : b ≤ e1) (he : e1 ≤ ops.size) : ∃ m : Nat → Nat, ∀ c, b ≤ m c ∧ m c ≤ e1 ∧ (∀ i o, b ≤ i → i < m c → ops[i]? = some o → softO E o = true → ocls E o ≠ c) ∧ (m c = e1 ∨ ∃ o, ops[m c]? = some o ∧ softO E o = true ∧ ocls E o = c) := by
  have h : ∀ c, ∃ m, b ≤ m ∧ m ≤ e1 ∧ (∀ i o, b ≤ i → i < m → ops[i]? = some o → softO E o = true → ocls E o ≠ c) ∧ (m = e1 ∨ ∃ o, ops[m]? = some o ∧ softO E o = true ∧ ocls E o = c) := fun c => by
    have := nextSoft (E := E) (ops := ops) c (e1 - b) b (by omega)
    rwa [show b + (e1 - b) = e1 by omega] at this
  exact ⟨fun c => Classical.choose (h c), fun c => Classical.choose_spec (h c)⟩
theorem wantY_congr {ops : Array Oper} {o : Oper} {s s' : St} (h : ∀ t ∈ o.looksAt ops, s'.slot t = s.slot t) (hw : WantY ops o s) : WantY ops o s' := by
  rcases hw with hw | ⟨j, b, g, d, h1, h2, h3, h4⟩
  · exact .inl hw
  · refine .inr ⟨j, b, g, d, h1, h2, h3, ?_⟩
    rw [h d (by simp [Oper.looksAt, h1, h2, h3])]; exact h4
theorem wantN_congr {ops : Array Oper} {o : Oper} {s s' : St} (h : ∀ t ∈ o.looksAt ops, s'.slot t = s.slot t) (hw : WantN ops o s) : WantN ops o s' := by
  obtain ⟨j, b, h1, h2 | ⟨g, h2, h3 | ⟨d, h3, h4⟩⟩⟩ := hw
  · exact ⟨j, b, h1, .inl h2⟩
  · exact ⟨j, b, h1, .inr ⟨g, h2, .inl h3⟩⟩
  · refine ⟨j, b, h1, .inr ⟨g, h2, .inr ⟨d, h3, ?_⟩⟩⟩
    rw [h d (by simp [Oper.looksAt, h1, h2, h3])]; exact h4
theorem setRows_same {l : List (Nat × Row)} {st : St} (h : ∀ p ∈ l, st.row p.1 = some p.2) : st.setRows l = st := by
  induction l with
  | nil => rfl
  | cons p l ih =>
    have e : st.setRow p.1 p.2 = st := by
      have : (st.setRow p.1 p.2).row = st.row := by
        funext j
        rw [setRow_row]
        by_cases e : j = p.1
        · subst e; rw [if_pos rfl, h p List.mem_cons_self]
        · rw [if_neg e]
      cases st
      simp only [St.setRow] at this ⊢
      rw [this]
    show (st.setRow p.1 p.2).setRows l = st
    rw [e]
    exact ih fun q hq => h q (List.mem_cons_of_mem _ hq)
section
variable {P : Program} {E : Env} {w0 : World} {B : Old} {pv : Nat → Value} {G : Cal → List AV → AV → Prop} {Q : Exit → Act → World → Prop} {ops : Array Oper} {rid : Nat} {S0 : Nat → Prop} {sq : Nat → St} {pre : Nat → Nat → Prop}
def Inv (E : Env) (w0 : World) (B : Old) (pv : Nat → Value) (ops : Array Oper) (rid : Nat) (S0 : Nat → Prop) (sq : Nat → St) (X : Nat → Bool) (S : Nat → Prop) (ρ : Nat → Option Loc) (a : Act) (w : World) : Prop :=
  ∃ b, ∃ m : Nat → Nat, ∃ e1, b ≤ e1 ∧ (∀ c, b ≤ m c ∧ m c ≤ e1) ∧ e1 ≤ ops.size ∧ (∀ i, i < b → X i = true) ∧ (∀ i, e1 ≤ i → X i = false) ∧ (∀ i o, b ≤ i → i < e1 → ops[i]? = some o → effS E o = false) ∧ (e1 = ops.size ∨ ∃ o, ops[e1]? = some o ∧ effS E o = true) ∧
    (∀ i o, b ≤ i → i < m (ocls E o) → ops[i]? = some o → softO E o = true → X i = true) ∧ (∀ i o, m (ocls E o) ≤ i → ops[i]? = some o → softO E o = true → X i = false) ∧ (∀ c, m c = e1 ∨ ∃ o, ops[m c]? = some o ∧ softO E o = true ∧ ocls E o = c) ∧
    Sim w0 B pv S ρ ⟨ovl ops sq X b (e1 - b), rx E sq m e1, (sq 0).nt⟩ a w ∧ GlOk E pv S w ∧ (∀ i, i < ops.size → X i = false → ∀ id, Site rid i id → ρ id = none) ∧
    (∀ i o, ops[i]? = some o → X i = true → ∀ e ∈ o.after, Region.binds .any e = true → X e.on = true) ∧ Grew B S0 S
variable (hE : EnvOk P E) (hG : GOk P E pv G) (hO : Ordered E ops pre) (hSo : ∀ i j o p, ops[i]? = some o → ops[j]? = some p → softO E o = true → softO E p = true → ocls E o = ocls E p → i ≠ j → pre (max i j) (min i j)) (hsq : ∀ i o, ops[i]? = some o → StepR E G ops rid i o (sq i) (sq (i + 1))) (h0 : ∀ k, k < ops.size → ∀ id, Site rid k id → (sq 0).row id = none)
include hsq h0
theorem startSeg {X : Nat → Bool} {b : Nat} (hb : b ≤ ops.size) (h1 : ∀ i, i < b → X i = true) (h2 : ∀ i, b ≤ i → X i = false) {S : Nat → Prop} {ρ : Nat → Option Loc} {a : Act} {w : World} (hs : Sim w0 B pv S ρ (sq b) a w) (hgl : GlOk E pv S w)
    (hρ : ∀ i, i < ops.size → X i = false → ∀ id, Site rid i id → ρ id = none) (hX : ∀ i o, ops[i]? = some o → X i = true → ∀ e ∈ o.after, Region.binds .any e = true → X e.on = true) (hS : Grew B S0 S) : Inv E w0 B pv ops rid S0 sq X S ρ a w := by
  obtain ⟨e1, h3, h4, h5, h6⟩ := nextEff (E := E) (ops := ops) (ops.size - b) b (by omega)
  obtain ⟨m, hm⟩ := nextSofts (E := E) (ops := ops) h3 h4
  refine ⟨b, m, e1, h3, fun c => ⟨(hm c).1, (hm c).2.1⟩, h4, h1, fun i hi => h2 i (by omega), h5, h6, fun i o a c d e => absurd rfl ((hm _).2.2.1 i o a c d e), fun i o a _ _ => h2 i (by have := (hm (ocls E o)).1; omega), fun c => (hm c).2.2.2, ?_, hgl, hρ, hX, hS⟩
  obtain ⟨k1, k2, _, _⟩ := seg_rows hsq h0 h4 h5 (Nat.le_refl b) (e1 - b) (by omega)
  rw [show b + (e1 - b) = e1 by omega] at k1 k2
  have hsub := rx_sub (m := m) k1 fun id r hr => by
    obtain ⟨q1, q2, q3, _⟩ := hm (rcls E id)
    have k4 := (seg_rows hsq h0 h4 h5 (Nat.le_refl b) (m (rcls E id) - b) (by omega)).2.2.2 id
    rw [show b + (m (rcls E id) - b) = m (rcls E id) by omega] at k4
    exact k4 (fun j o a c d e => q3 j o a c d e) r hr
  have hz := hs.rows (row' := rx E sq m e1) fun id l hl => by
    cases hr : (sq b).row id with
    | some r => exact hsub id r hr
    | none => exact rx_none (k2 id (fun k hk1 hk2 hsite => by
        rw [hρ k (by omega) (h2 k hk1) id hsite] at hl
        cases hl) hr)
  refine hz.slotsEq (fun t => ?_) rfl (nt_eq hsq b hb).symm
  exact ovl_stay (k := 0) (Nat.zero_le _) fun i hi _ => .inl (h2 i (by omega))
include hE hG hO hSo in
theorem inv_step {X X' : Nat → Bool} {i : Nat} {o : Oper} {S : Nat → Prop} {ρ : Nat → Option Loc} {a : Act} {w : World} (hn : ops.size ≤ 256) (h : Inv E w0 B pv ops rid S0 sq X S ρ a w) (ho : ops[i]? = some o) (hi : X i = false) (hready : ∀ e ∈ o.after, Region.binds .any e = true → X e.on = true)
    (hX' : ∀ j, X' j = if j = i then true else X j) {K : Act → World → Prop} (hK : ∀ S' ρ' a' w', Inv E w0 B pv ops rid S0 sq X' S' ρ' a' w' → K a' w') : wpOp P ops Q i K a w := by
  obtain ⟨b, m, e1, hbe, hmm, hen, hX1, hX2, hq, heff, hm1, hm2, hm3, hs, hgl, hρ, hcl, hS⟩ := h
  have hin : i < ops.size := (Array.getElem?_eq_some_iff.1 ho).1
  have hbi : b ≤ i := by
    apply Classical.byContradiction
    intro hlt
    rw [hX1 i (by omega)] at hi
    cases hi
  have hXlt : ∀ j, X j = true → j < ops.size := fun j hj => by
    apply Classical.byContradiction
    intro hge
    rw [hX2 j (by omega)] at hj
    cases hj
  have hpre : ∀ j, pre i j → X j = true := fun j hp => pre_mem hO (X := fun j => X j = true) hXlt hcl i o j ho hp hready
  have hpost : ∀ j, pre j i → X j = false := fun j hp => by
    cases hj : X j with
    | false => rfl
    | true =>
      have hjl := hXlt j hj
      have hoj : ops[j]? = some ops[j] := Array.getElem?_eq_getElem hjl
      have := pre_mem hO (X := fun j => X j = true) hXlt hcl j _ i hoj hp (hcl j _ hoj hj)
      rw [hi] at this
      cases this
  have hcl' : ∀ j o', ops[j]? = some o' → X' j = true → ∀ e ∈ o'.after, Region.binds .any e = true → X' e.on = true := fun j o' hj hXj e he hb => by
    rw [hX'] at hXj ⊢
    split
    · rfl
    · by_cases e' : j = i
      · subst e'; rw [ho] at hj; cases hj; exact hready e he hb
      · rw [if_neg e'] at hXj; exact hcl j o' hj hXj e he hb
  have hid : ∀ c, c < 4 → ρ ((rid * 256 + i) * 4 + c) = none := fun c hc => hρ i hin hi _ (by unfold Site; omega)
  have hρ' : ∀ ρ' : Nat → Option Loc, (∀ j, ρ j = none → ¬ ((rid * 256 + i) * 4 ≤ j ∧ j < (rid * 256 + i) * 4 + 4) → ρ' j = none) → ∀ j, j < ops.size → X' j = false → ∀ id, Site rid j id → ρ' id = none := fun ρ' hk j hj hXj id hsite => by
    rw [hX'] at hXj
    split at hXj
    · cases hXj
    · rename_i e
      exact hk id (hρ j hj hXj id hsite) fun hsite' => e (Site.ne hsite hsite')
  have hstep := hsq i o ho
  unfold wpOp
  rw [ho]
  simp only
  by_cases hlt : i < e1
  · -- within the stretch
    have hqi := hq i o hbi hlt ho
    have hfr := fresh_row hsq h0 i (by omega) i (Nat.le_refl _) hin
    have hlooks : ∀ t ∈ o.looksAt ops, ovl ops sq X b (e1 - b) t = (sq i).slot t := fun t ht => by
      have hord : ∀ j p, ops[j]? = some p → i ≠ j → p.dst = some t → pre (max i j) (min i j) := fun j p hp hne hd => by
        rcases hO.ord i j o p ho hp hne with h1 | ⟨_, h1⟩
        · exact h1
        · exact absurd ht (h1 t hd).1
      rw [ovl_stay (k := i - b) (by omega) fun j hj1 hj2 => ?_, ovl_seq fun j hj1 hj2 => ?_, show b + (i - b) = i by omega]
      · have hj : j < ops.size := by omega
        have hoj : ops[j]? = some ops[j] := Array.getElem?_eq_getElem hj
        refine ⟨_, hoj, fun hd => ?_, fun hd => seg_slot hsq h0 hen hq hj1 (by omega) hoj t hd⟩
        have := hord j _ hoj (by omega) hd
        rw [Nat.max_eq_left (by omega), Nat.min_eq_right (by omega)] at this
        exact hpre j this
      · by_cases e : j = i
        · subst e; exact .inl hi
        · by_cases hd : ∃ p, ops[j]? = some p ∧ p.dst = some t
          · obtain ⟨p, hp, hd⟩ := hd
            have := hord j p hp (fun h => e h.symm) hd
            rw [Nat.max_eq_right (by omega), Nat.min_eq_left (by omega)] at this
            exact .inl (hpost j this)
          · exact .inr fun p hp hd' => hd ⟨p, hp, hd'⟩
    obtain ⟨hseg, _, hcur, _⟩ := seg_rows hsq h0 hen hq hbi (e1 - i) (by omega)
    rw [show i + (e1 - i) = e1 by omega] at hseg hcur
    obtain ⟨hseg1, hnone1, hcur1, _⟩ := seg_rows hsq h0 hen hq (show b ≤ i + 1 by omega) (e1 - (i + 1)) (by omega)
    rw [show i + 1 + (e1 - (i + 1)) = e1 by omega] at hseg1 hnone1 hcur1
    have hsr := (step_rows (hsq i o ho)).2.2 hqi (fun id hid => hfr id hid)
    -- what is seen afterwards
    have hovl : ∀ v, (∀ t, (sq (i + 1)).slot t = if o.dst = some t then v else (sq i).slot t) → ∀ t, ovl ops sq X' b (e1 - b) t = if o.dst = some t then v else ovl ops sq X b (e1 - b) t := fun v hv t => by
      by_cases hd : o.dst = some t
      · rw [if_pos hd, ovl_stay (k := i - b + 1) (by omega) fun j hj1 hj2 => ?_, ovl_succ_yes (o := o) (by rw [show b + (i - b) = i by omega, hX', if_pos rfl]) (by rw [show b + (i - b) = i by omega]; exact ho) hd,
          show b + (i - b) + 1 = i + 1 by omega, hv, if_pos hd]
        by_cases hdj : ∃ p, ops[j]? = some p ∧ p.dst = some t
        · obtain ⟨p, hp, hdj⟩ := hdj
          rcases hO.ord i j o p ho hp (by omega) with h1 | ⟨_, h1⟩
          · rw [Nat.max_eq_right (by omega), Nat.min_eq_left (by omega)] at h1
            exact .inl (by rw [hX', if_neg (by omega)]; exact hpost j h1)
          · exact absurd hd (h1 t hdj).2
        · exact .inr fun p hp hd' => hdj ⟨p, hp, hd'⟩
      · rw [if_neg hd]
        refine ovl_congr fun j _ _ => ?_
        by_cases e : j = i
        · subst e
          exact .inr fun p hp => by rw [ho] at hp; cases hp; exact hd
        · exact .inl (by rw [hX', if_neg e])
    have fin : ∀ S' ρ' a' w' v (m' : Nat → Nat), (∀ t, (sq (i + 1)).slot t = if o.dst = some t then v else (sq i).slot t) → (∀ c, b ≤ m' c ∧ m' c ≤ e1) → (∀ j p, b ≤ j → j < m' (ocls E p) → ops[j]? = some p → softO E p = true → X' j = true) → (∀ j p, m' (ocls E p) ≤ j → ops[j]? = some p → softO E p = true → X' j = false) → (∀ c, m' c = e1 ∨ ∃ o, ops[m' c]? = some o ∧ softO E o = true ∧ ocls E o = c) →
        Sim w0 B pv S' ρ' ((⟨ovl ops sq X b (e1 - b), rx E sq m' e1, (sq 0).nt⟩ : St).putO o.dst v) a' w' → GlOk E pv S' w' → Grew B S S' →
        (∀ j, ρ j = none → ¬ ((rid * 256 + i) * 4 ≤ j ∧ j < (rid * 256 + i) * 4 + 4) → ρ' j = none) → K a' w' := fun S' ρ' a' w' v m' hv n1 n3 n4 n5 hs' hgl' hS' hk => by
      refine hK S' ρ' a' w' ⟨b, m', e1, hbe, n1, hen, fun j hj => by rw [hX', if_neg (by omega)]; exact hX1 j hj, fun j hj => by rw [hX', if_neg (by omega)]; exact hX2 j hj, hq, heff, n3, n4, n5, ?_, hgl', hρ' ρ' hk, hcl', hS.trans hS'⟩
      refine hs'.slotsEq (fun t => ?_) (putO_row (⟨ovl ops sq X b (e1 - b), rx E sq m' e1, (sq 0).nt⟩ : St) o.dst v).1.symm (putO_row (⟨ovl ops sq X b (e1 - b), rx E sq m' e1, (sq 0).nt⟩ : St) o.dst v).2.symm
      rw [putO_slot]
      exact hovl v hv t
    cases hso : softO E o with
    | false =>
      -- no cursor is changed
      obtain ⟨ssub, sout, scur⟩ := hsr.1 hso
      have n3 : ∀ j p, b ≤ j → j < m (ocls E p) → ops[j]? = some p → softO E p = true → X' j = true := fun j p a c d e => by
        rw [hX']; split
        · rfl
        · exact hm1 j p a c d e
      have n4 : ∀ j p, m (ocls E p) ≤ j → ops[j]? = some p → softO E p = true → X' j = false := fun j p a d e => by
        rw [hX', if_neg (by rintro rfl; rw [ho] at d; cases d; rw [hso] at e; cases e)]
        exact hm2 j p a d e
      obtain ⟨hd, ⟨hw, u, hop, hsu⟩ | ⟨hw, hsu⟩⟩ := hstep
      · have hwX := wantY_congr (s' := (⟨ovl ops sq X b (e1 - b), rx E sq m e1, (sq 0).nt⟩ : St)) hlooks hw
        rw [if_pos (want_y hs hwX)]
        obtain ⟨hnews, hfz, _, _, hquiet, _, hnc⟩ := hop.upd
        obtain ⟨happ, hsto⟩ := hquiet hqi hso
        have hev : ∀ x ∈ o.op.operands, ev E (⟨ovl ops sq X b (e1 - b), rx E sq m e1, (sq 0).nt⟩ : St) x = ev E (sq i) x := fun x hx => by
          cases x with
          | tmp t =>
            refine hlooks t (List.mem_append_left _ (List.mem_filterMap.2 ⟨.tmp t, by simpa using hx, rfl⟩))
          | _ => rfl
        have hopX : AOpS E (clG (clM E.so true ops o) G) true o ((rid * 256 + i) * 4) (ev E (⟨ovl ops sq X b (e1 - b), rx E sq m e1, (sq 0).nt⟩ : St)) (rx E sq m e1) u := by
          rcases hop with ⟨hE0, hop⟩ | ⟨hE1, ⟨hf, _⟩ | ⟨hf, hb, u0, hop, hu⟩ | ⟨hf, hb, hop, hu⟩⟩
          · have hme' : ∀ c, m c = e1 := fun c => by
              rcases hm3 c with e | ⟨p, _, e, _⟩
              · exact e
              · simp [softO, hE0] at e
            refine .inl ⟨hE0, hop.mono hev fun id r hr => ?_⟩
            obtain ⟨r', h5, h6⟩ := hseg id r hr
            rcases h6 with rfl | h6
            · show rx E sq m e1 id = some r'
              rw [rx_self E sq hme']; exact h5
            · rw [hE0] at h6; cases h6.2.2
          · simp [softO, hE1, hf] at hso
          · exact .inr ⟨hE1, .inr (.inl ⟨hf, hb, u0, hop.mono hev (rx_hide hseg), hu⟩)⟩
          · exact .inr ⟨hE1, .inr (.inr ⟨hf, hb, hop.mono hev (rx_hide hseg), hu⟩)⟩
        have happly : ∀ s : St, s.apply o.dst u = (s.setRows u.news).putO o.dst u.v := fun s => by
          unfold St.apply
          rw [hfz, happ, hsto]
          rfl
        refine .inl (step_okS hE (hG.cl _) hs hgl (by rw [← nt_eq hsq i (by omega)]; exact hd) hid hopX fun S' ρ' a' w' hs' hgl' hS' hk => ?_)
        rw [happly, setRows_same fun p hp => ?_] at hs'
        · refine fin S' ρ' a' w' u.v m (fun t => ?_) hmm n3 n4 hm3 hs' hgl' hS' hk
          rw [hsu, happly, putO_slot, (setRows_nt _ _).2]
        · have h9 : (sq (i + 1)).row p.1 = some p.2 := by
            rw [hsu, happly, (putO_row _ _ _).1]
            exact ((hnews (sq i)).1 p hp).1
          obtain ⟨r', h5, h6⟩ := hseg1 _ _ h9
          show rx E sq m e1 p.1 = some p.2
          rcases h6 with rfl | h6
          · cases hE0 : E.so with
            | false =>
              have hme' : ∀ c, m c = e1 := fun c => by
                rcases hm3 c with e | ⟨p, _, e, _⟩
                · exact e
                · simp [softO, hE0] at e
              rw [rx_self E sq hme']; exact h5
            | true => exact rx_non h5 (noCur_mem (hnc hE0) p hp)
          · rw [noCur_mem (hnc h6.2.2) p hp] at h6
            cases h6.1
      · have hwX := wantN_congr (s' := (⟨ovl ops sq X b (e1 - b), rx E sq m e1, (sq 0).nt⟩ : St)) hlooks hw
        rw [want_n hs hwX]
        refine fin S ρ _ w undefV m (fun t => ?_) hmm n3 n4 hm3 (hs.put (dst_lt (by rw [← nt_eq hsq i (by omega)]; exact hd)) vr_undef) hgl (Grew.refl _ _) (fun j hj _ => hj)
        rw [hsu, putO_slot]
    | true =>
      -- a cursor's call: it is the next one
      have him : m (ocls E o) = i := by
        apply Classical.byContradiction
        intro hne
        by_cases hlt' : i < m (ocls E o)
        · rw [hm1 i o hbi hlt' ho hso] at hi; cases hi
        · rcases hm3 (ocls E o) with e | ⟨p, hp, hsp, hcp⟩
          · omega
          · have := hSo i _ o p ho hp hso hsp hcp.symm (fun e => hne e.symm)
            rw [Nat.max_eq_left (by omega), Nat.min_eq_right (by omega)] at this
            have h5 := hpre _ this
            rw [hm2 _ p (by rw [hcp]; exact Nat.le_refl _) hp hsp] at h5
            cases h5
      have heq : i + 1 + (e1 - (i + 1)) = e1 := by clear hm1 hm2 hm3 hmm; omega
      obtain ⟨mn, p1, p2, p3, p4⟩ := nextSoft (E := E) (ops := ops) (ocls E o) (e1 - (i + 1)) (i + 1) (by omega)
      rw [heq] at p2 p4
      have hEs : E.so = true := by simp [softO] at hso; exact hso.1
      have hmc : ∀ c, (if c = ocls E o then mn else m c) = if c = ocls E o then mn else m c := fun _ => rfl
      have n1 : ∀ c, b ≤ (if c = ocls E o then mn else m c) ∧ (if c = ocls E o then mn else m c) ≤ e1 := fun c => by
        split
        · exact ⟨by omega, p2⟩
        · exact hmm c
      have n3 : ∀ j p, b ≤ j → j < (if ocls E p = ocls E o then mn else m (ocls E p)) → ops[j]? = some p → softO E p = true → X' j = true := fun j p a c d e => by
        rw [hX']
        split
        · rfl
        · split at c
          · rename_i hcl
            by_cases hj : j < i
            · exact hm1 j p a (by rw [hcl, him]; exact hj) d e
            · exact absurd hcl (p3 j p (by omega) c d e)
          · exact hm1 j p a c d e
      have n4 : ∀ j p, (if ocls E p = ocls E o then mn else m (ocls E p)) ≤ j → ops[j]? = some p → softO E p = true → X' j = false := fun j p a d e => by
        split at a
        · rename_i hcl
          rw [hX', if_neg (by omega)]
          exact hm2 j p (by rw [hcl, him]; omega) d e
        · rename_i hcl
          rw [hX', if_neg (by rintro rfl; rw [ho] at d; cases d; exact hcl rfl)]
          exact hm2 j p a d e
      have n5 : ∀ c, (if c = ocls E o then mn else m c) = e1 ∨ ∃ p, ops[(if c = ocls E o then mn else m c)]? = some p ∧ softO E p = true ∧ ocls E p = c := fun c => by
        by_cases hc : c = ocls E o
        · simp only [if_pos hc]
          exact p4.imp _root_.id fun ⟨p, a, d, e⟩ => ⟨p, a, d, e.trans hc.symm⟩
        · simp only [if_neg hc]
          exact hm3 c
      have hsegn := (seg_rows hsq h0 hen hq (show b ≤ i + 1 by omega) (mn - (i + 1)) (by omega)).2.2.2
      rw [show i + 1 + (mn - (i + 1)) = mn by omega] at hsegn
      -- the rows afterwards
      have hrows : ∀ R : Nat → Option Row, (∀ id, rcls E id = ocls E o → R id = (sq (i + 1)).row id ∨ (R id = rx E sq m e1 id ∧ (sq (i + 1)).row id = (sq i).row id)) → (∀ id, rcls E id ≠ ocls E o → R id = rx E sq m e1 id) → (∀ id r, (sq e1).row id = some r → hidR E id r = false → R id = some r) → (∀ id, (sq e1).row id = none → R id = none) → R = rx E sq (fun c => if c = ocls E o then mn else m c) e1 := fun R hR hRo hR2 hR3 => by
        funext id
        cases he : (sq e1).row id with
        | none => rw [rx_none he]; exact hR3 id he
        | some r =>
          cases hc : hidR E id r with
          | false => rw [rx_non he hc]; exact hR2 id r he hc
          | true =>
            rw [rx_cur he hc]
            by_cases hcl : rcls E id = ocls E o
            · rw [if_pos hcl]
              obtain ⟨r1, h5, h6⟩ := hcur1 hEs id r he hc
              rw [hsegn id (fun j p a c d e => by rw [hcl]; exact p3 j p a c d e) r1 h5]
              rcases hR id hcl with e | ⟨e1', e2'⟩
              · rw [e, h5]
              · rw [e1', rx_cur he hc, hcl, him, ← e2', h5]
            · rw [if_neg hcl, hRo id hcl, rx_cur he hc]
      obtain ⟨hd, ⟨hw, u, hop, hsu⟩ | ⟨hw, hsu⟩⟩ := hstep
      · have hwX := wantY_congr (s' := (⟨ovl ops sq X b (e1 - b), rx E sq m e1, (sq 0).nt⟩ : St)) hlooks hw
        rw [if_pos (want_y hs hwX)]
        have hev : ∀ x ∈ o.op.operands, ev E (⟨ovl ops sq X b (e1 - b), rx E sq m e1, (sq 0).nt⟩ : St) x = ev E (sq i) x := fun x hx => by
          cases x with
          | tmp t =>
            refine hlooks t (List.mem_append_left _ (List.mem_filterMap.2 ⟨.tmp t, by simpa using hx, rfl⟩))
          | _ => rfl
        have hsf : softB E o = true := by simp [softO] at hso; exact hso.2
        obtain ⟨hop0, hU⟩ : AOp0 E (clG (clM E.so true ops o) G) false o ((rid * 256 + i) * 4) (ev E (sq i)) (hideO E (ocls E o) (sq i).row) u ∧ softU E o (sq i).row u = true := by
          rcases hop with ⟨hE0, _⟩ | ⟨_, ⟨_, h5, h6⟩ | ⟨hf, _⟩ | ⟨hf, _⟩⟩
          · rw [hEs] at hE0; cases hE0
          · exact ⟨h5, h6⟩
          · rw [hsf] at hf; cases hf
          · rw [hsf] at hf; cases hf
        obtain ⟨u1, u2, u3, j, rj, rj', u4, u5, u6, u7, u8⟩ := softU_eq hU
        obtain ⟨r1, hj1, hj2⟩ := hseg j rj u5
        have hj1h : hidR E j r1 = true := by
          rcases hj2 with rfl | hj2
          · exact u7
          · exact hj2.2.1
        have hrxj : rx E sq m e1 j = some rj := by rw [rx_cur hj1 hj1h, u6, him]; exact u5
        have hUx : softU E o (rx E sq m e1) u = true := by
          unfold softU
          rw [u1, u2, u3, u4]
          simp only [hrxj, u6, u7, u8, Bool.and_true, Nat.beq_refl]
        have hopX : AOpS E (clG (clM E.so true ops o) G) true o ((rid * 256 + i) * 4) (ev E (⟨ovl ops sq X b (e1 - b), rx E sq m e1, (sq 0).nt⟩ : St)) (rx E sq m e1) u :=
          .inr ⟨hEs, .inl ⟨hsf, hop0.mono hev (rx_hideO hseg him), hUx⟩⟩
        have happly : ∀ s : St, s.apply o.dst u = (s.setRow j rj').putO o.dst u.v := fun s => by
          unfold St.apply
          rw [u1, u2, u3, u4]
          rfl
        have hsuj : ∀ id, (sq (i + 1)).row id = if id = j then some rj' else (sq i).row id := fun id => by
          rw [hsu, happly, (putO_row _ _ _).1, setRow_row]
        refine .inl (step_okS hE (hG.cl _) hs hgl (by rw [← nt_eq hsq i (by omega)]; exact hd) hid hopX fun S' ρ' a' w' hs' hgl' hS' hk => ?_)
        rw [happly] at hs'
        have hR : ((⟨ovl ops sq X b (e1 - b), rx E sq m e1, (sq 0).nt⟩ : St).setRow j rj').row = rx E sq (fun c => if c = ocls E o then mn else m c) e1 := by
          refine hrows _ (fun id _ => ?_) (fun id hcl => ?_) (fun id r h5 h6 => ?_) (fun id h5 => ?_)
          · rw [setRow_row, hsuj]
            by_cases e : id = j
            · rw [if_pos e, if_pos e]; exact .inl rfl
            · rw [if_neg e, if_neg e]; exact .inr ⟨rfl, rfl⟩
          · rw [setRow_row, if_neg (by rintro rfl; exact hcl u6)]
          · rw [setRow_row, if_neg (by rintro rfl; rw [hj1] at h5; cases h5; rw [hj1h] at h6; cases h6)]
            exact rx_non h5 h6
          · rw [setRow_row, if_neg (by rintro rfl; rw [hj1] at h5; cases h5)]
            exact rx_none h5
        refine fin S' ρ' a' w' u.v _ (fun t => ?_) n1 n3 n4 n5 (hs'.slotsEq (fun t => (by rw [putO_slot, putO_slot]; rfl)) (by rw [(putO_row _ _ _).1, (putO_row _ _ _).1, hR]) (by rw [(putO_row _ _ _).2, (putO_row _ _ _).2]; rfl)) hgl' hS' hk
        rw [hsu, happly, putO_slot]; rfl
      · have hwX := wantN_congr (s' := (⟨ovl ops sq X b (e1 - b), rx E sq m e1, (sq 0).nt⟩ : St)) hlooks hw
        rw [want_n hs hwX]
        have hsame : ∀ id, (sq (i + 1)).row id = (sq i).row id := fun id => by rw [hsu, (putO_row _ _ _).1]
        have hR : rx E sq m e1 = rx E sq (fun c => if c = ocls E o then mn else m c) e1 := hrows _ (fun id _ => .inr ⟨rfl, hsame id⟩) (fun id _ => rfl) (fun id r h5 h6 => rx_non h5 h6) (fun id h5 => rx_none h5)
        rw [hR] at hs
        refine fin S ρ _ w undefV _ (fun t => ?_) n1 n3 n4 n5 (hs.put (dst_lt (by rw [← nt_eq hsq i (by omega)]; exact hd)) vr_undef) hgl (Grew.refl _ _) (fun j hj _ => hj)
        rw [hsu, putO_slot]
  · -- the operation that ends the stretch
    obtain ⟨oe, hoe, hee⟩ : ∃ o, ops[e1]? = some o ∧ effS E o = true := by
      rcases heff with h1 | h1
      · omega
      · exact h1
    have hie : i = e1 := by
      apply Classical.byContradiction
      intro hne
      rcases hO.ord e1 i oe o hoe ho (fun h => hne h.symm) with h1 | ⟨h1, _⟩
      · rw [Nat.max_eq_right (by omega), Nat.min_eq_left (by omega)] at h1
        have := hpre e1 h1
        rw [hX2 e1 (Nat.le_refl _)] at this
        cases this
      · rw [hee] at h1; cases h1
    subst hie
    rw [ho] at hoe
    cases hoe
    have hall : ∀ j, j < i → X j = true := fun j hj => by
      have hoj : ops[j]? = some ops[j] := Array.getElem?_eq_getElem (by omega)
      rcases hO.ord i j o _ ho hoj (by omega) with h1 | ⟨h1, _⟩
      · rw [Nat.max_eq_left (by omega), Nat.min_eq_right (by omega)] at h1
        exact hpre j h1
      · rw [hee] at h1; cases h1
    have hmi : ∀ c, m c = i := fun c => by
      rcases hm3 c with e | ⟨p, hp, hsp, hcp⟩
      · exact e
      · apply Classical.byContradiction
        intro hne
        have := hm2 (m c) p (by rw [hcp]; exact Nat.le_refl _) hp hsp
        rw [hall (m c) (by have := (hmm c).2; omega)] at this
        cases this
    rw [rx_self E sq hmi] at hs
    have hs2 : Sim w0 B pv S ρ (sq i) a w := hs.slotsEq (fun t => by
      have := ovl_seq (ops := ops) (sq := sq) (X := X) (b := b) (t := t) (m := i - b) fun j hj1 hj2 => by
        have hoj : ops[j]? = some ops[j] := Array.getElem?_eq_getElem (by omega)
        exact ⟨_, hoj, fun _ => hall j (by omega), fun hd => seg_slot hsq h0 hen hq hj1 (by omega) hoj t hd⟩
      rw [show b + (i - b) = i by omega] at this
      exact this.symm) rfl (nt_eq hsq i (by omega))
    have fin : ∀ S' ρ' a' w', Sim w0 B pv S' ρ' (sq (i + 1)) a' w' → GlOk E pv S' w' → Grew B S S' → (∀ j, ρ j = none → ¬ ((rid * 256 + i) * 4 ≤ j ∧ j < (rid * 256 + i) * 4 + 4) → ρ' j = none) → K a' w' := fun S' ρ' a' w' hs' hgl' hS' hk =>
      hK S' ρ' a' w' (startSeg hsq h0 (b := i + 1) (by omega) (fun j hj => by
        rw [hX']
        split
        · rfl
        · exact hall j (by omega)) (fun j hj => by rw [hX', if_neg (by omega)]; exact hX2 j (by omega)) hs' hgl' (hρ' ρ' hk) hcl' (hS.trans hS'))
    obtain ⟨hd, ⟨hw, u, hop, hsu⟩ | ⟨hw, hsu⟩⟩ := hstep
    · rw [if_pos (want_y hs2 hw)]
      refine .inl (step_okS hE (hG.cl _) hs2 hgl hd hid hop fun S' ρ' a' w' hs' hgl' hS' hk => ?_)
      rw [← hsu] at hs'
      exact fin S' ρ' a' w' hs' hgl' hS' hk
    · rw [want_n hs2 hw]
      refine fin S ρ _ w ?_ hgl (Grew.refl _ _) (fun j hj _ => hj)
      rw [hsu]
      exact hs2.put (dst_lt hd) vr_undef
end
end Go.Gx
end
section
/- Regions. -/
namespace Go.Gx
open Go.RowKit
set_option linter.unusedVariables false
set_option linter.unusedSimpArgs false
theorem count_set {l : List Bool} : ∀ {i : Nat}, l[i]? = some false → (l.set i true).count false + 1 = l.count false := by
  induction l with
  | nil => intro i h; simp at h
  | cons b l ih =>
    intro i h
    cases i with
    | zero =>
      simp only [List.getElem?_cons_zero, Option.some.injEq] at h
      subst h
      simp
    | succ i =>
      have := ih (i := i) (by simpa using h)
      simp only [List.set_cons_succ, List.count_cons]
      omega
section
variable {P : Program} {E : Env} {w0 : World} {B : Old} {pv : Nat → Value} {G : Cal → List AV → AV → Prop} {Q : Exit → Act → World → Prop} {ops : Array Oper} {rid : Nat} {S0 : Nat → Prop} {sq : Nat → St} {pre : Nat → Nat → Prop}
theorem any_ok (hE : EnvOk P E) (hG : GOk P E pv G) (hO : Ordered E ops pre) (hSo : ∀ i j o p, ops[i]? = some o → ops[j]? = some p → softO E o = true → softO E p = true → ocls E o = ocls E p → i ≠ j → pre (max i j) (min i j)) (hsq : ∀ i o, ops[i]? = some o → StepR E G ops rid i o (sq i) (sq (i + 1))) (h0 : ∀ k, k < ops.size → ∀ id, Site rid k id → (sq 0).row id = none) (hn : ops.size ≤ 256)
    (hQ : ∀ S' ρ' a' w', Sim w0 B pv S' ρ' (sq ops.size) a' w' → GlOk E pv S' w' → Grew B S0 S' → Q .normal a' w') :
    ∀ (fuel : Nat) (listed : Array Bool) (S : Nat → Prop) (ρ : Nat → Option Loc) (a : Act) (w : World), listed.size = ops.size → listed.toList.count false ≤ fuel → Inv E w0 B pv ops rid S0 sq (fun i => listed.getD i false) S ρ a w → wpAny P .any ops Q fuel listed a w := by
  have done : ∀ (listed : Array Bool) (S : Nat → Prop) (ρ : Nat → Option Loc) (a : Act) (w : World), Inv E w0 B pv ops rid S0 sq (fun i => listed.getD i false) S ρ a w → (∀ i, i < ops.size → listed.getD i false = true) → Q .normal a w := fun listed S ρ a w h hall => by
    obtain ⟨b, m, e1, hbe, hmm, hen, hX1, hX2, hq, heff, hm1, hm2, hm3, hs, hgl, hρ, hcl, hS⟩ := h
    have he : e1 = ops.size := by
      apply Classical.byContradiction
      intro hne
      have : listed.getD e1 false = false := hX2 e1 (Nat.le_refl _)
      rw [hall e1 (by omega)] at this
      cases this
    subst he
    have hms : ∀ c, m c = ops.size := fun c => by
      rcases hm3 c with e | ⟨p, hp, hsp, hcp⟩
      · exact e
      · have : listed.getD (m c) false = false := hm2 (m c) p (by rw [hcp]; exact Nat.le_refl _) hp hsp
        rw [hall (m c) (Array.getElem?_eq_some_iff.1 hp).1] at this
        cases this
    rw [rx_self E sq hms] at hs
    refine hQ S ρ a w (hs.slotsEq (fun t => ?_) rfl (nt_eq hsq _ (Nat.le_refl _))) hgl hS
    have := ovl_seq (ops := ops) (sq := sq) (X := fun i => listed.getD i false) (b := b) (t := t) (m := ops.size - b) fun j hj1 hj2 => by
      have hoj : ops[j]? = some ops[j] := Array.getElem?_eq_getElem (by omega)
      exact ⟨_, hoj, fun _ => hall j (by omega), fun hd => seg_slot hsq h0 hen hq hj1 (by omega) hoj t hd⟩
    rw [show b + (ops.size - b) = ops.size by omega] at this
    exact this.symm
  have stuck : ∀ (listed : Array Bool), listed.size = ops.size → Region.ready .any ops listed = [] → ∀ i, i < ops.size → listed.getD i false = true := fun listed hsz hr i => by
    induction i using Nat.strongRecOn with
    | _ i ih =>
      intro hi
      apply Classical.byContradiction
      intro hne
      have hoi : ops[i]? = some ops[i] := Array.getElem?_eq_getElem hi
      have hmem : i ∈ Region.ready .any ops listed := by
        rw [mem_ready]
        refine ⟨?_, ops[i], hoi, fun e he hb => ?_⟩
        · have hlt : i < listed.size := by omega
          rw [Array.getD_eq_getD_getElem?, Array.getElem?_eq_getElem hlt] at hne ⊢
          simpa using hne
        · have := hO.lt i _ hoi e he hb
          exact ih e.on this (by omega)
      rw [hr] at hmem
      cases hmem
  intro fuel
  induction fuel with
  | zero =>
    intro listed S ρ a w hsz hc hI
    have hall : ∀ i, i < ops.size → listed.getD i false = true := fun i hi => by
      have hlt : i < listed.size := by omega
      rw [Array.getD_eq_getD_getElem?, Array.getElem?_eq_getElem hlt]
      cases hb : listed[i] with
      | true => rfl
      | false =>
        have hm : false ∈ listed.toList := by rw [← hb]; exact Array.getElem_mem_toList hlt
        have := List.count_pos_iff.2 hm
        omega
    refine ⟨?_, done listed S ρ a w hI hall⟩
    apply List.eq_nil_iff_forall_not_mem.2
    intro i hi
    rw [mem_ready] at hi
    obtain ⟨h1, o, ho, _⟩ := hi
    have hlt : i < listed.size := by have := (Array.getElem?_eq_some_iff.1 ho).1; omega
    have := hall i (by omega)
    rw [Array.getD_eq_getD_getElem?, Array.getElem?_eq_getElem hlt] at this h1
    simp at this h1
    rw [this] at h1
    cases h1
  | succ fuel ih =>
    intro listed S ρ a w hsz hc hI
    refine ⟨fun hr => done listed S ρ a w hI (stuck listed hsz hr), fun i hi => ?_⟩
    rw [mem_ready] at hi
    obtain ⟨h1, o, ho, hall⟩ := hi
    have hlt : i < listed.size := by have := (Array.getElem?_eq_some_iff.1 ho).1; omega
    have hli : listed[i] = false := by
      rw [Array.getD_eq_getD_getElem?, Array.getElem?_eq_getElem hlt] at h1
      simpa using h1
    refine inv_step hE hG hO hSo hsq h0 hn hI ho ?_ hall (X' := fun j => (listed.setIfInBounds i true).getD j false) (fun j => ?_) fun S' ρ' a' w' hI' => ih _ S' ρ' a' w' (by simpa using hsz) ?_ hI'
    · rw [Array.getD_eq_getD_getElem?, Array.getElem?_eq_getElem hlt, hli]
      rfl
    · rw [Array.getD_eq_getD_getElem?, Array.getD_eq_getD_getElem?, Array.getElem?_setIfInBounds]
      by_cases e : j = i
      · subst e; simp [hlt]
      · rw [if_neg (fun h => e h.symm), if_neg e]
    · have := count_set (l := listed.toList) (i := i) (by rw [Array.getElem?_toList, Array.getElem?_eq_getElem hlt, hli])
      rw [Array.toList_setIfInBounds]
      omega
theorem soOk_ord {E : Env} {ops : Array Oper} (h : E.so = true → soOk E ops = true) : ∀ i j o p, ops[i]? = some o → ops[j]? = some p → softO E o = true → softO E p = true → ocls E o = ocls E p → i ≠ j → ((Region.before ops).toList.getD (max i j) 0).testBit (min i j) = true := fun i j o p hi hj h1 h2 hcl hne => by
  simp only [softO, Bool.and_eq_true] at h1 h2
  have h := h h1.1
  unfold soOk at h
  simp only [List.all_eq_true, List.mem_range] at h
  have h3 := h i (Array.getElem?_eq_some_iff.1 hi).1
  rw [hi] at h3
  simp only [h1.2, Bool.not_true, Bool.false_or, List.all_eq_true, List.mem_range] at h3
  have h4 := h3 j (Array.getElem?_eq_some_iff.1 hj).1
  rw [hj] at h4
  simp only [h2.2, hcl, Nat.beq_refl, Bool.not_true, Bool.false_or, inOrder, Bool.or_eq_true] at h4
  exact h4.resolve_left fun e => hne (Nat.eq_of_beq_eq_true e)
theorem region_ok (hE : EnvOk P E) (hG : GOk P E pv G) {dr : Bool} (hn : ops.size ≤ 256) (hm : rid * 1024 + 1024 ≤ mbase) (hdr : dr = true → drawOk E ops = true) (hso : dr = true → E.so = true → soOk E ops = true) {S : Nat → Prop} {ρ : Nat → Option Loc} {st st' : St} {a : Act} {w : World}
    (hr : RunR E G dr ops rid ops.toList 0 (st.kill (rid * 1024) (rid * 1024 + 1024)) st') (hs : Sim w0 B pv S ρ st a w) (hgl : GlOk E pv S w)
    (hQ : ∀ S' ρ' a' w', Sim w0 B pv S' ρ' st' a' w' → GlOk E pv S' w' → Grew B S S' → Q .normal a' w') : (Code.region rid ops dr).wp P Q a w := by
  have hk := hs.kill (rid * 1024) (rid * 1024 + 1024) (by
    unfold inR
    rw [Bool.and_eq_false_iff]
    refine .inr ?_
    cases hb : Nat.blt mbase (rid * 1024 + 1024) with
    | false => rfl
    | true => have := Nat.le_of_ble_eq_true hb; omega)
  have hin : ∀ k, k < 256 → ∀ id, Site rid k id → inR (rid * 1024) (rid * 1024 + 1024) id = true := fun k hk id hsite => by
    unfold Site at hsite
    simp only [inR, Bool.and_eq_true, Nat.blt, Nat.ble_eq]
    omega
  have hkn : ∀ k, k < 256 → ∀ id, Site rid k id → killL (rid * 1024) (rid * 1024 + 1024) ρ id = none := fun k hk id hsite => by
    unfold killL; rw [hin k hk id hsite]; rfl
  cases dr with
  | false =>
    refine wp_region_list (seq_ok hE hG hr hk hgl (fun k _ hk2 c hc => hkn k (by simp at hk2; omega) _ (by unfold Site; omega)) fun S' ρ' a' w' h1 h2 h3 => hQ S' ρ' a' w' h1 h2 h3)
  | true =>
    have hO := drawOk_ordered (hdr rfl)
    obtain ⟨sq, h1, h2, h3⟩ := trace hr
    simp only [Nat.zero_add, Array.length_toList] at h2 h3
    have hsq : ∀ i o, ops[i]? = some o → StepR E G ops rid i o (sq i) (sq (i + 1)) := fun i o ho => h3 i o (by simpa using ho)
    have h0 : ∀ k, k < ops.size → ∀ id, Site rid k id → (sq 0).row id = none := fun k hk id hsite => by
      rw [h1]
      exact killR_in (hin k (by omega) id hsite)
    refine wp_region_any hE.mixed (any_ok (S0 := S) hE hG hO (soOk_ord fun h => hso rfl h) hsq h0 hn (by rw [h2]; exact hQ) ops.size _ S (killL (rid * 1024) (rid * 1024 + 1024) ρ) a _ (by simp) (by simp) ?_)
    have hdrew := hk.drew
    rw [← h1] at hdrew
    have hX : ∀ i, (Array.replicate ops.size false).getD i false = false := fun i => by
      rw [Array.getD_eq_getD_getElem?]
      by_cases hi : i < ops.size
      · simp [hi]
      · simp [hi]
    refine startSeg hsq h0 (b := 0) (Nat.zero_le _) (fun i hi => absurd hi (Nat.not_lt_zero i)) (fun i _ => hX i) hdrew (hgl.mono (fun _ h => h) fun _ _ => rfl) (fun i hi _ id hsite => hkn i (by omega) id hsite) (fun i o _ hx => ?_) (Grew.refl _ _)
    have hx : (Array.replicate ops.size false).getD i false = true := hx
    rw [hX i] at hx
    cases hx
end
end Go.Gx
end
section
/- A region whose order is open: its appends stand in order to each other, all else floats. -/
namespace Go.Gx
open Go.RowKit
set_option linter.unusedVariables false
set_option linter.unusedSimpArgs false
def StepF (E : Env) (G : Cal → List AV → AV → Prop) (ops : Array Oper) (rid i : Nat) (o : Oper) (s s' : St) : Prop :=
  dstOk o s.nt = true ∧ o.guard = none ∧ ((hardO ops o = true ∧ ∃ u, AOp E G false o ((rid * 256 + i) * 4) (ev E s) s.row u ∧ (apB ops = true ∨ u.app = none) ∧ s' = s.apply o.dst u) ∨
    (hardO ops o = false ∧ ∃ u v, AOp0 E G true o ((rid * 256 + i) * 4) (ev E s) (rowF ops i s.row) u ∧ fltU o u = some v ∧ flatW (apB ops) v = true ∧ s' = s.putO o.dst v))
theorem runFl_rel {R : Type} {r : R} {E : Env} {C : Orc} {G : Cal → List AV → AV → Prop} (hC : OrcIs C G) {ops : Array Oper} {rid : Nat} : ∀ (l : List Oper) (i : Nat) (st : St) {K : St → Option R}, runFl E C ops rid l i st K = some r →
    ∃ sq : Nat → St, sq i = st ∧ (∀ k o, l[k]? = some o → StepF E G ops rid (i + k) o (sq (i + k)) (sq (i + k + 1))) ∧ K (sq (i + l.length)) = some r
  | [], i, st, K, h => ⟨fun _ => st, rfl, fun k o h => by simp at h, h⟩
  | o :: l, i, st, K, h => by
    have go : ∀ s1, StepF E G ops rid i o st s1 → runFl E C ops rid l (i + 1) s1 K = some r → ∃ sq : Nat → St, sq i = st ∧ (∀ k o', (o :: l)[k]? = some o' → StepF E G ops rid (i + k) o' (sq (i + k)) (sq (i + k + 1))) ∧ K (sq (i + (o :: l).length)) = some r := fun s1 h1 h2 => by
      obtain ⟨sq, h3, h5, h4⟩ := runFl_rel hC l (i + 1) s1 h2
      refine ⟨fun j => if j = i then st else sq j, by simp, fun k o' hk => ?_, ?_⟩
      · cases k with
        | zero =>
          simp only [List.getElem?_cons_zero, Option.some.injEq] at hk
          subst hk
          simp only [Nat.add_zero, if_true]
          rw [if_neg (by omega), h3]
          exact h1
        | succ k =>
          have := h5 k o' (by simpa using hk)
          show StepF E G ops rid (i + (k + 1)) o' (if i + (k + 1) = i then st else sq (i + (k + 1))) (if i + (k + 1) + 1 = i then st else sq (i + (k + 1) + 1))
          rw [if_neg (by omega), if_neg (by omega)]
          rw [show i + (k + 1) = i + 1 + k by omega]
          exact this
      · show K (if i + (o :: l).length = i then st else sq (i + (o :: l).length)) = some r
        rw [if_neg (by simp), ← h4, List.length_cons]
        congr 2
        omega
    unfold runFl at h
    split at h
    · rename_i hd hg
      split at h
      · rename_i hh
        obtain ⟨u, h1, h2⟩ := aop_rel hC h
        obtain ⟨ha, h2⟩ := cond_some h2
        simp only [Bool.or_eq_true, Option.isNone_iff_eq_none] at ha
        exact go _ ⟨hd, hg, .inl ⟨hh, u, h1, ha, rfl⟩⟩ h2
      · rename_i hh
        obtain ⟨u, h1, h2⟩ := aop0_rel hC h
        split at h2
        · rename_i v hv
          obtain ⟨hf, h2⟩ := cond_some h2
          exact go _ ⟨hd, hg, .inr ⟨hh, u, v, h1, hv, hf, rfl⟩⟩ h2
        · cases h2
    · cases h
theorem step_flt {P : Program} {E : Env} {w0 : World} {B : Old} {pv : Nat → Value} {S : Nat → Prop} {ρ : Nat → Option Loc} {st : St} {a : Act} {w : World} {o : Oper} {id : Nat} {K : Act → World → Prop} {Q : Exit → Act → World → Prop}
    (hE : EnvOk P E) {G : Cal → List AV → AV → Prop} (hG : GOk P E pv G) (hs : Sim w0 B pv S ρ st a w) (hgl : GlOk E pv S w) (hd : dstOk o st.nt = true) (hid : ∀ c, c < 4 → ρ (id + c) = none) {u : Upd} {v : AV}
    (h : AOp0 E G true o id (ev E st) st.row u) (hu : fltU o u = some v) (hK : Nx E w0 B pv S ρ st o.dst (quiet v) id K) : o.wp P a w K Q := by
  unfold fltU at hu
  split at hu
  · rename_i hb
    split at hu
    · rename_i u' hu'
      cases hu
      have h0 : ρ id = none := by simpa using hid 0 (by omega)
      obtain ⟨i, j, e, τ', xs', rfl, rfl⟩ := plainU_eq hu'
      obtain ⟨dst, op, type, pos, after, guard⟩ := o
      cases op <;> simp only [isBS] at hb <;> try cases hb
      unfold AOp0 at h
      obtain ⟨τ, fs, xs, hτ, hon, hn, hfs, hxs, hep, _, hu⟩ := h
      injection hu with h1 h2 h3 h4 h5
      have hids : idsL fs = [] := h3.symm
      injection h2 with h2 _
      injection h2 with _ h2
      injection h2 with _ hτ' hxs' _ _
      subst hτ'
      have hxs' := eq_of_heq hxs'
      subst hxs'
      exact step_buildSliceP hE hs hgl hd h0 rfl hτ hon hn hfs hxs hep hids hK
    · cases hu
  · obtain ⟨uv, news, frz, app, sto⟩ := u
    simp only at hu
    split at hu
    · cases hu
      exact step_ok0 hE hG hs hgl hd hid h hK
    · cases hu
theorem flatV_id {v : AV} (h : flatV v = true) (lo hi : Nat) : killA lo hi v = v := by
  have : hasId lo hi v = false := by
    unfold flatV at h
    split at h
    · rfl
    · split at h
      · rfl
      · cases h
    · rfl
    · split at h
      · rfl
      · cases h
    · cases h
  unfold killA
  rw [this]; rfl
def kz (u : Upd) (a : AV) : AV := match u.app with
  | some (j, _) => killA j (j + 1) a
  | none => a
theorem kz_flat {ap : Bool} {u : Upd} {a : AV} (hf : flatW ap a = true) (ha : ap = true ∨ u.app = none) : kz u a = a := by
  unfold kz
  rcases ha with rfl | ha
  · split
    · exact flatV_id (by simpa [flatW] using hf) _ _
    · rfl
  · rw [ha]
theorem kz_any (u : Upd) : kz u .any = .any := by
  unfold kz
  split <;> rfl
theorem apply_slot (s : St) (d : Option Nat) (u : Upd) (t : Nat) : (s.apply d u).slot t = if d = some t then u.v else kz u (s.slot t) := by
  unfold St.apply
  rw [putO_slot]
  by_cases e : d = some t
  · rw [if_pos e, if_pos e]
  rw [if_neg e, if_neg e]
  have h1 : ((s.freeze u.frz).setRows u.news).slot = s.slot := by rw [(setRows_nt _ _).2, (freeze_slot _ _).1]
  unfold kz
  cases u.sto with
  | none =>
    cases u.app with
    | none => exact congrFun h1 t
    | some p => obtain ⟨j, r⟩ := p; show killA j (j + 1) (((s.freeze u.frz).setRows u.news).slot t) = _; rw [h1]
  | some q =>
    obtain ⟨k', r'⟩ := q
    cases u.app with
    | none => exact congrFun h1 t
    | some p => obtain ⟨j, r⟩ := p; show killA j (j + 1) (((s.freeze u.frz).setRows u.news).slot t) = _; rw [h1]
theorem setRows_cong : ∀ (l : List (Nat × Row)) (s s' : St), s.row = s'.row → (s.setRows l).row = (s'.setRows l).row
  | [], s, s', h => h
  | p :: l, s, s', h => setRows_cong l _ _ (by funext j; rw [setRow_row, setRow_row, h])
theorem apply_cong (s s' : St) (d : Option Nat) (u : Upd) (h : s.row = s'.row) : (s.apply d u).row = (s'.apply d u).row := by
  have h0 : (s.freeze u.frz).row = (s'.freeze u.frz).row := by funext j; rw [freeze_row, freeze_row, h]
  have h1 := setRows_cong u.news _ _ h0
  have hk : ∀ j, (((s.freeze u.frz).setRows u.news).kill j (j + 1)).row = (((s'.freeze u.frz).setRows u.news).kill j (j + 1)).row := fun j => by
    funext id
    show killR j (j + 1) id (((s.freeze u.frz).setRows u.news).row id) = killR j (j + 1) id (((s'.freeze u.frz).setRows u.news).row id)
    rw [h1]
  unfold St.apply
  rw [(putO_row _ _ _).1, (putO_row _ _ _).1]
  cases u.sto with
  | none =>
    cases u.app with
    | none => exact h1
    | some p =>
      obtain ⟨j, r⟩ := p
      show ((((s.freeze u.frz).setRows u.news).kill j (j + 1)).setRow j r).row = ((((s'.freeze u.frz).setRows u.news).kill j (j + 1)).setRow j r).row
      funext id
      rw [setRow_row, setRow_row, hk]
  | some q =>
    obtain ⟨k', r'⟩ := q
    cases u.app with
    | none =>
      show (((s.freeze u.frz).setRows u.news).setRow k' r').row = (((s'.freeze u.frz).setRows u.news).setRow k' r').row
      funext id
      rw [setRow_row, setRow_row, h1]
    | some p =>
      obtain ⟨j, r⟩ := p
      show (((((s.freeze u.frz).setRows u.news).kill j (j + 1)).setRow j r).setRow k' r').row = (((((s'.freeze u.frz).setRows u.news).kill j (j + 1)).setRow j r).setRow k' r').row
      funext id
      rw [setRow_row, setRow_row, setRow_row, setRow_row, hk]
structure Flt (ops : Array Oper) (st0 : St) (pre : Nat → Nat → Prop) : Prop where
  lt : ∀ i o, ops[i]? = some o → ∀ e ∈ o.after, Region.binds .any e = true → e.on < i
  step : ∀ i o j, ops[i]? = some o → pre i j → ∃ e ∈ o.after, Region.binds .any e = true ∧ (e.on = j ∨ pre e.on j)
  hard : ∀ (i j : Nat) (o p : Oper), ops[i]? = some o → ops[j]? = some p → hardO ops o = true → hardO ops p = true → j < i → pre i j
  uniq : ∀ (i j : Nat) (o p : Oper) (d : Nat), ops[i]? = some o → ops[j]? = some p → hardO ops o = false → o.dst = some d → i ≠ j → p.dst ≠ some d
  look : ∀ (i j : Nat) (o p : Oper) (d : Nat), ops[i]? = some o → ops[j]? = some p → hardO ops o = false → o.dst = some d → d ∈ p.looksAt ops → i < j ∧ pre j i
  flo : ∀ (i j : Nat) (o p : Oper) (d : Nat), ops[i]? = some o → ops[j]? = some p → hardO ops o = false → hardO ops p = true → p.dst = some d → d ∈ o.looksAt ops → i < j ∧ pre j i
  outer : ∀ (i : Nat) (o : Oper) (t : Nat), ops[i]? = some o → hardO ops o = false → t ∈ o.looksAt ops → (∃ j : Nat, ∃ p : Oper, ops[j]? = some p ∧ hardO ops p = false ∧ p.dst = some t) ∨ flatW (apB ops) (st0.slot t) = true
theorem fltOk_flt {ops : Array Oper} {st0 : St} (h : fltOk ops st0 = true) : Flt ops st0 fun i j => ((Region.before ops).toList.getD i 0).testBit j = true := by
  unfold fltOk at h
  simp only [List.all_eq_true, List.mem_range] at h
  have row := fun (i : Nat) (o : Oper) (hi : ops[i]? = some o) => by
    have h1 := h i (Array.getElem?_eq_some_iff.1 hi).1
    rw [hi] at h1
    simp only [Bool.and_eq_true, List.all_eq_true, List.mem_range] at h1
    exact h1
  have pair := fun (i j : Nat) (o p : Oper) (hi : ops[i]? = some o) (hj : ops[j]? = some p) => by
    have h1 := (row i o hi).2.1.2 j (Array.getElem?_eq_some_iff.1 hj).1
    rw [hj] at h1
    exact h1
  have hO : ∀ i j, j < i → inOrder (Region.before ops).toList i j = true → ((Region.before ops).toList.getD i 0).testBit j = true := fun i j hlt h1 => by
    unfold inOrder at h1
    simp only [Bool.or_eq_true] at h1
    rcases h1 with h1 | h1
    · have := Nat.eq_of_beq_eq_true h1; omega
    · rwa [Nat.max_eq_left (by omega), Nat.min_eq_right (by omega)] at h1
  have hO' : ∀ i j, i < j → inOrder (Region.before ops).toList i j = true → ((Region.before ops).toList.getD j 0).testBit i = true := fun i j hlt h1 => by
    unfold inOrder at h1
    simp only [Bool.or_eq_true] at h1
    rcases h1 with h1 | h1
    · have := Nat.eq_of_beq_eq_true h1; omega
    · rwa [Nat.max_eq_right (by omega), Nat.min_eq_left (by omega)] at h1
  refine ⟨fun i o hi e he hb => ?_, fun i o j hi hp => ?_, fun i j o p hi hj h1 h2 hlt => ?_, fun i j o p d hi hj h1 hd hne => ?_, fun i j o p d hi hj h1 hd hl => ?_, fun i j o p d hi hj h1 h2 hd hl => ?_, fun i o t hi h1 ht => ?_⟩
  · have := (row i o hi).1 e (by simpa using he)
    rw [hb] at this
    simpa using this
  · rw [Nat.eq_of_beq_eq_true (row i o hi).2.1.1] at hp
    rcases fold_bits _ _ hp with h1 | ⟨e, he, h1⟩
    · simp at h1
    · exact ⟨e, by simpa using he, h1⟩
  · have h3 := pair i j o p hi hj
    rw [h1] at h3
    simp only [h2, Bool.not_true, Bool.false_or] at h3
    exact hO i j hlt h3
  · have h3 := pair i j o p hi hj
    rw [h1] at h3
    simp only [hd, Bool.and_eq_true, Bool.or_eq_true, bne_iff_ne] at h3
    rcases h3.1.2 with h4 | h4
    · exact absurd (Nat.eq_of_beq_eq_true h4) hne
    · exact h4
  · have h3 := pair i j o p hi hj
    rw [h1] at h3
    simp only [hd, Bool.and_eq_true, Bool.or_eq_true, Bool.not_eq_true', looks] at h3
    rcases h3.1.1 with h4 | ⟨h4, h5⟩
    · rw [List.contains_eq_mem] at h4; simp [hl] at h4
    · have h6 : i + 1 ≤ j := by simpa [Nat.blt] using h4
      have : i < j := h6
      exact ⟨this, hO' i j this h5⟩
  · have h3 := pair i j o p hi hj
    rw [h1] at h3
    simp only [hd, h2, Bool.and_eq_true, Bool.or_eq_true, Bool.not_eq_true', looks, Bool.true_eq_false, false_or] at h3
    rcases h3.2 with h4 | ⟨h4, h5⟩
    · rw [List.contains_eq_mem] at h4; simp [hl] at h4
    · have h6 : i + 1 ≤ j := by simpa [Nat.blt] using h4
      have : i < j := h6
      exact ⟨this, hO' i j this h5⟩
  · have h3 := (row i o hi).2.2
    rw [h1] at h3
    simp only [Bool.false_or, List.all_eq_true, Bool.or_eq_true, Bool.and_eq_true, Bool.not_eq_true', List.any_eq_true, beq_iff_eq, looks] at h3
    rcases h3 t ht with ⟨p, hp, h5, h4⟩ | h4
    · obtain ⟨j, hj⟩ := List.getElem?_of_mem hp
      exact .inl ⟨j, p, by simpa using hj, h5, h4⟩
    · exact .inr h4
theorem ordH_ord {ops : Array Oper} {i : Nat} (h : ordH ops i = true) {j : Nat} {p : Oper} (hj : ops[j]? = some p) (hp : hardO ops p = true) (hne : i ≠ j) : ((Region.before ops).toList.getD (max i j) 0).testBit (min i j) = true := by
  unfold ordH at h
  simp only [List.all_eq_true, List.mem_range] at h
  have h1 := h j (Array.getElem?_eq_some_iff.1 hj).1
  rw [hj] at h1
  simp only [hp, Bool.not_true, Bool.false_or, inOrder, Bool.or_eq_true] at h1
  exact h1.resolve_left fun e => hne (Nat.eq_of_beq_eq_true e)
theorem Flt.mem {ops : Array Oper} {st0 : St} {pre : Nat → Nat → Prop} (ho : Flt ops st0 pre) {X : Nat → Prop} (hlt : ∀ i, X i → i < ops.size) (hX : ∀ i o, ops[i]? = some o → X i → ∀ e ∈ o.after, Region.binds .any e = true → X e.on) : ∀ (i : Nat) (o : Oper) (j : Nat), ops[i]? = some o → pre i j →
    (∀ e ∈ o.after, Region.binds .any e = true → X e.on) → X j := by
  intro i
  induction i using Nat.strongRecOn with
  | _ i ih =>
    intro o j hi hp hall
    obtain ⟨e, he, hb, h1⟩ := ho.step i o j hi hp
    have hXe := hall e he hb
    rcases h1 with h1 | h1
    · exact h1 ▸ hXe
    · have hlt' := hlt _ hXe
      have hoe : ops[e.on]? = some ops[e.on] := Array.getElem?_eq_getElem hlt'
      exact ih e.on (ho.lt i o hi e he hb) _ j hoe h1 (hX _ _ hoe hXe)
end Go.Gx
end
section
/- A region whose order is open: its appends stand in order to each other, all else floats. Any order comes to the same. -/
namespace Go.Gx
open Go.RowKit
set_option linter.unusedVariables false
set_option linter.unusedSimpArgs false
section
variable {P : Program} {E : Env} {w0 : World} {B : Old} {pv : Nat → Value} {G : Cal → List AV → AV → Prop} {Q : Exit → Act → World → Prop} {ops : Array Oper} {rid : Nat} {S0 : Nat → Prop} {sq : Nat → St} {pre : Nat → Nat → Prop}
def FW (ops : Array Oper) (t p : Nat) : Prop := ∃ o : Oper, ops[p]? = some o ∧ hardO ops o = false ∧ o.dst = some t
open Classical in
noncomputable def flS (ops : Array Oper) (sq : Nat → St) (X : Nat → Bool) (b t : Nat) : AV :=
  if h : ∃ p, FW ops t p then (match X (Classical.choose h) with
    | true => (sq (Classical.choose h + 1)).slot t
    | false => .any) else (sq b).slot t
variable (hO : Flt ops (sq 0) pre) (hsq : ∀ i o, ops[i]? = some o → StepF E G ops rid i o (sq i) (sq (i + 1)))
include hO in
theorem fw_uniq {t p q : Nat} (h : FW ops t p) (h' : FW ops t q) : p = q := by
  obtain ⟨o, h1, h2, h3⟩ := h
  obtain ⟨o', h4, h5, h6⟩ := h'
  apply Classical.byContradiction
  intro hne
  exact hO.uniq p q o o' t h1 h4 h2 h3 hne h6
include hO in
theorem flS_yes {X : Nat → Bool} {b t p : Nat} (h : FW ops t p) (hX : X p = true) : flS ops sq X b t = (sq (p + 1)).slot t := by
  have h0 : ∃ p, FW ops t p := ⟨p, h⟩
  unfold flS
  rw [dif_pos h0, fw_uniq hO (Classical.choose_spec h0) h, hX]
include hO in
theorem flS_not {X : Nat → Bool} {b t p : Nat} (h : FW ops t p) (hX : X p = false) : flS ops sq X b t = .any := by
  have h0 : ∃ p, FW ops t p := ⟨p, h⟩
  unfold flS
  rw [dif_pos h0, fw_uniq hO (Classical.choose_spec h0) h, hX]
theorem flS_no {X : Nat → Bool} {b t : Nat} (h : ¬ ∃ p, FW ops t p) : flS ops sq X b t = (sq b).slot t := by
  unfold flS
  rw [dif_neg h]
include hsq
theorem nt_f : ∀ i, i ≤ ops.size → (sq i).nt = (sq 0).nt
  | 0, _ => rfl
  | i + 1, hi => by
    have ho : ops[i]? = some ops[i] := Array.getElem?_eq_getElem (by omega)
    obtain ⟨_, _, ⟨_, u, _, ha, e⟩ | ⟨_, u, v, _, _, _, e⟩⟩ := hsq i _ ho
    · rw [e, apply_nt]; exact nt_f i (by omega)
    · rw [e, (putO_row _ _ _).2]; exact nt_f i (by omega)
theorem flat_stay {t b : Nat} (hf : flatW (apB ops) ((sq b).slot t) = true) : ∀ d, b + d ≤ ops.size → (∀ j o, b ≤ j → j < b + d → ops[j]? = some o → o.dst ≠ some t) → (sq (b + d)).slot t = (sq b).slot t
  | 0, _, _ => rfl
  | d + 1, h, hn => by
    have ih := flat_stay hf d (by omega) fun j o a c => hn j o a (by omega)
    have ho : ops[b + d]? = some ops[b + d] := Array.getElem?_eq_getElem (by omega)
    have hd := hn (b + d) _ (by omega) (by omega) ho
    obtain ⟨_, _, ⟨_, u, _, ha, e⟩ | ⟨_, u, v, _, _, _, e⟩⟩ := hsq (b + d) _ ho
    · show (sq (b + d + 1)).slot t = _
      rw [e, apply_slot, if_neg hd, ih]
      exact kz_flat hf ha
    · show (sq (b + d + 1)).slot t = _
      rw [e, putO_slot, if_neg hd, ih]
include hO
theorem fw_stay {t p : Nat} (h : FW ops t p) {j : Nat} (hj : p < j) (hj2 : j ≤ ops.size) : (sq j).slot t = (sq (p + 1)).slot t ∧ flatW (apB ops) ((sq (p + 1)).slot t) = true := by
  obtain ⟨o, h1, h2, h3⟩ := h
  have hp : p < ops.size := (Array.getElem?_eq_some_iff.1 h1).1
  have hf : flatW (apB ops) ((sq (p + 1)).slot t) = true := by
    obtain ⟨_, _, ⟨h4, _⟩ | ⟨_, u, v, _, _, hv, e⟩⟩ := hsq p o h1
    · rw [h2] at h4; cases h4
    · rw [e, putO_slot, if_pos h3]; exact hv
  refine ⟨?_, hf⟩
  have := flat_stay hsq hf (j - (p + 1)) (by omega) (fun q o' hq _ ho' => hO.uniq p q o o' t h1 ho' h2 h3 (by omega))
  rwa [show p + 1 + (j - (p + 1)) = j by omega] at this
omit hO in
theorem fl_same {i : Nat} : ∀ d, i + d ≤ ops.size → (∀ j o, i ≤ j → j < i + d → ops[j]? = some o → hardO ops o = false) → (sq (i + d)).row = (sq i).row ∧ ∀ t, (¬ ∃ p, FW ops t p) → (sq (i + d)).slot t = (sq i).slot t
  | 0, _, _ => ⟨rfl, fun _ _ => rfl⟩
  | d + 1, h, hq => by
    obtain ⟨ih1, ih2⟩ := fl_same d (by omega) fun j o a b => hq j o a (by omega)
    have ho : ops[i + d]? = some ops[i + d] := Array.getElem?_eq_getElem (by omega)
    have hh := hq (i + d) _ (by omega) (by omega) ho
    obtain ⟨_, _, ⟨h4, _⟩ | ⟨_, u, v, _, _, hv, e⟩⟩ := hsq (i + d) _ ho
    · rw [hh] at h4; cases h4
    · refine ⟨?_, fun t ht => ?_⟩
      · show (sq (i + d + 1)).row = _
        rw [e, (putO_row _ _ _).1, ih1]
      · show (sq (i + d + 1)).slot t = _
        rw [e, putO_slot, if_neg (fun hd => ht ⟨i + d, _, ho, hh, hd⟩), ih2 t ht]
omit hsq hO in
theorem nextHard {ops : Array Oper} : ∀ (d b : Nat), b + d = ops.size → ∃ e, b ≤ e ∧ e ≤ ops.size ∧ (∀ i o, b ≤ i → i < e → ops[i]? = some o → hardO ops o = false) ∧ (e = ops.size ∨ ∃ o, ops[e]? = some o ∧ hardO ops o = true)
  | 0, b, h => ⟨b, Nat.le_refl _, by omega, fun i o h1 h2 => by omega, .inl (by omega)⟩
  | d + 1, b, h => by
    have ho : ops[b]? = some ops[b] := Array.getElem?_eq_getElem (by omega)
    cases hb : hardO ops ops[b] with
    | true => exact ⟨b, Nat.le_refl _, by omega, fun i o h1 h2 => by omega, .inr ⟨_, ho, hb⟩⟩
    | false =>
      obtain ⟨e1, h1, h2, h3, h4⟩ := nextHard (ops := ops) d (b + 1) (by omega)
      refine ⟨e1, by omega, h2, fun i o h5 h6 h7 => ?_, h4⟩
      by_cases e : i = b
      · subst e; rw [ho] at h7; cases h7; exact hb
      · exact h3 i o (by omega) h6 h7
omit hsq hO in
def InvF (E : Env) (w0 : World) (B : Old) (pv : Nat → Value) (ops : Array Oper) (rid : Nat) (S0 : Nat → Prop) (sq : Nat → St) (X : Nat → Bool) (S : Nat → Prop) (ρ : Nat → Option Loc) (a : Act) (w : World) : Prop :=
  ∃ b, b ≤ ops.size ∧ (∀ i o, ops[i]? = some o → hardO ops o = true → i < b → X i = true) ∧ (∀ i o, ops[i]? = some o → hardO ops o = true → b ≤ i → X i = false) ∧ (b = ops.size ∨ ∃ o, ops[b]? = some o ∧ hardO ops o = true) ∧ (∀ i, X i = true → i < ops.size) ∧
    Sim w0 B pv S ρ ⟨flS ops sq X b, (sq b).row, (sq 0).nt⟩ a w ∧ GlOk E pv S w ∧ (∀ i, i < ops.size → X i = false → ∀ id, Site rid i id → ρ id = none) ∧
    (∀ i o, ops[i]? = some o → X i = true → ∀ e ∈ o.after, Region.binds .any e = true → X e.on = true) ∧ Grew B S0 S
theorem invF_next {X : Nat → Bool} {b : Nat} (hb : b ≤ ops.size) (h1 : ∀ i o, ops[i]? = some o → hardO ops o = true → i < b → X i = true) (h2 : ∀ i o, ops[i]? = some o → hardO ops o = true → b ≤ i → X i = false) (h3 : ∀ i, X i = true → i < ops.size)
    {S : Nat → Prop} {ρ : Nat → Option Loc} {a : Act} {w : World} (hs : Sim w0 B pv S ρ ⟨flS ops sq X b, (sq b).row, (sq 0).nt⟩ a w) (hgl : GlOk E pv S w) (hρ : ∀ i, i < ops.size → X i = false → ∀ id, Site rid i id → ρ id = none)
    (hX : ∀ i o, ops[i]? = some o → X i = true → ∀ e ∈ o.after, Region.binds .any e = true → X e.on = true) (hS : Grew B S0 S) : InvF E w0 B pv ops rid S0 sq X S ρ a w := by
  obtain ⟨e, h4, h5, h6, h7⟩ := nextHard (ops := ops) (ops.size - b) b (by omega)
  obtain ⟨k1, k2⟩ := fl_same hsq (i := b) (e - b) (by omega) fun j o a c => h6 j o a (by omega)
  rw [show b + (e - b) = e by omega] at k1 k2
  refine ⟨e, h5, fun i o ho hh hi => ?_, fun i o ho hh hi => h2 i o ho hh (by omega), h7, h3, hs.slotsEq (fun t => ?_) k1 rfl, hgl, hρ, hX, hS⟩
  · by_cases hlt : i < b
    · exact h1 i o ho hh hlt
    · rw [h6 i o (by omega) hi ho] at hh; cases hh
  · show flS ops sq X e t = flS ops sq X b t
    by_cases h : ∃ p, FW ops t p
    · obtain ⟨p, hp⟩ := h
      cases hXp : X p with
      | true => rw [flS_yes hO hp hXp, flS_yes hO hp hXp]
      | false => rw [flS_not hO hp hXp, flS_not hO hp hXp]
    · rw [flS_no h, flS_no h, k2 t h]
theorem invF_step (hB : pre = fun i j => ((Region.before ops).toList.getD i 0).testBit j = true) (hE : EnvOk P E) (hG : GOk P E pv G) {X X' : Nat → Bool} {i : Nat} {o : Oper} {S : Nat → Prop} {ρ : Nat → Option Loc} {a : Act} {w : World} (h : InvF E w0 B pv ops rid S0 sq X S ρ a w) (ho : ops[i]? = some o) (hi : X i = false) (hready : ∀ e ∈ o.after, Region.binds .any e = true → X e.on = true)
    (hX' : ∀ j, X' j = if j = i then true else X j) {K : Act → World → Prop} (hK : ∀ S' ρ' a' w', InvF E w0 B pv ops rid S0 sq X' S' ρ' a' w' → K a' w') : wpOp P ops Q i K a w := by
  obtain ⟨b, hb, hX1, hX2, hbe, hXlt, hs, hgl, hρ, hcl, hS⟩ := h
  have hin : i < ops.size := (Array.getElem?_eq_some_iff.1 ho).1
  have hpre : ∀ j, pre i j → X j = true := fun j hp => hO.mem (X := fun j => X j = true) hXlt hcl i o j ho hp hready
  have hcl' : ∀ j o', ops[j]? = some o' → X' j = true → ∀ e ∈ o'.after, Region.binds .any e = true → X' e.on = true := fun j o' hj hXj e he hbn => by
    rw [hX'] at hXj ⊢
    split
    · rfl
    · by_cases e' : j = i
      · subst e'; rw [ho] at hj; cases hj; exact hready e he hbn
      · rw [if_neg e'] at hXj; exact hcl j o' hj hXj e he hbn
  have hXlt' : ∀ j, X' j = true → j < ops.size := fun j hj => by
    rw [hX'] at hj
    split at hj
    · omega
    · exact hXlt j hj
  have hid : ∀ c, c < 4 → ρ ((rid * 256 + i) * 4 + c) = none := fun c hc => hρ i hin hi _ (by unfold Site; omega)
  have hρ' : ∀ ρ' : Nat → Option Loc, (∀ j, ρ j = none → ¬ ((rid * 256 + i) * 4 ≤ j ∧ j < (rid * 256 + i) * 4 + 4) → ρ' j = none) → ∀ j, j < ops.size → X' j = false → ∀ id, Site rid j id → ρ' id = none := fun ρ' hk j hj hXj id hsite => by
    rw [hX'] at hXj
    split at hXj
    · cases hXj
    · rename_i e
      exact hk id (hρ j hj hXj id hsite) fun hsite' => e (Site.ne hsite hsite')
  obtain ⟨hd, hg, hst⟩ := hsq i o ho
  have hnt : (sq i).nt = (sq 0).nt := nt_f hsq i (by omega)
  have hd' : dstOk o (⟨flS ops sq X b, (sq b).row, (sq 0).nt⟩ : St).nt = true := by rw [hnt] at hd; exact hd
  have hev : (∀ t ∈ o.looksAt ops, flS ops sq X b t = (sq i).slot t) → ∀ x ∈ o.op.operands, ev E (⟨flS ops sq X b, (sq b).row, (sq 0).nt⟩ : St) x = ev E (sq i) x := fun hl x hx => by
    cases x with
    | tmp t => exact hl t (List.mem_append_left _ (List.mem_filterMap.2 ⟨.tmp t, by simpa using hx, rfl⟩))
    | _ => rfl
  -- what a floating operation has written is there
  have hread : ∀ t ∈ o.looksAt ops, ∀ p, FW ops t p → flS ops sq X b t = (sq i).slot t := fun t ht p hp => by
    obtain ⟨o', h1, h2, h3⟩ := hp
    obtain ⟨hlt, hpr⟩ := hO.look p i o' o t h1 ho h2 h3 ht
    rw [flS_yes hO ⟨o', h1, h2, h3⟩ (hpre p hpr)]
    exact (fw_stay hO hsq ⟨o', h1, h2, h3⟩ hlt (by omega)).1.symm
  unfold wpOp
  rw [ho]
  simp only
  rw [if_pos (want_y hs (.inl hg))]
  refine .inl ?_
  rcases hst with ⟨hh, u, hop, ha, hsu⟩ | ⟨hh, u, v, hop, hu, hv, hsu⟩
  · have hbi : b = i := by
      have h1 : b ≤ i := by
        apply Classical.byContradiction
        intro hlt
        rw [hX1 i o ho hh (by omega)] at hi
        cases hi
      apply Classical.byContradiction
      intro hne
      rcases hbe with h2 | ⟨ob, h2, h3⟩
      · omega
      · have := hpre b (hO.hard i b o ob ho h2 hh h3 (by omega))
        rw [hX2 b ob h2 h3 (Nat.le_refl _)] at this
        cases this
    subst hbi
    have hlooks : ∀ t ∈ o.looksAt ops, flS ops sq X b t = (sq b).slot t := fun t ht => by
      by_cases h : ∃ p, FW ops t p
      · obtain ⟨p, hp⟩ := h
        exact hread t ht p hp
      · exact flS_no h
    have hopX : AOp E G false o ((rid * 256 + b) * 4) (ev E (⟨flS ops sq X b, (sq b).row, (sq 0).nt⟩ : St)) (⟨flS ops sq X b, (sq b).row, (sq 0).nt⟩ : St).row u := hop.mono (hev hlooks) fun _ _ h => h
    refine step_ok hE hG hs hgl hd' hid hopX fun S' ρ' a' w' hs' hgl' hS' hk => ?_
    refine hK S' ρ' a' w' (invF_next hO hsq (b := b + 1) (by omega) (fun j p hp hhp hj => ?_) (fun j p hp hhp hj => ?_) hXlt' (hs'.slotsEq (fun t => ?_) ?_ ?_) hgl' (hρ' ρ' hk) hcl' (hS.trans hS'))
    · rw [hX']
      split
      · rfl
      · exact hX1 j p hp hhp (by omega)
    · rw [hX', if_neg (by omega)]
      exact hX2 j p hp hhp (by omega)
    · rw [apply_slot]
      show flS ops sq X' (b + 1) t = if o.dst = some t then u.v else kz u (flS ops sq X b t)
      by_cases h : ∃ p, FW ops t p
      · obtain ⟨p, hp⟩ := h
        have hpb : p ≠ b := fun e => by
          obtain ⟨o', h1, h2, _⟩ := hp
          rw [e, ho] at h1; cases h1
          rw [hh] at h2; cases h2
        have hdn : o.dst ≠ some t := by
          obtain ⟨o', h1, h2, h3⟩ := hp
          exact hO.uniq p b o' o t h1 ho h2 h3 hpb
        have hXp : X' p = X p := by rw [hX', if_neg hpb]
        have hpn : p < ops.size := by obtain ⟨o', h1, _⟩ := hp; exact (Array.getElem?_eq_some_iff.1 h1).1
        rw [if_neg hdn]
        cases hc : X p with
        | true =>
          rw [flS_yes hO hp (hXp.trans hc), flS_yes hO hp hc]
          exact (kz_flat (fw_stay hO hsq hp (Nat.lt_succ_self p) (by omega)).2 ha).symm
        | false =>
          rw [flS_not hO hp (hXp.trans hc), flS_not hO hp hc]
          exact (kz_any u).symm
      · rw [flS_no h, flS_no h, hsu, apply_slot]
    · rw [hsu]
      exact apply_cong _ _ _ _ rfl
    · rw [apply_nt]
  · have hlooks : ∀ t ∈ o.looksAt ops, flS ops sq X b t = (sq i).slot t := fun t ht => by
      by_cases h : ∃ p, FW ops t p
      · obtain ⟨p, hp⟩ := h
        exact hread t ht p hp
      · have hno : ∀ (j : Nat) (p : Oper), ops[j]? = some p → p.dst = some t → hardO ops p = true ∧ i < j ∧ pre j i := fun j p hp hdp => by
          cases hhp : hardO ops p with
          | false => exact absurd ⟨j, p, hp, hhp, hdp⟩ h
          | true => exact ⟨rfl, hO.flo i j o p t ho hp hh hhp hdp ht⟩
        rcases hO.outer i o t ho hh ht with ⟨j, p, hp, hhp, hdp⟩ | hf
        · exact absurd ⟨j, p, hp, hhp, hdp⟩ h
        · have k1 := flat_stay hsq hf b (by omega) fun j p _ hj hp hdp => by
            obtain ⟨q1, _, q2⟩ := hno j p hp hdp
            have q3 := hX1 j p hp q1 (by omega)
            have := hO.mem (X := fun j => X j = true) hXlt hcl j p i hp q2 (hcl j p hp q3)
            rw [hi] at this
            cases this
          have k2 := flat_stay hsq hf i (by omega) fun j p _ hj hp hdp => by
            have := (hno j p hp hdp).2.1
            omega
          rw [Nat.zero_add] at k1 k2
          rw [flS_no h, k1, k2]
    have hrowF : SubRow (rowF ops i (sq i).row) (sq b).row := fun id r h => by
      unfold rowF at h
      cases hoi : ordH ops i with
      | false => rw [hoi] at h; cases h
      | true =>
        rw [hoi] at h
        have hne : ∀ j p, ops[j]? = some p → hardO ops p = true → i ≠ j := fun j p hp hhp e => by
          rw [← e, ho] at hp; cases hp; rw [hh] at hhp; cases hhp
        have hlt : ∀ j p, ops[j]? = some p → hardO ops p = true → j < i → j < b := fun j p hp hhp hj => by
          have := ordH_ord hoi hp hhp (hne j p hp hhp)
          rw [Nat.max_eq_left (by omega), Nat.min_eq_right (by omega)] at this
          have h1 := hpre j (hB ▸ this)
          apply Classical.byContradiction
          intro hn
          rw [hX2 j p hp hhp (by omega)] at h1
          cases h1
        have hgt : ∀ j p, ops[j]? = some p → hardO ops p = true → i < j → b ≤ j := fun j p hp hhp hj => by
          have := ordH_ord hoi hp hhp (hne j p hp hhp)
          rw [Nat.max_eq_right (by omega), Nat.min_eq_left (by omega)] at this
          apply Classical.byContradiction
          intro hn
          have q3 := hX1 j p hp hhp (by omega)
          have := hO.mem (X := fun j => X j = true) hXlt hcl j p i hp (hB ▸ this) (hcl j p hp q3)
          rw [hi] at this
          cases this
        have e : (sq b).row = (sq i).row := by
          by_cases hbi : b ≤ i
          · have := (fl_same hsq (i := b) (i - b) (by omega) fun j p h1 h2 hp => by
              cases hhp : hardO ops p with
              | false => rfl
              | true => have := hlt j p hp hhp (by omega); omega).1
            rw [show b + (i - b) = i by omega] at this
            exact this.symm
          · have := (fl_same hsq (i := i) (b - i) (by omega) fun j p h1 h2 hp => by
              cases hhp : hardO ops p with
              | false => rfl
              | true =>
                have h3 := hne j p hp hhp
                have := hgt j p hp hhp (by omega); omega).1
            rwa [show i + (b - i) = b by omega] at this
        rw [e]
        exact h
    have hopX : AOp0 E G true o ((rid * 256 + i) * 4) (ev E (⟨flS ops sq X b, (sq b).row, (sq 0).nt⟩ : St)) (⟨flS ops sq X b, (sq b).row, (sq 0).nt⟩ : St).row u := hop.mono (hev hlooks) hrowF
    refine step_flt hE hG hs hgl hd' hid hopX hu fun S' ρ' a' w' hs' hgl' hS' hk => ?_
    have hne : ∀ j p, ops[j]? = some p → hardO ops p = true → j ≠ i := fun j p hp hhp e => by
      rw [e, ho] at hp; cases hp; rw [hh] at hhp; cases hhp
    refine hK S' ρ' a' w' ⟨b, hb, fun j p hp hhp hj => ?_, fun j p hp hhp hj => ?_, hbe, hXlt', hs'.slotsEq (fun t => ?_) ?_ ?_, hgl', hρ' ρ' hk, hcl', hS.trans hS'⟩
    · rw [hX', if_neg (hne j p hp hhp)]
      exact hX1 j p hp hhp hj
    · rw [hX', if_neg (hne j p hp hhp)]
      exact hX2 j p hp hhp hj
    · rw [apply_slot]
      show flS ops sq X' b t = if o.dst = some t then v else flS ops sq X b t
      by_cases hdt : o.dst = some t
      · rw [if_pos hdt, flS_yes hO ⟨o, ho, hh, hdt⟩ (by rw [hX', if_pos rfl]), hsu, putO_slot, if_pos hdt]
      · rw [if_neg hdt]
        by_cases h : ∃ p, FW ops t p
        · obtain ⟨p, hp⟩ := h
          have hpi : p ≠ i := fun e => by
            obtain ⟨o', h1, _, h3⟩ := hp
            rw [e, ho] at h1; cases h1
            exact hdt h3
          have hXp : X' p = X p := by rw [hX', if_neg hpi]
          cases hc : X p with
          | true => rw [flS_yes hO hp (hXp.trans hc), flS_yes hO hp hc]
          | false => rw [flS_not hO hp (hXp.trans hc), flS_not hO hp hc]
        · rw [flS_no h, flS_no h]
    · exact ((putO_row (⟨flS ops sq X b, (sq b).row, (sq 0).nt⟩ : St) o.dst v).1).symm
    · exact ((putO_row (⟨flS ops sq X b, (sq b).row, (sq 0).nt⟩ : St) o.dst v).2).symm
theorem any_okF (hB : pre = fun i j => ((Region.before ops).toList.getD i 0).testBit j = true) (hE : EnvOk P E) (hG : GOk P E pv G)
    (hQ : ∀ S' ρ' a' w', Sim w0 B pv S' ρ' (sq ops.size) a' w' → GlOk E pv S' w' → Grew B S0 S' → Q .normal a' w') :
    ∀ (fuel : Nat) (listed : Array Bool) (S : Nat → Prop) (ρ : Nat → Option Loc) (a : Act) (w : World), listed.size = ops.size → listed.toList.count false ≤ fuel → InvF E w0 B pv ops rid S0 sq (fun i => listed.getD i false) S ρ a w → wpAny P .any ops Q fuel listed a w := by
  have done : ∀ (listed : Array Bool) (S : Nat → Prop) (ρ : Nat → Option Loc) (a : Act) (w : World), InvF E w0 B pv ops rid S0 sq (fun i => listed.getD i false) S ρ a w → (∀ i, i < ops.size → listed.getD i false = true) → Q .normal a w := fun listed S ρ a w h hall => by
    obtain ⟨b, hb, hX1, hX2, hbe, hXlt, hs, hgl, hρ, hcl, hS⟩ := h
    have he : b = ops.size := by
      rcases hbe with h1 | ⟨ob, h2, h3⟩
      · exact h1
      · have h4 : listed.getD b false = false := hX2 b ob h2 h3 (Nat.le_refl _)
        rw [hall b (Array.getElem?_eq_some_iff.1 h2).1] at h4
        cases h4
    subst he
    refine hQ S ρ a w (hs.slotsEq (fun t => ?_) rfl (nt_f hsq _ (Nat.le_refl _))) hgl hS
    show (sq ops.size).slot t = flS ops sq (fun i => listed.getD i false) ops.size t
    by_cases h : ∃ p, FW ops t p
    · obtain ⟨p, hp⟩ := h
      have hpn : p < ops.size := by obtain ⟨o', h1, _⟩ := hp; exact (Array.getElem?_eq_some_iff.1 h1).1
      rw [flS_yes hO hp (hall p hpn)]
      exact (fw_stay hO hsq hp hpn (Nat.le_refl _)).1
    · rw [flS_no h]
  have stuck : ∀ (listed : Array Bool), listed.size = ops.size → Region.ready .any ops listed = [] → ∀ i, i < ops.size → listed.getD i false = true := fun listed hsz hr i => by
    induction i using Nat.strongRecOn with
    | _ i ih =>
      intro hi
      apply Classical.byContradiction
      intro hne
      have hoi : ops[i]? = some ops[i] := Array.getElem?_eq_getElem hi
      have hmem : i ∈ Region.ready .any ops listed := by
        rw [mem_ready]
        refine ⟨?_, ops[i], hoi, fun e he hb => ?_⟩
        · have hlt : i < listed.size := by omega
          rw [Array.getD_eq_getD_getElem?, Array.getElem?_eq_getElem hlt] at hne ⊢
          simpa using hne
        · have := hO.lt i _ hoi e he hb
          exact ih e.on this (by omega)
      rw [hr] at hmem
      cases hmem
  intro fuel
  induction fuel with
  | zero =>
    intro listed S ρ a w hsz hc hI
    have hall : ∀ i, i < ops.size → listed.getD i false = true := fun i hi => by
      have hlt : i < listed.size := by omega
      rw [Array.getD_eq_getD_getElem?, Array.getElem?_eq_getElem hlt]
      cases hb : listed[i] with
      | true => rfl
      | false =>
        have hm : false ∈ listed.toList := by rw [← hb]; exact Array.getElem_mem_toList hlt
        have := List.count_pos_iff.2 hm
        omega
    refine ⟨?_, done listed S ρ a w hI hall⟩
    apply List.eq_nil_iff_forall_not_mem.2
    intro i hi
    rw [mem_ready] at hi
    obtain ⟨h1, o, ho, _⟩ := hi
    have hlt : i < listed.size := by have := (Array.getElem?_eq_some_iff.1 ho).1; omega
    have := hall i (by omega)
    rw [Array.getD_eq_getD_getElem?, Array.getElem?_eq_getElem hlt] at this h1
    simp at this h1
    rw [this] at h1
    cases h1
  | succ fuel ih =>
    intro listed S ρ a w hsz hc hI
    refine ⟨fun hr => done listed S ρ a w hI (stuck listed hsz hr), fun i hi => ?_⟩
    rw [mem_ready] at hi
    obtain ⟨h1, o, ho, hall⟩ := hi
    have hlt : i < listed.size := by have := (Array.getElem?_eq_some_iff.1 ho).1; omega
    have hli : listed[i] = false := by
      rw [Array.getD_eq_getD_getElem?, Array.getElem?_eq_getElem hlt] at h1
      simpa using h1
    refine invF_step hO hsq hB hE hG hI ho ?_ hall (X' := fun j => (listed.setIfInBounds i true).getD j false) (fun j => ?_) fun S' ρ' a' w' hI' => ih _ S' ρ' a' w' (by simpa using hsz) ?_ hI'
    · rw [Array.getD_eq_getD_getElem?, Array.getElem?_eq_getElem hlt, hli]
      rfl
    · rw [Array.getD_eq_getD_getElem?, Array.getD_eq_getD_getElem?, Array.getElem?_setIfInBounds]
      by_cases e : j = i
      · subst e; simp [hlt]
      · rw [if_neg (fun h => e h.symm), if_neg e]
    · have := count_set (l := listed.toList) (i := i) (by rw [Array.getElem?_toList, Array.getElem?_eq_getElem hlt, hli])
      rw [Array.toList_setIfInBounds]
      omega
omit hO hsq in
theorem regionF_ok (hE : EnvOk P E) (hG : GOk P E pv G) (hn : ops.size ≤ 256) (hm : rid * 1024 + 1024 ≤ mbase) {S : Nat → Prop} {ρ : Nat → Option Loc} {st st' : St} {a : Act} {w : World} (hok : fltOk ops (st.kill (rid * 1024) (rid * 1024 + 1024)) = true)
    (hr : ∃ sq : Nat → St, sq 0 = st.kill (rid * 1024) (rid * 1024 + 1024) ∧ (∀ i o, ops[i]? = some o → StepF E G ops rid i o (sq i) (sq (i + 1))) ∧ sq ops.size = st') (hs : Sim w0 B pv S ρ st a w) (hgl : GlOk E pv S w)
    (hQ : ∀ S' ρ' a' w', Sim w0 B pv S' ρ' st' a' w' → GlOk E pv S' w' → Grew B S S' → Q .normal a' w') : (Code.region rid ops true).wp P Q a w := by
  have hk := hs.kill (rid * 1024) (rid * 1024 + 1024) (by
    unfold inR
    rw [Bool.and_eq_false_iff]
    refine .inr ?_
    cases hb : Nat.blt mbase (rid * 1024 + 1024) with
    | false => rfl
    | true => have := Nat.le_of_ble_eq_true hb; omega)
  have hkn : ∀ k, k < 256 → ∀ id, Site rid k id → killL (rid * 1024) (rid * 1024 + 1024) ρ id = none := fun k hk id hsite => by
    have : inR (rid * 1024) (rid * 1024 + 1024) id = true := by
      unfold Site at hsite
      simp only [inR, Bool.and_eq_true, Nat.blt, Nat.ble_eq]
      omega
    unfold killL; rw [this]; rfl
  obtain ⟨sq, h1, hsq, h2⟩ := hr
  have hO := fltOk_flt hok
  rw [← h1] at hO
  refine wp_region_any hE.mixed (any_okF (S0 := S) hO hsq rfl hE hG (by rw [h2]; exact hQ) ops.size _ S (killL (rid * 1024) (rid * 1024 + 1024) ρ) a _ (by simp) (by simp) ?_)
  have hdrew := hk.drew
  rw [← h1] at hdrew
  have hX : ∀ i, (Array.replicate ops.size false).getD i false = false := fun i => by
    rw [Array.getD_eq_getD_getElem?]
    by_cases hi : i < ops.size
    · simp [hi]
    · simp [hi]
  have hX0 : ∀ {p : Prop} i, (Array.replicate ops.size false).getD i false = true → p := fun i h => by rw [hX i] at h; cases h
  refine invF_next hO hsq (b := 0) (Nat.zero_le _) (fun i _ _ _ hi => absurd hi (Nat.not_lt_zero i)) (fun i _ _ _ _ => hX i) (fun i h => hX0 i h) ?_ (hgl.mono (fun _ h => h) fun _ _ => rfl) (fun i hi _ id hsite => hkn i (by omega) id hsite) (fun i o _ hx => hX0 i hx) (Grew.refl _ _)
  refine ⟨hdrew.size, hdrew.defers, fun t => ?_, hdrew.hs, hdrew.below, hdrew.hB⟩
  have hz := hdrew.slots t
  by_cases h : ∃ p, FW ops t p
  · obtain ⟨p, hp⟩ := h
    exact .inl (flS_not hO (X := fun i => (Array.replicate ops.size false).getD i false) (b := 0) hp (hX p))
  · have e := flS_no (sq := sq) (X := fun i => (Array.replicate ops.size false).getD i false) (b := 0) h
    rw [← e] at hz
    exact hz
omit hO hsq in
theorem Sim.rdSlot {S : Nat → Prop} {ρ : Nat → Option Loc} {st : St} {a : Act} {w : World} (h : Sim w0 B pv S ρ st a w) (t : Nat) : Sim w0 B pv S ρ (rdSlot st t) a w := by
  unfold Gx.rdSlot
  split
  · rename_i j hj
    split
    · rename_i e τ xs app hr
      refine ⟨h.size, h.defers, fun t' => ?_, h.hs, h.below, h.hB⟩
      have h0 := h.slots t'
      show VR S w ρ st.row pv (cond (Nat.beq t' t) (.t (.sl τ) xs) (st.slot t')) _
      cases hb : Nat.beq t' t with
      | false => exact h0
      | true =>
        obtain rfl := Nat.eq_of_beq_eq_true hb
        rw [hj] at h0
        rcases vr_own h0 hr with ⟨g, c, hl, h9⟩ | ⟨hl, h9, h8⟩
        · rw [h9]
          exact .inr ⟨_, .t _ _ _ (row_cr h.hs (fun _ h => h) hr hl ((h.hs.apart j _ g c hl hr).2.2 rfl)), rfl⟩
        · subst h9
          rw [h8]
          exact .inr ⟨_, .t _ _ _ (cr_nil _ _ _), rfl⟩
    · exact h
  · exact h
omit hO hsq in
theorem Sim.rdSlots {S : Nat → Prop} {ρ : Nat → Option Loc} {a : Act} {w : World} : ∀ (l : List Nat) {st : St}, Sim w0 B pv S ρ st a w → Sim w0 B pv S ρ (rdSlots st l) a w
  | [], st, h => h
  | t :: l, st, h => Sim.rdSlots l (h.rdSlot t)
end
end Go.Gx
end
section
/- Code: what the interpreter finds is what the machine does, loops being given. -/
namespace Go.Gx
open Go.RowKit
set_option linter.unusedVariables false
theorem TyOk.soft {P : Program} {E : Env} {T : Nat} : ∀ {τ : Ty}, TyOk P E T τ → ∀ b pt pr, TyOk P (E.soft b pt pr) T τ := fun {τ} h b pt pr => ⟨h.info, by have := h.und; cases τ <;> exact this⟩
theorem EnvOk.soft {P : Program} {E : Env} (h : EnvOk P E) (b : Bool) (pt pr : List Nat) : EnvOk P (E.soft b pt pr) := ⟨fun T τ e => (h.ty T τ e).soft b pt pr, h.mixed, h.eqDate, h.eqAbbr⟩
theorem GlOk.soft {E : Env} {pv : Nat → Value} {S : Nat → Prop} {w : World} (h : GlOk E pv S w) (b : Bool) (pt pr : List Nat) : GlOk (E.soft b pt pr) pv S w := h
theorem GlOk.unsoft {E : Env} {pv : Nat → Value} {S : Nat → Prop} {w : World} {b : Bool} {pt pr : List Nat} (h : GlOk (E.soft b pt pr) pv S w) : GlOk E pv S w := h
theorem GOk.soft {P : Program} {E : Env} {pv : Nat → Value} {G : Cal → List AV → AV → Prop} (h : GOk P E pv G) (b : Bool) (pt pr : List Nat) : GOk P (E.soft b pt pr) pv G := h
inductive CodeR (E : Env) (G : Cal → List AV → AV → Prop) (LG : Nat → St → Ex → St → Prop) : Nat → Code → St → Ex → St → Prop
  | skip (b : Nat) (st : St) : CodeR E G LG b .skip st .normal st
  | region (b rid : Nat) (ops : Array Oper) (dr : Bool) (st st' : St) (hn : ops.size ≤ 256) (hm : rid * 1024 + 1024 ≤ mbase) (hd : dr = true → drawOk (softE E dr ops (st.kill (rid * 1024) (rid * 1024 + 1024))) ops = true) (hso : dr = true → anySoft (softE E dr ops (st.kill (rid * 1024) (rid * 1024 + 1024))) ops = true → soOk (softE E dr ops (st.kill (rid * 1024) (rid * 1024 + 1024))) ops = true) (h : RunR (softE E dr ops (st.kill (rid * 1024) (rid * 1024 + 1024))) G dr ops rid ops.toList 0 (st.kill (rid * 1024) (rid * 1024 + 1024)) st') : CodeR E G LG b (.region rid ops dr) st .normal st'
  | frz (b : Nat) (c : Code) (st st' : St) (e : Ex) (ids : List Nat) (h : CodeR E G LG b c (st.freeze ids) e st') : CodeR E G LG b c st e st'
  | flt (b rid : Nat) (ops : Array Oper) (st st' : St) (l : List Nat) (hn : ops.size ≤ 256) (hm : rid * 1024 + 1024 ≤ mbase) (hok : fltOk ops ((rdSlots st l).kill (rid * 1024) (rid * 1024 + 1024)) = true) (h : ∃ sq : Nat → St, sq 0 = (rdSlots st l).kill (rid * 1024) (rid * 1024 + 1024) ∧ (∀ i o, ops[i]? = some o → StepF E G ops rid i o (sq i) (sq (i + 1))) ∧ sq ops.size = st') : CodeR E G LG b (.region rid ops true) st .normal st'
  | seq (b : Nat) (x y : Code) (st st1 st' : St) (e : Ex) (h1 : CodeR E G LG b x st .normal st1) (h2 : CodeR E G LG b y st1 e st') : CodeR E G LG b (.seq x y) st e st'
  | seqE (b : Nat) (x y : Code) (st st' : St) (e : Ex) (h1 : CodeR E G LG b x st e st') (he : e ≠ .normal) : CodeR E G LG b (.seq x y) st e st'
  | cond (b : Nat) (c : Operand) (x y : Code) (st st' : St) (e : Ex) (v : Bool) (hc : ev E st c = .t .bool v) (h : CodeR E G LG b (if v then x else y) st e st') : CodeR E G LG b (.cond c x y) st e st'
  | block (b id : Nat) (c : Code) (st st' : St) (e : Ex) (h : CodeR E G LG id c st e st') (he : e ≠ .exit id) : CodeR E G LG b (.block id c) st e st'
  | blockX (b id : Nat) (c : Code) (st st' : St) (h : CodeR E G LG id c st (.exit id) st') : CodeR E G LG b (.block id c) st .normal st'
  | loop (b : Nat) (c : Code) (st st' : St) (e : Ex) (h : LG b st e st') : CodeR E G LG b (.loop c) st e st'
  | exit (b id : Nat) (st : St) : CodeR E G LG b (.exit id) st (.exit id) st
  | ret (b : Nat) (st : St) : CodeR E G LG b .ret st .ret st
def LIs (L : LOrc) (LG : Nat → St → Ex → St → Prop) : Prop := ∀ (R : Type) b st (K : Ex → St → Option R) r, L b st K = some r → ∃ e st', LG b st e st' ∧ K e st' = some r
theorem runC_rel {E : Env} {C : Orc} {L : LOrc} {G : Cal → List AV → AV → Prop} {LG : Nat → St → Ex → St → Prop} (hC : OrcIs C G) (hL : LIs L LG) {R : Type} {r : R} : ∀ (c : Code) (b : Nat) (st : St) {K : Ex → St → Option R}, runC E C L b c st K = some r →
    ∃ e st', CodeR E G LG b c st e st' ∧ K e st' = some r
  | .skip, b, st, K, h => ⟨_, _, .skip b st, h⟩
  | .region rid ops dr, b, st, K, h => by
    simp only [runC] at h
    split at h
    · rename_i hdr
      simp only [Bool.and_eq_true] at hdr
      obtain ⟨rfl, _⟩ := hdr
      unfold runH at h
      split at h
      · rename_i hg
        simp only [Bool.and_eq_true] at hg
        obtain ⟨hn, hm, hok⟩ := hg
        obtain ⟨sq, h1, h2, h3⟩ := runFl_rel hC _ _ _ h
        rw [Nat.zero_add, Array.length_toList] at h3
        exact ⟨_, _, .frz _ _ _ _ _ _ (.flt b rid ops _ _ _ (Nat.le_of_ble_eq_true hn) (Nat.le_of_ble_eq_true hm) hok ⟨sq, h1, fun i o ho => by have := h2 i o (by simpa using ho); rwa [Nat.zero_add] at this, rfl⟩), h3⟩
      · cases h
    unfold runG at h
    split at h
    · cases h
    · rename_i hg
      simp only [Bool.or_eq_false_iff, Bool.not_eq_false'] at hg
      obtain ⟨hn, hm, hd⟩ := hg
      obtain ⟨st', h1, h2⟩ := runOps_rel hC _ _ _ h
      refine ⟨_, st', .frz _ _ _ _ _ _ (.region b rid ops dr _ st' (Nat.le_of_ble_eq_true hn) (Nat.le_of_ble_eq_true hm) (fun e => ?_) (fun e e2 => ?_) h1), h2⟩
      · subst e
        simp only [Bool.true_and, Bool.or_eq_false_iff, Bool.not_eq_false'] at hd
        exact hd.1
      · subst e
        rw [e2] at hd
        simp only [Bool.true_and, Bool.or_eq_false_iff, Bool.not_eq_false'] at hd
        exact hd.2
  | .seq x y, b, st, K, h => by
    simp only [runC] at h
    obtain ⟨e, st1, h1, h2⟩ := runC_rel hC hL x b st h
    cases e with
    | normal =>
      obtain ⟨e, st', h3, h4⟩ := runC_rel hC hL y b st1 h2
      exact ⟨e, st', .seq b x y st st1 st' e h1 h3, h4⟩
    | exit id => exact ⟨_, st1, .seqE b x y st st1 _ h1 (by simp), h2⟩
    | ret => exact ⟨_, st1, .seqE b x y st st1 _ h1 (by simp), h2⟩
  | .cond c x y, b, st, K, h => by
    simp only [runC] at h
    split at h
    · rename_i v hv
      cases v with
      | true =>
        obtain ⟨e, st', h1, h2⟩ := runC_rel hC hL x b st h
        exact ⟨e, st', .cond b c x y st st' e true hv (by simpa using h1), h2⟩
      | false =>
        obtain ⟨e, st', h1, h2⟩ := runC_rel hC hL y b st h
        exact ⟨e, st', .cond b c x y st st' e false hv (by simpa using h1), h2⟩
    · cases h
  | .block id c, b, st, K, h => by
    simp only [runC] at h
    obtain ⟨e, st1, h1, h2⟩ := runC_rel hC hL c id st h
    cases e with
    | normal => exact ⟨_, st1, .block b id c st st1 _ h1 (by simp), h2⟩
    | exit j =>
      simp only at h2
      split at h2
      · rename_i hj
        have := Nat.eq_of_beq_eq_true hj
        subst this
        exact ⟨_, st1, .blockX b _ c st st1 h1, h2⟩
      · rename_i hj
        refine ⟨_, st1, .block b id c st st1 _ h1 (fun e => ?_), h2⟩
        cases e
        simp at hj
    | ret => exact ⟨_, st1, .block b id c st st1 _ h1 (by simp), h2⟩
  | .loop c, b, st, K, h => by
    simp only [runC] at h
    obtain ⟨e, st', h1, h2⟩ := hL _ _ _ _ _ h
    exact ⟨e, st', .loop b c st st' e h1, h2⟩
  | .exit id, b, st, K, h => ⟨_, _, .exit b id st, h⟩
  | .ret, b, st, K, h => ⟨_, _, .ret b st, h⟩
  | .rangeFunc .., b, st, K, h => by simp [runC] at h
  | .scope _, b, st, K, h => by simp [runC] at h
  | .label _, b, st, K, h => by simp [runC] at h
  | .goto _, b, st, K, h => by simp [runC] at h
  | .refuse _, b, st, K, h => by simp [runC] at h
def exw : Ex → Exit
  | .normal => .normal
  | .exit id => .exit id
  | .ret => .ret
def LoopSound (P : Program) (E : Env) (w0 : World) (B : Old) (pv : Nat → Value) (d : Code) (LGb : St → Ex → St → Prop) : Prop :=
  ∀ (st : St) (e : Ex) (st' : St) (S : Nat → Prop) (ρ : Nat → Option Loc) (a : Act) (w : World) (Q : Exit → Act → World → Prop), LGb st e st' → Sim w0 B pv S ρ st a w → GlOk E pv S w →
    (∀ S' ρ' a' w', Sim w0 B pv S' ρ' st' a' w' → GlOk E pv S' w' → Grew B S S' → Q (exw e) a' w') → (Code.loop d).wp P Q a w
theorem code_ok {P : Program} {E : Env} {w0 : World} {B : Old} {pv : Nat → Value} {G : Cal → List AV → AV → Prop} {LG : Nat → St → Ex → St → Prop} (hE : EnvOk P E) (hG : GOk P E pv G) {b : Nat} {c : Code} {st : St} {e : Ex} {st' : St} (h : CodeR E G LG b c st e st') :
    (∀ p ∈ loopsOf b c, LoopSound P E w0 B pv p.2 (LG p.1)) → ∀ {S : Nat → Prop} {ρ : Nat → Option Loc} {a : Act} {w : World} {Q : Exit → Act → World → Prop}, Sim w0 B pv S ρ st a w → GlOk E pv S w →
    (∀ S' ρ' a' w', Sim w0 B pv S' ρ' st' a' w' → GlOk E pv S' w' → Grew B S S' → Q (exw e) a' w') → c.wp P Q a w := by
  induction h with
  | skip b st => exact fun _ S ρ a w Q hs hgl hQ => wp_skip (hQ S ρ a w hs hgl (Grew.refl _ _))
  | region b rid ops dr st st' hn hm hd hso h =>
    refine fun _ S ρ a w Q hs hgl hQ => region_ok (E := softE E dr ops (st.kill (rid * 1024) (rid * 1024 + 1024))) (hE.soft _ _ _) (hG.soft _ _ _) hn hm hd (fun e e2 => hso e ?_) h hs (GlOk.soft hgl _ _ _) fun S' ρ' a' w' h1 h2 h3 => hQ S' ρ' a' w' h1 (GlOk.unsoft h2) h3
    subst e
    have e3 := e2
    simp only [softE, Env.soft, Bool.true_and, Bool.and_eq_true] at e3
    simpa [softE, Env.soft, anySoft, softB] using e3.2
  | flt b rid ops st st' l hn hm hok h =>
    exact fun _ S ρ a w Q hs hgl hQ => regionF_ok hE hG hn hm hok h (hs.rdSlots l) hgl fun S' ρ' a' w' h1 h2 h3 => hQ S' ρ' a' w' h1 h2 h3
  | frz b c st st' e ids h ih =>
    intro hl S ρ a w Q hs hgl hQ
    exact ih hl (hs.frzs ids) (hgl.mono (fun _ h => .inl h) (fun _ _ => rfl)) fun S1 ρ1 a1 w1 h1 h2 h3 => hQ S1 ρ1 a1 w1 h1 h2 ((grew_frz hs _).trans h3)
  | seq b x y st st1 st' e h1 h2 ih1 ih2 =>
    intro hl S ρ a w Q hs hgl hQ
    refine wp_seq (ih1 (fun p hp => hl p (List.mem_append_left _ hp)) hs hgl fun S1 ρ1 a1 w1 hs1 hgl1 hS1 => ?_)
    exact ih2 (fun p hp => hl p (List.mem_append_right _ hp)) hs1 hgl1 fun S2 ρ2 a2 w2 hs2 hgl2 hS2 => hQ S2 ρ2 a2 w2 hs2 hgl2 (hS1.trans hS2)
  | seqE b x y st st' e h1 he ih =>
    intro hl S ρ a w Q hs hgl hQ
    refine wp_seq (ih (fun p hp => hl p (List.mem_append_left _ hp)) hs hgl fun S1 ρ1 a1 w1 hs1 hgl1 hS1 => ?_)
    have := hQ S1 ρ1 a1 w1 hs1 hgl1 hS1
    cases e with
    | normal => exact absurd rfl he
    | exit id => exact this
    | ret => exact this
  | cond b c x y st st' e v hc h ih =>
    intro hl S ρ a w Q hs hgl hQ
    have hv := ev_ok hgl hs c
    rw [hc] at hv
    refine wp_cond (vr_bool hv) (ih (fun p hp => hl p ?_) hs hgl hQ)
    cases v with
    | true => exact List.mem_append_left _ (by simpa using hp)
    | false => exact List.mem_append_right _ (by simpa using hp)
  | block b id c st st' e h he ih =>
    intro hl S ρ a w Q hs hgl hQ
    refine wp_block (ih hl hs hgl fun S1 ρ1 a1 w1 hs1 hgl1 hS1 => ?_)
    have := hQ S1 ρ1 a1 w1 hs1 hgl1 hS1
    cases e with
    | normal => exact this
    | exit j =>
      have hj : j ≠ id := fun e => he (by rw [e])
      simp only [Exit.inBlock, exw] at this ⊢
      rw [if_neg (by simpa using hj)]
      exact this
    | ret => exact this
  | blockX b id c st st' h ih =>
    intro hl S ρ a w Q hs hgl hQ
    refine wp_block (ih hl hs hgl fun S1 ρ1 a1 w1 hs1 hgl1 hS1 => ?_)
    have := hQ S1 ρ1 a1 w1 hs1 hgl1 hS1
    simp only [Exit.inBlock, exw] at this ⊢
    rw [if_pos (by simp)]
    exact this
  | loop b c st st' e h =>
    intro hl S ρ a w Q hs hgl hQ
    exact hl (b, c) List.mem_cons_self st e st' S ρ a w Q h hs hgl hQ
  | exit b id st => exact fun _ S ρ a w Q hs hgl hQ => wp_exit (hQ S ρ a w hs hgl (Grew.refl _ _))
  | ret b st => exact fun _ S ρ a w Q hs hgl hQ => wp_ret (hQ S ρ a w hs hgl (Grew.refl _ _))
end Go.Gx
end
section
/- Functions: what the interpreter finds is what the machine's call does. -/
namespace Go.Gx
open Go.RowKit
set_option linter.unusedVariables false
set_option linter.unusedSimpArgs false
structure FunR (E : Env) (G : Cal → List AV → AV → Prop) (LG : Nat → St → Ex → St → Prop) (fn : Func) (c : Code) (args : List AV) (res : AV) (e : Ex) (st : St) (rs as : List AV) : Prop where
  body : fn.body = some c
  run : CodeR E G LG 0 c (start fn.ntmps args) e st
  out : ∀ id, e ≠ .exit id
  vals : resAll E st fn.results.toList = some rs
  dis : distinctL (idsL rs) = true
  eps : anyL (epsN 6) rs = false
  ret : retAll st rs = some as
  ans : res = one as
theorem runF_rel {E : Env} {C : Orc} {L : LOrc} {G : Cal → List AV → AV → Prop} {LG : Nat → St → Ex → St → Prop} (hC : OrcIs C G) (hL : LIs L LG) {fn : Func} {args : List AV} {R : Type} {K : AV → Option R} {r : R} (h : runF E C L fn args K = some r) :
    ∃ c res e st rs as, FunR E G LG fn c args res e st rs as ∧ K res = some r := by
  unfold runF at h
  split at h
  · rename_i c hc
    obtain ⟨e, st, h1, h2⟩ := runC_rel hC hL c 0 _ h
    have go : (match resAll E st fn.results.toList with
      | some rs => match distinctL (idsL rs) && !anyL (epsN 6) rs with
        | true => match retAll st rs with
          | some as => K (one as)
          | none => none
        | false => none
      | none => none) = some r → (∀ id, e ≠ .exit id) → ∃ c res e st rs as, FunR E G LG fn c args res e st rs as ∧ K res = some r := fun h2 he => by
      split at h2
      · rename_i rs hrs
        split at h2
        · rename_i hd
          simp only [Bool.and_eq_true, Bool.not_eq_true'] at hd
          split at h2
          · rename_i as has
            exact ⟨c, _, e, st, rs, as, ⟨hc, h1, he, hrs, hd.1, hd.2, has, rfl⟩, h2⟩
          · cases h2
        · cases h2
      · cases h2
    cases e with
    | exit id => cases h2
    | normal => exact go h2 (fun id h => by cases h)
    | ret => exact go h2 (fun id h => by cases h)
  · cases h
theorem distinctL_nodup : ∀ {l : List Nat}, distinctL l = true → l.Nodup
  | [], _ => List.nodup_nil
  | a :: l, h => by
    simp only [distinctL, Bool.and_eq_true, Bool.not_eq_true'] at h
    exact List.nodup_cons.2 ⟨by simpa using h.1, distinctL_nodup h.2⟩
def isOwn : AV → Bool
  | .fr _ _ _ => true
  | .agg _ _ => true
  | _ => false
theorem closeR_own {row : Nat → Option Row} {n : Nat} {a b : AV} (h : closeR row n a = some b) : isOwn b = false := by
  cases n with
  | zero => cases h
  | succ n =>
    cases a with
    | agg τ' fs =>
      simp only [closeR] at h
      split at h
      · obtain ⟨x, rfl⟩ := implode_nt h
        rfl
      · cases h
    | ep id i p => cases i <;> simp only [closeR] at h <;> (repeat' split at h) <;> first
      | (cases h; done)
      | (cases h; rfl)
    | clo f fs =>
      simp only [closeR] at h
      split at h
      · cases h; rfl
      · cases h
    | _ => simp only [closeR] at h <;> (repeat' split at h) <;> first
      | (cases h; done)
      | (cases h; rfl)
theorem flatX_at : ∀ {fs : List AV} {k i : Nat} {a : AV}, flatX k fs = true → i ≠ k → fs[i]? = some a → flatA a = true
  | [], _, _, _, _, _, h => by simp at h
  | b :: l, 0, i, a, h, hi, ha => by
    have go : ∀ {l : List AV} {i : Nat} {a : AV}, allFlat l = true → l[i]? = some a → flatA a = true := by
      intro l
      induction l with
      | nil => intro i a _ h; simp at h
      | cons c l ih =>
        intro i a h ha
        simp only [allFlat, Bool.and_eq_true] at h
        cases i with
        | zero => cases ha; exact h.1
        | succ i => exact ih h.2 (by simpa using ha)
    cases i with
    | zero => exact absurd rfl hi
    | succ i => exact go (l := l) h (by simpa using ha)
  | b :: l, k + 1, i, a, h, hi, ha => by
    simp only [flatX, Bool.and_eq_true] at h
    cases i with
    | zero => cases ha; exact h.1
    | succ i => exact flatX_at (i := i) (k := k) h.2 (fun e => hi (by rw [e])) (by simpa using ha)
theorem flat_ar {S S' : Nat → Prop} {w w' : World} {ρ ρ' : Nat → Option Loc} {row row' : Nat → Option Row} {pv : Nat → Value} {a : AV} {cs : List Value} (h : flatA a = true) (ha : AR S w ρ row pv a cs) : AR S' w' ρ' row' pv a cs := by
  cases ha with
  | t τ x _ hx => exact .t τ x _ (cr_flat (by simpa [flatA] using h) hx)
  | _ => cases h
theorem ret1_form {st : St} {a b : AV} (h : ret1 st a = some b) : (∃ id e τ, ∃ xs : List (den τ), a = .own id ∧ st.row id = some (.flat e τ xs false true) ∧ b = .fr e τ xs) ∨
    (∃ id e τ fs k σ, ∃ xs : List (den σ), a = .agg τ fs ∧ fs[k]? = some (.own id) ∧ flatX k fs = true ∧ st.row id = some (.flat e σ xs false true) ∧ b = .agg τ (fs.set k (.fr e σ xs))) ∨
    (∃ τ fs k, a = .agg τ fs ∧ fs[k]? = some .nil ∧ flatX k fs = true ∧ b = .agg τ fs) ∨ (closeR st.row 6 a = some b ∧ isOwn b = false) := by
  unfold ret1 at h
  split at h
  · rename_i id
    split at h
    · rename_i e τ xs hr
      cases h
      exact .inl ⟨id, e, τ, xs, rfl, hr, rfl⟩
    · rename_i e τ xs fz app _ hr
      cases h
      exact .inr (.inr (.inr ⟨by simp only [closeR, hr], rfl⟩))
    · cases h
  · rename_i τ fs
    split at h
    · rename_i b' hb
      simp only [Option.some.injEq] at h
      subst h
      unfold retF at hb
      split at hb
      · rename_i k hk
        split at hb
        · rename_i id h1 h2
          split at hb
          · rename_i e σ xs hr
            cases hb
            exact .inr (.inl ⟨id, e, τ, fs, k, σ, xs, rfl, h1, h2, hr, rfl⟩)
          · cases hb
        · rename_i h1 h2
          cases hb
          exact .inr (.inr (.inl ⟨τ, fs, k, rfl, h1, h2, rfl⟩))
        · cases hb
      · cases hb
    · exact .inr (.inr (.inr ⟨h, closeR_own h⟩))
  · exact .inr (.inr (.inr ⟨h, closeR_own h⟩))
theorem retAll_get {st : St} : ∀ {rs as : List AV}, retAll st rs = some as → as.length = rs.length ∧ ∀ (i : Nat) b, as[i]? = some b → ∃ a, rs[i]? = some a ∧ ret1 st a = some b
  | [], as, h => by cases h; exact ⟨rfl, fun i b h => by simp at h⟩
  | a :: l, as, h => by
    simp only [retAll] at h
    split at h
    · rename_i b hb
      split at h
      · rename_i m hm
        cases h
        obtain ⟨h1, h2⟩ := retAll_get hm
        refine ⟨by simp [h1], fun i c hc => ?_⟩
        cases i with
        | zero => cases hc; exact ⟨a, rfl, hb⟩
        | succ i => simpa using h2 i c (by simpa using hc)
      · cases h
    · cases h
theorem resAll_get {E : Env} {st : St} : ∀ {l : List ResultVar} {rs : List AV}, resAll E st l = some rs → rs.length = l.length ∧ ∀ (i : Nat) x, l[i]? = some x → ∃ b, rs[i]? = some b ∧ resA E st x = some b
  | [], rs, h => by cases h; exact ⟨rfl, fun i b h => by simp at h⟩
  | a :: l, rs, h => by
    simp only [resAll] at h
    split at h
    · rename_i b hb
      split at h
      · rename_i m hm
        cases h
        obtain ⟨h1, h2⟩ := resAll_get hm
        refine ⟨by simp [h1], fun i c hc => ?_⟩
        cases i with
        | zero => cases hc; exact ⟨b, rfl, hb⟩
        | succ i => simpa using h2 i c (by simpa using hc)
      · cases h
    · cases h
theorem run_mapM {P : Program} {w : World} {α : Type} {f : α → Sem Value} : ∀ {l : List α} {vs : List Value}, vs.length = l.length → (∀ (i : Nat) x v, l[i]? = some x → vs[i]? = some v → (f x).run P w = .ok v w) → (l.mapM f).run P w = .ok vs w
  | [], [], _, _ => by simp
  | [], _ :: _, h, _ => by simp at h
  | _ :: _, [], h, _ => by simp at h
  | x :: l, v :: vs, h, hf => by
    have h1 := hf 0 x v rfl rfl
    have h2 := run_mapM (l := l) (vs := vs) (by simpa using h) fun i x v hx hv => hf (i + 1) x v (by simpa using hx) (by simpa using hv)
    simp [List.mapM_cons, h1, h2]
theorem idsL_split {a : AV} : ∀ {l : List AV} {i : Nat} {id : Nat}, l[i]? = some a → id ∈ idsN 6 a → (idsL l).Nodup → ∀ j b, j ≠ i → l[j]? = some b → id ∉ idsN 6 b
  | [], i, id, h, _, _, _, _, _, _ => by simp at h
  | c :: l, i, id, h, hm, hn, j, b, hj, hb => by
    obtain ⟨h1, h2, h3⟩ := List.nodup_append.1 (show (idsN 6 c ++ idsL l).Nodup from hn)
    cases i with
    | zero =>
      cases h
      cases j with
      | zero => exact absurd rfl hj
      | succ j => exact fun hb' => h3 id hm id (idsL_mem (List.mem_of_getElem? (by simpa using hb)) hb') rfl
    | succ i =>
      cases j with
      | zero =>
        cases hb
        exact fun hb' => h3 id hb' id (idsL_mem (List.mem_of_getElem? (by simpa using h)) hm) rfl
      | succ j => exact idsL_split (l := l) (i := i) (by simpa using h) hm h2 j b (by omega) (by simpa using hb)
def plainIds (st : St) : List AV → List Nat
  | [] => []
  | a :: l => (match ret1 st a with
    | some b => cond (isOwn b) [] (idsN 6 a)
    | none => idsN 6 a) ++ plainIds st l
theorem plainIds_mem {st : St} {id : Nat} : ∀ {rs : List AV}, id ∈ plainIds st rs → ∃ (i : Nat) (a : AV), rs[i]? = some a ∧ id ∈ idsN 6 a ∧ ∀ b, ret1 st a = some b → isOwn b = false
  | [], h => by cases h
  | a :: l, h => by
    simp only [plainIds] at h
    rcases List.mem_append.1 h with h | h
    · split at h
      · rename_i b hb
        cases ho : isOwn b with
        | true => rw [ho] at h; cases h
        | false =>
          rw [ho] at h
          exact ⟨0, a, rfl, h, fun b' hb' => by rw [hb] at hb'; cases hb'; exact ho⟩
      · rename_i hn
        exact ⟨0, a, rfl, h, fun b' hb' => by rw [hn] at hb'; cases hb'⟩
    · obtain ⟨i, b, h1, h2, h3⟩ := plainIds_mem h
      exact ⟨i + 1, b, by simpa using h1, h2, h3⟩
theorem mem_plainIds {st : St} {id : Nat} : ∀ {rs : List AV} {a : AV}, a ∈ rs → id ∈ idsN 6 a → (∀ b, ret1 st a = some b → isOwn b = false) → id ∈ plainIds st rs
  | [], a, h, _, _ => by cases h
  | c :: l, a, h, hi, hn => by
    simp only [plainIds]
    rcases List.mem_cons.1 h with rfl | h
    · refine List.mem_append_left _ ?_
      split
      · rename_i b hb
        rw [hn b hb]
        exact hi
      · exact hi
    · exact List.mem_append_right _ (mem_plainIds h hi hn)
section
variable {P : Program} {E : Env} {pv : Nat → Value} {G : Cal → List AV → AV → Prop} {LG : Nat → St → Ex → St → Prop}
theorem res_run (hE : EnvOk P E) {w0 : World} {B : Old} {S1 : Nat → Prop} {ρ : Nat → Option Loc} {st : St} {a : Act} {w1 : World} {fn : Func} {rs : List AV} (hs : Sim w0 B pv S1 ρ st a w1) (hvals0 : resAll E st fn.results.toList = some rs) :
    ∃ vs' : List Value, vs'.length = rs.length ∧ (∀ (i : Nat) b v, rs[i]? = some b → vs'[i]? = some v → VR S1 w1 ρ st.row pv b v) ∧ (results fn a.tmps).run P w1 = .ok (if h : vs'.toArray.size = 1 then vs'.toArray[0] else .tuple vs'.toArray) w1 := by
  obtain ⟨hrl, hrg⟩ := resAll_get hvals0
  -- the machine's results
  have hval : ∀ x b, resA E st x = some b → ∃ v, VR S1 w1 ρ st.row pv b v ∧ (match x with
      | ResultVar.tmp t => (pure (a.tmps.getD t undef) : Sem Value)
      | ResultVar.cell t T => do loadVar T (← asAddr (a.tmps.getD t undef))).run P w1 = .ok v w1 := fun x b hx => by
    cases x with
    | tmp t => cases hx; exact ⟨_, hs.slots t, rfl⟩
    | cell t T =>
      simp only [resA] at hx
      split at hx
      · rename_i τ j hT hj
        split at hx
        · rename_i σ b' hr
          split at hx
          · rename_i e _
            subst e
            cases hx
            have hv := hs.slots t
            rw [hj] at hv
            obtain ⟨g, c, τ', h1, h2, h3⟩ := vr_epB hv hr
            obtain ⟨cur, T', h4, h5, h6⟩ := hs.hs.rows j _ _ hr h2
            have hrun := run_loadT (P := P) (hE.ty _ _ hT) h5 h6 (cells_of h4)
            refine ⟨_, .inr ⟨_, h6, rfl⟩, ?_⟩
            show (do loadVar T (← asAddr (a.tmps.getD t undef)) : Sem Value).run P w1 = _
            rw [h3]
            simpa [Instr.loadAt, Instr.sureAddr, asAddr, offP] using hrun
          · cases hx
        · cases hx
      · cases hx
  have hvals : ∃ vs' : List Value, vs'.length = rs.length ∧ (∀ (i : Nat) b v, rs[i]? = some b → vs'[i]? = some v → VR S1 w1 ρ st.row pv b v) ∧ (fn.results.toList.mapM fun
      | ResultVar.tmp t => (pure (a.tmps.getD t undef) : Sem Value)
      | ResultVar.cell t T => do loadVar T (← asAddr (a.tmps.getD t undef))).run P w1 = .ok vs' w1 := by
    have key : ∀ i : Nat, ∃ v, ∀ x, fn.results.toList[i]? = some x → ∃ b, rs[i]? = some b ∧ VR S1 w1 ρ st.row pv b v ∧ (match x with
      | ResultVar.tmp t => (pure (a.tmps.getD t undef) : Sem Value)
      | ResultVar.cell t T => do loadVar T (← asAddr (a.tmps.getD t undef))).run P w1 = .ok v w1 := fun i => by
      cases hx : fn.results.toList[i]? with
      | none => exact ⟨undef, fun x h => by cases h⟩
      | some x =>
        obtain ⟨b, h1, h2⟩ := hrg i x hx
        obtain ⟨v, h3, h4⟩ := hval x b h2
        exact ⟨v, fun y hy => by cases hy; exact ⟨b, h1, h3, h4⟩⟩
    let vf := fun i => Classical.choose (key i)
    have hvf := fun i => Classical.choose_spec (key i)
    refine ⟨(List.range rs.length).map vf, by simp, fun i b v hb hv => ?_, run_mapM (by simp [hrl]) fun i x v hx hv => ?_⟩
    · have hi := (List.getElem?_eq_some_iff.1 hb).1
      have hx : fn.results.toList[i]? = some fn.results.toList[i] := List.getElem?_eq_getElem (by omega)
      obtain ⟨b', h1, h2, h3⟩ := hvf i _ hx
      rw [hb] at h1
      cases h1
      simp only [List.getElem?_map, List.getElem?_range hi, Option.map_some, Option.some.injEq] at hv
      subst hv
      exact h2
    · have hi := (List.getElem?_eq_some_iff.1 hx).1
      obtain ⟨b', h1, h2, h3⟩ := hvf i _ hx
      simp only [List.getElem?_map, List.getElem?_range (show i < rs.length by omega), Option.map_some, Option.some.injEq] at hv
      subst hv
      exact h3
  obtain ⟨vs', hvl', hvv, hrun⟩ := hvals
  have hres : (results fn a.tmps).run P w1 = .ok (if h : vs'.toArray.size = 1 then vs'.toArray[0] else .tuple vs'.toArray) w1 := by
    unfold results
    rw [Array.mapM_eq_mapM_toList]
    simp only [Sem.run_bind, Sem.run_map, Sem.run_pure]
    exact (congrArg (fun r => Result.andThen (Result.andThen r fun (l : List Value) w' => .ok l.toArray w') fun (us : Array Value) w' => .ok (if h : us.size = 1 then us[0] else .tuple us) w') hrun).trans rfl
  exact ⟨vs', hvl', hvv, hres⟩
theorem ans_ok (hE : EnvOk P E) {w0 : World} {B : Old} {S1 : Nat → Prop} {ρ : Nat → Option Loc} {st : St} {a : Act} {w1 : World} {fn : Func} {rs as : List AV} {n0 : Nat} (hs : Sim w0 B pv S1 ρ st a w1) (hvals0 : resAll E st fn.results.toList = some rs) (hdis : distinctL (idsL rs) = true) (heps : anyL (epsN 6) rs = false) (hret : retAll st rs = some as)
    (hnew : ∀ id r g c, id ∈ idsL rs → st.row id = some r → ρ id = some (.at g c) → n0 ≤ g) :
    ∃ v, (results fn a.tmps).run P w1 = .ok v w1 ∧ (∀ b, frzS S1 ρ st.row (plainIds st rs) b → S1 b ∨ (n0 ≤ b ∧ b < w1.heap.size)) ∧ RR (frzS S1 ρ st.row (plainIds st rs)) w1 n0 pv (one as) v := by
  obtain ⟨hal, hag⟩ := retAll_get hret
  obtain ⟨vs', hvl', hvv, hres⟩ := res_run hE hs hvals0
  refine ⟨_, hres, fun b hb => ?_, ?_⟩
  · rcases hb with hb | ⟨id, hid, r, c, hr, _, hl'⟩
    · exact .inl hb
    · obtain ⟨j, b', k1, k2, _⟩ := plainIds_mem hid
      exact .inr ⟨hnew id r b c (idsL_mem (List.mem_of_getElem? k1) k2) hr hl', (hs.hs.rows id r _ hr hl').lt⟩
  · -- component by component
    have comp : ∀ i : Nat, ∃ g : Option Nat, ∀ (b : AV) (v : Value), as[i]? = some b → vs'[i]? = some v → R1 (frzS S1 ρ st.row (plainIds st rs)) w1 n0 pv b v g ∧ (∀ g0, g = some g0 → ∃ id c ra, rs[i]? = some ra ∧ id ∈ idsN 6 ra ∧ ρ id = some (.at g0 c) ∧ st.row id ≠ none) := fun i => by
      by_cases hi : i < as.length
      · have hb : as[i]? = some as[i] := List.getElem?_eq_getElem hi
        have hv : vs'[i]? = some vs'[i] := List.getElem?_eq_getElem (by omega)
        obtain ⟨ra, h1, h2⟩ := hag i _ hb
        have hvr := hvv i ra _ h1 hv
        -- a row that is handed back
        have apart : ∀ {id e' τ} {xs : List (den τ)} {g cap}, st.row id = some (.flat e' τ xs false true) → ρ id = some (.at g cap) → id ∈ idsN 6 ra → isOwn as[i] = true → n0 ≤ g ∧ ¬ frzS S1 ρ st.row (plainIds st rs) g ∧ RowOk (frzS S1 ρ st.row (plainIds st rs)) w1 (fun _ => none) (fun _ => none) pv (.flat e' τ xs false true) (.at g cap) := fun {id e' τ xs g cap} hr hl' hid hown => by
          have hap := hs.hs.apart id _ g cap hl' hr
          refine ⟨hnew id _ g cap (idsL_mem (List.mem_of_getElem? h1) hid) hr hl', ?_, (hs.hs.rows id _ _ hr hl' |> fun ⟨cur, f', k1, k2, k3, k4, k5, k6, k7, k8⟩ => ⟨cur, f', k1, k2, k3, k4, k5, k6, k7, fun i hi => by
              obtain ⟨cs, k9, k10⟩ := k8 i hi
              exact ⟨cs, k9.mono (fun b hb => hb.mono .inl rfl) (fun _ _ => rfl), k10⟩⟩)⟩
          rintro (hS | ⟨id', hid', r', c', hr', _, hl2⟩)
          · exact hap.2.1 rfl hS
          · have := hs.hs.inj id id' g cap c' hl' hl2 (by rw [hr]; simp) (by rw [hr']; simp)
            subst this
            obtain ⟨j, b', k1, k2, k3⟩ := plainIds_mem hid'
            by_cases hji : j = i
            · subst hji
              rw [h1] at k1
              cases k1
              have := k3 _ h2
              rw [hown] at this
              cases this
            · exact idsL_split (i := i) h1 hid (distinctL_nodup hdis) j b' hji k1 k2
        have flatUp : ∀ {S' : Nat → Prop} {k : Nat} {τ : Ty} {fs : List AV} {css : List (List Value)}, flatX k fs = true → (∀ (i : Nat) a cs, fs[i]? = some a → css[i]? = some cs → AR S1 w1 ρ st.row pv a cs) → ∀ (i : Nat) a cs, i ≠ k → fs[i]? = some a → css[i]? = some cs → AR S' w1 (fun _ => none) (fun _ => none) pv a cs := fun hf hh i a cs hi ha hc => flat_ar (flatX_at hf hi ha) (hh i a cs ha hc)
        rcases ret1_form h2 with ⟨id, e', τ, xs, rfl, hr, hbe⟩ | ⟨id, e', τ, fs, k, σ, xs, rfl, hk, hfx, hr, hbe⟩ | ⟨τ, fs, k, rfl, hk, hfx, hbe⟩ | ⟨hcl, hnf⟩
        · rcases vr_own hvr hr with ⟨g, cap, hl', hv'⟩ | ⟨hl', rfl, hv'⟩
          · refine ⟨some g, fun b v hb' hv'' => ?_⟩
            rw [hb] at hb'; rw [hv] at hv''
            cases hb'; cases hv''
            obtain ⟨m1, m2, m3⟩ := apart hr hl' (by simp [idsN]) (by rw [hbe]; rfl)
            refine ⟨?_, fun g0 e => by cases e; exact ⟨id, cap, _, h1, by simp [idsN], hl', by rw [hr]; simp⟩⟩
            rw [hbe, hv']
            exact .fr e' τ xs g cap m1 m2 m3
          · refine ⟨none, fun b v hb' hv'' => ?_⟩
            rw [hb] at hb'; rw [hv] at hv''
            cases hb'; cases hv''
            refine ⟨?_, fun g0 e => by cases e⟩
            rw [hbe, hv']
            exact .frNil e' τ (hs.hs.rows id _ _ hr hl').2.2
        · obtain ⟨cs, k1, k2⟩ := vr_ar hvr (by simp)
          cases k1 with
          | agg _ _ css hl hh =>
            have hkl : k < fs.length := (List.getElem?_eq_some_iff.1 hk).1
            have hck : css[k]? = some css[k] := List.getElem?_eq_getElem (by omega)
            have hown := hh k _ _ hk hck
            have hoth : ∀ (j : Nat) a cs, j ≠ k → (fs.set k (.fr e' σ xs))[j]? = some a → css[j]? = some cs → AR (frzS S1 ρ st.row (plainIds st rs)) w1 (fun _ => none) (fun _ => none) pv a cs := fun j a cs hj ha hc => by
              rw [List.getElem?_set_ne (Ne.symm hj)] at ha
              exact flatUp (τ := τ) hfx hh j a cs hj ha hc
            have hid : id ∈ idsN 6 (.agg τ fs) := by
              simp only [idsN]
              exact mem_go (f := idsN 5) hk (by simp [idsN])
            have hvv2 : vs'[i] = .agg css.flatten.toArray := by rw [k2]; rfl
            have hgo : ∀ c, css[k] = c → AR S1 w1 ρ st.row pv (.own id) c → (∃ g cap, ρ id = some (.at g cap) ∧ c = [.slice (some ⟨g, 0, none⟩) xs.length cap]) ∨ (ρ id = some .nilrow ∧ xs = [] ∧ c = [.slice none 0 0]) := fun c _ hc => by
              cases hc with
              | own _ e2 τ2 xs2 fz app g cap h3 h4 => rw [hr] at h3; cases h3; exact .inl ⟨g, cap, h4, rfl⟩
              | ownNil _ e2 τ2 fz app h3 h4 => rw [hr] at h3; cases h3; exact .inr ⟨h4, rfl, rfl⟩
            rcases hgo _ rfl hown with ⟨g, cap, hl', hce⟩ | ⟨hl', hxs, hce⟩
            · refine ⟨some g, fun b v hb' hv'' => ?_⟩
              rw [hb] at hb'; rw [hv] at hv''
              cases hb'; cases hv''
              obtain ⟨m1, m2, m3⟩ := apart hr hl' hid (by rw [hbe]; rfl)
              refine ⟨?_, fun g0 e => by cases e; exact ⟨id, cap, _, h1, hid, hl', by rw [hr]; simp⟩⟩
              rw [hbe, hvv2]
              exact .agf τ _ css k e' σ xs g cap (by simpa using hl) (List.getElem?_set_self hkl) (by rw [hck, hce]) hoth m1 m2 m3
            · subst hxs
              refine ⟨none, fun b v hb' hv'' => ?_⟩
              rw [hb] at hb'; rw [hv] at hv''
              cases hb'; cases hv''
              refine ⟨?_, fun g0 e => by cases e⟩
              rw [hbe, hvv2]
              exact .agfNil τ _ css k e' σ (by simpa using hl) (List.getElem?_set_self hkl) (by rw [hck, hce]) hoth (hs.hs.rows id _ _ hr hl').2.2
        · obtain ⟨cs, k1, k2⟩ := vr_ar hvr (by simp)
          cases k1 with
          | agg _ _ css hl hh =>
            refine ⟨none, fun b v hb' hv'' => ?_⟩
            rw [hb] at hb'; rw [hv] at hv''
            cases hb'; cases hv''
            refine ⟨?_, fun g0 e => by cases e⟩
            rw [hbe, k2]
            refine .plain (.agg τ fs) _ (.agg τ fs css hl fun j a cs ha hc => ?_)
            by_cases hj : j = k
            · subst hj
              rw [hk] at ha
              cases ha
              have := hh j _ _ hk hc
              cases this
              exact .nil
            · exact flatUp (τ := τ) hfx hh j a cs hj ha hc
        · refine ⟨none, fun b v hb' hv'' => ?_⟩
          rw [hb] at hb'; rw [hv] at hv''
          cases hb'; cases hv''
          refine ⟨?_, fun g0 e => by cases e⟩
          obtain ⟨cs, k1, k2⟩ := vr_ar hvr (by rintro rfl; simp [closeR] at hcl)
          have k3 := closeR_ok (ρ0 := fun _ => none) (row0 := fun _ => none) (S1 := frzS S1 ρ st.row (plainIds st rs)) hs.hs (fun _ h => .inl h) hcl k1 (.inr ⟨anyL_false (f := epsN 6) heps h1, fun id hid r g c hr hz hl' => .inr ⟨id, mem_plainIds (List.mem_of_getElem? h1) hid (fun b' he => by
            rw [h2] at he
            simp only [Option.some.injEq] at he
            rw [← he]; exact hnf), r, c, hr, hz, hl'⟩⟩)
          rw [k2, show valOf ra cs = valOf as[i] cs by rw [valOf, valOf, closeR_ag hcl]]
          exact .plain _ cs k3
      · exact ⟨none, fun b v hb' _ => by rw [List.getElem?_eq_none (by omega)] at hb'; cases hb'⟩
    have notup : ∀ (i : Nat) (b : AV), as[i]? = some b → ∀ l, b ≠ AV.tup l := fun i b hb l e => by
      obtain ⟨ra, h1, h2⟩ := hag i _ hb
      subst e
      rcases ret1_form h2 with ⟨id, e', τ, xs, rfl, hr, hbe⟩ | ⟨id, e', τ, fs, k, σ, xs, rfl, hk, hfx, hr, hbe⟩ | ⟨τ, fs, k, rfl, hk, hfx, hbe⟩ | ⟨hcl, hnf⟩
      · cases hbe
      · cases hbe
      · cases hbe
      · have h3 := closeR_ag hcl
        cases ra with
        | agg τ' fs => cases h3
        | ep id i p => cases i <;> simp only [closeR] at hcl <;> (repeat' split at hcl) <;> cases hcl
        | _ => simp only [closeR] at hcl <;> (repeat' split at hcl) <;> cases hcl
    obtain ⟨gf, hgf⟩ : ∃ gf : Nat → Option Nat, ∀ (i : Nat) (b : AV) (v : Value), as[i]? = some b → vs'[i]? = some v → R1 (frzS S1 ρ st.row (plainIds st rs)) w1 n0 pv b v (gf i) ∧ (∀ g0, gf i = some g0 → ∃ id c ra, rs[i]? = some ra ∧ id ∈ idsN 6 ra ∧ ρ id = some (.at g0 c) ∧ st.row id ≠ none) :=
      ⟨fun i => Classical.choose (comp i), fun i => Classical.choose_spec (comp i)⟩
    have many : as.length ≠ 1 → RR (frzS S1 ρ st.row (plainIds st rs)) w1 n0 pv (.tup as) (.tuple vs'.toArray) := fun _ => by
      refine ⟨vs', (List.range as.length).map gf, rfl, by omega, by simp, fun i r v g hr hv hg' => ?_, fun i j g hij hgi hgj => ?_⟩
      · have hi := (List.getElem?_eq_some_iff.1 hr).1
        simp only [List.getElem?_map, List.getElem?_range hi, Option.map_some, Option.some.injEq] at hg'
        subst hg'
        exact (hgf i r v hr hv).1
      · have hi : i < as.length := by have := (List.getElem?_eq_some_iff.1 hgi).1; simpa using this
        have hj : j < as.length := by have := (List.getElem?_eq_some_iff.1 hgj).1; simpa using this
        simp only [List.getElem?_map, List.getElem?_range hi, List.getElem?_range hj, Option.map_some, Option.some.injEq] at hgi hgj
        obtain ⟨id, c, ra, k1, k4, k2, k3⟩ := (hgf i _ _ (List.getElem?_eq_getElem hi) (List.getElem?_eq_getElem (by omega))).2 g hgi
        obtain ⟨id', c', ra', k1', k4', k2', k3'⟩ := (hgf j _ _ (List.getElem?_eq_getElem hj) (List.getElem?_eq_getElem (by omega))).2 g hgj
        have := hs.hs.inj id id' g c c' k2 k2' k3 k3'
        subst this
        exact idsL_split (i := i) (id := id) k1 k4 (distinctL_nodup hdis) j _ (fun e => hij e.symm) k1' k4'
    have hlen : vs'.length = as.length := by omega
    clear comp hres hvv
    match as, vs', many, hgf, notup, hlen with
    | [], vs', many, _, _, hlen =>
      have : vs' = [] := List.eq_nil_of_length_eq_zero hlen
      subst this
      exact many (by simp)
    | [b], [v], many, hgf, notup, hlen =>
      have hb := (hgf 0 b v rfl rfl).1
      have : RR (frzS S1 ρ st.row (plainIds st rs)) w1 n0 pv b v := by
        cases b with
        | tup l => exact absurd rfl (notup 0 _ rfl l)
        | _ => exact ⟨_, hb⟩
      simpa [one] using this
    | [b], [], _, _, _, hlen => simp at hlen
    | [b], _ :: _ :: _, _, _, _, hlen => simp at hlen
    | b :: b2 :: l, vs', many, _, _, hlen =>
      have hne : vs'.toArray.size ≠ 1 := by
        simp only [List.size_toArray, hlen, List.length_cons]
        omega
      rw [dif_neg hne]
      exact many (by simp)
theorem funR_meets (hE : EnvOk P E) (hG : GOk P E pv G) {f : FuncId} {fn : Func} (hf : P.funcs[f]? = some fn) (hname : (fn.name == "runtime.NumGoroutine") = false) {c : Code} {args : List AV} {res : AV} {e : Ex} {st : St} {rs as : List AV}
    (h : FunR E G LG fn c args res e st rs as) (hn : args.length ≤ fn.ntmps) (hl : ∀ w0 B, ∀ p ∈ loopsOf 0 c, LoopSound P E w0 B pv p.2 (LG p.1)) : Meets P E pv (.f f) args res := by
  intro S w vs hst hgl hargs
  obtain ⟨hvl, hva⟩ := hargs
  show RunsTo P _ ((callFunc f vs.toArray).run P w)
  have hcall : (callFunc f vs.toArray).run P w = .ok (.enter f vs.toArray) w := by
    have hn' : fn.name ≠ "runtime.NumGoroutine" := by simpa using hname
    simp [callFunc, hf, hn', h.body]
  rw [hcall]
  refine calls_of_wp hf h.body ?_
  have hs0 : Sim w ⟨fun b => b < w.heap.size, none⟩ pv S (fun _ => none) (start fn.ntmps args) { tmps := vs.toArray ++ Array.replicate (fn.ntmps - vs.toArray.size) undef, defers := [] } w := by
    refine ⟨by simp [start]; omega, rfl, fun t => ?_, ⟨hst, fun id r l h1 _ => (by cases h1), fun id id' l l' b h1 => (by cases h1), fun id r l b h1 => (by cases h1), fun l hl => (by cases hl)⟩, Blw.refl _ _, fun _ h => h⟩
    rw [Array.getD_eq_getD_getElem?]
    simp only [start]
    by_cases ht : t < args.length
    · have ha : args[t]? = some args[t] := List.getElem?_eq_getElem ht
      have hv : vs[t]? = some vs[t] := List.getElem?_eq_getElem (by omega)
      obtain ⟨cs, h1, h2⟩ := hva t _ _ ha hv
      rw [Array.getElem?_append_left (by simp; omega)]
      simp only [List.getElem?_toArray, ha, hv, Option.getD_some]
      exact .inr ⟨cs, h1, h2⟩
    · have ha : args[t]? = none := List.getElem?_eq_none (by omega)
      rw [ha, Array.getElem?_append_right (by simp; omega)]
      simp only
      have : (Array.replicate (fn.ntmps - vs.toArray.size) undef)[t - vs.toArray.size]?.getD undef = undef := by
        cases hx : (Array.replicate (fn.ntmps - vs.toArray.size) undef)[t - vs.toArray.size]? with
        | none => rfl
        | some u =>
          have := Array.mem_of_getElem? hx
          rw [Array.mem_replicate] at this
          rw [this.2]; rfl
      rw [this]
      exact vr_undef
  refine code_ok hE hG h.run (hl w ⟨fun b => b < w.heap.size, none⟩) hs0 hgl fun S1 ρ a w1 hs hgl1 hg => ?_
  suffices hfin : a.defers = [] ∧ ∃ v, (results fn a.tmps).run P w1 = .ok v w1 ∧ (∃ v', Ending.returned v = .returned v' ∧ (Below w.heap.size w w1 ∧ ∃ S' : Nat → Prop, (∀ b, S b → S' b) ∧ (∀ b, S' b → S b ∨ (w.heap.size ≤ b ∧ b < w1.heap.size)) ∧ RR S' w1 w.heap.size pv res v')) by
    cases e with
    | normal => exact hfin
    | ret => exact hfin
    | exit id => exact absurd rfl (h.out id)
  refine ⟨hs.defers, ?_⟩
  obtain ⟨v, hres, hS, hrr⟩ := ans_ok hE (n0 := w.heap.size) hs h.vals h.dis h.eps h.ret fun id r g c _ hr hl' => Nat.le_of_not_lt (hs.hs.apart id r g c hl' hr).1
  refine ⟨v, hres, v, rfl, hs.below.to, frzS S1 ρ st.row (plainIds st rs), fun b hb => .inl (hg.sub b hb (hst b hb)), fun b hb => ?_, by rw [h.ans]; exact hrr⟩
  rcases hS b hb with h1 | h1
  · exact (hg.new b h1).imp _root_.id fun h => ⟨Nat.le_of_not_lt h, hs.hs.stab b h1⟩
  · exact .inr h1
inductive EndM (st : St) (mb : Nat) (a0 : AV) (rs : List AV) : AV → Prop
  | kep (as : List AV) (o : AV) (hmb : mb = mbase) (hdis : distinctL (idsL rs) = true) (heps : anyL (epsN 6) rs = false) (hn : mbase ∉ idsL rs) (hret : retAll st rs = some as) (ho : outM st mbase a0 some = some o) : EndM st mb a0 rs (.kep o (one as))
  | mov (e : Nat) (τ : Ty) (ys : List (den τ)) (hmb : mb ≠ mbase) (hrs : rs = [.own mb]) (hrow : st.row mb = some (.flat e τ ys false true)) : EndM st mb a0 rs (.mov e τ ys)
  | eat (τ : Ty) (y : den τ) (hmb : mb ≠ mbase) (hsl : slT τ = false) (hrs : rs = [.t τ y]) : EndM st mb a0 rs (.pc false τ y)
structure FunM (E : Env) (G : Cal → List AV → AV → Prop) (LG : Nat → St → Ex → St → Prop) (fn : Func) (c : Code) (mb : Nat) (a0 : AV) (args : List AV) (res : AV) (e : Ex) (st : St) (rs : List AV) : Prop where
  body : fn.body = some c
  run : CodeR E G LG 0 c (startM fn.ntmps mb a0 args) e st
  out : ∀ id, e ≠ .exit id
  vals : resAll E st fn.results.toList = some rs
  ends : EndM st mb a0 rs res
theorem outM_nat {st : St} {mb : Nat} {a0 : AV} {R : Type} {K : AV → Option R} {r : R} (h : outM st mb a0 K = some r) : ∃ o, outM st mb a0 some = some o ∧ K o = some r := by
  unfold outM at h ⊢
  split at h
  · split at h
    · obtain ⟨h1, h2⟩ := cond_some h
      rw [h1]
      exact ⟨_, rfl, h2⟩
    · cases h
  · split at h
    · exact ⟨_, rfl, h⟩
    · cases h
  · cases h
theorem keepM_rel {st : St} {mb : Nat} {a0 : AV} {rs : List AV} {R : Type} {K : AV → Option R} {r : R} (h : keepM st mb a0 rs K = some r) : ∃ res, EndM st mb a0 rs res ∧ K res = some r := by
  unfold keepM at h
  split at h
  · rename_i hg
    simp only [Bool.and_eq_true, Bool.not_eq_true'] at hg
    obtain ⟨hmb, h1, h2, h3⟩ := hg
    have hmb := Nat.eq_of_beq_eq_true hmb
    subst hmb
    split at h
    · rename_i as has
      obtain ⟨o, ho, h⟩ := outM_nat h
      exact ⟨_, .kep as o rfl h1 h2 (by simpa using h3) has ho, h⟩
    · cases h
  · unfold eatM at h
    split at h
    · rename_i hmb
      cases hsl : slT _ <;> rw [hsl] at h
      · exact ⟨_, .eat _ _ (fun e => by rw [e, Nat.beq_refl] at hmb; cases hmb) hsl rfl, h⟩
      · cases h
    · cases h
theorem runM_rel {LG : Nat → St → Ex → St → Prop} {C : Orc} {L : LOrc} (hC : OrcIs C G) (hL : LIs L LG) {fn : Func} {mb : Nat} {a0 : AV} {args : List AV} {R : Type} {K : AV → Option R} {r : R} (h : runM E C L fn mb a0 args K = some r) :
    ∃ c res e st rs, FunM E G LG fn c mb a0 args res e st rs ∧ K res = some r := by
  unfold runM at h
  split at h
  · rename_i c hc
    obtain ⟨e, st, h1, h2⟩ := runC_rel hC hL c 0 _ h
    have go : (match resAll E st fn.results.toList with
      | some rs => match rs with
        | [.own i] => match Nat.beq i mb && !Nat.beq mb mbase with
          | true => match st.row mb with
            | some (.flat e τ ys false true) => K (.mov e τ ys)
            | _ => none
          | false => keepM st mb a0 [.own i] K
        | rs => keepM st mb a0 rs K
      | none => none) = some r → (∀ id, e ≠ .exit id) → ∃ c res e st rs, FunM E G LG fn c mb a0 args res e st rs ∧ K res = some r := fun h2 he => by
      split at h2
      · rename_i rs hrs
        split at h2
        · rename_i i
          split at h2
          · rename_i hi
            simp only [Bool.and_eq_true, Bool.not_eq_true'] at hi
            obtain ⟨hi, hmb⟩ := hi
            have hi := Nat.eq_of_beq_eq_true hi
            subst hi
            have hne : i ≠ mbase := fun e => by rw [e, Nat.beq_refl] at hmb; cases hmb
            split at h2
            · rename_i e' τ ys hr
              exact ⟨c, _, e, st, _, ⟨hc, h1, he, hrs, .mov e' τ ys hne rfl hr⟩, h2⟩
            · cases h2
          · obtain ⟨res, h3, h4⟩ := keepM_rel h2
            exact ⟨c, _, e, st, _, ⟨hc, h1, he, hrs, h3⟩, h4⟩
        · obtain ⟨res, h3, h4⟩ := keepM_rel h2
          exact ⟨c, _, e, st, _, ⟨hc, h1, he, hrs, h3⟩, h4⟩
      · cases h2
    cases e with
    | exit id => cases h2
    | normal => exact go h2 (fun id h => by cases h)
    | ret => exact go h2 (fun id h => by cases h)
  · cases h
def pinOf (mb : Nat) (l : Loc) : Option Loc := if mb = mbase then some l else none
theorem funM_meets (hE : EnvOk P E) (hG : GOk P E pv G) {LG : Nat → St → Ex → St → Prop} {f : FuncId} {fn : Func} (hf : P.funcs[f]? = some fn) (hname : (fn.name == "runtime.NumGoroutine") = false) {c : Code} {mb : Nat} {a0 : AV} {args : List AV} {res : AV} {e : Ex} {st : St} {rs : List AV}
    (h : FunM E G LG fn c mb a0 args res e st rs) (hmb : mb = mbase ∨ mb = mmove) (hn : args.length + 1 ≤ fn.ntmps) (hl : ∀ w0 B, ∀ p ∈ loopsOf 0 c, LoopSound P E w0 B pv p.2 (LG p.1)) : MeetsM P E pv f a0 args res := by
  intro S w v0 vs l r0 hst hgl hargs hr0 hrow hSl hv0
  obtain ⟨hvl, hva⟩ := hargs
  show RunsTo P _ ((callFunc f (v0 :: vs).toArray).run P w)
  have hcall : (callFunc f (v0 :: vs).toArray).run P w = .ok (.enter f (v0 :: vs).toArray) w := by
    have hn' : fn.name ≠ "runtime.NumGoroutine" := by simpa using hname
    simp [callFunc, hf, hn', h.body]
  rw [hcall]
  refine calls_of_wp hf h.body ?_
  have hf0 : frz r0 = false := by cases a0 <;> cases hr0 <;> rfl
  have hard := row_hard hr0 hrow
  have hlt : ∀ g c, l = .at g c → g < w.heap.size := fun g c e => by subst e; exact hrow.lt
  have hrow1 : (startM fn.ntmps mb a0 args).row mb = some r0 := by simp [startM, hr0]
  have hrow2 : ∀ id r, (startM fn.ntmps mb a0 args).row id = some r → id = mb ∧ r = r0 := fun id r h1 => by
    simp only [startM, beq_eq] at h1
    by_cases e1 : id = mb
    · rw [decide_eq_true e1] at h1
      simp only [cond_true, hr0, Option.some.injEq] at h1
      exact ⟨e1, h1.symm⟩
    · rw [decide_eq_false e1] at h1; cases h1
  have hs0 : Sim w ⟨fun b => b < w.heap.size ∧ ∀ g c, l = .at g c → b ≠ g, pinOf mb l⟩ pv S (fun id => if id = mb then some l else none) (startM fn.ntmps mb a0 args) { tmps := (v0 :: vs).toArray ++ Array.replicate (fn.ntmps - (v0 :: vs).toArray.size) undef, defers := [] } w := by
    refine ⟨by simp [startM]; omega, rfl, fun t => ?_, ⟨hst, fun id r l1 h1 h2 => ?_, fun id id' l1 l2 b h1 h2 h3 h4 _ _ => ?_, fun id r l1 g h1 h2 hg => ?_, fun l1 hl1 => ?_⟩, Blw.refl _ _, fun _ h => h.1⟩
    · rw [Array.getD_eq_getD_getElem?]
      by_cases ht : t < args.length + 1
      · rw [Array.getElem?_append_left (by simp; omega)]
        simp only [List.getElem?_toArray]
        cases t with
        | zero =>
          simp only [List.getElem?_cons_zero, Option.getD_some]
          rw [hv0]
          cases a0 <;> cases hr0
          · cases l with
            | «at» g cap => exact .inr ⟨_, .own mb _ _ _ _ _ g cap hrow1 (by simp), rfl⟩
            | soft T v => exact absurd rfl (hard T v)
            | nilrow =>
              obtain ⟨rfl, _, _⟩ := hrow
              exact .inr ⟨_, .ownNil mb _ _ _ _ hrow1 (by simp), rfl⟩
          · rename_i τ x
            cases l with
            | «at» g cap => exact .inr ⟨_, .epB mb τ τ _ g cap [] hrow1 (by simp) rfl, rfl⟩
            | soft T v => exact absurd rfl (hard T v)
            | nilrow => exact hrow.elim
        | succ t =>
          simp only [startM, List.getElem?_cons_succ]
          have ha : args[t]? = some args[t] := List.getElem?_eq_getElem (by omega)
          have hv : vs[t]? = some vs[t] := List.getElem?_eq_getElem (by omega)
          obtain ⟨cs, h1, h2⟩ := hva t _ _ ha hv
          rw [ha, hv]
          simp only [Option.getD_some]
          refine .inr ⟨cs, ?_, h2⟩
          exact h1.ext (P := fun _ => True) (fun _ h => h) (fun _ _ => rfl) (fun id l r _ h1 => by cases h1) (fun _ _ => trivial)
      · rw [Array.getElem?_append_right (by simp; omega)]
        have : (Array.replicate (fn.ntmps - (v0 :: vs).toArray.size) undef)[t - (v0 :: vs).toArray.size]?.getD undef = undef := by
          cases hx : (Array.replicate (fn.ntmps - (v0 :: vs).toArray.size) undef)[t - (v0 :: vs).toArray.size]? with
          | none => rfl
          | some u =>
            have := Array.mem_of_getElem? hx
            rw [Array.mem_replicate] at this
            rw [this.2]; rfl
        rw [this]
        obtain ⟨t', rfl⟩ : ∃ t', t = t' + 1 := ⟨t - 1, by omega⟩
        have ha : args[t']? = none := List.getElem?_eq_none (by omega)
        simp only [startM, ha]
        exact vr_undef
    · obtain ⟨rfl, rfl⟩ := hrow2 id r h1
      rw [if_pos rfl] at h2
      cases h2
      refine RowOk.ext (P := fun _ => True) (fun _ h => h) (fun _ _ => rfl) (fun id l r _ h1 => by cases h1) hrow (fun _ _ => rfl) (fun _ _ _ _ _ => trivial)
    · cases hx : (startM fn.ntmps mb a0 args).row id with
      | none => exact absurd hx h3
      | some r =>
        cases hy : (startM fn.ntmps mb a0 args).row id' with
        | none => exact absurd hy h4
        | some r' => exact (hrow2 id r hx).1.trans (hrow2 id' r' hy).1.symm
    · obtain ⟨rfl, rfl⟩ := hrow2 id r h2
      rw [if_pos rfl] at h1
      have h1 := Option.some.inj h1
      subst h1
      obtain ⟨c, h1⟩ := hard.at hg
      exact ⟨fun hb => hb.2 g c h1 rfl, fun _ => hSl g c h1, fun hz => by rw [hf0] at hz; cases hz⟩
    · simp only [pinOf] at hl1
      split at hl1
      · rename_i e1
        rw [e1]
        simpa using hl1
      · cases hl1
  refine code_ok hE hG h.run (hl w _) hs0 hgl fun S1 ρ a w1 hs hgl1 hg => ?_
  suffices hfin : a.defers = [] ∧ ∃ v, (results fn a.tmps).run P w1 = .ok v w1 ∧ (∃ v', Ending.returned v = .returned v' ∧ (Blw ⟨fun b => b < w.heap.size ∧ ∀ g c, l = .at g c → b ≠ g, none⟩ w w1 ∧ ∃ S' : Nat → Prop, (∀ b, S b → S' b) ∧ (∀ b, S' b → S b ∨ (∃ c, l = .at b c) ∨ (w.heap.size ≤ b ∧ b < w1.heap.size)) ∧ AnsM S' w1 w.heap.size pv a0 l res v')) by
    cases e with
    | normal => exact hfin
    | ret => exact hfin
    | exit id => exact absurd rfl (h.out id)
  refine ⟨hs.defers, ?_⟩
  have hblw : Blw ⟨fun b => b < w.heap.size ∧ ∀ g c, l = .at g c → b ≠ g, none⟩ w w1 := ⟨hs.below.os, hs.below.tape, hs.below.output, hs.below.size, hs.below.block⟩
  have notK : ∀ g, ¬ (g < w.heap.size ∧ ∀ g' c, l = .at g' c → g ≠ g') → (∃ c, l = .at g c) ∨ w.heap.size ≤ g := fun g hK => by
    by_cases hg0 : g < w.heap.size
    · left
      apply Classical.byContradiction
      intro hne
      exact hK ⟨hg0, fun g' c e1 e2 => hne ⟨c, e2 ▸ e1⟩⟩
    · exact .inr (Nat.le_of_not_lt hg0)
  cases h.ends with
  | kep as o hmb' hdis heps hnm hret ho =>
    subst hmb'
    have hpin : ρ mbase = some l := hs.hs.pin l (by simp [pinOf])
    -- the row is there still
    have hout : ∃ ro, st.row mbase = some ro ∧ (∃ ro', rowOf o = some ro' ∧ (∀ S2, (∀ b, S1 b → S2 b) → RowOk S1 w1 ρ st.row pv ro l → Row0 S2 w1 pv ro' l) ∧ Same r0 ro') ∧ frz ro = false := by
      unfold outM at ho
      split at ho
      · rename_i e1 τ xs e' σ ys hr
        split at ho
        · rename_i hk
          obtain ⟨h1, h2⟩ := cond_some ho
          cases h2
          have hlen := Nat.eq_of_beq_eq_true h1
          unfold sameK at hk
          dsimp only at hk
          split at hk
          · rename_i eστ _
            subst eστ
            have he := Nat.eq_of_beq_eq_true hk
            subst he
            cases hr0
            refine ⟨_, hr, ⟨_, rfl, fun S2 hS2 hro => ?_, .flat _ _ _ _ _ _ _ _ _ hlen.symm⟩, rfl⟩
            cases l with
            | nilrow => exact hro
            | soft T v => exact absurd rfl (hard T v)
            | «at» g cap =>
              obtain ⟨cur, f, k1, k2, k3, k4, k5, k6, k7, k8⟩ := hro
              exact ⟨cur, f, k1, k2, k3, k4, k5, k6, k7, fun i hi => by
                obtain ⟨cs, k9, k10⟩ := k8 i hi
                exact ⟨cs, k9.mono (fun b hb => hb.mono (hS2 b) rfl) (fun _ _ => rfl), k10⟩⟩
          · cases hk
        · cases ho
      · rename_i τ x σ b hr
        split at ho
        · rename_i eστ y _ hy
          subst eστ
          cases ho
          cases hr0
          refine ⟨_, hr, ⟨_, rfl, fun S2 hS2 hro => ?_, .box _ _ _⟩, rfl⟩
          cases l with
          | nilrow => exact hro
          | soft T v => exact absurd rfl (hard T v)
          | «at» g cap =>
            obtain ⟨cur, T, k1, k2, k3⟩ := hro
            exact ⟨cur, T, k1, .t _ _, .t _ _ _ ((asT_ar hy k3).mono hS2 (fun _ _ => rfl))⟩
        · cases ho
      · cases ho
    obtain ⟨ro, hr1, ⟨ro', hro', hro2, hsame⟩, hfz⟩ := hout
    have hrok := hs.hs.rows mbase ro l hr1 hpin
    obtain ⟨v, hres, hS, hrr⟩ := ans_ok hE (n0 := w.heap.size) hs h.vals hdis heps hret fun id r g c hid hr hl' => by
      rcases notK g (hs.hs.apart id r g c hl' hr).1 with ⟨c0, e0⟩ | h1
      · have := hs.hs.inj id mbase g c c0 hl' (e0 ▸ hpin) (by rw [hr]; simp) (by rw [hr1]; simp)
        subst this
        exact absurd hid hnm
      · exact h1
    refine ⟨v, hres, v, rfl, hblw, frzS S1 ρ st.row (plainIds st rs), fun b hb => .inl (hg.sub b hb ⟨hst b hb, fun g c e e2 => hSl g c e (e2 ▸ hb)⟩), fun b hb => ?_, hrr, r0, ro', hr0, hro', hro2 _ (fun _ h => .inl h) hrok, hsame, fun g c e1 hb => ?_⟩
    · rcases hS b hb with h1 | h1
      · rcases hg.new b h1 with h2 | h2
        · exact .inl h2
        · rcases notK b h2 with h3 | h3
          · exact .inr (.inl h3)
          · exact .inr (.inr ⟨h3, hs.hs.stab b h1⟩)
      · exact .inr (.inr h1)
    · rcases hS g hb with h1 | h1
      · exact (hs.hs.apart mbase ro g c (e1 ▸ hpin) hr1).2.1 hfz h1
      · have := hlt g c e1; omega
  | mov e' τ ys hmb' hrs hr1 =>
    subst hrs
    obtain ⟨vs', hvl', hvv, hres⟩ := res_run hE hs h.vals
    match vs', hvl' with
    | [v], _ =>
      have hv := hvv 0 _ v rfl rfl
      refine ⟨v, by simpa using hres, v, rfl, hblw, S1, fun b hb => hg.sub b hb ⟨hst b hb, fun g c e e2 => hSl g c e (e2 ▸ hb)⟩, fun b hb => ?_, ?_⟩
      · rcases hg.new b hb with h2 | h2
        · exact .inl h2
        · rcases notK b h2 with h3 | h3
          · exact .inr (.inl h3)
          · exact .inr (.inr ⟨h3, hs.hs.stab b hb⟩)
      · rcases vr_own hv hr1 with ⟨g, cap, hl', hv'⟩ | ⟨hl', rfl, hv'⟩
        · have hap := hs.hs.apart mb _ g cap hl' hr1
          refine ⟨.at g cap, ?_, hv', fun g' c' e1 => ?_⟩
          · obtain ⟨cur, f, k1, k2, k3, k4, k5, k6, k7, k8⟩ := hs.hs.rows mb _ _ hr1 hl'
            exact ⟨cur, f, k1, k2, k3, k4, k5, k6, k7, k8⟩
          · cases e1
            exact ⟨hap.2.1 rfl, notK g hap.1⟩
        · exact ⟨.nilrow, hs.hs.rows mb _ _ hr1 hl', hv', fun g' c' e1 => by cases e1⟩
  | eat τ y hmb' hsl hrs =>
    subst hrs
    obtain ⟨vs', hvl', hvv, hres⟩ := res_run hE hs h.vals
    match vs', hvl' with
    | [v], _ =>
      have hv := hvv 0 _ v rfl rfl
      refine ⟨v, by simpa using hres, v, rfl, hblw, S1, fun b hb => hg.sub b hb ⟨hst b hb, fun g c e e2 => hSl g c e (e2 ▸ hb)⟩, fun b hb => ?_, hsl, ?_⟩
      · rcases hg.new b hb with h2 | h2
        · exact .inl h2
        · rcases notK b h2 with h3 | h3
          · exact .inr (.inl h3)
          · exact .inr (.inr ⟨h3, hs.hs.stab b hb⟩)
      · obtain ⟨cs, h1, h2⟩ := vr_ar hv (by simp)
        exact ⟨cs, h2, ar_t h1⟩
end
end Go.Gx
end
section
/- A state seen as one of a shape. -/
namespace Go.Gx
open Go.RowKit
set_option linter.unusedVariables false
set_option linter.unusedSimpArgs false
inductive Rv (st : St) (id : Nat) : Row → Prop
  | same (r : Row) (h : st.row id = some r) : Rv st id r
  | nil (e : Nat) (τ : Ty) (h : st.row id = none) (hpos : 0 < nc τ) (hne : id ≠ mbase) : Rv st id (.flat e τ [] false true)
  | boxT (τ : Ty) (a : AV) (x : den τ) (h : st.row id = some (.box τ a)) (hx : asT τ a = some x) : Rv st id (.box τ (.t τ x))
  | ds (σ : Ty) (b : Bool) (h : st.row id = some (.box σ (.t .bool b))) : Rv st id (.box σ (.t .bool false))
  | boxF (τ : Ty) (a : AV) (as : List AV) (fs : List Fp) (x : FX fs) (h : st.row id = some (.box τ a)) (ha : (∃ σ, a = .agg σ as) ∨ (∃ y, a = .t τ y ∧ as = explode τ y)) (hx : fview st.row fs as = some x) : Rv st id (.box τ (.agg τ (fvals fs x)))
theorem Con.fits_eq {c : Con} {a : AV} (h : c.fits a = true) : a = c.val := by
  cases c <;> cases a <;> simp only [Con.fits] at h <;> first
    | cases h
    | skip
  · rename_i f g l
    cases l with
    | nil => rw [Nat.eq_of_beq_eq_true h]; rfl
    | cons => cases h
  · rw [Nat.eq_of_beq_eq_true h]; rfl
  · rename_i id j i p
    cases i with
    | some => cases h
    | none =>
      cases p with
      | nil => rw [Nat.eq_of_beq_eq_true h]; rfl
      | cons => cases h
  · rw [Nat.eq_of_beq_eq_true h]; rfl
  · rename_i vs
    cases vs with
    | nil => rfl
    | cons => cases h
theorem cond_unit {b : Bool} {x : Unit} (h : cond b (some ()) none = some x) : b = true := by cases b <;> first | rfl | cases h
theorem viewOwn_form {row : Nat → Option Row} {id e : Nat} {τ : Ty} {fz app : Bool} {a : AV} {xs : List (den τ)} (h : viewOwn row id e τ fz app a = some xs) :
    (a = .own id ∧ row id = some (.flat e τ xs fz app)) ∨ (a = .nil ∧ row id = none ∧ fz = false ∧ app = true ∧ 0 < nc τ ∧ xs = [] ∧ id ≠ mbase) := by
  unfold viewOwn at h
  split at h
  · rename_i j
    split at h
    · rename_i e' σ ys fz' app' hj hr
      split at h
      · rename_i hσ _ he hf ha
        subst hσ
        cases h
        rw [Nat.eq_of_beq_eq_true hj] at *
        have he := Nat.eq_of_beq_eq_true he
        have hf : fz' = fz := by simpa using hf
        have ha : app' = app := by simpa using ha
        subst he; subst hf; subst ha
        exact .inl ⟨rfl, hr⟩
      · cases h
    · cases h
  · split at h
    · rename_i hr hb hm
      cases h
      exact .inr ⟨rfl, hr, rfl, rfl, Nat.le_of_ble_eq_true hb, rfl, fun e => by rw [e, Nat.beq_refl] at hm; cases hm⟩
    · cases h
  · cases h
theorem frows_rv {st : St} : ∀ {fs : List Fp} {as : List AV} {x : FX fs} {j : Nat} {r0 : Option Row} {r : Row}, fview st.row fs as = some x → frows fs x j r0 = some r → Rv st j r ∨ r0 = some r
  | [], as, x, j, r0, r, _, h => .inr h
  | f :: fs, [], x, j, r0, r, h, _ => by simp [fview] at h
  | f :: fs, a :: as, x, j, r0, r, h, hr => by
    simp only [fview] at h
    split at h
    · rename_i x0 hx0
      split at h
      · rename_i y hy
        cases h
        cases f with
        | own id e τ fz app =>
          simp only [frows, Fp.rowAt, beq_eq] at hr
          by_cases e' : j = id
          · subst e'
            simp only [decide_true, cond_true, Option.some.injEq] at hr
            subst hr
            simp only [Fp.view] at hx0
            rcases viewOwn_form hx0 with ⟨_, h2⟩ | ⟨_, h2, h3, h4, h5, h6, h7⟩
            · exact .inl (.same _ h2)
            · subst h3; subst h4
              rw [h6]
              exact .inl (.nil e τ h2 h5 h7)
          · rw [decide_eq_false e'] at hr
            exact frows_rv hy hr
        | t τ => exact frows_rv hy hr
        | con c => exact frows_rv hy hr
      · cases h
    · cases h
theorem rows_rv {st : St} : ∀ {l : List Sp} {x : SX l} {j : Nat} {r : Row}, view st l = some x → rowsOf l x j = some r → Rv st j r
  | [], x, j, r, _, h => by cases h
  | s :: l, x, j, r, h, hr => by
    simp only [view] at h
    split at h
    · rename_i x0 hx0
      split at h
      · rename_i y hy
        cases h
        cases s with
        | t s τ => exact rows_rv hy hr
        | con s c => exact rows_rv hy hr
        | cl s g cs => exact rows_rv hy hr
        | rd s τ => exact rows_rv hy hr
        | own s id e τ fz app =>
          simp only [rowsOf, Sp.rowAt, beq_eq] at hr
          by_cases e' : j = id
          · subst e'
            simp only [decide_true, cond_true, Option.some.injEq] at hr
            subst hr
            simp only [Sp.view] at hx0
            rcases viewOwn_form hx0 with ⟨_, h2⟩ | ⟨_, h2, h3, h4, h5, h6, h7⟩
            · exact .same _ h2
            · subst h3; subst h4
              rw [h6]
              exact .nil e τ h2 h5 h7
          · rw [decide_eq_false e'] at hr
            exact rows_rv hy hr
        | boxT s id τ =>
          simp only [rowsOf, Sp.rowAt, beq_eq] at hr
          by_cases e' : j = id
          · subst e'
            simp only [decide_true, cond_true, Option.some.injEq] at hr
            subst hr
            simp only [Sp.view] at hx0
            split at hx0
            · rename_i k σ a hs hrow
              split at hx0
              · rename_i e _ _
                subst e
                exact .boxT _ a _ hrow hx0
              · cases hx0
            · cases hx0
          · rw [decide_eq_false e'] at hr
            exact rows_rv hy hr
        | ds s id σ τ =>
          simp only [rowsOf, Sp.rowAt, beq_eq] at hr
          by_cases e' : j = id
          · subst e'
            simp only [decide_true, cond_true, Option.some.injEq] at hr
            subst hr
            simp only [Sp.view] at hx0
            split at hx0
            · rename_i k τ' x' σ' b hs hrow
              split at hx0
              · rename_i e e2 _ _ _
                subst e
                exact .ds _ b hrow
              · cases hx0
            · cases hx0
          · rw [decide_eq_false e'] at hr
            exact rows_rv hy hr
        | boxF s id τ fs =>
          simp only [rowsOf, Sp.rowAt, beq_eq] at hr
          have hfv : ∃ a as, st.row id = some (.box τ a) ∧ ((∃ σ, a = .agg σ as) ∨ (∃ y, a = .t τ y ∧ as = explode τ y)) ∧ fview st.row fs as = some x0 := by
            simp only [Sp.view] at hx0
            split at hx0
            · rename_i k σ σ' as hs hrow
              split at hx0
              · rename_i e _ _
                subst e
                exact ⟨_, as, hrow, .inl ⟨_, rfl⟩, hx0⟩
              · cases hx0
            · rename_i k σ σ' y hs hrow
              split at hx0
              · rename_i e e' _ _ _
                subst e; subst e'
                exact ⟨_, _, hrow, .inr ⟨y, rfl, rfl⟩, hx0⟩
              · cases hx0
            · cases hx0
          obtain ⟨a, as, h1, h2, h3⟩ := hfv
          by_cases e' : j = id
          · subst e'
            simp only [decide_true, cond_true, Option.some.injEq] at hr
            subst hr
            exact .boxF τ a as fs _ h1 h2 h3
          · rw [decide_eq_false e'] at hr
            rcases frows_rv h3 hr with h4 | h4
            · exact h4
            · exact rows_rv hy h4
      · cases h
    · cases h
theorem frows_has {j : Nat} : ∀ {fs : List Fp} {x : FX fs} {r0 : Option Row}, (j ∈ fids fs ∨ r0 ≠ none) → frows fs x j r0 ≠ none
  | [], x, r0, h => by
    rcases h with h | h
    · cases h
    · exact h
  | f :: fs, x, r0, h => by
    cases f with
    | own id e τ fz app =>
      simp only [frows, Fp.rowAt, beq_eq]
      by_cases e' : j = id
      · simp [e']
      · rw [decide_eq_false e']
        refine frows_has ?_
        rcases h with h | h
        · simp only [fids, Fp.ids] at h
          rcases List.mem_append.1 h with h | h
          · exact absurd (List.mem_singleton.1 h) e'
          · exact .inl h
        · exact .inr h
    | t τ => exact frows_has (fs := fs) (by simpa [fids, Fp.ids] using h)
    | con c => exact frows_has (fs := fs) (by simpa [fids, Fp.ids] using h)
theorem rows_has {j : Nat} : ∀ {l : List Sp} {x : SX l}, j ∈ rowIds l → rowsOf l x j ≠ none
  | [], x, h => by cases h
  | s :: l, x, h => by
    simp only [rowIds] at h
    cases s with
    | t s τ => exact rows_has (l := l) (by simpa [Sp.ids] using h)
    | con s c => exact rows_has (l := l) (by simpa [Sp.ids] using h)
    | cl s g cs => exact rows_has (l := l) (by simpa [Sp.ids] using h)
    | rd s τ => exact rows_has (l := l) (by simpa [Sp.ids] using h)
    | own s id e τ fz app =>
      simp only [rowsOf, Sp.rowAt, beq_eq]
      by_cases e' : j = id
      · simp [e']
      · rw [decide_eq_false e']
        refine rows_has (l := l) ?_
        rcases List.mem_append.1 h with h | h
        · exact absurd (List.mem_singleton.1 h) e'
        · exact h
    | boxT s id τ =>
      simp only [rowsOf, Sp.rowAt, beq_eq]
      by_cases e' : j = id
      · simp [e']
      · rw [decide_eq_false e']
        refine rows_has (l := l) ?_
        rcases List.mem_append.1 h with h | h
        · exact absurd (List.mem_singleton.1 h) e'
        · exact h
    | ds s id σ τ =>
      simp only [rowsOf, Sp.rowAt, beq_eq]
      by_cases e' : j = id
      · simp [e']
      · rw [decide_eq_false e']
        refine rows_has (l := l) ?_
        rcases List.mem_append.1 h with h | h
        · exact absurd (List.mem_singleton.1 h) e'
        · exact h
    | boxF s id τ fs =>
      simp only [rowsOf, Sp.rowAt, beq_eq]
      by_cases e' : j = id
      · simp [e']
      · rw [decide_eq_false e']
        refine frows_has ?_
        rcases List.mem_append.1 h with h | h
        · rcases List.mem_cons.1 h with h | h
          · exact absurd h e'
          · exact .inl h
        · exact .inr (rows_has (l := l) h)
section
variable {S : Nat → Prop} {w : World} {ρ ρ' : Nat → Option Loc} {st : St} {row' : Nat → Option Row} {pv : Nat → Value} {ids : List Nat}
variable (hrv : ∀ id r, row' id = some r → Rv st id r) (hρ : ∀ id, st.row id ≠ none → ρ' id = ρ id) (hρn : ∀ id, st.row id = none → row' id ≠ none → ρ' id = some .nilrow) (hids : ∀ id, id ∈ ids → row' id ≠ none)
include hrv hρ hρn
theorem own_view {id e : Nat} {τ : Ty} {fz app : Bool} {a : AV} {xs : List (den τ)} {cs : List Value} (h : viewOwn st.row id e τ fz app a = some xs) (hrow : row' id ≠ none) (ha : AR S w ρ st.row pv a cs) : AR S w ρ' row' pv (.own id) cs ∧ isAg a = false := by
  obtain ⟨r, hr⟩ := Option.ne_none_iff_exists'.1 hrow
  rcases viewOwn_form h with ⟨rfl, h2⟩ | ⟨rfl, h2, _⟩
  · have h3 : row' id = some (.flat e τ xs fz app) := by
      cases hrv id r hr with
      | same _ h => rw [hr, ← h, h2]
      | nil _ _ h _ _ => rw [h2] at h; cases h
      | boxT _ _ _ h => rw [h2] at h; cases h
      | ds _ _ h => rw [h2] at h; cases h
      | boxF _ _ _ _ _ h => rw [h2] at h; cases h
    refine ⟨?_, rfl⟩
    cases ha with
    | own _ e' τ' xs' fz' app' g cap h4 hl =>
      rw [h2] at h4
      cases h4
      exact .own id e τ xs fz app g cap h3 (by rw [hρ id (by rw [h2]; simp)]; exact hl)
    | ownNil _ e' τ' fz' app' h4 hl =>
      rw [h2] at h4
      cases h4
      exact .ownNil id e τ fz app h3 (by rw [hρ id (by rw [h2]; simp)]; exact hl)
  · cases ha
    refine ⟨?_, rfl⟩
    have hn := hρn id h2 hrow
    cases hrv id r hr with
    | same _ h => rw [h2] at h; cases h
    | nil e' τ' _ hpos _ => exact .ownNil id e' τ' false true hr hn
    | boxT _ _ _ h => rw [h2] at h; cases h
    | ds _ _ h => rw [h2] at h; cases h
    | boxF _ _ _ _ _ h => rw [h2] at h; cases h
include hids in
theorem con_view {c : Con} {cs : List Value} (hc : conOk ids c = true) (ha : AR S w ρ st.row pv c.val cs) : AR S w ρ' row' pv c.val cs := by
  have _ := hρn
  cases c with
  | clo f => cases ha with | clo _ _ css hl hh => exact .clo f [] css hl fun i a cs hi => by simp at hi
  | par i => cases ha with | par _ h => exact .par i h
  | undef => cases ha with | tup _ css hl hh => exact .tup [] css hl fun i a cs hi => by simp at hi
  | own id =>
    have hrow := hids id (by simpa [conOk] using hc)
    obtain ⟨r, hr⟩ := Option.ne_none_iff_exists'.1 hrow
    cases ha with
    | own _ e τ xs fz app g cap h4 hl =>
      have h3 : row' id = some (.flat e τ xs fz app) := by
        cases hrv id r hr with
        | same _ h => rw [hr, ← h, h4]
        | nil _ _ h _ _ => rw [h4] at h; cases h
        | boxT _ _ _ h => rw [h4] at h; cases h
        | ds _ _ h => rw [h4] at h; cases h
        | boxF _ _ _ _ _ h => rw [h4] at h; cases h
      exact .own id e τ xs fz app g cap h3 (by rw [hρ id (by rw [h4]; simp)]; exact hl)
    | ownNil _ e τ fz app h4 hl =>
      have h3 : row' id = some (.flat e τ [] fz app) := by
        cases hrv id r hr with
        | same _ h => rw [hr, ← h, h4]
        | nil _ _ h _ _ => rw [h4] at h; cases h
        | boxT _ _ _ h => rw [h4] at h; cases h
        | ds _ _ h => rw [h4] at h; cases h
        | boxF _ _ _ _ _ h => rw [h4] at h; cases h
      exact .ownNil id e τ fz app h3 (by rw [hρ id (by rw [h4]; simp)]; exact hl)
  | ep id =>
    have hrow := hids id (by simpa [conOk] using hc)
    obtain ⟨r, hr⟩ := Option.ne_none_iff_exists'.1 hrow
    cases ha with
    | epB _ τ σ a g cap _ h4 hl hp =>
      have h5 : ρ' id = some (.at g cap) := by rw [hρ id (by rw [h4]; simp)]; exact hl
      cases hrv id r hr with
      | same _ h => rw [h4] at h; cases h; exact .epB id τ σ a g cap [] hr h5 hp
      | nil _ _ h _ _ => rw [h4] at h; cases h
      | boxT τ' a' x h => rw [h4] at h; cases h; exact .epB id τ σ _ g cap [] hr h5 hp
      | ds σ' b h => rw [h4] at h; cases h; exact .epB id τ σ _ g cap [] hr h5 hp
      | boxF τ' a' as fs x h => rw [h4] at h; cases h; exact .epB id τ σ _ g cap [] hr h5 hp
theorem ep_view {id : Nat} {τ : Ty} {a : AV} {cs : List Value} (h : st.row id = some (.box τ a)) (hrow : row' id ≠ none) (ha : AR S w ρ st.row pv (.ep id none []) cs) : AR S w ρ' row' pv (.ep id none []) cs :=
  con_view (ids := [id]) hrv hρ hρn (fun j hj => by simp at hj; subst hj; exact hrow) (c := .ep id) (by simp [conOk]) ha
omit hrv hρ hρn in
theorem asT_ag {τ : Ty} {a : AV} {x : den τ} (h : asT τ a = some x) : isAg (.t τ x) = isAg a := by
  rcases asT_form h with rfl | rfl
  · rfl
  · cases τ <;> simp [asT] at h <;> rfl
include hids in
theorem fview_ok : ∀ {σs : List Ty} {fs : List Fp} {as : List AV} {x : FX fs} {css : List (List Value)}, fview st.row fs as = some x → fpsOk ids σs fs = true → (∀ i, i ∈ fids fs → row' i ≠ none) → as.length = css.length → as.length = σs.length →
    (∀ (i : Nat) (a : AV) (c : List Value), as[i]? = some a → css[i]? = some c → AR S w ρ st.row pv a c) → (∀ (i : Nat) (σ : Ty) (a : AV), σs[i]? = some σ → as[i]? = some a → Fit σ a) →
    (fvals fs x).length = as.length ∧ (∀ (i : Nat) (a : AV) (c : List Value), (fvals fs x)[i]? = some a → css[i]? = some c → AR S w ρ' row' pv a c) ∧ (∀ (i : Nat) (σ : Ty) (a : AV), σs[i]? = some σ → (fvals fs x)[i]? = some a → Fit σ a)
  | σs, [], [], x, css, _, _, _, _, _, _, _ => ⟨rfl, fun i a c h => by simp [fvals] at h, fun i σ a _ h => by simp [fvals] at h⟩
  | _, [], _ :: _, x, css, h, _, _, _, _, _, _ => by simp [fview] at h
  | _, f :: fs, [], x, css, h, _, _, _, _, _, _ => by simp [fview] at h
  | [], f :: fs, a :: as, x, css, h, _, _, _, hl, _, _ => by simp at hl
  | σ :: σs, f :: fs, a :: as, x, [], h, _, _, hl, _, _, _ => by simp at hl
  | σ :: σs, f :: fs, a :: as, x, c :: css, h, hok, hhas, hl, hl2, har, hfit => by
    simp only [fview] at h
    split at h
    · rename_i x0 hx0
      split at h
      · rename_i y hy
        cases h
        simp only [fpsOk, Bool.and_eq_true] at hok
        obtain ⟨h1, h2, h3⟩ := fview_ok (σs := σs) (css := css) hy hok.2 (fun i hi => hhas i (by simp only [fids]; exact List.mem_append_right _ hi)) (by simpa using hl) (by simpa using hl2) (fun i a c ha hc => har (i + 1) a c (by simpa using ha) (by simpa using hc)) (fun i σ a hσ ha => hfit (i + 1) σ a (by simpa using hσ) (by simpa using ha))
        have ha0 := har 0 a c rfl rfl
        have hf0 := hfit 0 σ a rfl rfl
        have hhead : AR S w ρ' row' pv (f.val x0) c ∧ Fit σ (f.val x0) := by
          cases f with
          | t τ =>
            simp only [Fp.view] at hx0
            have hτ : τ = σ := by
              have := hok.1
              simp only [Fp.ok] at this
              split at this
              · rename_i e _; exact e
              · cases this
            subst hτ
            exact ⟨.t τ x0 c (asT_ar hx0 ha0), .t τ x0⟩
          | own id e τ fz app =>
            simp only [Fp.view] at hx0
            refine ⟨(own_view hrv hρ hρn hx0 (hhas id (by simp [fids, Fp.ids])) ha0).1, ?_⟩
            rcases viewOwn_form hx0 with ⟨rfl, _⟩ | ⟨rfl, _⟩
            · exact hf0
            · cases hf0; exact .own _ id
          | con c' =>
            simp only [Fp.view] at hx0
            have := Con.fits_eq (cond_unit hx0)
            subst this
            exact ⟨con_view hrv hρ hρn hids hok.1 ha0, hf0⟩
        refine ⟨by simp [fvals, h1], fun i b d hb hd => ?_, fun i τ b hτ hb => ?_⟩
        · cases i with
          | zero => cases hb; cases hd; exact hhead.1
          | succ i => exact h2 i b d (by simpa [fvals] using hb) (by simpa using hd)
        · cases i with
          | zero => cases hb; cases hτ; exact hhead.2
          | succ i => exact h3 i τ b (by simpa using hτ) (by simpa [fvals] using hb)
      · cases h
    · cases h
end
section
variable {S : Nat → Prop} {w : World} {ρ ρ' : Nat → Option Loc} {row row' : Nat → Option Row} {pv : Nat → Value}
theorem tp_ar {τ : Ty} {b : AV} {x : den τ} {cs : List Value} (hx : asT τ b = some x) (h : AR S w ρ row pv (.tp b) cs) : AR S w ρ' row' pv (.tp (.t τ x)) cs := by
  cases h with
  | tp σ y cs g o hc hS hcell =>
    unfold asT at hx
    dsimp only at hx
    split at hx
    · rename_i e
      subst e
      cases hx
      exact .tp _ _ _ _ _ hc hS hcell
    · cases hx
theorem CK.ok {k : CK} {a : AV} {x : k.X} {cs : List Value} (hx : k.view a = some x) (h : AR S w ρ row pv a cs) : AR S w ρ' row' pv (k.val x) cs ∧ isAg a = isAg (k.val x) := by
  cases k with
  | t τ => exact ⟨.t _ _ _ (asT_ar hx h), (asT_ag hx).symm⟩
  | tp τ =>
    simp only [CK.view] at hx
    split at hx
    · exact ⟨tp_ar hx h, rfl⟩
    · cases hx
theorem viewC_get : ∀ {ks : List CK} {av : List AV} {x : CX ks}, viewC ks av = some x → av.length = (cvals ks x).length ∧ ∀ (i : Nat) a b, av[i]? = some a → (cvals ks x)[i]? = some b → ∃ k : CK, ∃ y : k.X, b = k.val y ∧ k.view a = some y
  | [], [], x, _ => ⟨rfl, fun i a b h => by simp at h⟩
  | [], _ :: _, x, h => by simp [viewC] at h
  | k :: l, [], x, h => by simp [viewC] at h
  | k :: l, a :: al, x, h => by
    simp only [viewC] at h
    split at h
    · rename_i x0 hx
      split at h
      · rename_i y hy
        cases h
        obtain ⟨h1, h2⟩ := viewC_get hy
        refine ⟨by simp [cvals, h1], fun i b c hb hc => ?_⟩
        cases i with
        | zero => cases hb; cases hc; exact ⟨k, x0, rfl, hx⟩
        | succ i => exact h2 i b c (by simpa using hb) (by simpa [cvals] using hc)
      · cases h
    · cases h
theorem valsOf_same : ∀ {al bl : List AV} {css : List (List Value)}, al.length = bl.length → (∀ (i : Nat) a b, al[i]? = some a → bl[i]? = some b → isAg a = isAg b) → valsOf al css = valsOf bl css
  | [], [], _, _, _ => rfl
  | [], _ :: _, _, h, _ => by cases h
  | _ :: _, [], _, h, _ => by cases h
  | a :: al, b :: bl, [], _, _ => rfl
  | a :: al, b :: bl, cs :: css, h, hg => by
    have h0 := hg 0 a b rfl rfl
    have := valsOf_same (al := al) (bl := bl) (css := css) (by simpa using h) fun i a b h1 h2 => hg (i + 1) a b (by simpa using h1) (by simpa using h2)
    simp only [valsOf, this, valOf, h0]
theorem clo_view {g : Nat} {ks : List CK} {caps : List AV} {x : CX ks} {cs : List Value} (hx : viewC ks caps = some x) (h : AR S w ρ row pv (.clo g caps) cs) : AR S w ρ' row' pv (.clo g (cvals ks x)) cs := by
  obtain ⟨h1, h2⟩ := viewC_get hx
  cases h with
  | clo _ _ css hl hcs =>
    have he : valsOf caps css = valsOf (cvals ks x) css := valsOf_same h1 fun i a b ha hb => by
      obtain ⟨k, y, rfl, hy⟩ := h2 i a b ha hb
      have hi : i < css.length := by have := (List.getElem?_eq_some_iff.1 ha).1; omega
      exact (CK.ok (ρ' := ρ) (row' := row) hy (hcs i a _ ha (List.getElem?_eq_getElem hi))).2
    rw [he]
    refine .clo _ _ css (by omega) fun i b c hb hc => ?_
    have hi : i < caps.length := by have := (List.getElem?_eq_some_iff.1 hb).1; omega
    obtain ⟨k, y, rfl, hy⟩ := h2 i _ b (List.getElem?_eq_getElem hi) hb
    exact (CK.ok hy (hcs i _ c (List.getElem?_eq_getElem hi) hc)).1
end
end Go.Gx
end
section
/- Loops: what is found of a loop, round by round, is what the machine does. -/
namespace Go.Gx
open Go.RowKit
set_option linter.unusedVariables false
set_option linter.unusedSimpArgs false
section
variable {w0 : World} {B : Old} {pv : Nat → Value} {S : Nat → Prop} {ρ : Nat → Option Loc} {st : St} {a : Act} {w : World}
def viewLoc (st : St) (ρ : Nat → Option Loc) (row' : Nat → Option Row) : Nat → Option Loc := fun id => match Nat.beq id mbase with
  | true => ρ id
  | false => match st.row id with
    | some _ => ρ id
    | none => match row' id with
      | some _ => some .nilrow
      | none => none
theorem slots_view {row' : Nat → Option Row} {ρ' : Nat → Option Loc} {ids : List Nat} (hrv : ∀ id r, row' id = some r → Rv st id r) (hρ : ∀ id, st.row id ≠ none → ρ' id = ρ id) (hρn : ∀ id, st.row id = none → row' id ≠ none → ρ' id = some .nilrow) (hids : ∀ id, id ∈ ids → row' id ≠ none)
    (hhs : HS S w ρ st.row pv B) (hsl : ∀ t, VR S w ρ st.row pv (st.slot t) (a.tmps.getD t undef)) : ∀ {l : List Sp} {x : SX l}, view st l = some x → spsOk ids l = true → (∀ i, i ∈ rowIds l → row' i ≠ none) → ∀ t, VR S w ρ' row' pv (slotsOf l x t) (a.tmps.getD t undef)
  | [], x, _, _, _, t => .inl rfl
  | s :: l, x, h, hok, hhas, t => by
    simp only [view] at h
    split at h
    · rename_i x0 hx0
      split at h
      · rename_i y hy
        cases h
        simp only [spsOk, Bool.and_eq_true] at hok
        have ih := slots_view hrv hρ hρn hids hhs hsl hy hok.2 (fun i hi => hhas i (by simp only [rowIds]; exact List.mem_append_right _ hi)) t
        have hst := hsl t
        cases s with
        | t s τ =>
          simp only [slotsOf, Sp.slotAt, beq_eq]
          by_cases e : t = s
          · subst e
            simp only [decide_true, cond_true]
            simp only [Sp.view] at hx0
            obtain ⟨cs, h1, h2⟩ := vr_ar hst (by intro e; rw [e] at hx0; simp [asT] at hx0)
            exact .inr ⟨cs, .t τ x0 cs (asT_ar hx0 h1), by rw [h2, valOf, valOf, ← asT_ag hx0]⟩
          · rw [decide_eq_false e]; exact ih
        | con s c =>
          simp only [slotsOf, Sp.slotAt, beq_eq]
          by_cases e : t = s
          · subst e
            simp only [decide_true, cond_true]
            simp only [Sp.view] at hx0
            have := Con.fits_eq (cond_unit hx0)
            rw [this] at hst
            obtain ⟨cs, h1, h2⟩ := vr_ar hst (by cases c <;> simp [Con.val, undefV])
            exact .inr ⟨cs, con_view hrv hρ hρn hids hok.1 h1, h2⟩
          · rw [decide_eq_false e]; exact ih
        | cl s g cs =>
          simp only [slotsOf, Sp.slotAt, beq_eq]
          by_cases e : t = s
          · subst e
            simp only [decide_true, cond_true]
            simp only [Sp.view] at hx0
            split at hx0
            · rename_i f caps hs
              split at hx0
              · rename_i hf
                obtain rfl := Nat.eq_of_beq_eq_true hf
                rw [hs] at hst
                obtain ⟨cs', h1, h2⟩ := vr_ar hst (by simp)
                exact .inr ⟨cs', clo_view hx0 h1, h2⟩
              · cases hx0
            · cases hx0
          · rw [decide_eq_false e]; exact ih
        | rd s τ =>
          simp only [slotsOf, Sp.slotAt, beq_eq]
          by_cases e : t = s
          · subst e
            simp only [decide_true, cond_true]
            simp only [Sp.view] at hx0
            split at hx0
            · rename_i j hs
              split at hx0
              · rename_i e' σ xs app' hrow
                split at hx0
                · rename_i hσ _
                  subst hσ
                  cases hx0
                  rw [hs] at hst
                  obtain ⟨cs', h1, h2⟩ := vr_ar hst (by simp)
                  refine .inr ⟨cs', .t _ _ _ ?_, h2⟩
                  cases h1 with
                  | own _ _ _ _ _ _ g cap h4 hl =>
                    rw [hrow] at h4
                    cases h4
                    exact row_cr hhs (fun _ hb => hb) hrow hl ((hhs.apart j _ g cap hl hrow).2.2 rfl)
                  | ownNil _ _ _ _ _ h4 hl =>
                    rw [hrow] at h4
                    cases h4
                    exact cr_nil S w σ
                · cases hx0
              · cases hx0
            · obtain ⟨cs, h1, h2⟩ := vr_ar hst (by intro e; rw [e] at hx0; simp [asT] at hx0)
              exact .inr ⟨cs, AR.t (.sl τ) x0 cs (asT_ar (τ := .sl τ) (x := x0) hx0 h1), by rw [h2, valOf, valOf, ← asT_ag (τ := .sl τ) (x := x0) hx0]⟩
          · rw [decide_eq_false e]; exact ih
        | ds s id σ τ =>
          simp only [slotsOf, Sp.slotAt, beq_eq]
          by_cases e' : t = s
          · subst e'
            simp only [decide_true, cond_true]
            simp only [Sp.view] at hx0
            split at hx0
            · rename_i k τ' x' σ' b hs hrow
              split at hx0
              · rename_i e e2 hk _ _
                subst e; subst e2
                have hk := Nat.eq_of_beq_eq_true hk
                subst hk
                cases hx0
                rw [hs] at hst
                obtain ⟨cs, h1, h2⟩ := vr_ar hst (by simp)
                cases h1 with
                | ds _ _ _ _ r T v hr hl hc =>
                  obtain ⟨r', hr'⟩ := Option.ne_none_iff_exists'.1 (hhas k (by simp [rowIds, Sp.ids]))
                  exact .inr ⟨cs, .ds k _ _ cs r' T v hr' (by rw [hρ k (by rw [hr]; simp)]; exact hl) hc, h2⟩
              · cases hx0
            · cases hx0
          · rw [decide_eq_false e']; exact ih
        | own s id e τ fz app =>
          simp only [slotsOf, Sp.slotAt, beq_eq]
          by_cases e' : t = s
          · subst e'
            simp only [decide_true, cond_true]
            simp only [Sp.view] at hx0
            obtain ⟨cs, h1, h2⟩ := vr_ar hst (by intro e; rw [e] at hx0; simp [viewOwn] at hx0)
            obtain ⟨h3, h4⟩ := own_view hrv hρ hρn hx0 (hhas id (by simp [rowIds, Sp.ids])) h1
            exact .inr ⟨cs, h3, by rw [h2, valOf, valOf, h4]; rfl⟩
          · rw [decide_eq_false e']; exact ih
        | boxT s id τ =>
          simp only [slotsOf, Sp.slotAt, beq_eq]
          by_cases e' : t = s
          · subst e'
            simp only [decide_true, cond_true]
            simp only [Sp.view] at hx0
            split at hx0
            · rename_i k σ b hs hrow
              split at hx0
              · rename_i e hk _
                subst e
                have hk := Nat.eq_of_beq_eq_true hk
                subst hk
                rw [hs] at hst
                obtain ⟨cs, h1, h2⟩ := vr_ar hst (by simp)
                exact .inr ⟨cs, ep_view hrv hρ hρn hrow (hhas _ (by simp [rowIds, Sp.ids])) h1, h2⟩
              · cases hx0
            · cases hx0
          · rw [decide_eq_false e']; exact ih
        | boxF s id τ fs =>
          simp only [slotsOf, Sp.slotAt, beq_eq]
          by_cases e' : t = s
          · subst e'
            simp only [decide_true, cond_true]
            have hfv : ∃ b, st.slot t = .ep id none [] ∧ st.row id = some (.box τ b) := by
              simp only [Sp.view] at hx0
              split at hx0
              · rename_i k σ σ' as hs hrow
                split at hx0
                · rename_i e hk _
                  subst e
                  have hk := Nat.eq_of_beq_eq_true hk
                  subst hk
                  exact ⟨_, hs, hrow⟩
                · cases hx0
              · rename_i k σ σ' y hs hrow
                split at hx0
                · rename_i e e' hk _ _
                  subst e
                  have hk := Nat.eq_of_beq_eq_true hk
                  subst hk
                  exact ⟨_, hs, hrow⟩
                · cases hx0
              · cases hx0
            obtain ⟨b, hs, hrow⟩ := hfv
            rw [hs] at hst
            obtain ⟨cs, h1, h2⟩ := vr_ar hst (by simp)
            exact .inr ⟨cs, ep_view hrv hρ hρn hrow (hhas _ (by simp [rowIds, Sp.ids])) h1, h2⟩
          · rw [decide_eq_false e']; exact ih
      · cases h
    · cases h
theorem fids_sub {l : List Sp} {s id : Nat} {τ : Ty} {fs : List Fp} (h : Sp.boxF s id τ fs ∈ l) : ∀ i, i ∈ fids fs → i ∈ rowIds l := by
  induction l with
  | nil => cases h
  | cons p l ih =>
    intro i hi
    rcases List.mem_cons.1 h with e | h
    · subst e
      exact List.mem_append_left _ (List.mem_cons_of_mem _ hi)
    · exact List.mem_append_right _ (ih h i hi)
theorem rows_boxF {ids : List Nat} : ∀ {l : List Sp} {x : SX l} {j : Nat} {τ : Ty} {b : AV}, view st l = some x → spsOk ids l = true → rowsOf l x j = some (.box τ b) →
    (∃ s τ', ∃ z : den τ', ∃ b0, st.slot s = .ds j τ' z ∧ st.row j = some (.box τ (.t .bool b0)) ∧ b = .t .bool false) ∨
    (∃ s a, Sp.boxT s j τ ∈ l ∧ st.row j = some (.box τ a) ∧ ∃ y, b = .t τ y ∧ asT τ a = some y) ∨
    (∃ s fs a as, ∃ y : FX fs, Sp.boxF s j τ fs ∈ l ∧ st.row j = some (.box τ a) ∧ ((∃ σ, a = .agg σ as) ∨ (∃ y, a = .t τ y ∧ as = explode τ y)) ∧ fview st.row fs as = some y ∧ b = .agg τ (fvals fs y) ∧ agT τ = true ∧ fpsOk ids (fty τ) fs = true)
  | [], x, j, τ, b, _, _, h => by cases h
  | s :: l, x, j, τ, b, h, hok, hr => by
    simp only [view] at h
    split at h
    · rename_i x0 hx0
      split at h
      · rename_i y hy
        cases h
        simp only [spsOk, Bool.and_eq_true] at hok
        have next : rowsOf l y j = some (.box τ b) → (∃ s' τ', ∃ z : den τ', ∃ b0, st.slot s' = .ds j τ' z ∧ st.row j = some (.box τ (.t .bool b0)) ∧ b = .t .bool false) ∨ (∃ s' a, Sp.boxT s' j τ ∈ s :: l ∧ st.row j = some (.box τ a) ∧ ∃ y, b = .t τ y ∧ asT τ a = some y) ∨
    (∃ s' fs a as, ∃ y : FX fs, Sp.boxF s' j τ fs ∈ s :: l ∧ st.row j = some (.box τ a) ∧ ((∃ σ, a = .agg σ as) ∨ (∃ y, a = .t τ y ∧ as = explode τ y)) ∧ fview st.row fs as = some y ∧ b = .agg τ (fvals fs y) ∧ agT τ = true ∧ fpsOk ids (fty τ) fs = true) := fun hr => (rows_boxF hy hok.2 hr).imp _root_.id (Or.imp (fun ⟨s', a, h1, h2⟩ => ⟨s', a, List.mem_cons_of_mem s h1, h2⟩) fun ⟨s', fs, a, as, z, h1, h2⟩ => ⟨s', fs, a, as, z, List.mem_cons_of_mem s h1, h2⟩)
        cases s with
        | t s τ' => exact next hr
        | con s c => exact next hr
        | cl s g cs => exact next hr
        | rd s τ' => exact next hr
        | own s id e τ' fz app =>
          simp only [rowsOf, Sp.rowAt, beq_eq] at hr
          by_cases e' : j = id
          · subst e'; simp at hr
          · rw [decide_eq_false e'] at hr; exact next hr
        | ds s id σ τ' =>
          simp only [rowsOf, Sp.rowAt, beq_eq] at hr
          by_cases e' : j = id
          · subst e'
            simp only [decide_true, cond_true, Option.some.injEq, Row.box.injEq] at hr
            obtain ⟨rfl, rfl⟩ := hr
            simp only [Sp.view] at hx0
            split at hx0
            · rename_i k τ2 x2 σ2 b2 hs hrow
              split at hx0
              · rename_i e e2 hk _ _
                subst e
                have hk := Nat.eq_of_beq_eq_true hk
                subst hk
                exact .inl ⟨s, τ2, x2, b2, hs, hrow, rfl⟩
              · cases hx0
            · cases hx0
          · rw [decide_eq_false e'] at hr; exact next hr
        | boxT s id τ' =>
          simp only [rowsOf, Sp.rowAt, beq_eq] at hr
          by_cases e' : j = id
          · subst e'
            simp only [decide_true, cond_true, Option.some.injEq, Row.box.injEq] at hr
            obtain ⟨rfl, rfl⟩ := hr
            simp only [Sp.view] at hx0
            split at hx0
            · rename_i k σ a hs hrow
              split at hx0
              · rename_i e _ _
                subst e
                exact .inr (.inl ⟨s, a, List.mem_cons_self, hrow, _, rfl, hx0⟩)
              · cases hx0
            · cases hx0
          · rw [decide_eq_false e'] at hr; exact next hr
        | boxF s id τ' fs =>
          simp only [rowsOf, Sp.rowAt, beq_eq] at hr
          have nofr : ∀ {fs : List Fp} {z : FX fs} {r0 : Option Row}, frows fs z j r0 = some (.box τ b) → r0 = some (.box τ b) := by
            intro fs
            induction fs with
            | nil => exact fun h => h
            | cons f fs ih =>
              intro z r0 h
              cases f with
              | own id e τ fz app =>
                simp only [frows, Fp.rowAt, beq_eq] at h
                by_cases e' : j = id
                · subst e'; simp at h
                · rw [decide_eq_false e'] at h; exact ih h
              | t τ => exact ih h
              | con c => exact ih h
          by_cases e' : j = id
          · subst e'
            simp only [decide_true, cond_true, Option.some.injEq, Row.box.injEq] at hr
            obtain ⟨rfl, rfl⟩ := hr
            simp only [Sp.ok, Bool.and_eq_true] at hok
            simp only [Sp.view] at hx0
            split at hx0
            · rename_i k σ σ' as hs hrow
              split at hx0
              · rename_i e _ _
                subst e
                exact .inr (.inr ⟨s, fs, _, as, x0, List.mem_cons_self, hrow, .inl ⟨_, rfl⟩, hx0, rfl, hok.1.1, hok.1.2⟩)
              · cases hx0
            · rename_i k σ σ' y' hs hrow
              split at hx0
              · rename_i e e' _ _ _
                subst e; subst e'
                exact .inr (.inr ⟨s, fs, _, _, x0, List.mem_cons_self, hrow, .inr ⟨y', rfl, rfl⟩, hx0, rfl, hok.1.1, hok.1.2⟩)
              · cases hx0
            · cases hx0
          · rw [decide_eq_false e'] at hr
            exact next (nofr hr)
      · cases h
    · cases h
theorem Sim.view {l : List Sp} {x : SX l} (hv : view st l = some x) (hok : spOk l = true) (h : Sim w0 B pv S ρ st a w) : ∃ ρ', Sim w0 B pv S ρ' (stOf st.nt l x) a w := by
  have hrv : ∀ id r, rowsOf l x id = some r → Rv st id r := fun id r hr => rows_rv hv hr
  have hmb : rowsOf l x mbase ≠ none → st.row mbase ≠ none := fun h1 h2 => by
    cases hr : rowsOf l x mbase with
    | none => exact h1 hr
    | some r =>
      cases hrv mbase r hr with
      | same _ h3 => rw [h2] at h3; cases h3
      | nil _ _ _ _ hne => exact hne rfl
      | boxT _ _ _ h3 => rw [h2] at h3; cases h3
      | ds _ _ h3 => rw [h2] at h3; cases h3
      | boxF _ _ _ _ _ h3 => rw [h2] at h3; cases h3
  have hρ : ∀ id, st.row id ≠ none → viewLoc st ρ (rowsOf l x) id = ρ id := fun id hid => by
    unfold viewLoc
    split
    · rfl
    · cases hr : st.row id with
      | none => exact absurd hr hid
      | some r => rfl
  have hρn : ∀ id, st.row id = none → rowsOf l x id ≠ none → viewLoc st ρ (rowsOf l x) id = some .nilrow := fun id h1 h2 => by
    unfold viewLoc
    split
    · rename_i hb
      have := Nat.eq_of_beq_eq_true hb
      subst this
      exact absurd h1 (hmb h2)
    · rw [h1]
      cases hr : rowsOf l x id with
      | none => exact absurd hr h2
      | some r => rfl
  have hat : ∀ id l0 b, rowsOf l x id ≠ none → viewLoc st ρ (rowsOf l x) id = some l0 → l0.has b → st.row id ≠ none ∧ ρ id = some l0 := fun id l0 b h0 hl hb => by
    cases hr : st.row id with
    | none => rw [hρn id hr h0] at hl; cases hl; exact hb.elim
    | some r => rw [hρ id (by rw [hr]; simp)] at hl; exact ⟨by simp, hl⟩
  have hids : ∀ id, id ∈ rowIds l → rowsOf l x id ≠ none := fun id hid => rows_has hid
  refine ⟨viewLoc st ρ (rowsOf l x), h.size, h.defers, slots_view hrv hρ hρn hids h.hs h.slots hv hok hids, ⟨h.hs.stab, fun id r lc h1 h2 => ?_, fun id id' l1 l2 b h1 h2 h3 h4 hb1 hb2 => ?_, fun id r l1 b h1 h2 hb => ?_, fun l0 hl0 => (by
    have := h.hs.pin l0 hl0
    unfold viewLoc
    rw [Nat.beq_refl]
    exact this)⟩, h.below, h.hB⟩
  · have h1' : rowsOf l x id = some r := h1
    cases r with
    | flat e τ xs fz app =>
      cases hrv id _ h1' with
      | same _ h3 =>
        rw [hρ id (by rw [h3]; simp)] at h2
        have := h.hs.rows id _ lc h3 h2
        cases lc <;> exact this
      | nil _ _ h3 hpos _ =>
        rw [hρn id h3 (by rw [h1']; simp)] at h2
        cases h2
        exact ⟨rfl, rfl, hpos⟩
    | box τ b =>
      have hne : ∀ a, st.row id = some (.box τ a) → ρ id = some lc := fun a h3 => by rw [hρ id (by rw [h3]; simp)] at h2; exact h2
      rcases rows_boxF hv hok h1' with ⟨s, τ', z, b0, h3, h4, rfl⟩ | ⟨s, a', _, h3, y, rfl, h5⟩ | ⟨s, fs, a', as, y, hmem, h3, h4, h5, rfl, hag, hfp⟩
      · have h6 := h.hs.rows id _ lc h4 (hne _ h4)
        have h7 := h.slots s
        rw [h3] at h7
        obtain ⟨cs, h8, _⟩ := vr_ar h7 (by simp)
        cases h8 with
        | ds _ _ _ _ r T v hr hl hc =>
          rw [hne _ h4] at hl
          cases hl
          obtain ⟨h0, ⟨b1, e1, _⟩, h9⟩ := h6
          exact ⟨h0, ⟨false, rfl, fun h => by cases h⟩, h9⟩
      · have h6 := h.hs.rows id _ lc h3 (hne _ h3)
        cases lc with
        | nilrow => exact h6.elim
        | soft T v =>
          obtain ⟨h0, ⟨b1, rfl, _⟩, _⟩ := h6
          unfold asT at h5
          dsimp only at h5
          split at h5
          · rename_i e
            subst e
            cases h0
          · cases h5
        | «at» g c =>
          obtain ⟨cur, T, h7, h8, h9⟩ := h6
          exact ⟨cur, T, h7, .t τ y, .t τ y _ (asT_ar h5 h9)⟩
      · have h6 := h.hs.rows id _ lc h3 (hne _ h3)
        cases lc with
        | nilrow => exact h6.elim
        | soft T v =>
          obtain ⟨h0, ⟨b1, e1, _⟩, _⟩ := h6
          rcases h4 with ⟨σ, e4⟩ | ⟨z, e4, _⟩
          · rw [e1] at e4; cases e4
          · rw [e1] at e4; cases e4; cases h0
        | «at» g c =>
          obtain ⟨cur, T, h7, h8, h9⟩ := h6
          have hagg : AR S w ρ st.row pv (.agg τ as) cur.toList ∧ Fit τ (.agg τ as) := by
            rcases h4 with ⟨σ, rfl⟩ | ⟨z, rfl, rfl⟩
            · cases h8 with
              | agg _ _ k1 k2 k3 => exact ⟨h9, .agg _ _ k1 k2 k3⟩
            · exact explode_ok hag (ar_t h9)
          obtain ⟨css, k1, k2, k3⟩ := hagg.1.agg_parts
          obtain ⟨_, k4, k5⟩ := hagg.2.agg_len
          obtain ⟨k6, k7, k8⟩ := fview_ok hrv hρ hρn hids h5 hfp (fun i hi => hids i (fids_sub hmem i hi)) k2 k4 k3 k5
          refine ⟨cur, T, h7, .agg τ _ hag (by omega) k8, ?_⟩
          rw [k1]
          exact .agg τ _ css (by omega) k7
  · obtain ⟨h5, h6⟩ := hat id l1 b h3 h1 hb1
    obtain ⟨h7, h8⟩ := hat id' l2 b h4 h2 hb2
    exact h.hs.inj0 id id' l1 l2 b h6 h8 h5 h7 hb1 hb2
  · have h2' : rowsOf l x id = some r := h2
    obtain ⟨h5, h6⟩ := hat id l1 b (by rw [h2']; simp) h1 hb
    cases hrv id r h2' with
    | same _ h3 => exact h.hs.apart0 id r l1 b h6 h3 hb
    | nil _ _ h3 _ _ => exact absurd h3 h5
    | boxT τ a' x' h3 => exact h.hs.apart0 id (.box τ a') l1 b h6 h3 hb
    | ds σ b' h3 => exact h.hs.apart0 id (.box σ (.t .bool b')) l1 b h6 h3 hb
    | boxF τ a' as fs x' h3 => exact h.hs.apart0 id (.box τ a') l1 b h6 h3 hb
end
end Go.Gx
end
section
/- Rows renamed: two numbers change places. -/
namespace Go.Gx
open Go.RowKit
set_option linter.unusedVariables false
set_option linter.unusedSimpArgs false
theorem swn_swn (i j k : Nat) : swn i j (swn i j k) = k := by
  unfold swn
  simp only [beq_eq]
  by_cases h1 : k = i
  · subst h1
    simp only [decide_true]
    by_cases h2 : j = k
    · subst h2; simp
    · simp [h2]
  · rw [decide_eq_false h1]
    by_cases h2 : k = j
    · subst h2; simp
    · rw [decide_eq_false h2]
      simp [h1, h2]
theorem swn_mbase {i j : Nat} (hi : i ≠ mbase) (hj : j ≠ mbase) : swn i j mbase = mbase := by
  unfold swn
  rw [beq_eq, beq_eq, decide_eq_false (Ne.symm hi), decide_eq_false (Ne.symm hj)]
theorem isAg_sw (i j : Nat) (a : AV) : isAg (a.sw i j) = isAg a := by cases a <;> simp [AV.sw, isAg]
theorem swL_len (i j : Nat) : ∀ l : List AV, (swL i j l).length = l.length
  | [] => by simp [swL]
  | a :: l => by simp [swL, swL_len i j l]
theorem swL_get (i j : Nat) : ∀ (l : List AV) (n : Nat), (swL i j l)[n]? = (l[n]?).map (AV.sw i j)
  | [], n => by simp [swL]
  | a :: l, 0 => by simp [swL]
  | a :: l, n + 1 => by simp [swL, swL_get i j l n]
theorem valsOf_sw (i j : Nat) : ∀ (l : List AV) (css : List (List Value)), valsOf (swL i j l) css = valsOf l css
  | [], css => by simp [swL, valsOf]
  | a :: l, [] => by simp [swL, valsOf]
  | a :: l, cs :: css => by simp [swL, valsOf, valsOf_sw i j l css, valOf, isAg_sw]
section
variable {S : Nat → Prop} {w : World} {ρ : Nat → Option Loc} {row : Nat → Option Row} {pv : Nat → Value}
def swρ (i j : Nat) (ρ : Nat → Option Loc) : Nat → Option Loc := fun k => ρ (swn i j k)
theorem swρ_at (i j : Nat) (k : Nat) : swρ i j ρ (swn i j k) = ρ k := by unfold swρ; rw [swn_swn]
theorem swR_at (i j : Nat) (k : Nat) : swR i j row (swn i j k) = (row k).map (Row.sw i j) := by
  unfold swR; rw [swn_swn]; cases row k <;> rfl
theorem AR.sw (i j : Nat) {a : AV} {cs : List Value} (h : AR S w ρ row pv a cs) : AR S w (swρ i j ρ) (swR i j row) pv (a.sw i j) cs := by
  induction h with
  | t τ x cs h => simp only [AV.sw]; exact .t τ x cs h
  | nil => simp only [AV.sw]; exact .nil
  | own id e τ xs fz app g cap h hl =>
    simp only [AV.sw]
    exact .own _ e τ xs fz app g cap (by rw [swR_at, h]; rfl) (by rw [swρ_at, hl])
  | ownNil id e τ fz app h hl =>
    simp only [AV.sw]
    exact .ownNil _ e τ fz app (by rw [swR_at, h]; rfl) (by rw [swρ_at, hl])
  | epB id τ σ a g cap p h hl hp =>
    simp only [AV.sw]
    exact .epB _ τ σ (a.sw i j) g cap p (by rw [swR_at, h]; rfl) (by rw [swρ_at, hl]) hp
  | epF id e τ σ xs fz app g cap q p h hl hi hp =>
    simp only [AV.sw]
    exact .epF _ e τ σ xs fz app g cap q p (by rw [swR_at, h]; rfl) (by rw [swρ_at, hl]) hi hp
  | tl id e τ xs fz app l q h hl hi hm =>
    simp only [AV.sw]
    exact .tl _ e τ xs fz app l q (by rw [swR_at, h]; rfl) (by rw [swρ_at, hl]) hi hm
  | tp τ x cs g o h hS hc => simp only [AV.sw]; exact .tp τ x cs g o h hS hc
  | agg τ fs css hl _ ih =>
    simp only [AV.sw]
    refine .agg τ _ css ((swL_len i j fs).trans hl) fun n a cs ha hcs => ?_
    rw [swL_get, Option.map_eq_some_iff] at ha
    obtain ⟨b, hb, rfl⟩ := ha
    exact ih n b cs hb hcs
  | hole τ cs hl h1 => simp only [AV.sw]; exact .hole τ cs hl h1
  | tup vs css hl _ ih =>
    simp only [AV.sw]
    rw [← valsOf_sw i j vs css]
    refine .tup _ css ((swL_len i j vs).trans hl) fun n a cs ha hcs => ?_
    rw [swL_get, Option.map_eq_some_iff] at ha
    obtain ⟨b, hb, rfl⟩ := ha
    exact ih n b cs hb hcs
  | clo f caps css hl _ ih =>
    simp only [AV.sw]
    rw [← valsOf_sw i j caps css]
    refine .clo f _ css ((swL_len i j caps).trans hl) fun n a cs ha hcs => ?_
    rw [swL_get, Option.map_eq_some_iff] at ha
    obtain ⟨b, hb, rfl⟩ := ha
    exact ih n b cs hb hcs
  | par i h1 => simp only [AV.sw]; exact .par i h1
  | pc c τ x cs h => simp only [AV.sw]; exact .pc c τ x cs h
  | ds id τ x cs r T v h hl hc => simp only [AV.sw]; exact .ds _ τ x cs (r.sw i j) T v (by rw [swR_at, h]; rfl) (by rw [swρ_at, hl]) hc
  | dq id τ x cs r T v g o h hl hT hc hv => simp only [AV.sw]; exact .dq _ τ x cs (r.sw i j) T v g o (by rw [swR_at, h]; rfl) (by rw [swρ_at, hl]) hT hc hv
theorem Fit.sw (i j : Nat) {τ : Ty} {a : AV} (h : Fit τ a) : Fit τ (a.sw i j) := by
  induction h with
  | t τ x => simp only [AV.sw]; exact .t τ x
  | nil e => simp only [AV.sw]; exact .nil e
  | own e id => simp only [AV.sw]; exact .own e _
  | ep τ id i p h0 h1 => simp only [AV.sw]; exact .ep τ _ _ _ h0 h1
  | tp τ a h0 h1 => simp only [AV.sw]; exact .tp τ a h0 h1
  | clo τ f l h0 h1 => simp only [AV.sw]; exact .clo τ f _ h0 h1
  | par τ i h0 h1 => simp only [AV.sw]; exact .par τ _ h0 h1
  | agg τ fs hg hl _ ih =>
    simp only [AV.sw]
    refine .agg τ _ hg ((swL_len i j fs).trans hl) fun n σ a hσ ha => ?_
    rw [swL_get, Option.map_eq_some_iff] at ha
    obtain ⟨b, hb, rfl⟩ := ha
    exact ih n σ b hσ hb
  | hole τ => simp only [AV.sw]; exact .hole τ
  | pc c τ x => simp only [AV.sw]; exact .pc c τ x
  | ds id τ x => simp only [AV.sw]; exact .ds _ τ x
theorem frz_sw (i j : Nat) (r : Row) : frz (r.sw i j) = frz r := by cases r <;> rfl
theorem swR_some {i j k : Nat} {r : Row} (h : swR i j row k = some r) : ∃ r0, row (swn i j k) = some r0 ∧ r = r0.sw i j := by
  unfold swR at h
  cases hr : row (swn i j k) with
  | none => rw [hr] at h; cases h
  | some r0 => rw [hr] at h; cases h; exact ⟨r0, rfl, rfl⟩
theorem RowOk.sw (i j : Nat) {r : Row} {l : Loc} (h : RowOk S w ρ row pv r l) : RowOk S w (swρ i j ρ) (swR i j row) pv (r.sw i j) l := by
  cases r with
  | flat e τ xs fz app => cases l <;> exact h
  | box τ a =>
    cases l with
    | nilrow => exact h
    | soft T v =>
      obtain ⟨h0, ⟨b, rfl, h1⟩, h2⟩ := h
      exact ⟨h0, ⟨b, by simp only [AV.sw], h1⟩, h2⟩
    | «at» g c =>
      obtain ⟨cur, T, h1, h2, h3⟩ := h
      exact ⟨cur, T, h1, h2.sw i j, h3.sw i j⟩
theorem HS.sw {B : Old} (i j : Nat) (hi : i ≠ mbase) (hj : j ≠ mbase) (h : HS S w ρ row pv B) : HS S w (swρ i j ρ) (swR i j row) pv B := by
  refine ⟨h.stab, fun k r l h1 h2 => ?_, fun k k' l l' b h1 h2 h3 h4 h5 h6 => ?_, fun k r l b h1 h2 hb => ?_, fun l hl => ?_⟩
  · obtain ⟨r0, h3, rfl⟩ := swR_some h1
    exact (h.rows _ r0 l h3 h2).sw i j
  · have f : ∀ k, swR i j row k ≠ none → row (swn i j k) ≠ none := fun k hk e => hk (by unfold swR; rw [e])
    have := h.inj0 (swn i j k) (swn i j k') l l' b h1 h2 (f k h3) (f k' h4) h5 h6
    rw [← swn_swn i j k, this, swn_swn]
  · obtain ⟨r0, h3, rfl⟩ := swR_some h2
    rw [frz_sw]
    exact h.apart0 (swn i j k) r0 l b h1 h3 hb
  · show ρ (swn i j mbase) = some l
    rw [swn_mbase hi hj]
    exact h.pin l hl
end
section
variable {w0 : World} {B : Old} {pv : Nat → Value} {S : Nat → Prop} {ρ : Nat → Option Loc} {st : St} {a : Act} {w : World}
theorem Sim.sw (i j : Nat) (hi : i ≠ mbase) (hj : j ≠ mbase) (h : Sim w0 B pv S ρ st a w) : Sim w0 B pv S (swρ i j ρ) (st.sw i j) a w := by
  refine ⟨h.size, h.defers, fun t => ?_, h.hs.sw i j hi hj, h.below, h.hB⟩
  rcases h.slots t with e | ⟨cs, h1, h2⟩
  · left
    show (st.slot t).sw i j = .any
    rw [e]; rfl
  · exact .inr ⟨cs, h1.sw i j, by rw [h2]; show valOf _ _ = valOf ((st.slot t).sw i j) cs; unfold valOf; rw [isAg_sw]⟩
theorem renF_nt : ∀ (fs : List Fp) (as : List AV) (st : St), (renF st fs as).nt = st.nt
  | [], _, st => rfl
  | _ :: _, [], st => rfl
  | f :: fs, a :: as, st => by
    unfold renF
    split
    · split
      · exact renF_nt fs as st
      · rw [renF_nt fs]; rfl
    · exact renF_nt fs as st
theorem renam_nt : ∀ (l : List Sp) (st : St), (renam st l).nt = st.nt
  | [], st => rfl
  | s :: l, st => by
    unfold renam
    split
    · rename_i h; cases h
    · rename_i h
      cases h
      split
      · split
        · exact renam_nt l st
        · rw [renam_nt l]; rfl
      · exact renam_nt l st
    · rename_i h
      cases h
      split
      · split
        · rw [renam_nt l, renF_nt]
        · exact renam_nt l st
      · exact renam_nt l st
    · rename_i h; cases h; exact renam_nt l st
theorem Sim.renF : ∀ (fs : List Fp) (as : List AV) {st : St} {ρ : Nat → Option Loc}, Sim w0 B pv S ρ st a w → ∃ ρ', Sim w0 B pv S ρ' (renF st fs as) a w
  | [], _, st, ρ, h => ⟨ρ, h⟩
  | _ :: _, [], st, ρ, h => ⟨ρ, h⟩
  | f :: fs, b :: as, st, ρ, h => by
    unfold Go.Gx.renF
    split
    · split
      · exact Sim.renF fs as h
      · rename_i hb
        simp only [Bool.or_eq_false_iff, beq_eq, decide_eq_false_iff_not] at hb
        exact Sim.renF fs _ (h.sw _ _ hb.1.2 hb.2)
    · exact Sim.renF fs as h
theorem Sim.renam : ∀ (l : List Sp) {st : St} {ρ : Nat → Option Loc}, Sim w0 B pv S ρ st a w → ∃ ρ', Sim w0 B pv S ρ' (renam st l) a w
  | [], st, ρ, h => ⟨ρ, h⟩
  | s :: l, st, ρ, h => by
    unfold Go.Gx.renam
    split
    · rename_i e; cases e
    · rename_i e
      cases e
      split
      · rename_i id _ _ _ _ _ k _
        split
        · exact Sim.renam l h
        · rename_i hb
          simp only [Bool.or_eq_false_iff, beq_eq, decide_eq_false_iff_not] at hb
          exact Sim.renam l (h.sw k id hb.1.2 hb.2)
      · exact Sim.renam l h
    · rename_i e
      cases e
      split
      · split
        · obtain ⟨ρ', h'⟩ := Sim.renF _ _ h
          exact Sim.renam l h'
        · exact Sim.renam l h
      · exact Sim.renam l h
    · rename_i e; cases e; exact Sim.renam l h
end
end Go.Gx
end
section
/- What is printed of a function, tied to the machine. -/
namespace Go.Gx
open Go.RowKit
set_option linter.unusedVariables false
set_option linter.unusedSimpArgs false
def CG (C : Orc) : Cal → List AV → AV → Prop := fun cal av res => C cal av some = some res
def LG (L : LOrc) : Nat → St → Ex → St → Prop := fun b st e st' => L b st (fun e s => some (e, s)) = some (e, st')
theorem mem_keys {b : Nat} {d : Code} : ∀ {l : List (Nat × Code)}, (b, d) ∈ l → b ∈ keysOf l
  | [], h => by cases h
  | p :: l, h => by
    rcases List.mem_cons.1 h with e | h
    · subst e; exact List.mem_cons_self
    · exact List.mem_cons_of_mem _ (mem_keys h)
theorem findL_mem : ∀ {l : List (Nat × Code)} {b : Nat} {d : Code}, (keysOf l).Nodup → (b, d) ∈ l → findL b l = d
  | [], b, d, _, h => by cases h
  | p :: l, b, d, hn, h => by
    obtain ⟨h1, h2⟩ := List.nodup_cons.1 (show (p.1 :: keysOf l).Nodup from hn)
    unfold findL
    rcases List.mem_cons.1 h with e | h
    · subst e; simp
    · have hne : p.1 ≠ b := by rintro rfl; exact h1 (mem_keys h)
      rw [beq_eq, decide_eq_false hne]
      exact findL_mem h2 h
theorem loopsOf_sub : ∀ {c : Code} {b : Nat} {p q : Nat × Code}, p ∈ loopsOf b c → q ∈ loopsOf p.1 p.2 → q ∈ loopsOf b c
  | .seq x y, b, p, q, hp, hq => by
    rcases List.mem_append.1 hp with hp | hp
    · exact List.mem_append_left _ (loopsOf_sub hp hq)
    · exact List.mem_append_right _ (loopsOf_sub hp hq)
  | .cond _ x y, b, p, q, hp, hq => by
    rcases List.mem_append.1 hp with hp | hp
    · exact List.mem_append_left _ (loopsOf_sub hp hq)
    · exact List.mem_append_right _ (loopsOf_sub hp hq)
  | .block id c, b, p, q, hp, hq => loopsOf_sub (c := c) (b := id) hp hq
  | .loop c, b, p, q, hp, hq => by
    rcases List.mem_cons.1 hp with e | hp
    · subst e; exact List.mem_cons_of_mem _ hq
    · exact List.mem_cons_of_mem _ (loopsOf_sub hp hq)
  | .skip, _, _, _, hp, _ => by cases hp
  | .region .., _, _, _, hp, _ => by cases hp
  | .exit _, _, _, _, hp, _ => by cases hp
  | .ret, _, _, _, hp, _ => by cases hp
  | .rangeFunc .., _, _, _, hp, _ => by cases hp
  | .scope _, _, _, _, hp, _ => by cases hp
  | .label _, _, _, _, hp, _ => by cases hp
  | .goto _, _, _, _, hp, _ => by cases hp
  | .refuse _, _, _, _, hp, _ => by cases hp
theorem loopAt_eq {f : Func} {c : Code} (hb : f.body = some c) (h : loopsOk f = true) {p : Nat × Code} (hp : p ∈ loopsOf 0 c) : loopAt f p.1 = p.2 := by
  unfold loopsOk at h
  unfold loopAt
  rw [hb] at h ⊢
  exact findL_mem (distinctL_nodup h) hp
theorem viewN_some {nt : Nat} {st : St} {l : List Sp} {x : SX l} (h : viewN nt st l = some x) : st.nt = nt ∧ view ((renam st l).freeze (rdIds (renam st l) l)) l = some x := by
  unfold viewN at h
  split at h
  · rename_i e; exact ⟨Nat.eq_of_beq_eq_true e, h⟩
  · cases h
def StepOk (E : Env) (C : Orc) (L : LOrc) (nt : Nat) (d : Code) (b : Nat) (e : Ex) (st st' : St) : Prop :=
  ∃ sp : List Sp, ∃ x : SX sp, spOk sp = true ∧ viewN nt st sp = some x ∧ ∃ Y : Type, ∃ y : Y, ∃ cont : Ex → St → Option Y, runC E C L b d (stOf nt sp x) cont = some y ∧
    ∀ e1 st1, cont e1 st1 = some y → (e1 = .normal ∧ LG L b st1 e st') ∨ (e1 = e ∧ e ≠ .normal ∧ ∃ sp' : List Sp, ∃ x' : SX sp', spOk sp' = true ∧ viewN nt st1 sp' = some x' ∧ st' = stOf nt sp' x')
theorem rounds_ok {P : Program} {E : Env} {pv : Nat → Value} (hE : EnvOk P E) {C : Nat → Orc} {L : Nat → LOrc} (hC : ∀ k, OrcIs (C k) (CG (C k))) (hL : ∀ k, LIs (L k) (LG (L k))) {fn : Func} {c : Code} (hb : fn.body = some c) (hok : loopsOk fn = true)
    {n : Nat} (hG : ∀ k, k < n → GOk P E pv (CG (C k))) (h0 : ∀ b st e st', ¬ LG (L 0) b st e st') (hS : ∀ k b e st st', b ∈ keysOf (loopsOf 0 c) → LG (L (k + 1)) b st e st' → StepOk E (C k) (L k) fn.ntmps (loopAt fn b) b e st st') :
    ∀ (k : Nat), k ≤ n → ∀ (w0 : World) (B : Old), ∀ p ∈ loopsOf 0 c, ∀ (st : St) (e : Ex) (st' : St) (S : Nat → Prop) (ρ : Nat → Option Loc) (a : Act) (w : World) (Q : Exit → Act → World → Prop), LG (L k) p.1 st e st' → Sim w0 B pv S ρ st a w → GlOk E pv S w →
      (∀ S' ρ' a' w', Sim w0 B pv S' ρ' st' a' w' → GlOk E pv S' w' → Grew B S S' → Q (exw e) a' w') → Code.rounds P p.2 Q k a w
  | 0, _, _, _, _, _, _, _, _, _, _, _, _, _, h, _, _, _ => absurd h (h0 _ _ _ _)
  | k + 1, hkn, w0, B, p, hp, st, e, st', S, ρ, a, w, Q, h, hs, hgl, hQ => by
    have ih := rounds_ok hE hC hL hb hok hG h0 hS k (by omega) w0 B
    obtain ⟨sp, x, hsp, hv, Y, y, cont, hrun, hcont⟩ := hS k p.1 e st st' (mem_keys hp) h
    rw [loopAt_eq hb hok hp] at hrun
    obtain ⟨hnt, hv⟩ := viewN_some hv
    obtain ⟨ρ0, hs0⟩ := hs.renam sp
    have hgf := grew_frz hs0 (rdIds (renam st sp) sp)
    obtain ⟨ρ1, hs1⟩ := (hs0.frzs (rdIds (renam st sp) sp)).view hv hsp
    rw [(freeze_slot _ (renam st sp)).2, renam_nt, hnt] at hs1
    obtain ⟨e1, st1, hcr, hc1⟩ := runC_rel (hC k) (hL k) _ _ _ hrun
    rw [rounds_succ]
    have hloops : ∀ q ∈ loopsOf p.1 p.2, LoopSound P E w0 B pv q.2 (LG (L k) q.1) := fun q hq st e st' S ρ a w Q h hs hgl hQ =>
      wp_loop_rounds k (ih q (loopsOf_sub hp hq) st e st' S ρ a w Q h hs hgl hQ)
    refine code_ok hE (hG k (by omega)) hcr hloops hs1 (hgl.mono (fun _ h => .inl h) (fun _ _ => rfl)) fun S1 ρ2 a1 w1 hs2 hgl2 hg => ?_
    have hg := hgf.trans hg
    rcases hcont e1 st1 hc1 with ⟨rfl, hl⟩ | ⟨rfl, hne, sp', x', hsp', hv', rfl⟩
    · exact ih p hp st1 e st' S1 ρ2 a1 w1 Q hl hs2 hgl2 fun S2 ρ3 a2 w2 hs3 hgl3 hg3 => hQ S2 ρ3 a2 w2 hs3 hgl3 (hg.trans hg3)
    · obtain ⟨hnt', hv'⟩ := viewN_some hv'
      obtain ⟨ρ0', hs0'⟩ := hs2.renam sp'
      have hgf' := grew_frz hs0' (rdIds (renam st1 sp') sp')
      obtain ⟨ρ3, hs3⟩ := (hs0'.frzs (rdIds (renam st1 sp') sp')).view hv' hsp'
      rw [(freeze_slot _ (renam st1 sp')).2, renam_nt, hnt'] at hs3
      have := hQ _ ρ3 a1 w1 hs3 (hgl2.mono (fun _ h => .inl h) (fun _ _ => rfl)) (hg.trans hgf')
      cases e1 with
      | normal => exact absurd rfl hne
      | exit id => exact this
      | ret => exact this
theorem frL_form {e : Nat} {τ : Ty} {a : AV} {xs : List (den τ)} (h : frL e τ a = some xs) : a = .fr e τ xs ∨ (a = .nil ∧ xs = [] ∧ 0 < nc τ) := by
  unfold frL at h
  split at h
  · split at h
    · rename_i e1 _ e2
      subst e1
      cases h
      rw [Nat.eq_of_beq_eq_true e2]
      exact .inl rfl
    · cases h
  · split at h
    · rename_i hp
      cases h
      exact .inr ⟨rfl, rfl, Nat.le_of_ble_eq_true hp⟩
    · cases h
  · cases h
theorem asT_str {a : AV} {x : ByteArray} (h : asT .str a = some x) : a = .t .str x := by
  rcases asT_form h with rfl | rfl
  · rfl
  · simp [asT] at h
theorem asT_int {a : AV} {k : IntKind} {x : Int} (h : asT (.int k) a = some x) : a = .t (.int k) x := by
  rcases asT_form h with rfl | rfl
  · rfl
  · simp [asT] at h
theorem sf_wk {τ : Ty} {e : Nat} {a : AV} {x : den τ} (h : sfView e τ a = some x) : Wk1 a (sfV e τ x) := by
  unfold sfView at h
  split at h
  · split at h
    · split at h
      · rename_i hf hb hc hd
        cases h
        cases asT_str hb; cases asT_str hc; cases asT_str hd
        rcases frL_form hf with rfl | ⟨rfl, rfl, hp⟩
        · exact .refl _
        · refine .agN .name _ 0 e .str rfl hp fun i e' τ' xs h => ?_
          match i, h with
          | 0, h | 1, h | 2, h | 3, h => cases h
          | i + 4, h => simp at h
      · cases h
    · cases h
  · split at h
    · split at h
      · rename_i hf
        cases h
        rcases frL_form hf with rfl | ⟨rfl, rfl, hp⟩
        · exact .refl _
        · refine .agN .lib _ 0 e .entry rfl hp fun i e' τ' xs h => ?_
          match i, h with
          | 0, h => cases h
          | i + 1, h => simp at h
      · cases h
    · cases h
  · split at h
    · split at h
      · rename_i hb hc hd hf
        cases h
        cases asT_int hb; cases asT_str hc; cases asT_str hd
        rcases frL_form hf with rfl | ⟨rfl, rfl, hp⟩
        · exact .refl _
        · refine .agN .query _ 3 e .query rfl hp fun i e' τ' xs h => ?_
          match i, h with
          | 0, h | 1, h | 2, h | 3, h => cases h
          | i + 4, h => simp at h
      · cases h
    · cases h
  · cases h
theorem rk_wk {k : RK} {a : AV} {x : k.X} (h : k.view a = some x) : Wk1 a (k.val x) := by
  cases k with
  | t τ =>
    simp only [RK.view] at h
    split at h
    · rename_i e σ xs
      split at h
      · rename_i ρ
        split at h
        · rename_i e' _
          subst e'
          cases h
          exact .frT e _ xs
        · cases h
      · cases h
    · rename_i σ fs
      split at h
      · rename_i b hb
        obtain ⟨y, rfl⟩ := implode_nt hb
        have : AV.t σ y = .t τ x := by
          simp only [asT] at h
          split at h
          · rename_i e
            subst e
            cases h
            rfl
          · cases h
        show Wk1 _ (.t τ x)
        rw [← this]
        exact .agT σ fs _ hb
      · cases h
    · rename_i hn
      rcases asT_form h with rfl | rfl
      · exact .refl _
      · cases τ <;> simp [asT] at h
        subst h
        exact .nilT _
  | fr e τ =>
    simp only [RK.view] at h
    split at h
    · rename_i e' σ xs
      split at h
      · rename_i e'' _ he
        subst e''
        cases h
        have := Nat.eq_of_beq_eq_true he
        subst this
        exact .refl _
      · cases h
    · split at h
      · rename_i hp
        cases h
        exact .nilFr e τ (Nat.le_of_ble_eq_true hp)
      · cases h
    · cases h
  | pc τ =>
    simp only [RK.view] at h
    split at h
    · split at h
      · rename_i e _
        subst e
        cases h
        exact .refl _
      · cases h
    · cases h
  | sf τ e => exact sf_wk h
theorem viewT_get : ∀ {tys : List Ty} {av : List AV} {x : TX tys}, viewT tys av = some x → av.length = (tvals tys x).length ∧ ∀ (i : Nat) a b, av[i]? = some a → (tvals tys x)[i]? = some b → ∃ τ, ∃ y : den τ, b = .t τ y ∧ asT τ a = some y
  | [], [], x, _ => ⟨rfl, fun i a b h => by simp at h⟩
  | [], _ :: _, x, h => by simp [viewT] at h
  | τ :: l, [], x, h => by simp [viewT] at h
  | τ :: l, a :: as, x, h => by
    simp only [viewT] at h
    split at h
    · rename_i x0 hx
      split at h
      · rename_i y hy
        cases h
        obtain ⟨h1, h2⟩ := viewT_get hy
        refine ⟨by simp [tvals, h1], fun i b c hb hc => ?_⟩
        cases i with
        | zero => cases hb; cases hc; exact ⟨τ, x0, rfl, hx⟩
        | succ i => exact h2 i b c (by simpa using hb) (by simpa [tvals] using hc)
      · cases h
    · cases h
theorem meets_args {P : Program} {E : Env} {pv : Nat → Value} {cal : Cal} {tys : List Ty} {av : List AV} {x : TX tys} {r : AV} (hx : viewT tys av = some x) (h : Meets P E pv cal (tvals tys x) r) : Meets P E pv cal av r := by
  obtain ⟨h1, h2⟩ := viewT_get hx
  refine Goes.mono h ?_ fun S w vs ⟨h3, h4⟩ => ⟨h3.trans h1, fun i b v hb hv => ?_⟩
  · cases r with
    | tup rs => exact .inr ⟨rs, rs, rfl, rfl, rfl, fun i a a' e1 e2 => by rw [e1] at e2; cases e2; exact .refl a⟩
    | _ => exact .inl ⟨fun l h => (by cases h), fun l h => (by cases h), .refl _⟩
  · have hi := (List.getElem?_eq_some_iff.1 hb).1
    have ha : av[i]? = some av[i] := List.getElem?_eq_getElem (by omega)
    obtain ⟨τ, y, rfl, hy⟩ := h2 i _ b ha hb
    obtain ⟨cs, h5, h6⟩ := h4 i _ v ha hv
    exact ⟨cs, .t τ y cs (asT_ar hy h5), by rw [h6, valOf, valOf, asT_ag hy]⟩
theorem no_loops {P : Program} {E : Env} {pv : Nat → Value} {L : LOrc} (h : ∀ b st e st', ¬ LG L b st e st') (l : List (Nat × Code)) : ∀ w0 B, ∀ p ∈ l, LoopSound P E w0 B pv p.2 (LG L p.1) :=
  fun w0 B p _ st e st' S ρ a w Q hl => absurd hl (h _ _ _ _)
theorem wk_view1 {k : RK} {r : AV} {y : k.X} (h : viewR1 k r = some y) : Wk r (k.val y) := by
  refine .inl ⟨fun l e => ?_, fun l e => ?_, rk_wk h⟩
  · subst e
    cases k with
    | sf τ e => cases τ <;> simp [viewR1, RK.view, sfView] at h
    | _ => simp [viewR1, RK.view, asT] at h
  · cases k with
    | sf τ e' => cases τ <;> cases e
    | _ => cases e
theorem wk_view2 {k l : RK} {r : AV} {y : k.X × l.X} (h : viewR2 k l r = some y) : Wk r (.tup [k.val y.1, l.val y.2]) := by
  unfold viewR2 at h
  split at h
  · rename_i a b
    split at h
    · rename_i x z hx hz
      cases h
      refine .inr ⟨_, _, rfl, rfl, rfl, fun i c d hc hd => ?_⟩
      match i, hc, hd with
      | 0, hc, hd => cases hc; cases hd; exact rk_wk hx
      | 1, hc, hd => cases hc; cases hd; exact rk_wk hz
      | i + 2, hc, _ => simp at hc
    · cases h
  · cases h
theorem fun_good {P : Program} {E : Env} {pv : Nat → Value} (hE : EnvOk P E) {C : Orc} {L : LOrc} (hC : OrcIs C (CG C)) (hL : LIs L (LG L)) (hG : GOk P E pv (CG C)) {f : FuncId} {fn : Func} {c : Code} (hf : P.funcs[f]? = some fn) (hb : fn.body = some c) (hname : (fn.name == "runtime.NumGoroutine") = false)
    (hl : ∀ w0 B, ∀ p ∈ loopsOf 0 c, LoopSound P E w0 B pv p.2 (LG L p.1)) {args : List AV} (hn : args.length ≤ fn.ntmps) {R : Type} {K : AV → Option R} {y : R} (hrun : runF E C L fn args K = some y) {r' : AV} (hw : ∀ r, K r = some y → Wk r r') : Meets P E pv (.f f) args r' := by
  obtain ⟨c', res, e, st, rs, as, hfr, hk⟩ := runF_rel hC hL hrun
  have hcc : c' = c := by have := hfr.body; rw [hb] at this; cases this; rfl
  subst hcc
  exact Goes.mono (funR_meets hE hG hf hname hfr hn hl) (hw res hk) fun _ _ _ h => h
end Go.Gx
end
section
/- Functions about data in blocks of its own, deep down: those that make it, those that mark it. -/
namespace Go.Gx
open Go.RowKit
set_option linter.unusedVariables false
set_option linter.unusedSimpArgs false
section
variable {S D : Nat → Prop} {w : World} {ρ ρ0 : Nat → Option Loc} {row row0 : Nat → Option Row} {pv : Nat → Value} {B : Old}
theorem allL_at {f : AV → Bool} : ∀ {l : List AV}, purN.allL f l = true → ∀ {a : AV}, a ∈ l → f a = true
  | [], _, a, h => by cases h
  | b :: l, h, a, ha => by
    simp only [purN.allL, Bool.and_eq_true] at h
    rcases List.mem_cons.1 ha with rfl | ha
    · exact h.1
    · exact allL_at h.2 ha
theorem pur_cr (h : HS S w ρ row pv B) (hD : ∀ b, S b → pvN pv ≤ b → OB w b → D b) (hO : pvO pv = true) {id e : Nat} {τ : Ty} {xs : List (den τ)} {fz app : Bool} {g c : Nat} (hr : row id = some (.flat e τ xs fz app)) (hl : ρ id = some (.at g c)) (hg : D g) :
    CR D w (.sl τ) xs [.slice (some ⟨g, 0, none⟩) xs.length c] := by
  obtain ⟨cur, f, h1, h2, h3, h4, h5, h6, h7, h8⟩ := h.rows id _ _ hr hl
  have : ∀ i, ∃ cs, ∀ (hi : i < xs.length), CR D w τ xs[i] cs ∧ ∀ j v, cs[j]? = some v → cur[i * nc τ + j]? = some v := fun i => by
    by_cases hi : i < xs.length
    · obtain ⟨cs, hc⟩ := h8 i hi
      exact ⟨cs, fun _ => ⟨hc.1.mono (fun b hb => hD b hb.1 (hb.2 hO).1 (hb.2 hO).2) (fun _ _ => rfl), hc.2⟩⟩
    · exact ⟨[], fun h => absurd h hi⟩
  let cv := fun i => Classical.choose (this i)
  have hcv := fun i => Classical.choose_spec (this i)
  refine .sl τ xs _ c cv h3 h4 (fun i hi => (hcv i hi).1) fun i hi => ⟨g, 0, rfl, hg, fun j v hv => ?_⟩
  have := (hcv i hi).2 j v hv
  simp only [World.cell?, h1, Nat.zero_add]
  simpa using this
theorem closeP_pur (h : HS S w ρ row pv B) (hD : ∀ b, S b → pvN pv ≤ b → OB w b → D b) (hO : pvO pv = true) : ∀ {n : Nat} {a b : AV} {cs : List Value}, purN n a = true → closeR row n a = some b → AR S w ρ row pv a cs →
    (∀ id, id ∈ idsN n a → ∀ e τ, ∀ xs : List (den τ), ∀ fz app g c, row id = some (.flat e τ xs fz app) → ρ id = some (.at g c) → D g) → AR D w ρ0 row0 pv b cs
  | 0, a, b, cs, hp, _, _, _ => by simp [purN] at hp
  | n + 1, a, b, cs, hp, hc, ha, hcov => by
    cases ha with
    | t τ x _ hx =>
      simp only [purN, Bool.not_eq_true'] at hp
      simp only [closeR, Option.some.injEq] at hc
      subst hc
      exact .t τ x _ (cr_flat hp hx)
    | nil =>
      simp only [closeR, Option.some.injEq] at hc
      subst hc
      exact .nil
    | own id e τ xs fz app g cap hr hl =>
      simp only [closeR, hr, Option.some.injEq] at hc
      subst hc
      exact .t _ _ _ (pur_cr h hD hO hr hl (hcov id (by simp [idsN]) e τ xs fz app g cap hr hl))
    | ownNil id e τ fz app hr hl =>
      simp only [closeR, hr, Option.some.injEq] at hc
      subst hc
      exact .t _ _ _ (cr_nil D w τ)
    | agg τ fs css hl hh =>
      simp only [purN] at hp
      simp only [closeR] at hc
      split at hc
      · rename_i gs hgs
        obtain ⟨h1, h2⟩ := mapO_get hgs
        obtain ⟨x, rfl, hx⟩ := implode_ok (S := D) (w := w) (ρ := ρ0) (row := row0) (pv := pv) hc ⟨css, rfl, h1.trans hl, fun i b cs hb hcs => by
          obtain ⟨a, h3, h4⟩ := h2 i b hb
          have hm := List.mem_of_getElem? h3
          exact closeP_pur h hD hO (allL_at hp hm) h4 (hh i a cs h3 hcs) fun id hid => hcov id (mem_go (f := idsN n) h3 hid)⟩
        exact .t τ x _ hx
      · cases hc
    | pc c τ x _ hx =>
      simp only [purN] at hp
      subst hp
      simp only [closeR, Option.some.injEq] at hc
      subst hc
      exact .t τ x _ (hx.mono (fun b hb => hD b hb.1 hb.2.1 hb.2.2) fun _ _ => rfl)
    | _ => simp [purN] at hp
end
section
variable {P : Program} {E : Env} {pv : Nat → Value} {G : Cal → List AV → AV → Prop} {LG : Nat → St → Ex → St → Prop}
theorem call_enter {f : FuncId} {fn : Func} {c : Code} (hf : P.funcs[f]? = some fn) (hb : fn.body = some c) (hname : (fn.name == "runtime.NumGoroutine") = false) (vs : Array Value) (w : World) : (callFunc f vs).run P w = .ok (.enter f vs) w := by
  have hn' : fn.name ≠ "runtime.NumGoroutine" := by simpa using hname
  simp [callFunc, hf, hn', hb]
theorem tmps_undef {n t : Nat} : (Array.replicate n undef)[t]?.getD undef = undef := by
  cases hx : (Array.replicate n undef)[t]? with
  | none => rfl
  | some u =>
    have := Array.mem_of_getElem? hx
    rw [Array.mem_replicate] at this
    rw [this.2]; rfl
structure FunPc (E : Env) (G : Cal → List AV → AV → Prop) (LG : Nat → St → Ex → St → Prop) (fn : Func) (c : Code) (args : List AV) (τ : Ty) (x : den τ) (e : Ex) (st : St) (a : AV) : Prop where
  body : fn.body = some c
  run : CodeR E G LG 0 c (start fn.ntmps args) e st
  out : ∀ id, e ≠ .exit id
  vals : resAll E st fn.results.toList = some [a]
  pur : purN 6 a = true
  close : closeR st.row 6 a = some (.t τ x)
theorem runPc_rel {C : Orc} {L : LOrc} (hC : OrcIs C G) (hL : LIs L LG) {fn : Func} {args : List AV} {R : Type} {K : AV → Option R} {r : R} (h : runPc E C L fn args K = some r) :
    ∃ c τ x e st a, FunPc E G LG fn c args τ x e st a ∧ K (.pc true τ x) = some r := by
  unfold runPc at h
  split at h
  · rename_i c hc
    obtain ⟨e, st, h1, h2⟩ := runC_rel hC hL c 0 _ h
    have go : (match resAll E st fn.results.toList with
      | some [a] => match purN 6 a, closeR st.row 6 a with
        | true, some (.t τ x) => K (.pc true τ x)
        | _, _ => none
      | _ => none) = some r → (∀ id, e ≠ .exit id) → ∃ c τ x e st a, FunPc E G LG fn c args τ x e st a ∧ K (.pc true τ x) = some r := fun h2 he => by
      split at h2
      · rename_i a ha
        split at h2
        · rename_i τ x hp hcl
          exact ⟨c, τ, x, e, st, a, ⟨hc, h1, he, ha, hp, hcl⟩, h2⟩
        · cases h2
      · cases h2
    cases e with
    | exit id => cases h2
    | normal => exact go h2 (fun id h => by cases h)
    | ret => exact go h2 (fun id h => by cases h)
  · cases h
theorem funPc_meets (hE : EnvOk P E) (hG : GOk P E pv G) (hO : pvO pv = true) (hQ : pvQ pv = true) {f : FuncId} {fn : Func} (hf : P.funcs[f]? = some fn) (hname : (fn.name == "runtime.NumGoroutine") = false) {c : Code} {args : List AV} {τ : Ty} {x : den τ} {e : Ex} {st : St} {ra : AV}
    (h : FunPc E G LG fn c args τ x e st ra) (hn : args.length ≤ fn.ntmps) (hl : ∀ w0 B, ∀ p ∈ loopsOf 0 c, LoopSound P E w0 B pv p.2 (LG p.1)) : Meets P E pv (.f f) args (.pc true τ x) := by
  intro S w vs hst hgl hargs
  obtain ⟨hvl, hva⟩ := hargs
  have hlow := hgl.low hQ hst
  show RunsTo P _ ((callFunc f vs.toArray).run P w)
  rw [call_enter hf h.body hname]
  refine calls_of_wp hf h.body ?_
  have hs0 : Sim w ⟨fun b => b < w.heap.size, none⟩ pv S (fun _ => none) (start fn.ntmps args) { tmps := vs.toArray ++ Array.replicate (fn.ntmps - vs.toArray.size) undef, defers := [] } w := by
    refine ⟨by simp [start]; omega, rfl, fun t => ?_, ⟨hst, fun id r l h1 _ => (by cases h1), fun id id' l l' b h1 => (by cases h1), fun id r l b h1 => (by cases h1), fun l hl => (by cases hl)⟩, Blw.refl _ _, fun _ h => h⟩
    rw [Array.getD_eq_getD_getElem?]
    simp only [start]
    by_cases ht : t < args.length
    · have ha : args[t]? = some args[t] := List.getElem?_eq_getElem ht
      have hv : vs[t]? = some vs[t] := List.getElem?_eq_getElem (by omega)
      obtain ⟨cs, h1, h2⟩ := hva t _ _ ha hv
      rw [Array.getElem?_append_left (by simp; omega)]
      simp only [List.getElem?_toArray, ha, hv, Option.getD_some]
      exact .inr ⟨cs, h1, h2⟩
    · have ha : args[t]? = none := List.getElem?_eq_none (by omega)
      rw [ha, Array.getElem?_append_right (by simp; omega)]
      simp only
      rw [tmps_undef]
      exact vr_undef
  refine code_ok hE hG h.run (hl w ⟨fun b => b < w.heap.size, none⟩) hs0 hgl fun S1 ρ a w1 hs hgl1 hg => ?_
  suffices hfin : a.defers = [] ∧ ∃ v, (results fn a.tmps).run P w1 = .ok v w1 ∧ (∃ v', Ending.returned v = .returned v' ∧ (Below w.heap.size w w1 ∧ ∃ S' : Nat → Prop, (∀ b, S b → S' b) ∧ (∀ b, S' b → S b ∨ (w.heap.size ≤ b ∧ b < w1.heap.size)) ∧ RR S' w1 w.heap.size pv (.pc true τ x) v')) by
    cases e with
    | normal => exact hfin
    | ret => exact hfin
    | exit id => exact absurd rfl (h.out id)
  refine ⟨hs.defers, ?_⟩
  obtain ⟨vs', hvl', hvv, hres⟩ := res_run hE hs h.vals
  match vs', hvl' with
  | [v], _ =>
    have hv := hvv 0 _ v rfl rfl
    have hcl := h.close
    obtain ⟨cs, k1, k2⟩ := vr_ar hv (by rintro rfl; simp [closeR] at hcl)
    have hge : ∀ id r g c, st.row id = some r → ρ id = some (.at g c) → w.heap.size ≤ g := fun id r g c hr hl' => Nat.le_of_not_lt (hs.hs.apart id r g c hl' hr).1
    have k3 := closeP_pur (ρ0 := fun _ => none) (row0 := fun _ => none) (D := fun b => frzS S1 ρ st.row (idsN 6 ra) b ∧ pcol pv w1 true b) hs.hs (fun b h1 h2 h3 => ⟨.inl h1, h2, h3⟩) hO h.pur hcl k1
      fun id hid e' τ' xs fz app g c' hr hl' => by
        obtain ⟨cur, f', k4, k5, k6, k7, k8, k9, _⟩ := hs.hs.rows id _ _ hr hl'
        exact ⟨.inr ⟨id, hid, _, c', hr, rfl, hl'⟩, Nat.le_trans hlow (hge id _ g c' hr hl'), ⟨cur, e', f', k4, k9⟩⟩
    refine ⟨v, by simpa using hres, v, rfl, hs.below.to, frzS S1 ρ st.row (idsN 6 ra), fun b hb => .inl (hg.sub b hb (hst b hb)), fun b hb => ?_, ⟨none, ?_⟩⟩
    · rcases hb with hb | ⟨id, hid, r, c', hr, _, hl'⟩
      · exact (hg.new b hb).imp _root_.id fun h => ⟨Nat.le_of_not_lt h, hs.hs.stab b hb⟩
      · exact .inr ⟨hge id r b c' hr hl', (hs.hs.rows id r _ hr hl').lt⟩
    · rw [k2, show valOf ra cs = valOf (.pc true τ x) cs by have := closeR_ag hcl; rw [valOf, valOf, ← this]; rfl]
      exact .plain _ cs (.pc true τ x cs (ar_t k3))
structure FunD (E : Env) (G : Cal → List AV → AV → Prop) (LG : Nat → St → Ex → St → Prop) (fn : Func) (c : Code) (τ : Ty) (x : den τ) (k m : Int) (e : Ex) (st : St) : Prop where
  body : fn.body = some c
  run : CodeR E G LG 0 c (startD fn.ntmps τ x k) e st
  out : ∀ id, e ≠ .exit id
  vals : resAll E st fn.results.toList = some [.t (.int .i64) m]
  row : ∃ r, st.row mbase = some r
theorem runD_rel {C : Orc} {L : LOrc} (hC : OrcIs C G) (hL : LIs L LG) {fn : Func} {τ : Ty} {x : den τ} {k : Int} {R : Type} {K : AV → Option R} {r : R} (h : runD E C L fn τ x k K = some r) :
    ∃ c m e st, FunD E G LG fn c τ x k m e st ∧ K (.t (.int .i64) m) = some r := by
  unfold runD at h
  split at h
  · rename_i c hc
    obtain ⟨e, st, h1, h2⟩ := runC_rel hC hL c 0 _ h
    have go : (match resAll E st fn.results.toList with
      | some [.t (.int .i64) m] => match st.row mbase with
        | some _ => K (.t (.int .i64) m)
        | none => none
      | _ => none) = some r → (∀ id, e ≠ .exit id) → ∃ c m e st, FunD E G LG fn c τ x k m e st ∧ K (.t (.int .i64) m) = some r := fun h2 he => by
      split at h2
      · rename_i m hm
        split at h2
        · rename_i r0 hr
          exact ⟨c, m, e, st, ⟨hc, h1, he, hm, r0, hr⟩, h2⟩
        · cases h2
      · cases h2
    cases e with
    | exit id => cases h2
    | normal => exact go h2 (fun id h => by cases h)
    | ret => exact go h2 (fun id h => by cases h)
  · cases h
theorem funD_meets (hE : EnvOk P E) (hG : GOk P E pv G) {f : FuncId} {fn : Func} (hf : P.funcs[f]? = some fn) (hname : (fn.name == "runtime.NumGoroutine") = false) {c : Code} {τ : Ty} {x : den τ} {k m : Int} {e : Ex} {st : St}
    (h : FunD E G LG fn c τ x k m e st) (hsl : slT τ = true) (hn : 2 ≤ fn.ntmps) (hl : ∀ w0 B, ∀ p ∈ loopsOf 0 c, LoopSound P E w0 B pv p.2 (LG p.1)) : MeetsD P E pv f τ x k m := by
  intro S T v w cs hst hgl hST hsw hcr
  show RunsTo P _ ((callFunc f #[valOf (.t τ x) cs, .int .i64 k]).run P w)
  rw [call_enter hf h.body hname]
  refine calls_of_wp hf h.body ?_
  have hrow1 : (startD fn.ntmps τ x k).row mbase = some (.box τ (.t .bool false)) := by simp [startD]
  have hrow2 : ∀ id r, (startD fn.ntmps τ x k).row id = some r → id = mbase ∧ r = .box τ (.t .bool false) := fun id r h1 => by
    simp only [startD, beq_eq] at h1
    by_cases e1 : id = mbase
    · rw [decide_eq_true e1] at h1
      simp only [cond_true, Option.some.injEq] at h1
      exact ⟨e1, h1.symm⟩
    · rw [decide_eq_false e1] at h1; cases h1
  have hs0 : Sim w ⟨fun b => b < w.heap.size ∧ ¬ T b, some (.soft T v)⟩ pv S (fun id => if id = mbase then some (.soft T v) else none) (startD fn.ntmps τ x k) { tmps := #[valOf (.t τ x) cs, .int .i64 k] ++ Array.replicate (fn.ntmps - #[valOf (.t τ x) cs, Value.int .i64 k].size) undef, defers := [] } w := by
    refine ⟨by simp [startD]; omega, rfl, fun t => ?_, ⟨hst, fun id r l1 h1 h2 => ?_, fun id id' l1 l2 b h1 h2 h3 h4 _ _ => ?_, fun id r l1 g h1 h2 hg => ?_, fun l1 hl1 => ?_⟩, Blw.refl _ _, fun _ h => h.1⟩
    · rw [Array.getD_eq_getD_getElem?]
      match t with
      | 0 =>
        rw [Array.getElem?_append_left (by simp)]
        exact .inr ⟨cs, .ds mbase τ x cs _ T v hrow1 (by simp) hcr, rfl⟩
      | 1 =>
        rw [Array.getElem?_append_left (by simp)]
        exact .inr ⟨_, .t _ _ _ (.int .i64 k), rfl⟩
      | t + 2 =>
        have : (#[valOf (.t τ x) cs, Value.int .i64 k] ++ Array.replicate (fn.ntmps - #[valOf (.t τ x) cs, Value.int .i64 k].size) undef)[t + 2]? = (Array.replicate (fn.ntmps - #[valOf (.t τ x) cs, Value.int .i64 k].size) undef)[t]? := by
          rw [Array.getElem?_append_right (by simp)]
          simp
        rw [this, tmps_undef]
        exact vr_undef
    · obtain ⟨rfl, rfl⟩ := hrow2 id r h1
      rw [if_pos rfl] at h2
      cases h2
      exact ⟨hsl, ⟨false, rfl, fun h => by cases h⟩, hsw⟩
    · cases hx : (startD fn.ntmps τ x k).row id with
      | none => exact absurd hx h3
      | some r =>
        cases hy : (startD fn.ntmps τ x k).row id' with
        | none => exact absurd hy h4
        | some r' => exact (hrow2 id r hx).1.trans (hrow2 id' r' hy).1.symm
    · obtain ⟨rfl, rfl⟩ := hrow2 id r h2
      rw [if_pos rfl] at h1
      have h1 := Option.some.inj h1
      subst h1
      exact ⟨fun hb => hb.2 hg, fun _ hS => hST g hS hg, fun hz => by cases hz⟩
    · simpa using hl1
  refine code_ok hE hG h.run (hl w _) hs0 hgl fun S1 ρ a w1 hs hgl1 hg => ?_
  suffices hfin : a.defers = [] ∧ ∃ u, (results fn a.tmps).run P w1 = .ok u w1 ∧ (∃ v', Ending.returned u = .returned v' ∧ (v' = .int .i64 m ∧ Blw ⟨fun b => b < w.heap.size ∧ ¬ T b, none⟩ w w1 ∧ SoftW T v w1)) by
    cases e with
    | normal => exact hfin
    | ret => exact hfin
    | exit id => exact absurd rfl (h.out id)
  refine ⟨hs.defers, ?_⟩
  obtain ⟨r0, hr0⟩ := h.row
  have hpin : ρ mbase = some (.soft T v) := hs.hs.pin _ rfl
  have hro := hs.hs.rows mbase r0 _ hr0 hpin
  have hsw1 : SoftW T v w1 := by
    cases r0 with
    | flat e τ xs fz app => exact hro.elim
    | box τ b => exact hro.2.2
  obtain ⟨vs', hvl', hvv, hres⟩ := res_run hE hs h.vals
  match vs', hvl' with
  | [u], _ =>
    exact ⟨u, by simpa using hres, u, rfl, vr_int (hvv 0 _ u rfl rfl), ⟨hs.below.os, hs.below.tape, hs.below.output, hs.below.size, hs.below.block⟩, hsw1⟩
def mpv (pv : Nat → Value) (n : Nat) : Nat → Value := fun i => if i = 1099511627776 then .int .i64 n else if i = 1099511627777 then .bool true else if i = 1099511627778 then .bool true else pv i
theorem mpv_N (pv : Nat → Value) (n : Nat) : pvN (mpv pv n) = n := by simp [pvN, mpv]
theorem mpv_Q (pv : Nat → Value) (n : Nat) : pvQ (mpv pv n) = true := by simp [pvQ, mpv]
theorem mpv_O (pv : Nat → Value) (n : Nat) : pvO (mpv pv n) = true := by simp [pvO, mpv]
theorem meetsP_of {E E' : Env} (hgl : E'.gl = E.gl) (hgi : E'.gi = E.gi) (hon : E'.on = true) {f : Nat} {ps : List Ty} {x : TX ps} {τ : Ty} {y : den τ}
    (h : ∀ n, Meets P E' (mpv pv n) (.f f) (tvals ps x) (.pc true τ y)) : MeetsP P E pv f (tvals ps x) (.pc true τ y) := by
  intro S w vs hst hg hargs
  have hg' : GlOk E' (mpv pv w.heap.size) (fun b => b < w.heap.size) w := by
    have hg1 := hg.mono (S' := fun b => b < w.heap.size) hst (fun _ _ => rfl)
    refine ⟨fun g b hb => ?_, fun g hb => ?_, fun _ => hon, fun _ => ?_⟩
    · obtain ⟨τ', x', cs, e, hc, hgs, hv⟩ := hg1.1 g b (by rw [← hgl]; exact hb)
      exact ⟨τ', x', cs, e, hc.mono (fun b hb => ⟨hb.1, fun _ => by rw [mpv_N]; exact hb.1⟩) (fun _ _ => rfl), ⟨hgs.1, fun _ => by rw [mpv_N]; exact hgs.1⟩, hv⟩
    · obtain ⟨h1, m, h2⟩ := hg1.2.1 g (by rw [← hgi]; exact hb)
      exact ⟨⟨h1.1, fun _ => by rw [mpv_N]; exact h1.1⟩, m, h2⟩
    · rw [mpv_N]
      by_cases h0 : w.heap.size = 0
      · exact .inl h0
      · exact .inr (by show w.heap.size - 1 < w.heap.size; omega)
  have ha' : ArgsOk (fun b => b < w.heap.size) w (mpv pv w.heap.size) (tvals ps x) vs := by
    refine ⟨hargs.1, fun i a v ha hv => ?_⟩
    obtain ⟨cs, h1, h2⟩ := hargs.2 i a v ha hv
    have : ∀ (ps : List Ty) (x : TX ps) (i : Nat) a, (tvals ps x)[i]? = some a → ∃ τ, ∃ z : den τ, a = .t τ z := by
      intro ps
      induction ps with
      | nil => intro x i a h; simp [tvals] at h
      | cons τ ps ih =>
        intro x i a h
        cases i with
        | zero => simp only [tvals, List.getElem?_cons_zero, Option.some.injEq] at h; exact ⟨τ, x.1, h.symm⟩
        | succ i => exact ih x.2 i a (by simpa [tvals] using h)
    obtain ⟨τ', z, rfl⟩ := this ps x i a ha
    exact ⟨cs, .t _ _ _ ((ar_t h1).mono hst (fun _ _ => rfl)), h2⟩
  refine RunsTo.mono (h w.heap.size (fun b => b < w.heap.size) w vs (fun _ h => h) hg' ha') fun u w' ⟨hb, S', h1, h2, h3⟩ => ⟨hb, ?_⟩
  obtain ⟨g, h3⟩ := h3
  cases h3 with
  | plain _ cs ha =>
    cases ha with
    | pc _ _ _ _ hx =>
      refine ⟨τ, y, fun b => w.heap.size ≤ b ∧ b < w'.heap.size ∧ OB w' b, cs, rfl, rfl, fun b hb => hb, hx.mono (fun b hb => ?_) (fun _ _ => rfl)⟩
      have h4 := hb.2.1
      rw [mpv_N] at h4
      rcases h2 b hb.1 with h5 | h5
      · omega
      · exact ⟨h5.1, h5.2, hb.2.2⟩
end
end Go.Gx
end
section
/- Tables of callees and of loops, and what they are tied by. -/
namespace Go.Gx
open Go.RowKit
set_option linter.unusedVariables false
set_option linter.unusedSimpArgs false
inductive MK where
  | fr (e : Nat) (τ : Ty)
  | bx (τ : Ty)
@[reducible] def MK.X : MK → Type
  | .fr _ τ => List (den τ)
  | .bx τ => den τ
def MK.val : (k : MK) → k.X → AV
  | .fr e τ, x => .fr e τ x
  | .bx τ, x => .bx τ x
def MK.view : (k : MK) → AV → Option k.X
  | .fr e τ, a => match a with
    | .fr e' σ xs => match decEq σ τ, Nat.beq e' e with
      | .isTrue h, true => some (h ▸ xs)
      | _, _ => none
    | _ => none
  | .bx τ, a => match a with
    | .bx σ x => match decEq σ τ with
      | .isTrue h => some (h ▸ x)
      | .isFalse _ => none
    | _ => none
theorem MK.view_eq {k : MK} {a : AV} {x : k.X} (h : k.view a = some x) : a = k.val x := by
  cases k with
  | fr e τ =>
    cases a <;> simp only [MK.view] at h <;> try cases h
    split at h
    · rename_i e' _ he
      subst e'
      cases h
      rw [Nat.eq_of_beq_eq_true he]; rfl
    · cases h
  | bx τ =>
    cases a <;> simp only [MK.view] at h <;> try cases h
    split at h
    · rename_i e' _
      subst e'
      cases h
      rfl
    · cases h
def viewK0 (k : MK) : AV → Option k.X
  | .kep o (.tup []) => k.view o
  | _ => none
def viewK {Y : Type} (k : MK) (V : AV → Option Y) : AV → Option (k.X × Y)
  | .kep o r => match k.view o, V r with
    | some a, some b => some (a, b)
    | _, _ => none
  | _ => none
def viewMov (e : Nat) (τ : Ty) : AV → Option (List (den τ))
  | .mov e' σ xs => match decEq σ τ, Nat.beq e' e with
    | .isTrue h, true => some (h ▸ xs)
    | _, _ => none
  | _ => none
theorem wk_viewK0 {k : MK} {r : AV} {y : k.X} (h : viewK0 k r = some y) : WkM r (.kep (k.val y) (.tup [])) := by
  unfold viewK0 at h
  split at h
  · rw [MK.view_eq h]; exact .kep _ _ _ (wk_refl _)
  · cases h
theorem wk_viewK {Y : Type} {k : MK} {V : AV → Option Y} {out : Y → AV} (hV : ∀ r y, V r = some y → Wk r (out y)) {r : AV} {y : k.X × Y} (h : viewK k V r = some y) : WkM r (.kep (k.val y.1) (out y.2)) := by
  unfold viewK at h
  split at h
  · split at h
    · rename_i a b ha hb
      cases h
      rw [MK.view_eq ha]
      exact .kep _ _ _ (hV _ _ hb)
    · cases h
  · cases h
theorem wk_viewMov {e : Nat} {τ : Ty} {r : AV} {y : List (den τ)} (h : viewMov e τ r = some y) : WkM r (.mov e τ y) := by
  unfold viewMov at h
  split at h
  · split at h
    · rename_i e' _ he
      subst e'
      cases h
      rw [Nat.eq_of_beq_eq_true he]
      exact .mov _ _ _
    · cases h
  · cases h
def viewEat (τ : Ty) : AV → Option (den τ)
  | .pc false σ x => match decEq σ τ with
    | .isTrue h => some (h ▸ x)
    | _ => none
  | _ => none
theorem wk_viewEat {τ : Ty} {r : AV} {y : den τ} (h : viewEat τ r = some y) : WkM r (.pc false τ y) := by
  unfold viewEat at h
  split at h
  · split at h
    · rename_i e' _
      subst e'
      cases h
      exact .eat _ _
    · cases h
  · cases h
inductive PK where
  | t (τ : Ty)
  | tp (τ : Ty)
  | clo (g : Nat) (cs : List CK)
@[reducible] def PK.X : PK → Type
  | .t τ => den τ
  | .tp τ => den τ
  | .clo _ cs => CX cs
def PK.val : (k : PK) → k.X → AV
  | .t τ, x => .t τ x
  | .tp τ, x => .tp (.t τ x)
  | .clo g cs, x => .clo g (cvals cs x)
def PK.view : (k : PK) → AV → Option k.X
  | .t τ, a => asT τ a
  | .tp τ, a => match a with
    | .tp b => asT τ b
    | _ => none
  | .clo g cs, a => match a with
    | .clo f caps => match Nat.beq f g with
      | true => viewC cs caps
      | false => none
    | _ => none
@[reducible] def PX : List PK → Type
  | [] => Unit
  | k :: l => k.X × PX l
def pvals : (l : List PK) → PX l → List AV
  | [], _ => []
  | k :: l, x => k.val x.1 :: pvals l x.2
def viewP : (l : List PK) → List AV → Option (PX l)
  | [], [] => some ()
  | k :: l, a :: al => match k.view a with
    | some x => match viewP l al with
      | some y => some (x, y)
      | none => none
    | none => none
  | _, _ => none
section
variable {S : Nat → Prop} {w : World} {ρ : Nat → Option Loc} {row : Nat → Option Row} {pv : Nat → Value}
theorem PK.ok {k : PK} {a : AV} {x : k.X} {cs : List Value} (hx : k.view a = some x) (h : AR S w ρ row pv a cs) : AR S w ρ row pv (k.val x) cs ∧ isAg a = isAg (k.val x) := by
  cases k with
  | t τ => exact ⟨.t _ _ _ (asT_ar hx h), (asT_ag hx).symm⟩
  | tp τ =>
    simp only [PK.view] at hx
    split at hx
    · exact ⟨tp_ar hx h, rfl⟩
    · cases hx
  | clo g ks =>
    simp only [PK.view] at hx
    split at hx
    · rename_i f caps
      split at hx
      · rename_i hf
        obtain rfl := Nat.eq_of_beq_eq_true hf
        exact ⟨clo_view hx h, rfl⟩
      · cases hx
    · cases hx
theorem viewP_get : ∀ {ks : List PK} {av : List AV} {x : PX ks}, viewP ks av = some x → av.length = (pvals ks x).length ∧ ∀ (i : Nat) a b, av[i]? = some a → (pvals ks x)[i]? = some b → ∃ k : PK, ∃ y : k.X, b = k.val y ∧ k.view a = some y
  | [], [], x, _ => ⟨rfl, fun i a b h => by simp at h⟩
  | [], _ :: _, x, h => by simp [viewP] at h
  | k :: l, [], x, h => by simp [viewP] at h
  | k :: l, a :: al, x, h => by
    simp only [viewP] at h
    split at h
    · rename_i x0 hx
      split at h
      · rename_i y hy
        cases h
        obtain ⟨h1, h2⟩ := viewP_get hy
        refine ⟨by simp [pvals, h1], fun i b c hb hc => ?_⟩
        cases i with
        | zero => cases hb; cases hc; exact ⟨k, x0, rfl, hx⟩
        | succ i => exact h2 i b c (by simpa using hb) (by simpa [pvals] using hc)
      · cases h
    · cases h
theorem args_viewP {ks : List PK} {av : List AV} {x : PX ks} {vs : List Value} (hx : viewP ks av = some x) (h : ArgsOk S w pv av vs) : ArgsOk S w pv (pvals ks x) vs := by
  obtain ⟨h1, h2⟩ := viewP_get hx
  obtain ⟨h3, h4⟩ := h
  refine ⟨h3.trans h1, fun i b v hb hv => ?_⟩
  have hi := (List.getElem?_eq_some_iff.1 hb).1
  have ha : av[i]? = some av[i] := List.getElem?_eq_getElem (by omega)
  obtain ⟨k, y, rfl, hy⟩ := h2 i _ b ha hb
  obtain ⟨cs, h5, h6⟩ := h4 i _ v ha hv
  obtain ⟨h7, h8⟩ := PK.ok hy h5
  exact ⟨cs, h7, by rw [h6, valOf, valOf, h8]⟩
end
inductive CArm : Type 1
  | p (ps : List Ty) (Y : Type) (F : TX ps → Option Y) (out : Y → AV)
  | m (k : MK) (ps : List Ty) (Y : Type) (F : k.X → TX ps → Option Y) (out : Y → AV)
  | q (ps : List PK) (Y : Type) (F : PX ps → Option Y) (out : Y → AV)
  | mq (k : MK) (ps : List PK) (Y : Type) (F : k.X → PX ps → Option Y) (out : Y → AV)
  | d (τ : Ty) (F : den τ → Int → Option Int)
  | pp (ps : List Ty) (τ : Ty) (F : TX ps → Option (den τ))
def viewD (τ : Ty) : List AV → Option (den τ × Int)
  | [.pc true σ x, .t (.int .i64) k] => match decEq σ τ with
    | .isTrue h => some (h ▸ x, k)
    | .isFalse _ => none
  | _ => none
theorem viewD_eq {τ : Ty} {av : List AV} {y : den τ × Int} (h : viewD τ av = some y) : av = [.pc true τ y.1, .t (.int .i64) y.2] := by
  unfold viewD at h
  split at h
  · split at h
    · rename_i e _
      subst e
      cases h
      rfl
    · cases h
  · cases h
def viewPP (ps : List Ty) : List AV → Option (TX ps)
  | .pc false .bool true :: l => viewT ps l
  | _ => none
theorem viewPP_eq {ps : List Ty} {av : List AV} {y : TX ps} (h : viewPP ps av = some y) : ∃ l, av = .pc false .bool true :: l ∧ viewT ps l = some y := by
  unfold viewPP at h
  split at h
  · exact ⟨_, rfl, h⟩
  · cases h
def CArm.run {R : Type} (A : CArm) (av : List AV) (K : AV → Option R) : Option R := match A with
  | .p ps Y F out => (viewT ps av).bind fun x => (F x).bind fun r => K (out r)
  | .m k ps Y F out => match av with
    | [] => none
    | a0 :: rest => (k.view a0).bind fun x0 => (viewT ps rest).bind fun x => (F x0 x).bind fun r => K (out r)
  | .q ps Y F out => (viewP ps av).bind fun x => (F x).bind fun r => K (out r)
  | .mq k ps Y F out => match av with
    | [] => none
    | a0 :: rest => (k.view a0).bind fun x0 => (viewP ps rest).bind fun x => (F x0 x).bind fun r => K (out r)
  | .d τ F => (viewD τ av).bind fun x => (F x.1 x.2).bind fun r => K (.t (.int .i64) r)
  | .pp ps τ F => (viewPP ps av).bind fun x => (F x).bind fun r => K (.pc true τ r)
def tabC (t : Cal → Option CArm) : Orc := fun cal av K => match t cal with
  | some A => A.run av K
  | none => none
theorem tabC_is (t : Cal → Option CArm) : OrcIs (tabC t) (CG (tabC t)) := by
  intro R cal av K r h
  unfold CG
  unfold tabC at h ⊢
  dsimp only at h ⊢
  split at h
  · rename_i A hA
    cases A with
    | p ps Y F out =>
      simp only [CArm.run] at h ⊢
      obtain ⟨x, hx, h⟩ := Option.bind_eq_some_iff.1 h
      obtain ⟨y, hy, h⟩ := Option.bind_eq_some_iff.1 h
      exact ⟨out y, by simp only [hx, hy, Option.bind_some], h⟩
    | m k ps Y F out =>
      cases av with
      | nil => simp only [CArm.run] at h; cases h
      | cons a0 rest =>
        simp only [CArm.run] at h ⊢
        obtain ⟨x0, hx0, h⟩ := Option.bind_eq_some_iff.1 h
        obtain ⟨x, hx, h⟩ := Option.bind_eq_some_iff.1 h
        obtain ⟨y, hy, h⟩ := Option.bind_eq_some_iff.1 h
        exact ⟨out y, by simp only [hx0, hx, hy, Option.bind_some], h⟩
    | q ps Y F out =>
      simp only [CArm.run] at h ⊢
      obtain ⟨x, hx, h⟩ := Option.bind_eq_some_iff.1 h
      obtain ⟨y, hy, h⟩ := Option.bind_eq_some_iff.1 h
      exact ⟨out y, by simp only [hx, hy, Option.bind_some], h⟩
    | mq k ps Y F out =>
      cases av with
      | nil => simp only [CArm.run] at h; cases h
      | cons a0 rest =>
        simp only [CArm.run] at h ⊢
        obtain ⟨x0, hx0, h⟩ := Option.bind_eq_some_iff.1 h
        obtain ⟨x, hx, h⟩ := Option.bind_eq_some_iff.1 h
        obtain ⟨y, hy, h⟩ := Option.bind_eq_some_iff.1 h
        exact ⟨out y, by simp only [hx0, hx, hy, Option.bind_some], h⟩
    | d τ F =>
      simp only [CArm.run] at h ⊢
      obtain ⟨x, hx, h⟩ := Option.bind_eq_some_iff.1 h
      obtain ⟨y, hy, h⟩ := Option.bind_eq_some_iff.1 h
      exact ⟨_, by simp only [hx, hy, Option.bind_some], h⟩
    | pp ps τ F =>
      simp only [CArm.run] at h ⊢
      obtain ⟨x, hx, h⟩ := Option.bind_eq_some_iff.1 h
      obtain ⟨y, hy, h⟩ := Option.bind_eq_some_iff.1 h
      exact ⟨_, by simp only [hx, hy, Option.bind_some], h⟩
  · cases h
def ArmOk (P : Program) (E : Env) (pv : Nat → Value) (cal : Cal) (A : CArm) : Prop := match A with
  | .p ps Y F out => ∀ x y, F x = some y → Meets P E pv cal (tvals ps x) (out y)
  | .m k ps Y F out => ∃ f, cal = .f f ∧ ∀ x0 x y, F x0 x = some y → MeetsM P E pv f (k.val x0) (tvals ps x) (out y)
  | .q ps Y F out => ∀ x y, F x = some y → Meets P E pv cal (pvals ps x) (out y)
  | .mq k ps Y F out => ∃ f, cal = .f f ∧ ∀ x0 x y, F x0 x = some y → MeetsM P E pv f (k.val x0) (pvals ps x) (out y)
  | .d τ F => ∃ f, cal = .f f ∧ ∀ x k m, F x k = some m → MeetsD P E pv f τ x k m
  | .pp ps τ F => ∃ f, cal = .f f ∧ ∀ x y, F x = some y → MeetsP P E pv f (tvals ps x) (.pc true τ y)
theorem args_view {S : Nat → Prop} {w : World} {pv : Nat → Value} {tys : List Ty} {av : List AV} {x : TX tys} {vs : List Value} (hx : viewT tys av = some x) (h : ArgsOk S w pv av vs) : ArgsOk S w pv (tvals tys x) vs := by
  obtain ⟨h1, h2⟩ := viewT_get hx
  obtain ⟨h3, h4⟩ := h
  refine ⟨h3.trans h1, fun i b v hb hv => ?_⟩
  have hi := (List.getElem?_eq_some_iff.1 hb).1
  have ha : av[i]? = some av[i] := List.getElem?_eq_getElem (by omega)
  obtain ⟨τ, y, rfl, hy⟩ := h2 i _ b ha hb
  obtain ⟨cs, h5, h6⟩ := h4 i _ v ha hv
  exact ⟨cs, .t τ y cs (asT_ar hy h5), by rw [h6, valOf, valOf, asT_ag hy]⟩
theorem tabC_ok {P : Program} {E : Env} {pv : Nat → Value} {t : Cal → Option CArm} (h : ∀ cal A, t cal = some A → ArmOk P E pv cal A) : GOk P E pv (CG (tabC t)) := by
  intro cal av r hr
  unfold CG tabC at hr
  dsimp only at hr
  split at hr
  · rename_i A hA
    have hok := h cal A hA
    cases A with
    | p ps Y F out =>
      simp only [CArm.run] at hr
      obtain ⟨x, hx, hr⟩ := Option.bind_eq_some_iff.1 hr
      obtain ⟨y, hy, hr⟩ := Option.bind_eq_some_iff.1 hr
      cases hr
      have nopc : ∀ c τ z l, av ≠ .pc c τ z :: l := fun c τ z l e => by
        subst e
        cases ps with
        | nil => simp [viewT] at hx
        | cons τ ps => simp [viewT, asT] at hx
      refine ⟨fun _ => ⟨meets_args hx (hok x y hy), fun f a0 rest e1 e2 hn => ?_⟩, fun f τ z k m _ e => absurd e (nopc _ _ _ _), fun f as _ e => absurd e (nopc _ _ _ _)⟩
      subst e2
      exfalso
      cases ps with
      | nil => simp [viewT] at hx
      | cons τ ps =>
        simp only [viewT] at hx
        split at hx
        · rename_i y0 hy0
          rcases asT_form hy0 with rfl | rfl <;> exact hn rfl
        · cases hx
    | m k ps Y F out =>
      obtain ⟨f, rfl, hok⟩ := hok
      cases av with
      | nil => simp only [CArm.run] at hr; cases hr
      | cons a0 rest =>
        simp only [CArm.run] at hr
        obtain ⟨x0, hx0, hr⟩ := Option.bind_eq_some_iff.1 hr
        obtain ⟨x, hx, hr⟩ := Option.bind_eq_some_iff.1 hr
        obtain ⟨y, hy, hr⟩ := Option.bind_eq_some_iff.1 hr
        cases hr
        have ha0 := MK.view_eq hx0
        subst ha0
        have nopc : ∀ c τ z l, k.val x0 :: rest ≠ .pc c τ z :: l := fun c τ z l e => by cases k <;> cases e
        refine ⟨fun _ => ⟨fun S w vs _ _ ha => ?_, fun f' a0 rest' e1 e2 hn => ?_⟩, fun f τ z k m _ e => absurd e (nopc _ _ _ _), fun f as _ e => absurd e (nopc _ _ _ _)⟩
        · exfalso
          obtain ⟨hl, ha⟩ := ha
          match vs, hl with
          | v :: vs, _ =>
            obtain ⟨cs, h5, _⟩ := ha 0 _ v rfl rfl
            cases k <;> cases h5
        · cases e1; cases e2
          have hm := hok x0 x y hy
          intro S w v0 vs l r0 hst hgl hargs hr0 hrow hSl hv0
          exact hm S w v0 vs l r0 hst hgl (args_view hx hargs) hr0 hrow hSl hv0
    | q ps Y F out =>
      simp only [CArm.run] at hr
      obtain ⟨x, hx, hr⟩ := Option.bind_eq_some_iff.1 hr
      obtain ⟨y, hy, hr⟩ := Option.bind_eq_some_iff.1 hr
      cases hr
      have nopc : ∀ c τ z l, av ≠ .pc c τ z :: l := fun c τ z l e => by
        subst e
        cases ps with
        | nil => simp [viewP] at hx
        | cons k ps => cases k <;> simp [viewP, PK.view, asT] at hx
      refine ⟨fun _ => ⟨Goes.mono (hok x y hy) (wk_refl _) fun S w vs ha => args_viewP hx ha, fun f a0 rest e1 e2 hn => ?_⟩, fun f τ z k m _ e => absurd e (nopc _ _ _ _), fun f as _ e => absurd e (nopc _ _ _ _)⟩
      subst e2
      exfalso
      cases ps with
      | nil => simp [viewP] at hx
      | cons k ps =>
        simp only [viewP] at hx
        split at hx
        · rename_i y0 hy0
          cases k with
          | t τ => rcases asT_form hy0 with rfl | rfl <;> exact hn rfl
          | tp τ =>
            simp only [PK.view] at hy0
            split at hy0
            · exact hn rfl
            · cases hy0
          | clo g cs =>
            simp only [PK.view] at hy0
            split at hy0
            · exact hn rfl
            · cases hy0
        · cases hx
    | mq k ps Y F out =>
      obtain ⟨f, rfl, hok⟩ := hok
      cases av with
      | nil => simp only [CArm.run] at hr; cases hr
      | cons a0 rest =>
        simp only [CArm.run] at hr
        obtain ⟨x0, hx0, hr⟩ := Option.bind_eq_some_iff.1 hr
        obtain ⟨x, hx, hr⟩ := Option.bind_eq_some_iff.1 hr
        obtain ⟨y, hy, hr⟩ := Option.bind_eq_some_iff.1 hr
        cases hr
        have ha0 := MK.view_eq hx0
        subst ha0
        have nopc : ∀ c τ z l, k.val x0 :: rest ≠ .pc c τ z :: l := fun c τ z l e => by cases k <;> cases e
        refine ⟨fun _ => ⟨fun S w vs _ _ ha => ?_, fun f' a0 rest' e1 e2 hn => ?_⟩, fun f τ z k m _ e => absurd e (nopc _ _ _ _), fun f as _ e => absurd e (nopc _ _ _ _)⟩
        · exfalso
          obtain ⟨hl, ha⟩ := ha
          match vs, hl with
          | v :: vs, _ =>
            obtain ⟨cs, h5, _⟩ := ha 0 _ v rfl rfl
            cases k <;> cases h5
        · cases e1; cases e2
          have hm := hok x0 x y hy
          intro S w v0 vs l r0 hst hgl hargs hr0 hrow hSl hv0
          exact hm S w v0 vs l r0 hst hgl (args_viewP hx hargs) hr0 hrow hSl hv0
    | d τ F =>
      obtain ⟨f, rfl, hok⟩ := hok
      simp only [CArm.run] at hr
      obtain ⟨x, hx, hr⟩ := Option.bind_eq_some_iff.1 hr
      obtain ⟨y, hy, hr⟩ := Option.bind_eq_some_iff.1 hr
      cases hr
      have e := viewD_eq hx
      subst e
      refine ⟨fun hn => absurd rfl (hn _ _ _ _), fun f' τ' z k m e1 e2 e3 => ?_, fun f' as _ e => by cases e⟩
      cases e1; cases e2; cases e3
      exact hok _ _ _ hy
    | pp ps τ F =>
      obtain ⟨f, rfl, hok⟩ := hok
      simp only [CArm.run] at hr
      obtain ⟨x, hx, hr⟩ := Option.bind_eq_some_iff.1 hr
      obtain ⟨y, hy, hr⟩ := Option.bind_eq_some_iff.1 hr
      cases hr
      obtain ⟨l, rfl, hl⟩ := viewPP_eq hx
      refine ⟨fun hn => absurd rfl (hn _ _ _ _), fun f' τ' z k m e1 e2 => (by cases e2), fun f' as e1 e => ?_⟩
      cases e1; cases e
      have hm := hok x y hy
      intro S w vs hst hgl hargs
      exact hm S w vs hst hgl (args_view hl hargs)
  · cases hr
inductive LArm : Type 1
  | one (sp so : List Sp) (Y : Type) (l : Nat → SX sp → Option Y) (e : Ex) (g : Y → SX so) (h : SX so → Y)
  | two (sp so1 so2 : List Sp) (Y Z : Type) (l : Nat → SX sp → Option (Sum Y Z)) (e1 e2 : Ex) (g1 : Y → SX so1) (h1 : SX so1 → Y) (g2 : Z → SX so2) (h2 : SX so2 → Z)
def LArm.run {R : Type} (nt k : Nat) (A : LArm) (st : St) (K : Ex → St → Option R) : Option R := match A with
  | .one sp so Y l e g _ => (viewN nt st sp).bind fun x => (l k x).bind fun y => K e (stOf nt so (g y))
  | .two sp so1 so2 Y Z l e1 e2 g1 _ g2 _ => (viewN nt st sp).bind fun x => (l k x).bind fun y => match y with
    | .inl z => K e1 (stOf nt so1 (g1 z))
    | .inr z => K e2 (stOf nt so2 (g2 z))
def exEq : Ex → Ex → Bool
  | .exit a, .exit b => Nat.beq a b
  | .ret, .ret => true
  | _, _ => false
theorem exEq_eq {a b : Ex} (h : exEq a b = true) : a = b ∧ a ≠ .normal := by
  cases a <;> cases b <;> first
    | exact Bool.noConfusion h
    | (have := Nat.eq_of_beq_eq_true h; subst this; exact ⟨rfl, by simp⟩)
    | exact ⟨rfl, by simp⟩
@[reducible] def LArm.sp : LArm → List Sp
  | .one sp .. => sp
  | .two sp .. => sp
@[reducible] def LArm.Y : LArm → Type
  | .one _ _ Y .. => Y
  | .two _ _ _ Y Z .. => Sum Y Z
def LArm.l : (A : LArm) → Nat → SX A.sp → Option A.Y
  | .one _ _ _ l _ _ _ => l
  | .two _ _ _ _ _ l _ _ _ _ _ _ => l
def LArm.cont (nt k : Nat) : (A : LArm) → Ex → St → Option A.Y
  | .one sp so Y l e g h, e', st => match e' with
    | .normal => (viewN nt st sp).bind fun x => l k x
    | e' => match exEq e' e with
      | true => (viewN nt st so).bind fun x => some (h x)
      | false => none
  | .two sp so1 so2 Y Z l e1 e2 g1 h1 g2 h2, e', st => match e' with
    | .normal => (viewN nt st sp).bind fun x => l k x
    | e' => match exEq e' e1 with
      | true => (viewN nt st so1).bind fun x => some (.inl (h1 x))
      | false => match exEq e' e2 with
        | true => (viewN nt st so2).bind fun x => some (.inr (h2 x))
        | false => none
def LArm.Ok : LArm → Prop
  | .one sp so Y l e g h => spOk sp = true ∧ spOk so = true ∧ (∀ x, l 0 x = none) ∧ ∀ x, g (h x) = x
  | .two sp so1 so2 Y Z l e1 e2 g1 h1 g2 h2 => spOk sp = true ∧ spOk so1 = true ∧ spOk so2 = true ∧ (∀ x, l 0 x = none) ∧ (∀ x, g1 (h1 x) = x) ∧ ∀ x, g2 (h2 x) = x
def tabL (nt k : Nat) (t : Nat → Option LArm) : LOrc := fun b st K => match t b with
  | some A => A.run nt k st K
  | none => none
theorem tabL_is (nt k : Nat) (t : Nat → Option LArm) : LIs (tabL nt k t) (LG (tabL nt k t)) := by
  intro R b st K r h
  unfold LG
  unfold tabL at h ⊢
  dsimp only at h ⊢
  split at h
  · rename_i A hA
    cases A with
    | one sp so Y l e g h' =>
      unfold LArm.run at h ⊢
      obtain ⟨x, hx, h⟩ := Option.bind_eq_some_iff.1 h
      obtain ⟨y, hy, h⟩ := Option.bind_eq_some_iff.1 h
      exact ⟨_, _, by simp only [hx, hy, Option.bind_some], h⟩
    | two sp so1 so2 Y Z l e1 e2 g1 h1 g2 h2 =>
      unfold LArm.run at h ⊢
      obtain ⟨x, hx, h⟩ := Option.bind_eq_some_iff.1 h
      obtain ⟨y, hy, h⟩ := Option.bind_eq_some_iff.1 h
      cases y with
      | inl z => exact ⟨_, _, by simp only [hx, hy, Option.bind_some], h⟩
      | inr z => exact ⟨_, _, by simp only [hx, hy, Option.bind_some], h⟩
  · cases h
theorem tabL_zero {nt : Nat} {t : Nat → Option LArm} (hok : ∀ b A, t b = some A → A.Ok) : ∀ b st e st', ¬ LG (tabL nt 0 t) b st e st' := by
  intro b st e st' h
  unfold LG tabL at h
  dsimp only at h
  split at h
  · rename_i A hA
    have := hok b A hA
    cases A with
    | one sp so Y l e g h' =>
      unfold LArm.run at h
      obtain ⟨x, hx, h⟩ := Option.bind_eq_some_iff.1 h
      rw [this.2.2.1] at h; cases h
    | two sp so1 so2 Y Z l e1 e2 g1 h1 g2 h2 =>
      unfold LArm.run at h
      obtain ⟨x, hx, h⟩ := Option.bind_eq_some_iff.1 h
      rw [this.2.2.2.1] at h; cases h
  · cases h
theorem tabL_step {E : Env} {C : Nat → Orc} {nt : Nat} {t : Nat → Option LArm} {fn : Func} (hok : ∀ b A, t b = some A → A.Ok)
    (hS : ∀ b A, t b = some A → ∀ k x, runC E (C k) (tabL nt k t) b (loopAt fn b) (stOf nt A.sp x) (A.cont nt k) = A.l (k + 1) x) :
    ∀ k b e st st', LG (tabL nt (k + 1) t) b st e st' → StepOk E (C k) (tabL nt k t) nt (loopAt fn b) b e st st' := by
  intro k b e st st' h
  unfold LG at h
  unfold tabL at h
  dsimp only at h
  split at h
  · rename_i A hA
    have ho := hok b A hA
    have hs := hS b A hA k
    cases A with
    | one sp so Y l e1 g h' =>
      unfold LArm.run at h
      obtain ⟨x, hx, h⟩ := Option.bind_eq_some_iff.1 h
      obtain ⟨y, hy, h⟩ := Option.bind_eq_some_iff.1 h
      simp only [Option.some.injEq, Prod.mk.injEq] at h
      obtain ⟨rfl, rfl⟩ := h
      refine ⟨sp, x, ho.1, hx, Y, y, _, (hs x).trans hy, fun e' st1 hc => ?_⟩
      unfold LArm.cont at hc
      dsimp only at hc
      split at hc
      · obtain ⟨x1, hx1, hl⟩ := Option.bind_eq_some_iff.1 hc
        refine .inl ⟨rfl, ?_⟩
        unfold LG tabL
        simp only [hA, LArm.run, hx1, hl, Option.bind_some]
      · split at hc
        · rename_i hne he
          obtain ⟨rfl, hn⟩ := exEq_eq he
          obtain ⟨x1, hx1, hl⟩ := Option.bind_eq_some_iff.1 hc
          cases hl
          exact .inr ⟨rfl, hn, so, x1, ho.2.1, hx1, by rw [ho.2.2.2]⟩
        · cases hc
    | two sp so1 so2 Y Z l e1 e2 g1 h1 g2 h2 =>
      unfold LArm.run at h
      obtain ⟨x, hx, h⟩ := Option.bind_eq_some_iff.1 h
      obtain ⟨y, hy, h⟩ := Option.bind_eq_some_iff.1 h
      refine ⟨sp, x, ho.1, hx, Sum Y Z, y, _, (hs x).trans hy, fun e' st1 hc => ?_⟩
      unfold LArm.cont at hc
      dsimp only at hc
      split at hc
      · obtain ⟨x1, hx1, hl⟩ := Option.bind_eq_some_iff.1 hc
        refine .inl ⟨rfl, ?_⟩
        unfold LG tabL
        simp only [hA, LArm.run, hx1, hl, Option.bind_some]
        exact h
      · split at hc
        · rename_i hne he
          obtain ⟨rfl, hn⟩ := exEq_eq he
          obtain ⟨x1, hx1, hl⟩ := Option.bind_eq_some_iff.1 hc
          cases hl
          simp only [Option.some.injEq, Prod.mk.injEq] at h
          obtain ⟨rfl, rfl⟩ := h
          exact .inr ⟨rfl, hn, so1, x1, ho.2.1, hx1, by rw [ho.2.2.2.2.1]⟩
        · split at hc
          · rename_i hne he' he
            obtain ⟨rfl, hn⟩ := exEq_eq he
            obtain ⟨x1, hx1, hl⟩ := Option.bind_eq_some_iff.1 hc
            cases hl
            simp only [Option.some.injEq, Prod.mk.injEq] at h
            obtain ⟨rfl, rfl⟩ := h
            exact .inr ⟨rfl, hn, so2, x1, ho.2.2.1, hx1, by rw [ho.2.2.2.2.2]⟩
          · cases hc
  · cases h
theorem fun_plain {P : Program} {E : Env} {pv : Nat → Value} (hE : EnvOk P E) {t : Cal → Option CArm} (hG : ∀ cal A, t cal = some A → ArmOk P E pv cal A) {f : FuncId} {fn : Func} {c : Code} (hf : P.funcs[f]? = some fn) (hb : fn.body = some c)
    (hname : (fn.name == "runtime.NumGoroutine") = false) {args : List AV} (hn : Nat.ble args.length fn.ntmps = true) {R : Type} {K : AV → Option R} {y : R} (hrun : runF E (tabC t) (tabL fn.ntmps 0 fun _ => none) fn args K = some y) {r' : AV} (hw : ∀ r, K r = some y → Wk r r') :
    Meets P E pv (.f f) args r' :=
  fun_good hE (tabC_is t) (tabL_is _ _ _) (tabC_ok hG) hf hb hname (no_loops (fun b st e st' h => by unfold LG tabL at h; cases h) _) (Nat.le_of_ble_eq_true hn) hrun hw
theorem fun_loops {P : Program} {E : Env} {pv : Nat → Value} (hE : EnvOk P E) {t : Nat → Cal → Option CArm} (k : Nat) (hG : ∀ k', k' ≤ k → ∀ cal A, t k' cal = some A → ArmOk P E pv cal A) {f : FuncId} {fn : Func} {c : Code} (hf : P.funcs[f]? = some fn) (hb : fn.body = some c)
    (hname : (fn.name == "runtime.NumGoroutine") = false) {args : List AV} (hn : Nat.ble args.length fn.ntmps = true) {lt : Nat → Option LArm} (hok : loopsOk fn = true) (hlt : ∀ b A, lt b = some A → A.Ok)
    (hS : ∀ b A, lt b = some A → ∀ k x, runC E (tabC (t k)) (tabL fn.ntmps k lt) b (loopAt fn b) (stOf fn.ntmps A.sp x) (A.cont fn.ntmps k) = A.l (k + 1) x)
    {R : Type} {K : AV → Option R} {y : R} (hrun : runF E (tabC (t k)) (tabL fn.ntmps k lt) fn args K = some y) {r' : AV} (hw : ∀ r, K r = some y → Wk r r') : Meets P E pv (.f f) args r' :=
  fun_good hE (tabC_is _) (tabL_is _ _ _) (tabC_ok (hG k (Nat.le_refl k))) hf hb hname (fun w0 B p hp st e st' S ρ a w Q h hs hgl hQ =>
    wp_loop_rounds k (rounds_ok hE (C := fun k => tabC (t k)) (L := fun k => tabL fn.ntmps k lt) (fun k => tabC_is _) (fun k => tabL_is _ _ _) hb hok (n := k) (fun k' hk' => tabC_ok (hG k' (Nat.le_of_lt hk'))) (tabL_zero hlt) (fun k b e st st' _ h => tabL_step (C := fun k => tabC (t k)) hlt hS k b e st st' h) k (Nat.le_refl k) w0 B p hp st e st' S ρ a w Q h hs hgl hQ)) (Nat.le_of_ble_eq_true hn) hrun hw
theorem funM_good {P : Program} {E : Env} {pv : Nat → Value} (hE : EnvOk P E) {C : Orc} {L : LOrc} (hC : OrcIs C (CG C)) (hL : LIs L (LG L)) (hG : GOk P E pv (CG C)) {f : FuncId} {fn : Func} {c : Code} (hf : P.funcs[f]? = some fn) (hb : fn.body = some c) (hname : (fn.name == "runtime.NumGoroutine") = false)
    (hl : ∀ w0 B, ∀ p ∈ loopsOf 0 c, LoopSound P E w0 B pv p.2 (LG L p.1)) {mb : Nat} (hmb : mb = mbase ∨ mb = mmove) {a0 : AV} {args : List AV} (hn : args.length + 1 ≤ fn.ntmps) {R : Type} {K : AV → Option R} {y : R} (hrun : runM E C L fn mb a0 args K = some y) {r' : AV} (hw : ∀ r, K r = some y → WkM r r') : MeetsM P E pv f a0 args r' := by
  obtain ⟨c', res, e, st, rs, hfr, hk⟩ := runM_rel hC hL hrun
  have hcc : c' = c := by have := hfr.body; rw [hb] at this; cases this; rfl
  subst hcc
  exact MeetsM.mono (funM_meets hE hG hf hname hfr hmb hn hl) (hw res hk)
theorem funM_plain {P : Program} {E : Env} {pv : Nat → Value} (hE : EnvOk P E) {t : Cal → Option CArm} (hG : ∀ cal A, t cal = some A → ArmOk P E pv cal A) {f : FuncId} {fn : Func} {c : Code} (hf : P.funcs[f]? = some fn) (hb : fn.body = some c)
    (hname : (fn.name == "runtime.NumGoroutine") = false) {mb : Nat} (hmb : mb = mbase ∨ mb = mmove) {a0 : AV} {args : List AV} (hn : Nat.ble (args.length + 1) fn.ntmps = true) {R : Type} {K : AV → Option R} {y : R} (hrun : runM E (tabC t) (tabL fn.ntmps 0 fun _ => none) fn mb a0 args K = some y) {r' : AV} (hw : ∀ r, K r = some y → WkM r r') :
    MeetsM P E pv f a0 args r' :=
  funM_good hE (tabC_is t) (tabL_is _ _ _) (tabC_ok hG) hf hb hname (no_loops (fun b st e st' h => by unfold LG tabL at h; cases h) _) hmb (Nat.le_of_ble_eq_true hn) hrun hw
theorem funM_loops {P : Program} {E : Env} {pv : Nat → Value} (hE : EnvOk P E) {t : Nat → Cal → Option CArm} (k : Nat) (hG : ∀ k', k' ≤ k → ∀ cal A, t k' cal = some A → ArmOk P E pv cal A) {f : FuncId} {fn : Func} {c : Code} (hf : P.funcs[f]? = some fn) (hb : fn.body = some c)
    (hname : (fn.name == "runtime.NumGoroutine") = false) {mb : Nat} (hmb : mb = mbase ∨ mb = mmove) {a0 : AV} {args : List AV} (hn : Nat.ble (args.length + 1) fn.ntmps = true) {lt : Nat → Option LArm} (hok : loopsOk fn = true) (hlt : ∀ b A, lt b = some A → A.Ok)
    (hS : ∀ b A, lt b = some A → ∀ k x, runC E (tabC (t k)) (tabL fn.ntmps k lt) b (loopAt fn b) (stOf fn.ntmps A.sp x) (A.cont fn.ntmps k) = A.l (k + 1) x)
    {R : Type} {K : AV → Option R} {y : R} (hrun : runM E (tabC (t k)) (tabL fn.ntmps k lt) fn mb a0 args K = some y) {r' : AV} (hw : ∀ r, K r = some y → WkM r r') : MeetsM P E pv f a0 args r' :=
  funM_good hE (tabC_is _) (tabL_is _ _ _) (tabC_ok (hG k (Nat.le_refl k))) hf hb hname (fun w0 B p hp st e st' S ρ a w Q h hs hgl hQ =>
    wp_loop_rounds k (rounds_ok hE (C := fun k => tabC (t k)) (L := fun k => tabL fn.ntmps k lt) (fun k => tabC_is _) (fun k => tabL_is _ _ _) hb hok (n := k) (fun k' hk' => tabC_ok (hG k' (Nat.le_of_lt hk'))) (tabL_zero hlt) (fun k b e st st' _ h => tabL_step (C := fun k => tabC (t k)) hlt hS k b e st st' h) k (Nat.le_refl k) w0 B p hp st e st' S ρ a w Q h hs hgl hQ)) hmb (Nat.le_of_ble_eq_true hn) hrun hw
theorem view_int {r : AV} {y : Int} (h : viewR1 (.t (.int .i64)) r = some y) : r = .t (.int .i64) y := by
  simp only [viewR1, RK.view] at h
  split at h
  · cases h
  · split at h
    · rename_i b hb
      obtain ⟨x, rfl⟩ := implode_nt hb
      have := implode_ag hb
      simp only [asT] at h
      split at h
      · rename_i e; subst e; cases this
      · cases h
    · cases h
  · rcases asT_form h with rfl | rfl
    · rfl
    · simp [asT] at h
theorem funPc_good {P : Program} {E : Env} {pv : Nat → Value} (hE : EnvOk P E) (hO : pvO pv = true) (hQ : pvQ pv = true) {C : Orc} {L : LOrc} (hC : OrcIs C (CG C)) (hL : LIs L (LG L)) (hG : GOk P E pv (CG C)) {f : FuncId} {fn : Func} {c : Code} (hf : P.funcs[f]? = some fn) (hb : fn.body = some c) (hname : (fn.name == "runtime.NumGoroutine") = false)
    (hl : ∀ w0 B, ∀ p ∈ loopsOf 0 c, LoopSound P E w0 B pv p.2 (LG L p.1)) {args : List AV} (hn : args.length ≤ fn.ntmps) {R : Type} {K : AV → Option R} {y : R} (hrun : runPc E C L fn args K = some y) {r' : AV} (hw : ∀ r, K r = some y → Wk r r') : Meets P E pv (.f f) args r' := by
  obtain ⟨c', τ, x, e, st, a, hfr, hk⟩ := runPc_rel hC hL hrun
  have hcc : c' = c := by have := hfr.body; rw [hb] at this; cases this; rfl
  subst hcc
  exact Goes.mono (funPc_meets hE hG hO hQ hf hname hfr hn hl) (hw _ hk) fun _ _ _ h => h
theorem funPc_plain {P : Program} {E : Env} {pv : Nat → Value} (hE : EnvOk P E) (hO : pvO pv = true) (hQ : pvQ pv = true) {t : Cal → Option CArm} (hG : ∀ cal A, t cal = some A → ArmOk P E pv cal A) {f : FuncId} {fn : Func} {c : Code} (hf : P.funcs[f]? = some fn) (hb : fn.body = some c)
    (hname : (fn.name == "runtime.NumGoroutine") = false) {args : List AV} (hn : Nat.ble args.length fn.ntmps = true) {R : Type} {K : AV → Option R} {y : R} (hrun : runPc E (tabC t) (tabL fn.ntmps 0 fun _ => none) fn args K = some y) {r' : AV} (hw : ∀ r, K r = some y → Wk r r') :
    Meets P E pv (.f f) args r' :=
  funPc_good hE hO hQ (tabC_is t) (tabL_is _ _ _) (tabC_ok hG) hf hb hname (no_loops (fun b st e st' h => by unfold LG tabL at h; cases h) _) (Nat.le_of_ble_eq_true hn) hrun hw
theorem funD_good {P : Program} {E : Env} {pv : Nat → Value} (hE : EnvOk P E) {C : Orc} {L : LOrc} (hC : OrcIs C (CG C)) (hL : LIs L (LG L)) (hG : GOk P E pv (CG C)) {f : FuncId} {fn : Func} {c : Code} (hf : P.funcs[f]? = some fn) (hb : fn.body = some c) (hname : (fn.name == "runtime.NumGoroutine") = false)
    (hl : ∀ w0 B, ∀ p ∈ loopsOf 0 c, LoopSound P E w0 B pv p.2 (LG L p.1)) (hn : 2 ≤ fn.ntmps) {τ : Ty} (hsl : slT τ = true) {x : den τ} {k : Int} {R : Type} {K : AV → Option R} {y : R} (hrun : runD E C L fn τ x k K = some y) {m : Int} (hw : ∀ r, K r = some y → r = .t (.int .i64) m) : MeetsD P E pv f τ x k m := by
  obtain ⟨c', m', e, st, hfr, hk⟩ := runD_rel hC hL hrun
  have hcc : c' = c := by have := hfr.body; rw [hb] at this; cases this; rfl
  subst hcc
  have := hw _ hk
  cases this
  exact funD_meets hE hG hf hname hfr hsl hn hl
theorem funD_plain {P : Program} {E : Env} {pv : Nat → Value} (hE : EnvOk P E) {t : Cal → Option CArm} (hG : ∀ cal A, t cal = some A → ArmOk P E pv cal A) {f : FuncId} {fn : Func} {c : Code} (hf : P.funcs[f]? = some fn) (hb : fn.body = some c)
    (hname : (fn.name == "runtime.NumGoroutine") = false) (hn : Nat.ble 2 fn.ntmps = true) {τ : Ty} (hsl : slT τ = true) {x : den τ} {k : Int} {R : Type} {K : AV → Option R} {y : R} (hrun : runD E (tabC t) (tabL fn.ntmps 0 fun _ => none) fn τ x k K = some y) {m : Int} (hw : ∀ r, K r = some y → r = .t (.int .i64) m) : MeetsD P E pv f τ x k m :=
  funD_good hE (tabC_is t) (tabL_is _ _ _) (tabC_ok hG) hf hb hname (no_loops (fun b st e st' h => by unfold LG tabL at h; cases h) _) (Nat.le_of_ble_eq_true hn) hsl hrun hw
theorem funD_loops {P : Program} {E : Env} {pv : Nat → Value} (hE : EnvOk P E) {t : Nat → Cal → Option CArm} (k : Nat) (hG : ∀ k', k' ≤ k → ∀ cal A, t k' cal = some A → ArmOk P E pv cal A) {f : FuncId} {fn : Func} {c : Code} (hf : P.funcs[f]? = some fn) (hb : fn.body = some c)
    (hname : (fn.name == "runtime.NumGoroutine") = false) (hn : Nat.ble 2 fn.ntmps = true) {lt : Nat → Option LArm} (hok : loopsOk fn = true) (hlt : ∀ b A, lt b = some A → A.Ok)
    (hS : ∀ b A, lt b = some A → ∀ k x, runC E (tabC (t k)) (tabL fn.ntmps k lt) b (loopAt fn b) (stOf fn.ntmps A.sp x) (A.cont fn.ntmps k) = A.l (k + 1) x)
    {τ : Ty} (hsl : slT τ = true) {x : den τ} {k0 : Int} {R : Type} {K : AV → Option R} {y : R} (hrun : runD E (tabC (t k)) (tabL fn.ntmps k lt) fn τ x k0 K = some y) {m : Int} (hw : ∀ r, K r = some y → r = .t (.int .i64) m) : MeetsD P E pv f τ x k0 m :=
  funD_good hE (tabC_is _) (tabL_is _ _ _) (tabC_ok (hG k (Nat.le_refl k))) hf hb hname (fun w0 B p hp st e st' S ρ a w Q h hs hgl hQ =>
    wp_loop_rounds k (rounds_ok hE (C := fun k => tabC (t k)) (L := fun k => tabL fn.ntmps k lt) (fun k => tabC_is _) (fun k => tabL_is _ _ _) hb hok (n := k) (fun k' hk' => tabC_ok (hG k' (Nat.le_of_lt hk'))) (tabL_zero hlt) (fun k b e st st' _ h => tabL_step (C := fun k => tabC (t k)) hlt hS k b e st st' h) k (Nat.le_refl k) w0 B p hp st e st' S ρ a w Q h hs hgl hQ)) (Nat.le_of_ble_eq_true hn) hsl hrun hw
end Go.Gx
end
