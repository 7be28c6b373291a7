/- A region whose order is open: any order comes to the same. -/
import Derived.Test.YtnffgabfibafjaaDoorGxAny2
namespace Go.Gx
open Go.RowKit
set_option linter.unusedVariables false
set_option linter.unusedSimpArgs false

theorem Sim.rows {w0 : World} {B : Old} {pv : Nat → Value} {S : Nat → Prop} {ρ : Nat → Option Loc} {st : St} {a : Act} {w : World} (h : Sim w0 B pv S ρ st a w) {row' : Nat → Option Row} (hr : ∀ id l, ρ id = some l → row' id = st.row id) : Sim w0 B pv S ρ ⟨st.slot, row', st.nt⟩ a w :=
  h.grow h.below (Nat.le_refl _) (fun _ _ => rfl) (fun _ h => h) (fun _ h => .inl h) (fun id l h1 => ⟨h1, hr id l h1⟩) (fun id r l h1 h2 => by rw [h1] at h2; cases h2) (fun id id' g c c' h1 _ h2 => by rw [h1] at h2; cases h2)
theorem Sim.slotsEq {w0 : World} {B : Old} {pv : Nat → Value} {S : Nat → Prop} {ρ : Nat → Option Loc} {st : St} {a : Act} {w : World} (h : Sim w0 B pv S ρ st a w) {st' : St} (h1 : ∀ t, st'.slot t = st.slot t) (h2 : st'.row = st.row) (h3 : st'.nt = st.nt) : Sim w0 B pv S ρ st' a w :=
  h.cong (funext h1) h2 h3
theorem nextEff {ops : Array Oper} : ∀ (d b : Nat), b + d = ops.size → ∃ e1, b ≤ e1 ∧ e1 ≤ ops.size ∧ (∀ i o, b ≤ i → i < e1 → ops[i]? = some o → effB o = false) ∧ (e1 = ops.size ∨ ∃ o, ops[e1]? = some o ∧ effB o = true)
  | 0, b, h => ⟨b, Nat.le_refl _, by omega, fun i o h1 h2 => by omega, .inl (by omega)⟩
  | d + 1, b, h => by
    have ho : ops[b]? = some ops[b] := Array.getElem?_eq_getElem (by omega)
    cases hb : effB ops[b] with
    | true => exact ⟨b, Nat.le_refl _, by omega, fun i o h1 h2 => by omega, .inr ⟨_, ho, hb⟩⟩
    | false =>
      obtain ⟨e1, h1, h2, h3, h4⟩ := nextEff (ops := ops) d (b + 1) (by omega)
      refine ⟨e1, by omega, h2, fun i o h5 h6 h7 => ?_, h4⟩
      by_cases e : i = b
      · subst e; rw [ho] at h7; cases h7; exact hb
      · exact h3 i o (by omega) h6 h7
theorem wantY_congr {ops : Array Oper} {o : Oper} {s s' : St} (h : ∀ t ∈ o.looksAt ops, s'.slot t = s.slot t) (hw : WantY ops o s) : WantY ops o s' := by
  rcases hw with hw | ⟨j, b, g, d, h1, h2, h3, h4⟩
  · exact .inl hw
  · refine .inr ⟨j, b, g, d, h1, h2, h3, ?_⟩
    rw [h d (by simp [Oper.looksAt, h1, h2, h3])]; exact h4
theorem wantN_congr {ops : Array Oper} {o : Oper} {s s' : St} (h : ∀ t ∈ o.looksAt ops, s'.slot t = s.slot t) (hw : WantN ops o s) : WantN ops o s' := by
  obtain ⟨j, b, h1, h2 | ⟨g, h2, h3 | ⟨d, h3, h4⟩⟩⟩ := hw
  · exact ⟨j, b, h1, .inl h2⟩
  · exact ⟨j, b, h1, .inr ⟨g, h2, .inl h3⟩⟩
  · refine ⟨j, b, h1, .inr ⟨g, h2, .inr ⟨d, h3, ?_⟩⟩⟩
    rw [h d (by simp [Oper.looksAt, h1, h2, h3])]; exact h4
theorem setRows_same {l : List (Nat × Row)} {st : St} (h : ∀ p ∈ l, st.row p.1 = some p.2) : st.setRows l = st := by
  induction l with
  | nil => rfl
  | cons p l ih =>
    have e : st.setRow p.1 p.2 = st := by
      have : (st.setRow p.1 p.2).row = st.row := by
        funext j
        rw [setRow_row]
        by_cases e : j = p.1
        · subst e; rw [if_pos rfl, h p List.mem_cons_self]
        · rw [if_neg e]
      cases st
      simp only [St.setRow] at this ⊢
      rw [this]
    show (st.setRow p.1 p.2).setRows l = st
    rw [e]
    exact ih fun q hq => h q (List.mem_cons_of_mem _ hq)

section
variable {P : Program} {E : Env} {w0 : World} {B : Old} {pv : Nat → Value} {G : Cal → List AV → AV → Prop} {Q : Exit → Act → World → Prop} {ops : Array Oper} {rid : Nat} {S0 : Nat → Prop} {sq : Nat → St} {pre : Nat → Nat → Prop}
def Inv (E : Env) (w0 : World) (B : Old) (pv : Nat → Value) (ops : Array Oper) (rid : Nat) (S0 : Nat → Prop) (sq : Nat → St) (X : Nat → Bool) (S : Nat → Prop) (ρ : Nat → Option Loc) (a : Act) (w : World) : Prop :=
  ∃ b e1, b ≤ e1 ∧ e1 ≤ ops.size ∧ (∀ i, i < b → X i = true) ∧ (∀ i, e1 ≤ i → X i = false) ∧ (∀ i o, b ≤ i → i < e1 → ops[i]? = some o → effB o = false) ∧ (e1 = ops.size ∨ ∃ o, ops[e1]? = some o ∧ effB o = true) ∧
    Sim w0 B pv S ρ ⟨ovl ops sq X b (e1 - b), (sq e1).row, (sq 0).nt⟩ a w ∧ GlOk E S w ∧ (∀ i, i < ops.size → X i = false → ∀ id, Site rid i id → ρ id = none) ∧
    (∀ i o, ops[i]? = some o → X i = true → ∀ e ∈ o.after, Region.binds .any e = true → X e.on = true) ∧ Grew B S0 S
variable (hE : EnvOk P E) (hG : GOk P E pv G) (hO : Ordered ops pre) (hsq : ∀ i o, ops[i]? = some o → StepR E G ops rid i o (sq i) (sq (i + 1))) (h0 : ∀ k, k < ops.size → ∀ id, Site rid k id → (sq 0).row id = none)
include hsq h0
theorem startSeg {X : Nat → Bool} {b : Nat} (hb : b ≤ ops.size) (h1 : ∀ i, i < b → X i = true) (h2 : ∀ i, b ≤ i → X i = false) {S : Nat → Prop} {ρ : Nat → Option Loc} {a : Act} {w : World} (hs : Sim w0 B pv S ρ (sq b) a w) (hgl : GlOk E S w)
    (hρ : ∀ i, i < ops.size → X i = false → ∀ id, Site rid i id → ρ id = none) (hX : ∀ i o, ops[i]? = some o → X i = true → ∀ e ∈ o.after, Region.binds .any e = true → X e.on = true) (hS : Grew B S0 S) : Inv E w0 B pv ops rid S0 sq X S ρ a w := by
  obtain ⟨e1, h3, h4, h5, h6⟩ := nextEff (ops := ops) (ops.size - b) b (by omega)
  refine ⟨b, e1, h3, h4, h1, fun i hi => h2 i (by omega), h5, h6, ?_, hgl, hρ, hX, hS⟩
  have hrow := (seg_rows hsq h0 h4 h5 (Nat.le_refl b) (e1 - b) (by omega)).2
  rw [show b + (e1 - b) = e1 by omega] at hrow
  have hz := hs.rows (row' := (sq e1).row) fun id l hl => hrow id fun k hk1 hk2 hsite => by
    rw [hρ k (by omega) (h2 k hk1) id hsite] at hl
    cases hl
  refine hz.slotsEq (fun t => ?_) rfl (nt_eq hsq b hb).symm
  exact ovl_stay (k := 0) (Nat.zero_le _) fun i hi _ => .inl (h2 i (by omega))

include hE hG hO in
theorem inv_step {X X' : Nat → Bool} {i : Nat} {o : Oper} {S : Nat → Prop} {ρ : Nat → Option Loc} {a : Act} {w : World} (hn : ops.size ≤ 256) (h : Inv E w0 B pv ops rid S0 sq X S ρ a w) (ho : ops[i]? = some o) (hi : X i = false) (hready : ∀ e ∈ o.after, Region.binds .any e = true → X e.on = true)
    (hX' : ∀ j, X' j = if j = i then true else X j) {K : Act → World → Prop} (hK : ∀ S' ρ' a' w', Inv E w0 B pv ops rid S0 sq X' S' ρ' a' w' → K a' w') : wpOp P ops Q i K a w := by
  obtain ⟨b, e1, hbe, hen, hX1, hX2, hq, heff, hs, hgl, hρ, hcl, hS⟩ := h
  have hin : i < ops.size := (Array.getElem?_eq_some_iff.1 ho).1
  have hbi : b ≤ i := by
    apply Classical.byContradiction
    intro hlt
    rw [hX1 i (by omega)] at hi
    cases hi
  have hXlt : ∀ j, X j = true → j < ops.size := fun j hj => by
    apply Classical.byContradiction
    intro hge
    rw [hX2 j (by omega)] at hj
    cases hj
  have hpre : ∀ j, pre i j → X j = true := fun j hp => pre_mem hO (X := fun j => X j = true) hXlt hcl i o j ho hp hready
  have hpost : ∀ j, pre j i → X j = false := fun j hp => by
    cases hj : X j with
    | false => rfl
    | true =>
      have hjl := hXlt j hj
      have hoj : ops[j]? = some ops[j] := Array.getElem?_eq_getElem hjl
      have := pre_mem hO (X := fun j => X j = true) hXlt hcl j _ i hoj hp (hcl j _ hoj hj)
      rw [hi] at this
      cases this
  have hcl' : ∀ j o', ops[j]? = some o' → X' j = true → ∀ e ∈ o'.after, Region.binds .any e = true → X' e.on = true := fun j o' hj hXj e he hb => by
    rw [hX'] at hXj ⊢
    split
    · rfl
    · by_cases e' : j = i
      · subst e'; rw [ho] at hj; cases hj; exact hready e he hb
      · rw [if_neg e'] at hXj; exact hcl j o' hj hXj e he hb
  have hid : ∀ c, c < 4 → ρ ((rid * 256 + i) * 4 + c) = none := fun c hc => hρ i hin hi _ (by unfold Site; omega)
  have hρ' : ∀ ρ' : Nat → Option Loc, (∀ j, ρ j = none → ¬ ((rid * 256 + i) * 4 ≤ j ∧ j < (rid * 256 + i) * 4 + 4) → ρ' j = none) → ∀ j, j < ops.size → X' j = false → ∀ id, Site rid j id → ρ' id = none := fun ρ' hk j hj hXj id hsite => by
    rw [hX'] at hXj
    split at hXj
    · cases hXj
    · rename_i e
      exact hk id (hρ j hj hXj id hsite) fun hsite' => e (Site.ne hsite hsite')
  have hstep := hsq i o ho
  unfold wpOp
  rw [ho]
  simp only
  by_cases hlt : i < e1
  · -- within the stretch
    have hqi := hq i o hbi hlt ho
    have hfr := fresh_row hsq h0 i (by omega) i (Nat.le_refl _) hin
    have hlooks : ∀ t ∈ o.looksAt ops, ovl ops sq X b (e1 - b) t = (sq i).slot t := fun t ht => by
      have hord : ∀ j p, ops[j]? = some p → i ≠ j → p.dst = some t → pre (max i j) (min i j) := fun j p hp hne hd => by
        rcases hO.ord i j o p ho hp hne with h1 | ⟨_, h1⟩
        · exact h1
        · exact absurd ht (h1 t hd).1
      rw [ovl_stay (k := i - b) (by omega) fun j hj1 hj2 => ?_, ovl_seq fun j hj1 hj2 => ?_, show b + (i - b) = i by omega]
      · have hj : j < ops.size := by omega
        have hoj : ops[j]? = some ops[j] := Array.getElem?_eq_getElem hj
        refine ⟨_, hoj, fun hd => ?_, fun hd => seg_slot hsq h0 hen hq hj1 (by omega) hoj t hd⟩
        have := hord j _ hoj (by omega) hd
        rw [Nat.max_eq_left (by omega), Nat.min_eq_right (by omega)] at this
        exact hpre j this
      · by_cases e : j = i
        · subst e; exact .inl hi
        · by_cases hd : ∃ p, ops[j]? = some p ∧ p.dst = some t
          · obtain ⟨p, hp, hd⟩ := hd
            have := hord j p hp (fun h => e h.symm) hd
            rw [Nat.max_eq_right (by omega), Nat.min_eq_left (by omega)] at this
            exact .inl (hpost j this)
          · exact .inr fun p hp hd' => hd ⟨p, hp, hd'⟩
    have hsub : SubRow (sq i).row (sq e1).row := by
      have := (seg_rows hsq h0 hen hq hbi (e1 - i) (by omega)).1
      rwa [show i + (e1 - i) = e1 by omega] at this
    have hsub1 : SubRow (sq (i + 1)).row (sq e1).row := by
      have := (seg_rows hsq h0 hen hq (show b ≤ i + 1 by omega) (e1 - (i + 1)) (by omega)).1
      rwa [show i + 1 + (e1 - (i + 1)) = e1 by omega] at this
    -- what is seen afterwards
    have hovl : ∀ v, (∀ t, (sq (i + 1)).slot t = if o.dst = some t then v else (sq i).slot t) → ∀ t, ovl ops sq X' b (e1 - b) t = if o.dst = some t then v else ovl ops sq X b (e1 - b) t := fun v hv t => by
      by_cases hd : o.dst = some t
      · rw [if_pos hd, ovl_stay (k := i - b + 1) (by omega) fun j hj1 hj2 => ?_, ovl_succ_yes (o := o) (by rw [show b + (i - b) = i by omega, hX', if_pos rfl]) (by rw [show b + (i - b) = i by omega]; exact ho) hd,
          show b + (i - b) + 1 = i + 1 by omega, hv, if_pos hd]
        by_cases hdj : ∃ p, ops[j]? = some p ∧ p.dst = some t
        · obtain ⟨p, hp, hdj⟩ := hdj
          rcases hO.ord i j o p ho hp (by omega) with h1 | ⟨_, h1⟩
          · rw [Nat.max_eq_right (by omega), Nat.min_eq_left (by omega)] at h1
            exact .inl (by rw [hX', if_neg (by omega)]; exact hpost j h1)
          · exact absurd hd (h1 t hdj).2
        · exact .inr fun p hp hd' => hdj ⟨p, hp, hd'⟩
      · rw [if_neg hd]
        refine ovl_congr fun j _ _ => ?_
        by_cases e : j = i
        · subst e
          exact .inr fun p hp => by rw [ho] at hp; cases hp; exact hd
        · exact .inl (by rw [hX', if_neg e])
    have fin : ∀ S' ρ' a' w' v, (∀ t, (sq (i + 1)).slot t = if o.dst = some t then v else (sq i).slot t) → Sim w0 B pv S' ρ' ((⟨ovl ops sq X b (e1 - b), (sq e1).row, (sq 0).nt⟩ : St).putO o.dst v) a' w' → GlOk E S' w' → Grew B S S' →
        (∀ j, ρ j = none → ¬ ((rid * 256 + i) * 4 ≤ j ∧ j < (rid * 256 + i) * 4 + 4) → ρ' j = none) → K a' w' := fun S' ρ' a' w' v hv hs' hgl' hS' hk => by
      refine hK S' ρ' a' w' ⟨b, e1, hbe, hen, fun j hj => by rw [hX', if_neg (by omega)]; exact hX1 j hj, fun j hj => by rw [hX', if_neg (by omega)]; exact hX2 j hj, hq, heff, ?_, hgl', hρ' ρ' hk, hcl', hS.trans hS'⟩
      refine hs'.slotsEq (fun t => ?_) (putO_row (⟨ovl ops sq X b (e1 - b), (sq e1).row, (sq 0).nt⟩ : St) o.dst v).1.symm (putO_row (⟨ovl ops sq X b (e1 - b), (sq e1).row, (sq 0).nt⟩ : St) o.dst v).2.symm
      rw [putO_slot]
      exact hovl v hv t
    obtain ⟨hd, ⟨hw, u, hop, hsu⟩ | ⟨hw, hsu⟩⟩ := hstep
    · have hwX := wantY_congr (s' := (⟨ovl ops sq X b (e1 - b), (sq e1).row, (sq 0).nt⟩ : St)) hlooks hw
      rw [if_pos (want_y hs hwX)]
      obtain ⟨hnews, hfrz, hquiet, _, _⟩ := hop.upd
      obtain ⟨happ, hsto⟩ := hquiet rfl hqi
      have hfz := hfrz rfl
      have hopX := hop.mono (ev' := ev E (⟨ovl ops sq X b (e1 - b), (sq e1).row, (sq 0).nt⟩ : St)) (row' := (sq e1).row) (fun x hx => by
        cases x with
        | tmp t =>
          refine hlooks t (List.mem_append_left _ (List.mem_filterMap.2 ⟨.tmp t, by simpa using hx, rfl⟩))
        | _ => rfl) hsub
      have happly : ∀ s : St, s.apply o.dst u = (s.setRows u.news).putO o.dst u.v := fun s => by
        unfold St.apply
        rw [hfz, happ, hsto]
        rfl
      refine .inl (step_ok hE hG hs hgl (by rw [← nt_eq hsq i (by omega)]; exact hd) hid hopX fun S' ρ' a' w' hs' hgl' hS' hk => ?_)
      rw [happly, setRows_same fun p hp => ?_] at hs'
      · refine fin S' ρ' a' w' u.v (fun t => ?_) hs' hgl' hS' hk
        rw [hsu, happly, putO_slot, (setRows_nt _ _).2]
      · refine hsub1 _ _ ?_
        rw [hsu, happly, (putO_row _ _ _).1]
        exact ((hnews (sq i)).1 p hp).1
    · have hwX := wantN_congr (s' := (⟨ovl ops sq X b (e1 - b), (sq e1).row, (sq 0).nt⟩ : St)) hlooks hw
      rw [want_n hs hwX]
      refine fin S ρ _ w undefV (fun t => ?_) (hs.put (dst_lt (by rw [← nt_eq hsq i (by omega)]; exact hd)) vr_undef) hgl (Grew.refl _ _) (fun j hj _ => hj)
      rw [hsu, putO_slot]
  · -- the operation that ends the stretch
    obtain ⟨oe, hoe, hee⟩ : ∃ o, ops[e1]? = some o ∧ effB o = true := by
      rcases heff with h1 | h1
      · omega
      · exact h1
    have hie : i = e1 := by
      apply Classical.byContradiction
      intro hne
      rcases hO.ord e1 i oe o hoe ho (fun h => hne h.symm) with h1 | ⟨h1, _⟩
      · rw [Nat.max_eq_right (by omega), Nat.min_eq_left (by omega)] at h1
        have := hpre e1 h1
        rw [hX2 e1 (Nat.le_refl _)] at this
        cases this
      · rw [hee] at h1; cases h1
    subst hie
    rw [ho] at hoe
    cases hoe
    have hall : ∀ j, j < i → X j = true := fun j hj => by
      have hoj : ops[j]? = some ops[j] := Array.getElem?_eq_getElem (by omega)
      rcases hO.ord i j o _ ho hoj (by omega) with h1 | ⟨h1, _⟩
      · rw [Nat.max_eq_left (by omega), Nat.min_eq_right (by omega)] at h1
        exact hpre j h1
      · rw [hee] at h1; cases h1
    have hs2 : Sim w0 B pv S ρ (sq i) a w := hs.slotsEq (fun t => by
      have := ovl_seq (ops := ops) (sq := sq) (X := X) (b := b) (t := t) (m := i - b) fun j hj1 hj2 => by
        have hoj : ops[j]? = some ops[j] := Array.getElem?_eq_getElem (by omega)
        exact ⟨_, hoj, fun _ => hall j (by omega), fun hd => seg_slot hsq h0 hen hq hj1 (by omega) hoj t hd⟩
      rw [show b + (i - b) = i by omega] at this
      exact this.symm) rfl (nt_eq hsq i (by omega))
    have fin : ∀ S' ρ' a' w', Sim w0 B pv S' ρ' (sq (i + 1)) a' w' → GlOk E S' w' → Grew B S S' → (∀ j, ρ j = none → ¬ ((rid * 256 + i) * 4 ≤ j ∧ j < (rid * 256 + i) * 4 + 4) → ρ' j = none) → K a' w' := fun S' ρ' a' w' hs' hgl' hS' hk =>
      hK S' ρ' a' w' (startSeg hsq h0 (b := i + 1) (by omega) (fun j hj => by
        rw [hX']
        split
        · rfl
        · exact hall j (by omega)) (fun j hj => by rw [hX', if_neg (by omega)]; exact hX2 j (by omega)) hs' hgl' (hρ' ρ' hk) hcl' (hS.trans hS'))
    obtain ⟨hd, ⟨hw, u, hop, hsu⟩ | ⟨hw, hsu⟩⟩ := hstep
    · rw [if_pos (want_y hs2 hw)]
      refine .inl (step_ok hE hG hs2 hgl hd hid hop fun S' ρ' a' w' hs' hgl' hS' hk => ?_)
      rw [← hsu] at hs'
      exact fin S' ρ' a' w' hs' hgl' hS' hk
    · rw [want_n hs2 hw]
      refine fin S ρ _ w ?_ hgl (Grew.refl _ _) (fun j hj _ => hj)
      rw [hsu]
      exact hs2.put (dst_lt hd) vr_undef
end
end Go.Gx
