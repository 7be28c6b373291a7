/- The interpreter's operations are the machine's: calls. -/
import Derived.Test.YtnffgabfibafjaaDoorGxCall
namespace Go.Gx
open Go.RowKit
set_option linter.unusedVariables false
set_option linter.unusedSimpArgs false

theorem setRows_comm (i : Nat) (ro : Row) : ∀ (l : List (Nat × Row)) (s : St), (∀ p ∈ l, p.1 ≠ i) → (s.setRow i ro).setRows l = (s.setRows l).setRow i ro
  | [], s, _ => rfl
  | p :: l, s, h => by
    have h9 : (s.setRow i ro).setRow p.1 p.2 = (s.setRow p.1 p.2).setRow i ro := by
      have hpi := h p List.mem_cons_self
      unfold St.setRow
      congr 1
      funext j
      simp only [beq_eq]
      by_cases e1 : j = p.1
      · have e2 : j ≠ i := fun e => hpi (e1 ▸ e)
        rw [decide_eq_true e1, decide_eq_false e2]; rfl
      · rw [decide_eq_false e1]; rfl
    show ((s.setRow i ro).setRow p.1 p.2).setRows l = ((s.setRow p.1 p.2).setRows l).setRow i ro
    rw [h9]
    exact setRows_comm i ro l (s.setRow p.1 p.2) fun q hq => h q (List.mem_cons_of_mem _ hq)
theorem sameK_row {o x0 : AV} {ro r0 : Row} (h : sameK o x0 = true) (h1 : rowOf o = some ro) (h2 : rowOf x0 = some r0) : frz ro = false ∧ frz r0 = false := by
  cases o <;> cases h1 <;> cases x0 <;> cases h2 <;> first
    | exact ⟨rfl, rfl⟩
    | cases h
theorem row0_any {S : Nat → Prop} {w : World} {pv : Nat → Value} {a : AV} {r : Row} {l : Loc} (ha : rowOf a = some r) (h : Row0 S w pv r l) : ∀ ρ' row', RowOk S w ρ' row' pv r l := by
  intro ρ' row'
  exact RowOk.ext (P := fun _ => True) (fun _ h => h) (fun _ _ => rfl) (fun id l r _ h1 => by cases h1) h (fun _ _ _ => rfl) (fun _ _ _ _ _ => trivial)
theorem row0_flat {S S' : Nat → Prop} {w : World} {pv : Nat → Value} {a : AV} {r : Row} {l : Loc} (hs : slR r = false) (ha : rowOf a = some r) (h : Row0 S' w pv r l) : Row0 S w pv r l := by
  cases a <;> cases ha
  · cases l with
    | nilrow => exact h
    | «at» g c =>
      obtain ⟨cur, f, h1, h2, h3, h4, h5, h6, h7, h8⟩ := h
      refine ⟨cur, f, h1, h2, h3, h4, h5, h6, h7, fun i hi => ?_⟩
      obtain ⟨cs, h9, h10⟩ := h8 i hi
      exact ⟨cs, cr_flat hs h9, h10⟩
  · cases l with
    | nilrow => exact h
    | «at» g c =>
      obtain ⟨cur, T, h1, h2, h3⟩ := h
      exact ⟨cur, T, h1, h2, .t _ _ _ (cr_flat hs (ar_t h3))⟩
theorem R1.ge {S : Nat → Prop} {w : World} {n0 : Nat} {pv : Nat → Value} {a : AV} {v : Value} {g0 : Nat} (h : R1 S w n0 pv a v (some g0)) : n0 ≤ g0 := by
  cases h; assumption
section
variable {w0 : World} {B : Old} {pv : Nat → Value} {S S' : Nat → Prop} {ρ ρ' : Nat → Option Loc} {st : St} {a : Act} {w w' : World}
theorem inst_ok (h : Sim w0 B pv S ρ st a w) {n0 : Nat} (hB : ∀ k, B k → k < n0) {r : AV} {v : Value} (hr : RR S w n0 pv r v) {id : Nat} (hid : ∀ c, c < 4 → ρ (id + c) = none) {b : AV} {l : List (Nat × Row)} (hi : instR id r (fun b l => some (b, l)) = some (b, l))
    (hlow : ∀ j g c, ρ j = some (.at g c) → st.row j ≠ none → g < n0) :
    ∃ ρ', Sim w0 B pv S ρ' (st.setRows l) a w ∧ VR S w ρ' (st.setRows l).row pv b v ∧ (∀ j, ρ j = none → ¬ (id ≤ j ∧ j < id + 4) → ρ' j = none) := by
  have low : ∀ {r v g}, R1 S w n0 pv r v g → ∀ g0, g = some g0 → ∀ j c, ρ j = some (.at g0 c) → st.row j = none := fun h1 g0 e j c hj => by
    subst e
    apply Classical.byContradiction
    intro hn
    have := hlow j g0 c hj hn
    have := h1.ge
    omega
  have h0 : ρ id = none := by simpa using hid 0 (by omega)
  have single : ∀ {r}, (∃ g, R1 S w n0 pv r v g) → inst1 id r (fun b l => some (b, l)) = some (b, l) → ∃ ρ', Sim w0 B pv S ρ' (st.setRows l) a w ∧ VR S w ρ' (st.setRows l).row pv b v ∧ (∀ j, ρ j = none → ¬ (id ≤ j ∧ j < id + 4) → ρ' j = none) := fun {r} ⟨g, hg⟩ hi => by
    obtain ⟨ρ', h1, ⟨cs, h2, h3⟩, h4, h5⟩ := adopt1 h hB hg h0 hi (low hg)
    exact ⟨ρ', h1, .inr ⟨cs, h2, h3⟩, fun j hj hn => by rw [(h4 j (by omega)).1]; exact hj⟩
  cases r with
  | tup rs =>
    obtain ⟨vs, gs, rfl, hvl, hgl, h1, hd⟩ := hr
    match rs, hi, hvl, hgl, h1 with
    | [], hi, hvl, hgl, h1 =>
      cases hi
      have : vs = [] := List.eq_nil_of_length_eq_zero hvl
      subst this
      exact ⟨ρ, h, vr_undef, fun j hj _ => hj⟩
    | [_], hi, _, _, _ => simp [instR] at hi
    | [x, y], hi, hvl, hgl, h1 =>
      match vs, gs, hvl, hgl with
      | [v1, v2], [g1, g2], _, _ =>
        have r1 := h1 0 x v1 g1 rfl rfl rfl
        have r2 := h1 1 y v2 g2 rfl rfl rfl
        simp only [instR] at hi
        obtain ⟨b1, l1, e1, hi⟩ := inst1_nat hi
        obtain ⟨b2, l2, e2, hi⟩ := inst1_nat hi
        cases hi
        obtain ⟨ρ1, s1, ⟨c1, a1, rfl⟩, k1, m1⟩ := adopt1 h hB r1 h0 e1 (low r1)
        have f1 : ρ1 (id + 1) = none := by rw [(k1 _ (by omega)).1]; exact hid 1 (by omega)
        obtain ⟨ρ2, s2, ⟨c2, a2, rfl⟩, k2, m2⟩ := adopt1 s1 hB r2 f1 e2 (fun g0 e j c hj => by
          rcases m1 j g0 c hj with ⟨hj1, hj2⟩ | e'
          · rw [(k1 j hj1).2]; exact low r2 g0 e j c hj2
          · subst e; subst e'
            exact absurd rfl (hd 0 1 g0 (by omega) rfl))
        rw [setRows_append]
        have a1' := a1.ext (P := fun _ => True) (S' := S) (w' := w) (ρ' := ρ2) (row' := ((st.setRows l1).setRows l2).row) (fun _ h => h) (fun _ _ => rfl) (fun j l r _ h3 h4 => by
          have hj : j ≠ id + 1 := by rintro rfl; rw [f1] at h3; cases h3
          exact ⟨(k2 j hj).1.trans h3, r, (k2 j hj).2.trans h4, .refl r⟩) (fun _ _ => trivial)
        refine ⟨ρ2, s2, .inr ⟨_, .tup [b1, b2] [c1, c2] rfl (fun i b c hb hc => ?_), rfl⟩, fun j hj hn => ?_⟩
        · match i, hb, hc with
          | 0, hb, hc => cases hb; cases hc; exact a1'
          | 1, hb, hc => cases hb; cases hc; exact a2
          | i + 2, hb, hc => simp at hb
        · rw [(k2 j (by omega)).1, (k1 j (by omega)).1]; exact hj
    | [x, y, z], hi, hvl, hgl, h1 =>
      match vs, gs, hvl, hgl with
      | [v1, v2, v3], [g1, g2, g3], _, _ =>
        have r1 := h1 0 x v1 g1 rfl rfl rfl
        have r2 := h1 1 y v2 g2 rfl rfl rfl
        have r3 := h1 2 z v3 g3 rfl rfl rfl
        simp only [instR] at hi
        obtain ⟨b1, l1, e1, hi⟩ := inst1_nat hi
        obtain ⟨b2, l2, e2, hi⟩ := inst1_nat hi
        obtain ⟨b3, l3, e3, hi⟩ := inst1_nat hi
        cases hi
        obtain ⟨ρ1, s1, ⟨c1, a1, rfl⟩, k1, m1⟩ := adopt1 h hB r1 h0 e1 (low r1)
        have f1 : ρ1 (id + 1) = none := by rw [(k1 _ (by omega)).1]; exact hid 1 (by omega)
        obtain ⟨ρ2, s2, ⟨c2, a2, rfl⟩, k2, m2⟩ := adopt1 s1 hB r2 f1 e2 (fun g0 e j c hj => by
          rcases m1 j g0 c hj with ⟨hj1, hj2⟩ | e'
          · rw [(k1 j hj1).2]; exact low r2 g0 e j c hj2
          · subst e; subst e'
            exact absurd rfl (hd 0 1 g0 (by omega) rfl))
        have f2 : ρ2 (id + 2) = none := by rw [(k2 _ (by omega)).1, (k1 _ (by omega)).1]; exact hid 2 (by omega)
        obtain ⟨ρ3, s3, ⟨c3, a3, rfl⟩, k3, m3⟩ := adopt1 s2 hB r3 f2 e3 (fun g0 e j c hj => by
          rcases m2 j g0 c hj with ⟨hj1, hj2⟩ | e'
          · rcases m1 j g0 c hj2 with ⟨hj3, hj4⟩ | e'
            · rw [(k2 j hj1).2, (k1 j hj3).2]; exact low r3 g0 e j c hj4
            · subst e; subst e'
              exact absurd rfl (hd 0 2 g0 (by omega) rfl)
          · subst e; subst e'
            exact absurd rfl (hd 1 2 g0 (by omega) rfl))
        rw [setRows_append, setRows_append]
        have a1' := a1.ext (P := fun _ => True) (S' := S) (w' := w) (ρ' := ρ3) (row' := (((st.setRows l1).setRows l2).setRows l3).row) (fun _ h => h) (fun _ _ => rfl) (fun j l r _ h3 h4 => by
          have hj : j ≠ id + 1 := by rintro rfl; rw [f1] at h3; cases h3
          have hj2 : j ≠ id + 2 := by rintro rfl; rw [(k1 _ (by omega)).1, hid 2 (by omega)] at h3; cases h3
          exact ⟨(k3 j hj2).1.trans ((k2 j hj).1.trans h3), r, (k3 j hj2).2.trans ((k2 j hj).2.trans h4), .refl r⟩) (fun _ _ => trivial)
        have a2' := a2.ext (P := fun _ => True) (S' := S) (w' := w) (ρ' := ρ3) (row' := (((st.setRows l1).setRows l2).setRows l3).row) (fun _ h => h) (fun _ _ => rfl) (fun j l r _ h3 h4 => by
          have hj2 : j ≠ id + 2 := by rintro rfl; rw [f2] at h3; cases h3
          exact ⟨(k3 j hj2).1.trans h3, r, (k3 j hj2).2.trans h4, .refl r⟩) (fun _ _ => trivial)
        refine ⟨ρ3, s3, .inr ⟨_, .tup [b1, b2, b3] [c1, c2, c3] rfl (fun i b c hb hc => ?_), rfl⟩, fun j hj hn => ?_⟩
        · match i, hb, hc with
          | 0, hb, hc => cases hb; cases hc; exact a1'
          | 1, hb, hc => cases hb; cases hc; exact a2'
          | 2, hb, hc => cases hb; cases hc; exact a3
          | i + 3, hb, hc => simp at hb
        · rw [(k3 j (by omega)).1, (k2 j (by omega)).1, (k1 j (by omega)).1]; exact hj
    | _ :: _ :: _ :: _ :: _, hi, _, _, _ => simp [instR] at hi
  | _ => exact single hr (by simpa only [instR] using hi)
end

section
variable {P : Program} {E : Env} {w0 : World} {B : Old} {pv : Nat → Value} {S : Nat → Prop} {ρ : Nat → Option Loc} {st : St} {a : Act} {w : World} {o : Oper} {id : Nat} {K : Act → World → Prop} {Q : Exit → Act → World → Prop}
variable (hE : EnvOk P E) (hs : Sim w0 B pv S ρ st a w) (hgl : GlOk E S w) (hd : dstOk o st.nt = true) {G : Cal → List AV → AV → Prop} (hG : GOk P E pv G)
include hs hgl hd hG

theorem step_meets {cal : Cal} {args : List AV} {vs : List Value} {dr : Bool} {u : Upd} (hid : ∀ c, c < 4 → ρ (id + c) = none)
    (hrun : ∀ R : Value → World → Prop, (match cal with | .f n => Goes P n vs.toArray w | .par i => GoesV P (pv i) vs.toArray w) R → RunsTo P R ((execOp a.eval o).run P w))
    (hvl : vs.length = args.length) (hva : ∀ (i : Nat) b v, args[i]? = some b → vs[i]? = some v → VR S w ρ st.row pv b v) (h : CallR G st.row dr id cal args u)
    (hK : Nx E w0 B pv S ρ st o.dst u id K) : o.wp P a w K Q := by
  obtain ⟨cl, r, av, news, hcl, hg, hi, hu⟩ := h
  have hm := (hG cal cl r hg).1
  obtain ⟨hl1, hl2⟩ := mapO_get hcl
  have argsOk : ∀ S1 : Nat → Prop, (∀ b, S b → S1 b) → (∀ b, b ∈ args → Cov S1 w ρ st.row 6 b) → ArgsOk S1 w pv cl vs := fun S1 hsub hcov => by
    refine ⟨hvl.trans hl1.symm, fun i b v hb hv => ?_⟩
    obtain ⟨c, h1, h2⟩ := hl2 i b hb
    obtain ⟨cs, h3, h4⟩ := vr_ar (hva i c v h1 hv) (by rintro rfl; simp [closeR] at h2)
    exact ⟨cs, closeR_ok hs.hs hsub h2 h3 (hcov c (List.mem_of_getElem? h1)), by rw [h4, valOf, valOf, closeR_ag h2]⟩
  -- the caller goes on from here
  have fin : ∀ {S1 S2 : Nat → Prop} {st1 : St} {v : Value} {w' : World}, Sim w0 B pv S1 ρ st1 a w → Grew B S S1 → GlOk E S1 w → Below w.heap.size w w' → (∀ b, S1 b → S2 b) → (∀ b, S2 b → S1 b ∨ (w.heap.size ≤ b ∧ b < w'.heap.size)) → RR S2 w' w.heap.size pv r v →
      (∀ S3 ρ3, Sim w0 B pv S3 ρ3 (((st1.setRows news)).putO o.dst av) (a.put o.dst v) w' → GlOk E S3 w' → Grew B S S3 → (∀ j, ρ j = none → ¬ (id ≤ j ∧ j < id + 4) → ρ3 j = none) → K (a.put o.dst v) w') → st1.nt = st.nt → K (a.put o.dst v) w' := by
    intro S1 S2 st1 v w' h1 hsub hgl1 hb hS hS2 hrr hk hnt
    have hold : ∀ b, b < w.heap.size → w'.heap[b]? = w.heap[b]? := fun b hb' => hb.block b hb'
    have h2 := h1.grow (w' := w') (S' := S2) (ρ' := ρ) (row' := st1.row) (h1.below.trans (Blw.of hb h1.hB)) hb.size hold hS hS2 (fun id l h => ⟨h, rfl⟩) (fun id r l h3 h4 _ => by rw [h3] at h4; cases h4) (fun id id' g c c' h3 _ h4 => by rw [h3] at h4; cases h4)
    have h2 : Sim w0 B pv S2 ρ st1 a w' := h2.cong rfl rfl rfl
    obtain ⟨ρ3, h3, h4, h5⟩ := inst_ok h2 h1.hB hrr hid hi (fun j g c h6 h7 => by
      cases h8 : st1.row j with
      | none => exact absurd h8 h7
      | some r0 => exact (h1.hs.rows j r0 _ h8 h6).lt)
    refine hk S2 ρ3 (h3.put ?_ h4) (hgl1.mono hS fun b hb' => hold b (h1.hs.stab b hb')) (hsub.trans ⟨hS, fun b hb' => (hS2 b hb').imp _root_.id fun h hb3 => absurd (h1.hB _ hb3) (by omega)⟩) h5
    have : (st1.setRows news).nt = st.nt := by
      rw [← hnt]
      clear hi hu hk h3 h4
      generalize st1 = s
      induction news generalizing s with
      | nil => rfl
      | cons p l ih => exact ih (s.setRow p.1 p.2)
    rw [this]
    exact dst_lt hd
  rcases hu with ⟨hl, rfl⟩ | ⟨heps, _, rfl⟩
  · have hall := argsOk (fun b => b < w.heap.size) hs.hs.stab (fun b _ => .inl fun _ h => h)
    refine wp_runsTo (hrun _ ?_)
    have := hm (fun b => b < w.heap.size) w vs (fun _ h => h) (hgl.mono hs.hs.stab fun _ _ => rfl) hall
    have step : ∀ v w', (Below w.heap.size w w' ∧ ∃ S' : Nat → Prop, (∀ b, b < w.heap.size → S' b) ∧ (∀ b, S' b → b < w.heap.size ∨ (w.heap.size ≤ b ∧ b < w'.heap.size)) ∧ RR S' w' w.heap.size pv r v) → K (a.put o.dst v) w' := fun v w' ⟨hb, S', _, _, hrr⟩ =>
      fin (S1 := S) (S2 := S) hs (Grew.refl _ _) hgl hb (fun _ h => h) (fun _ h => .inl h) (rr_flat hl hs.hs.stab hrr) (fun S3 ρ3 h1 h2 h3 h4 => hK S3 ρ3 _ _ h1 h2 h3 h4) rfl
    cases cal with
    | f n => exact RunsTo.mono this step
    | par i => exact RunsTo.mono this step
  · have hzf := hs.frzs (idsL args)
    have hall := argsOk (frzS S ρ st.row (idsL args)) (fun _ h => .inl h) (fun b hb => by
      obtain ⟨k, hk⟩ := List.getElem?_of_mem hb
      exact .inr ⟨anyL_false (f := epsN 6) heps hk, fun j hj r g c hr hz hl => .inr ⟨j, idsL_mem hb hj, r, c, hr, hz, hl⟩⟩)
    refine wp_runsTo (hrun _ ?_)
    have hgl1 : GlOk E (frzS S ρ st.row (idsL args)) w := hgl.mono (fun _ h => .inl h) (fun _ _ => rfl)
    have := hm (frzS S ρ st.row (idsL args)) w vs hzf.hs.stab hgl1 hall
    have step : ∀ v w', (Below w.heap.size w w' ∧ ∃ S' : Nat → Prop, (∀ b, frzS S ρ st.row (idsL args) b → S' b) ∧ (∀ b, S' b → frzS S ρ st.row (idsL args) b ∨ (w.heap.size ≤ b ∧ b < w'.heap.size)) ∧ RR S' w' w.heap.size pv r v) → K (a.put o.dst v) w' := fun v w' ⟨hb, S', h1, h2, hrr⟩ =>
      fin (S1 := frzS S ρ st.row (idsL args)) (S2 := S') hzf (grew_frz hs _) hgl1 hb h1 h2 hrr (fun S3 ρ3 h1 h2 h3 h4 => hK S3 ρ3 _ _ h1 h2 h3 h4) (freeze_slot _ st).2
    cases cal with
    | f n => exact RunsTo.mono this step
    | par i => exact RunsTo.mono this step
omit hgl hd hG in
theorem hand_ok {a0 : AV} {i : Nat} {x0 : AV} {v0 : Value} (hh : hand st.row a0 = some (i, x0)) (hv : VR S w ρ st.row pv a0 v0) :
    ∃ r0 l, st.row i = some r0 ∧ rowOf x0 = some r0 ∧ ρ i = some l ∧ Row0 S w pv r0 l ∧ v0 = hval x0 l := by
  unfold hand at hh
  split at hh
  · rename_i j
    split at hh
    · rename_i e τ xs hr
      cases hh
      rcases vr_own hv hr with ⟨g, cap, hl, rfl⟩ | ⟨hl, rfl, rfl⟩
      · exact ⟨_, _, hr, rfl, hl, hs.hs.rows _ _ _ hr hl, rfl⟩
      · exact ⟨_, _, hr, rfl, hl, hs.hs.rows _ _ _ hr hl, rfl⟩
    · cases hh
  · rename_i j
    split at hh
    · rename_i σ σ' x hr
      split at hh
      · rename_i e _
        subst e
        cases hh
        obtain ⟨g, c, τ', h1, h2, h3⟩ := vr_epB hv hr
        have hro := hs.hs.rows _ _ _ hr h2
        refine ⟨_, _, hr, rfl, h2, ?_, by rw [h3]; simp [hval, offP]⟩
        obtain ⟨cur, T, k1, k2, k3⟩ := hro
        exact ⟨cur, T, k1, k2, .t _ _ _ (ar_t k3)⟩
      · cases hh
    · cases hh
  · cases hh

theorem step_meetsM {g : Nat} {args : List AV} {vs : List Value} {dr : Bool} {u : Upd} (hid : ∀ c, c < 4 → ρ (id + c) = none)
    (hrun : ∀ R : Value → World → Prop, Goes P g vs.toArray w R → RunsTo P R ((execOp a.eval o).run P w))
    (hvl : vs.length = args.length) (hva : ∀ (i : Nat) b v, args[i]? = some b → vs[i]? = some v → VR S w ρ st.row pv b v) (h : CallM G st.row dr id g args u)
    (hK : Nx E w0 B pv S ρ st o.dst u id K) : o.wp P a w K Q := by
  obtain ⟨_, a0, rest, i, x0, cl, r, rfl, hh, hcl, heps, hni, hg, hu⟩ := h
  match vs, hvl with
  | v0 :: vs, hvl =>
  have hv0 := hva 0 a0 v0 rfl rfl
  have hva' : ∀ (i : Nat) b v, rest[i]? = some b → vs[i]? = some v → VR S w ρ st.row pv b v := fun i b v hb hv => hva (i + 1) b v (by simpa using hb) (by simpa using hv)
  obtain ⟨r0, l, hri, hro, hli, hrow, rfl⟩ := hand_ok hs hh hv0
  have hm := (hG (.f g) (x0 :: cl) r hg).2 g x0 cl rfl rfl (by rw [hro]; simp)
  obtain ⟨hl1, hl2⟩ := mapO_get hcl
  have hvl' : vs.length = rest.length := by simpa using hvl
  have hzf := hs.frzs (idsL rest)
  have hf0 : frz r0 = false := by
    cases x0 <;> cases hro <;> rfl
  have hSl : ∀ g c, l = .at g c → ¬ S g := fun g c e => (hs.hs.apart i r0 g c (e ▸ hli) hri).2.1 hf0
  have hSl' : ∀ g c, l = .at g c → ¬ frzS S ρ st.row (idsL rest) g := fun g c e hS => by
    rcases hS with hS | ⟨j, hj, r, c', hr, _, hl⟩
    · exact hSl g c e hS
    · have := hs.hs.inj i j g c c' (e ▸ hli) hl (by rw [hri]; simp) (by rw [hr]; simp)
      subst this
      exact hni hj
  have argsOk : ArgsOk (frzS S ρ st.row (idsL rest)) w pv cl vs := by
    refine ⟨hvl'.trans hl1.symm, fun i b v hb hv => ?_⟩
    obtain ⟨c, h1, h2⟩ := hl2 i b hb
    obtain ⟨cs, h3, h4⟩ := vr_ar (hva' i c v h1 hv) (by rintro rfl; simp [closeR] at h2)
    refine ⟨cs, closeR_ok hs.hs (fun _ h => .inl h) h2 h3 (.inr ⟨anyL_false (f := epsN 6) heps h1, fun j hj r g c hr hz hl => .inr ⟨j, idsL_mem (List.mem_of_getElem? h1) hj, r, c, hr, hz, hl⟩⟩), by rw [h4, valOf, valOf, closeR_ag h2]⟩
  have hgl1 : GlOk E (frzS S ρ st.row (idsL rest)) w := hgl.mono (fun _ h => .inl h) (fun _ _ => rfl)
  have hrow1 : Row0 (frzS S ρ st.row (idsL rest)) w pv r0 l := RowOk.ext (P := fun _ => True) (fun _ h => .inl h) (fun _ _ => rfl) (fun id l r _ h1 => by cases h1) hrow (fun _ _ _ => rfl) (fun _ _ _ _ _ => trivial)
  have hgo := hm (frzS S ρ st.row (idsL rest)) w (hval x0 l) vs l r0 hzf.hs.stab hgl1 argsOk hro hrow1 hSl' rfl
  refine wp_runsTo (hrun _ (RunsTo.mono hgo fun v w' ⟨hb, S', hS1, hS2, hans⟩ => ?_))
  have hold : ∀ b, b < w.heap.size → (∀ g c, l = .at g c → b ≠ g) → w'.heap[b]? = w.heap[b]? := fun b h1 h2 => hb.block b ⟨h1, h2⟩
  have hbw : Blw B w0 w' := hs.below.trans ⟨hb.os, hb.tape, hb.output, hb.size, fun k hk => hb.block k ⟨hs.hB k hk, fun g c e => by rintro rfl; exact (hs.hs.apart i r0 _ c (e ▸ hli) hri).1 hk⟩⟩
  have nt_setRows : ∀ (news : List (Nat × Row)) (s : St), (s.setRows news).nt = s.nt := fun news => by
    induction news with
    | nil => exact fun s => rfl
    | cons p l ih => exact fun s => ih (s.setRow p.1 p.2)
  rcases hu with ⟨o', r', ro, av, news, rfl, hk, hro', hi, hu⟩ | ⟨e, τ, ys, rfl, hk, him, hu⟩
  · -- kept
    obtain ⟨hrr, r0', ro', h1, h2, h3, h4, hng⟩ := hans
    have hS2 : ∀ b, S' b → frzS S ρ st.row (idsL rest) b ∨ (w.heap.size ≤ b ∧ b < w'.heap.size) := fun b hb' => by
      rcases hS2 b hb' with h | ⟨c, h⟩ | h
      · exact .inl h
      · exact absurd hb' (hng b c h)
      · exact .inr h
    rw [hro] at h1; cases h1
    rw [hro'] at h2; cases h2
    have hfo := (sameK_row hk hro' hro).1
    -- first what is answered with S1 frozen, then the row, then the news
    have go : ∀ (S1 S2 : Nat → Prop) (st1 : St), Sim w0 B pv S1 ρ st1 a w → Grew B S S1 → st1.row i = some r0 → st1.nt = st.nt → (∀ b, S1 b → S2 b) → (∀ b, S2 b → S1 b ∨ (w.heap.size ≤ b ∧ b < w'.heap.size)) → GlOk E S1 w → (∀ g c, l = .at g c → ¬ S1 g) → RR S2 w' w.heap.size pv r' v → Row0 S2 w' pv ro l →
        (∀ S3 ρ3, Sim w0 B pv S3 ρ3 (((st1.setRows news).setRow i ro).putO o.dst av) (a.put o.dst v) w' → GlOk E S3 w' → Grew B S S3 → (∀ j, ρ j = none → ¬ (id ≤ j ∧ j < id + 4) → ρ3 j = none) → K (a.put o.dst v) w') → K (a.put o.dst v) w' := by
      intro S1 S2 st1 hsim hgr hr1 hnt hS hS2 hgl2 hSl2 hrr' hrow' hk'
      have hfz0 : frz r0 = false := hf0
      -- the row is written, the world has grown, S2
      have hw : ∀ b, S1 b → w'.heap[b]? = w.heap[b]? := fun b hb' => hold b (hsim.hs.stab b hb') fun g c e e2 => hSl2 g c e (e2 ▸ hb')
      have hSl3 : ∀ g c, l = .at g c → ¬ S2 g := fun g c e hS3 => by
        rcases hS2 g hS3 with h | h
        · exact hSl2 g c e h
        · have := (hsim.hs.rows i r0 _ hr1 (e ▸ hli)).lt; omega
      have hrow'' : ∀ ρ' row', RowOk S2 w' ρ' row' pv ro l := row0_any hro' hrow'
      have hs2 : Sim w0 B pv S2 ρ (st1.setRow i ro) a w' := by
        have hrowq := setRow_row st1 i ro
        have hkk : ∀ j l' r1, True → ρ j = some l' → st1.row j = some r1 → ρ j = some l' ∧ ∃ r2, (st1.setRow i ro).row j = some r2 ∧ Same r1 r2 := fun j l' r1 _ h5 h6 => by
          refine ⟨h5, ?_⟩
          rw [hrowq]
          by_cases e : j = i
          · subst e
            rw [hr1] at h6
            cases h6
            exact ⟨ro, by rw [if_pos rfl], h4⟩
          · exact ⟨r1, by rw [if_neg e]; exact h6, .refl _⟩
        refine ⟨hsim.size, hsim.defers, fun t => VR.ext (P := fun _ => True) hS hw hkk (hsim.slots t) (fun _ _ => trivial), ⟨fun b hb' => ?_, fun j r1 l1 h5 h6 => ?_, fun j j' g c c' h5 h6 h7 h8 => ?_, fun j r1 g c h5 h6 => ?_, hsim.hs.pin⟩, hbw, fun k hk => Nat.lt_of_lt_of_le (hsim.hB k hk) hb.size⟩
        · rcases hS2 b hb' with h | h
          · exact Nat.lt_of_lt_of_le (hsim.hs.stab b h) hb.size
          · exact h.2
        · rw [hrowq] at h5
          by_cases e : j = i
          · subst e
            rw [if_pos rfl] at h5
            rw [hli] at h6
            cases h5; cases h6
            exact hrow'' _ _
          · rw [if_neg e] at h5
            refine (hsim.hs.rows j r1 l1 h5 h6).ext hS hw hkk (fun g c e2 => ?_) (fun _ _ _ _ _ => trivial)
            subst e2
            refine hold g (hsim.hs.rows j r1 _ h5 h6).lt fun g' c' e3 e4 => e ?_
            subst e4
            exact hsim.hs.inj j i _ c c' h6 (e3 ▸ hli) (by rw [h5]; simp) (by rw [hr1]; simp)
        · rw [hrowq] at h7 h8
          refine hsim.hs.inj j j' g c c' h5 h6 ?_ ?_
          · by_cases e : j = i
            · subst e; rw [hr1]; simp
            · rwa [if_neg e] at h7
          · by_cases e : j' = i
            · subst e; rw [hr1]; simp
            · rwa [if_neg e] at h8
        · rw [hrowq] at h6
          have old : ∀ r2, st1.row j = some r2 → ¬ B g ∧ (frz r2 = false → ¬ S2 g) ∧ (frz r2 = true → S2 g) := fun r2 h7 => by
            obtain ⟨k1, k2, k3⟩ := hsim.hs.apart j r2 g c h5 h7
            refine ⟨k1, fun h8 h9 => ?_, fun h8 => hS g (k3 h8)⟩
            rcases hS2 g h9 with h | h
            · exact k2 h8 h
            · have := (hsim.hs.rows j r2 _ h7 h5).lt; omega
          by_cases e : j = i
          · subst e
            rw [if_pos rfl] at h6
            cases h6
            have := old r0 hr1
            rw [hfo]
            exact ⟨this.1, fun _ => this.2.1 hfz0, fun h => by cases h⟩
          · rw [if_neg e] at h6
            exact old r1 h6
      obtain ⟨ρ3, h5, h6, h7⟩ := inst_ok hs2 hsim.hB hrr' hid hi (fun j g c h6 h7 => by
        cases h8 : st1.row j with
        | none =>
          rw [setRow_row] at h7
          by_cases e : j = i
          · subst e; rw [hr1] at h8; cases h8
          · rw [if_neg e] at h7; exact absurd h8 h7
        | some r1 => exact (hsim.hs.rows j r1 _ h8 h6).lt)
      have hne : ∀ p ∈ news, p.1 ≠ i := fun p hp e => by
        have hn := news_instR hi
        obtain ⟨h8, h9, h10⟩ := (hn st).1 p hp
        have : ρ p.1 = none := by
          obtain ⟨c, hc⟩ : ∃ c, p.1 = id + c := ⟨p.1 - id, by omega⟩
          rw [hc]; exact hid c (by omega)
        rw [e, hli] at this
        cases this
      have hcomm := setRows_comm i ro news st1 hne
      have hc1 := congrArg St.row hcomm
      have hc2 := congrArg St.slot hcomm
      have hc3 := congrArg St.nt hcomm
      have hfin : Sim w0 B pv S2 ρ3 ((st1.setRows news).setRow i ro) a w' := h5.cong hc2.symm hc1.symm hc3.symm
      have hv6 : VR S2 w' ρ3 ((st1.setRows news).setRow i ro).row pv av v := by rw [← hc1]; exact h6
      refine hk' S2 ρ3 (hfin.put ?_ hv6) (hgl2.mono hS hw) (hgr.trans ⟨hS, fun b hb' => (hS2 b hb').imp _root_.id fun h hb3 => absurd (hsim.hB _ hb3) (by omega)⟩) h7
      rw [show ((st1.setRows news).setRow i ro).nt = (st1.setRows news).nt from rfl, nt_setRows, hnt]
      exact dst_lt hd
    rcases hu with ⟨hlead, hslr, rfl⟩ | rfl
    · -- what is answered leads nowhere: nothing was frozen
      have hrrS : RR S w' w.heap.size pv r' v := rr_flat hlead hs.hs.stab hrr
      exact go S S st hs (Grew.refl _ _) hri rfl (fun _ h => h) (fun _ h => .inl h) hgl hSl hrrS (row0_flat hslr hro' h3) (fun S3 ρ3 k1 k2 k3 k4 => hK S3 ρ3 _ _ k1 k2 k3 k4)
    · have hrf : (st.freeze (idsL rest)).row i = some r0 := by rw [freeze_row, hri]; simp [hni]
      exact go (frzS S ρ st.row (idsL rest)) S' (st.freeze (idsL rest)) hzf (grew_frz hs _) hrf (freeze_slot _ st).2 hS1 hS2 hgl1 hSl' hrr h3 (fun S3 ρ3 k1 k2 k3 k4 => hK S3 ρ3 _ _ k1 k2 k3 k4)
  · -- moved
    obtain ⟨l', h1, rfl, h3⟩ := hans
    have go : ∀ (S1 S2 : Nat → Prop) (st1 : St), Sim w0 B pv S1 ρ st1 a w → Grew B S S1 → st1.row i = some r0 → st1.nt = st.nt → (∀ b, S1 b → S2 b) → (∀ b, S2 b → S1 b ∨ (∃ c, l = .at b c) ∨ (w.heap.size ≤ b ∧ b < w'.heap.size)) → GlOk E S1 w → (∀ g c, l = .at g c → ¬ S1 g) → (∀ g c, l' = .at g c → ¬ S2 g) → Row0 S2 w' pv (.flat e τ ys false true) l' →
        (∀ S3 ρ3, Sim w0 B pv S3 ρ3 (((st1.kill i (i + 1)).setRow i (.flat e τ ys false true)).putO o.dst (.own i)) (a.put o.dst (hval (.fr e τ ys) l')) w' → GlOk E S3 w' → Grew B S S3 → (∀ j, ρ j = none → ¬ (id ≤ j ∧ j < id + 4) → ρ3 j = none) → K (a.put o.dst (hval (.fr e τ ys) l')) w') → K (a.put o.dst (hval (.fr e τ ys) l')) w' := by
      intro S1 S2 st1 hsim hgr hr1 hnt hS hS2' hgl2 hSl2 hSn hrow' hk'
      have hw : ∀ b, S1 b → w'.heap[b]? = w.heap[b]? := fun b hb' => hold b (hsim.hs.stab b hb') fun g c e e2 => hSl2 g c e (e2 ▸ hb')
      have hkl := hsim.kill i (i + 1) (inR_one him)
      have hne : ∀ j l0, killL i (i + 1) ρ j = some l0 → j ≠ i ∧ ρ j = some l0 := fun j l0 h1 => by
        unfold killL at h1
        cases hb : inR i (i + 1) j with
        | true => rw [hb] at h1; cases h1
        | false =>
          rw [hb] at h1
          refine ⟨?_, h1⟩
          rintro rfl
          exact (inR_false (by simpa [inR] using hb)) ⟨Nat.le_refl _, Nat.lt_succ_self _⟩
      have hnone : killL i (i + 1) ρ i = none := by
        cases hq : killL i (i + 1) ρ i with
        | none => rfl
        | some l0 => exact absurd rfl (hne i l0 hq).1
      have hg2 := hkl.growX (w' := w') (S' := S2) hbw hb.size hw (fun j r1 g c h5 h6 => by
        obtain ⟨h7, h8⟩ := hne j _ h5
        have h9 : st1.row j ≠ none := fun h => by
          have : killR i (i + 1) j (st1.row j) = some r1 := h6
          rw [h, killR_none] at this
          cases this
        refine hold g ((hkl.hs.rows j r1 _ h6 h5).lt) fun g' c' e3 e4 => h7 ?_
        subst e4
        exact hsim.hs.inj j i _ c c' h8 (e3 ▸ hli) h9 (by rw [hr1]; simp)) hS (fun b hb' => by
        rcases hS2' b hb' with h | ⟨c0, h⟩ | h
        · exact .inl h
        · refine .inr ⟨fun j r1 c h5 h6 => ?_, Nat.lt_of_lt_of_le (by subst h; exact (hsim.hs.rows i r0 _ hr1 hli).lt) hb.size⟩
          obtain ⟨h7, h8⟩ := hne j _ h5
          refine h7 (hsim.hs.inj j i b c c0 h8 (h ▸ hli) (fun h10 => ?_) (by rw [hr1]; simp))
          have h11 : killR i (i + 1) j (st1.row j) = some r1 := h6
          rw [h10, killR_none] at h11
          cases h11
        · exact .inr ⟨fun j r1 c h5 h6 => by have := (hkl.hs.rows j r1 _ h6 h5).lt; omega, h.2⟩)
      have hg3 := hg2.adopt (r := .flat e τ ys false true) (l := l') hnone rfl (fun g c e' => by
        refine ⟨?_, hSn g c e', fun j c' hj => ?_⟩
        · rcases (h3 g c e').2 with ⟨c0, e0⟩ | h5
          · exact (hsim.hs.apart i r0 g c0 (e0 ▸ hli) hr1).1
          · exact fun hb3 => absurd (hs.hB g hb3) (by omega)
        · obtain ⟨h7, h8⟩ := hne j _ hj
          show killR i (i + 1) j (st1.row j) = none
          cases h9 : st1.row j with
          | none => exact killR_none
          | some r1 =>
            exfalso
            rcases (h3 g c e').2 with ⟨c0, e0⟩ | h5
            · exact h7 (hsim.hs.inj j i g c' c0 h8 (e0 ▸ hli) (by rw [h9]; simp) (by rw [hr1]; simp))
            · have := (hsim.hs.rows j r1 _ h9 h8).lt; omega) (fun ρ' row' => row0_any (a := .fr e τ ys) rfl hrow' ρ' row')
      refine hk' S2 _ (hg3.put ?_ ?_) (hgl2.mono hS hw) (hgr.trans ⟨hS, fun b hb' => (hS2' b hb').imp _root_.id fun h hb3 => by
        rcases h with ⟨c0, h⟩ | h
        · exact (hsim.hs.apart i r0 b c0 (h ▸ hli) hr1).1 hb3
        · exact absurd (hsim.hB _ hb3) (by omega)⟩) (fun j hj _ => ?_)
      · show ∀ n, o.dst = some n → n < st1.nt
        rw [hnt]
        exact dst_lt hd
      · have hrow3 : ((st1.kill i (i + 1)).setRow i (.flat e τ ys false true)).row i = some (.flat e τ ys false true) := by rw [setRow_row, if_pos rfl]
        cases l' with
        | «at» g cap => exact .inr ⟨_, .own i e τ ys false true g cap hrow3 (upd_self _ _ _), rfl⟩
        | nilrow =>
          obtain ⟨rfl, _, _⟩ := hrow'
          exact .inr ⟨_, .ownNil i e τ false true hrow3 (upd_self _ _ _), rfl⟩
      · by_cases e1 : j = i
        · subst e1; rw [hli] at hj; cases hj
        · simp only [upd, if_neg e1, killL]
          rw [hj]
          cases inR i (i + 1) j <;> rfl
    rcases hu with ⟨hsl, rfl⟩ | rfl
    · exact go S S st hs (Grew.refl _ _) hri rfl (fun _ h => h) (fun _ h => .inl h) hgl hSl (fun g c e' hSg => (h3 g c e').1 (hS1 g (.inl hSg))) (row0_flat (a := .fr e τ ys) hsl rfl h1) (fun S3 ρ3 k1 k2 k3 k4 => hK S3 ρ3 _ _ k1 k2 k3 k4)
    · have hrf : (st.freeze (idsL rest)).row i = some r0 := by rw [freeze_row, hri]; simp [hni]
      exact go (frzS S ρ st.row (idsL rest)) S' (st.freeze (idsL rest)) hzf (grew_frz hs _) hrf (freeze_slot _ st).2 hS1 hS2 hgl1 hSl' (fun g c e' => (h3 g c e').1) h1 (fun S3 ρ3 k1 k2 k3 k4 => hK S3 ρ3 _ _ k1 k2 k3 k4)
theorem step_call {args : Array Operand} {ats : Array TypeId} {f : Operand} {dr : Bool} {u : Upd} (ho : o.op = .call { callee := .value f, args := args, argTypes := ats }) (hid : ∀ c, c < 4 → ρ (id + c) = none)
    (h : (∃ g caps, ev E st f = .clo g caps ∧ CallX E G st.row dr id g (mapE (ev E st) args.toList ++ caps) u) ∨ (∃ i, ev E st f = .par i ∧ CallR G st.row dr id (.par i) (mapE (ev E st) args.toList) u))
    (hK : Nx E w0 B pv S ρ st o.dst u id K) : o.wp P a w K Q := by
  have ef := ev_ok hgl hs f
  have hargs : ∀ (i : Nat) b v, (mapE (ev E st) args.toList)[i]? = some b → (args.toList.map a.eval)[i]? = some v → VR S w ρ st.row pv b v := fun i b v hb hv => by
    rw [mapE_eq, List.getElem?_map] at hb
    rw [List.getElem?_map] at hv
    cases hx : args.toList[i]? with
    | none => rw [hx] at hb; cases hb
    | some x =>
      rw [hx] at hb hv
      cases hb; cases hv
      exact ev_ok hgl hs x
  have hlen : (args.toList.map a.eval).length = (mapE (ev E st) args.toList).length := by simp [mapE_eq]
  rcases h with ⟨g, caps, hf, h⟩ | ⟨i, hf, h⟩
  · rw [hf] at ef
    obtain ⟨cs, h', h2⟩ := vr_ar ef (by simp)
    cases h' with
    | clo _ _ css hl hh =>
      simp only [valOf, isAg, cond_false, List.headD_cons] at h2
      have hcapl : (valsOf caps css).length = caps.length := by
        have : ∀ (l : List AV) (m : List (List Value)), l.length = m.length → (valsOf l m).length = l.length := fun l => by
          induction l with
          | nil => intro m _; rfl
          | cons x l ih => intro m hm; cases m with
            | nil => simp at hm
            | cons c m => simp [valsOf, ih m (by simpa using hm)]
        exact this caps css hl
      have hvs : ∀ (k : Nat) b v, (mapE (ev E st) args.toList ++ caps)[k]? = some b → (args.toList.map a.eval ++ valsOf caps css)[k]? = some v → VR S w ρ st.row pv b v := fun k b v hb hv => by
        rw [List.getElem?_append] at hb hv
        rw [hlen] at hv
        split at hb
        · rename_i hlt
          rw [if_pos hlt] at hv
          exact hargs k b v hb hv
        · rename_i hlt
          rw [if_neg hlt] at hv
          obtain ⟨c, h3, h4⟩ := valsOf_get hl hb
          rw [h4] at hv
          cases hv
          exact .inr ⟨c, hh _ b c hb h3, rfl⟩
      have hrun : ∀ R : Value → World → Prop, Goes P g (args.toList.map a.eval ++ valsOf caps css).toArray w R → RunsTo P R ((execOp a.eval o).run P w) := fun R hR => by
        have e : (execOp a.eval o).run P w = (callFunc g (args.toList.map a.eval ++ valsOf caps css).toArray).run P w := by
          unfold execOp
          simp only [ho, resolve, h2, Deferred.ofValue, invoke, Sem.run_bind, Sem.run_pure, Result.andThen_ok]
          congr 2
          apply Array.ext'
          simp
        rw [e]; exact hR
      rcases h with ⟨_, h⟩ | ⟨_, h⟩
      · exact step_meets hs hgl hd hG (cal := .f g) (vs := args.toList.map a.eval ++ valsOf caps css) hid hrun (by simp [hlen, hcapl]) hvs h hK
      · exact step_meetsM hs hgl hd hG (vs := args.toList.map a.eval ++ valsOf caps css) hid hrun (by simp [hlen, hcapl]) hvs h hK
  · rw [hf] at ef
    obtain ⟨cs, h', h2⟩ := vr_ar ef (by simp)
    cases h' with
    | par _ h1 =>
      simp only [valOf, isAg, cond_false, List.headD_cons] at h2
      refine step_meets hs hgl hd hG (vs := args.toList.map a.eval) hid (fun R hR => ?_) hlen hargs h hK
      have e : (execOp a.eval o).run P w = (do let d ← Deferred.ofValue (pv i) (args.toList.map a.eval).toArray; invoke d.target d.args : Sem Next).run P w := by
        unfold execOp
        have : args.map a.eval = (args.toList.map a.eval).toArray := by apply Array.ext'; simp
        simp only [ho, resolve, h2, this]
      rw [e]; exact hR
end
end Go.Gx
