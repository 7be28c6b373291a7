/- The interpreter's operations are the machine's: calls. -/
import Derived.Test.YtahacbcnjfoknaaGxCall
namespace Go.Gx
open Go.RowKit
set_option linter.unusedVariables false
set_option linter.unusedSimpArgs false

theorem R1.ge {S : Nat → Prop} {w : World} {n0 : Nat} {pv : Nat → Value} {a : AV} {v : Value} {g0 : Nat} (h : R1 S w n0 pv a v (some g0)) : n0 ≤ g0 := by
  cases h; assumption
section
variable {w0 : World} {B : Nat} {pv : Nat → Value} {S S' : Nat → Prop} {ρ ρ' : Nat → Option Loc} {st : St} {a : Act} {w w' : World}
theorem inst_ok (h : Sim w0 B pv S ρ st a w) {n0 : Nat} (hB : B ≤ n0) {r : AV} {v : Value} (hr : RR S w n0 pv r v) {id : Nat} (hid : ∀ c, c < 4 → ρ (id + c) = none) {b : AV} {l : List (Nat × Row)} (hi : instR id r (fun b l => some (b, l)) = some (b, l))
    (hlow : ∀ j g c, ρ j = some (.at g c) → st.row j ≠ none → g < n0) :
    ∃ ρ', Sim w0 B pv S ρ' (st.setRows l) a w ∧ VR S w ρ' (st.setRows l).row pv b v ∧ (∀ j, ρ j = none → ¬ (id ≤ j ∧ j < id + 4) → ρ' j = none) := by
  have low : ∀ {r v g}, R1 S w n0 pv r v g → ∀ g0, g = some g0 → ∀ j c, ρ j = some (.at g0 c) → st.row j = none := fun h1 g0 e j c hj => by
    subst e
    apply Classical.byContradiction
    intro hn
    have := hlow j g0 c hj hn
    have := h1.ge
    omega
  have h0 : ρ id = none := by simpa using hid 0 (by omega)
  have single : ∀ {r}, (∃ g, R1 S w n0 pv r v g) → inst1 id r (fun b l => some (b, l)) = some (b, l) → ∃ ρ', Sim w0 B pv S ρ' (st.setRows l) a w ∧ VR S w ρ' (st.setRows l).row pv b v ∧ (∀ j, ρ j = none → ¬ (id ≤ j ∧ j < id + 4) → ρ' j = none) := fun {r} ⟨g, hg⟩ hi => by
    obtain ⟨ρ', h1, ⟨cs, h2, h3⟩, h4, h5⟩ := adopt1 h hB hg h0 hi (low hg)
    exact ⟨ρ', h1, .inr ⟨cs, h2, h3⟩, fun j hj hn => by rw [(h4 j (by omega)).1]; exact hj⟩
  cases r with
  | tup rs =>
    obtain ⟨vs, gs, rfl, hvl, hgl, h1, hd⟩ := hr
    match rs, hi, hvl, hgl, h1 with
    | [], hi, hvl, hgl, h1 =>
      cases hi
      have : vs = [] := List.eq_nil_of_length_eq_zero hvl
      subst this
      exact ⟨ρ, h, vr_undef, fun j hj _ => hj⟩
    | [_], hi, _, _, _ => simp [instR] at hi
    | [x, y], hi, hvl, hgl, h1 =>
      match vs, gs, hvl, hgl with
      | [v1, v2], [g1, g2], _, _ =>
        have r1 := h1 0 x v1 g1 rfl rfl rfl
        have r2 := h1 1 y v2 g2 rfl rfl rfl
        simp only [instR] at hi
        obtain ⟨b1, l1, e1, hi⟩ := inst1_nat hi
        obtain ⟨b2, l2, e2, hi⟩ := inst1_nat hi
        cases hi
        obtain ⟨ρ1, s1, ⟨c1, a1, rfl⟩, k1, m1⟩ := adopt1 h hB r1 h0 e1 (low r1)
        have f1 : ρ1 (id + 1) = none := by rw [(k1 _ (by omega)).1]; exact hid 1 (by omega)
        obtain ⟨ρ2, s2, ⟨c2, a2, rfl⟩, k2, m2⟩ := adopt1 s1 hB r2 f1 e2 (fun g0 e j c hj => by
          rcases m1 j g0 c hj with ⟨hj1, hj2⟩ | e'
          · rw [(k1 j hj1).2]; exact low r2 g0 e j c hj2
          · subst e; subst e'
            exact absurd rfl (hd 0 1 g0 (by omega) rfl))
        rw [setRows_append]
        have a1' := a1.ext (P := fun _ => True) (S' := S) (w' := w) (ρ' := ρ2) (row' := ((st.setRows l1).setRows l2).row) (fun _ h => h) (fun _ _ => rfl) (fun j l r _ h3 h4 => by
          have hj : j ≠ id + 1 := by rintro rfl; rw [f1] at h3; cases h3
          exact ⟨(k2 j hj).1.trans h3, r, (k2 j hj).2.trans h4, .refl r⟩) (fun _ _ => trivial)
        refine ⟨ρ2, s2, .inr ⟨_, .tup [b1, b2] [c1, c2] rfl (fun i b c hb hc => ?_), rfl⟩, fun j hj hn => ?_⟩
        · match i, hb, hc with
          | 0, hb, hc => cases hb; cases hc; exact a1'
          | 1, hb, hc => cases hb; cases hc; exact a2
          | i + 2, hb, hc => simp at hb
        · rw [(k2 j (by omega)).1, (k1 j (by omega)).1]; exact hj
    | [x, y, z], hi, hvl, hgl, h1 =>
      match vs, gs, hvl, hgl with
      | [v1, v2, v3], [g1, g2, g3], _, _ =>
        have r1 := h1 0 x v1 g1 rfl rfl rfl
        have r2 := h1 1 y v2 g2 rfl rfl rfl
        have r3 := h1 2 z v3 g3 rfl rfl rfl
        simp only [instR] at hi
        obtain ⟨b1, l1, e1, hi⟩ := inst1_nat hi
        obtain ⟨b2, l2, e2, hi⟩ := inst1_nat hi
        obtain ⟨b3, l3, e3, hi⟩ := inst1_nat hi
        cases hi
        obtain ⟨ρ1, s1, ⟨c1, a1, rfl⟩, k1, m1⟩ := adopt1 h hB r1 h0 e1 (low r1)
        have f1 : ρ1 (id + 1) = none := by rw [(k1 _ (by omega)).1]; exact hid 1 (by omega)
        obtain ⟨ρ2, s2, ⟨c2, a2, rfl⟩, k2, m2⟩ := adopt1 s1 hB r2 f1 e2 (fun g0 e j c hj => by
          rcases m1 j g0 c hj with ⟨hj1, hj2⟩ | e'
          · rw [(k1 j hj1).2]; exact low r2 g0 e j c hj2
          · subst e; subst e'
            exact absurd rfl (hd 0 1 g0 (by omega) rfl))
        have f2 : ρ2 (id + 2) = none := by rw [(k2 _ (by omega)).1, (k1 _ (by omega)).1]; exact hid 2 (by omega)
        obtain ⟨ρ3, s3, ⟨c3, a3, rfl⟩, k3, m3⟩ := adopt1 s2 hB r3 f2 e3 (fun g0 e j c hj => by
          rcases m2 j g0 c hj with ⟨hj1, hj2⟩ | e'
          · rcases m1 j g0 c hj2 with ⟨hj3, hj4⟩ | e'
            · rw [(k2 j hj1).2, (k1 j hj3).2]; exact low r3 g0 e j c hj4
            · subst e; subst e'
              exact absurd rfl (hd 0 2 g0 (by omega) rfl)
          · subst e; subst e'
            exact absurd rfl (hd 1 2 g0 (by omega) rfl))
        rw [setRows_append, setRows_append]
        have a1' := a1.ext (P := fun _ => True) (S' := S) (w' := w) (ρ' := ρ3) (row' := (((st.setRows l1).setRows l2).setRows l3).row) (fun _ h => h) (fun _ _ => rfl) (fun j l r _ h3 h4 => by
          have hj : j ≠ id + 1 := by rintro rfl; rw [f1] at h3; cases h3
          have hj2 : j ≠ id + 2 := by rintro rfl; rw [(k1 _ (by omega)).1, hid 2 (by omega)] at h3; cases h3
          exact ⟨(k3 j hj2).1.trans ((k2 j hj).1.trans h3), r, (k3 j hj2).2.trans ((k2 j hj).2.trans h4), .refl r⟩) (fun _ _ => trivial)
        have a2' := a2.ext (P := fun _ => True) (S' := S) (w' := w) (ρ' := ρ3) (row' := (((st.setRows l1).setRows l2).setRows l3).row) (fun _ h => h) (fun _ _ => rfl) (fun j l r _ h3 h4 => by
          have hj2 : j ≠ id + 2 := by rintro rfl; rw [f2] at h3; cases h3
          exact ⟨(k3 j hj2).1.trans h3, r, (k3 j hj2).2.trans h4, .refl r⟩) (fun _ _ => trivial)
        refine ⟨ρ3, s3, .inr ⟨_, .tup [b1, b2, b3] [c1, c2, c3] rfl (fun i b c hb hc => ?_), rfl⟩, fun j hj hn => ?_⟩
        · match i, hb, hc with
          | 0, hb, hc => cases hb; cases hc; exact a1'
          | 1, hb, hc => cases hb; cases hc; exact a2'
          | 2, hb, hc => cases hb; cases hc; exact a3
          | i + 3, hb, hc => simp at hb
        · rw [(k3 j (by omega)).1, (k2 j (by omega)).1, (k1 j (by omega)).1]; exact hj
    | _ :: _ :: _ :: _ :: _, hi, _, _, _ => simp [instR] at hi
  | _ => exact single hr (by simpa only [instR] using hi)
end

section
variable {P : Program} {E : Env} {w0 : World} {B : Nat} {pv : Nat → Value} {S : Nat → Prop} {ρ : Nat → Option Loc} {st : St} {a : Act} {w : World} {o : Oper} {id : Nat} {K : Act → World → Prop} {Q : Exit → Act → World → Prop}
variable (hE : EnvOk P E) (hs : Sim w0 B pv S ρ st a w) (hgl : GlOk E S w) (hd : dstOk o st.nt = true) {G : Cal → List AV → AV → Prop} (hG : GOk P E pv G)
include hs hgl hd hG

theorem step_meets {cal : Cal} {args : List AV} {vs : List Value} {dr : Bool} {u : Upd} (hid : ∀ c, c < 4 → ρ (id + c) = none)
    (hrun : ∀ R : Value → World → Prop, (match cal with | .f n => Goes P n vs.toArray w | .par i => GoesV P (pv i) vs.toArray w) R → RunsTo P R ((execOp a.eval o).run P w))
    (hvl : vs.length = args.length) (hva : ∀ (i : Nat) b v, args[i]? = some b → vs[i]? = some v → VR S w ρ st.row pv b v) (h : CallR G st.row dr id cal args u)
    (hK : Nx E w0 B pv S ρ st o.dst u id K) : o.wp P a w K Q := by
  obtain ⟨cl, r, av, news, hcl, hg, hi, hu⟩ := h
  have hm := hG cal cl r hg
  obtain ⟨hl1, hl2⟩ := mapO_get hcl
  have argsOk : ∀ S1 : Nat → Prop, (∀ b, S b → S1 b) → (∀ b, b ∈ args → Cov S1 w ρ st.row 6 b) → ArgsOk S1 w pv cl vs := fun S1 hsub hcov => by
    refine ⟨hvl.trans hl1.symm, fun i b v hb hv => ?_⟩
    obtain ⟨c, h1, h2⟩ := hl2 i b hb
    obtain ⟨cs, h3, h4⟩ := vr_ar (hva i c v h1 hv) (by rintro rfl; simp [closeR] at h2)
    exact ⟨cs, closeR_ok hs.hs hsub h2 h3 (hcov c (List.mem_of_getElem? h1)), by rw [h4, valOf, valOf, closeR_ag h2]⟩
  -- the caller goes on from here
  have fin : ∀ {S1 S2 : Nat → Prop} {st1 : St} {v : Value} {w' : World}, Sim w0 B pv S1 ρ st1 a w → Grew B S S1 → GlOk E S1 w → Below w.heap.size w w' → (∀ b, S1 b → S2 b) → (∀ b, S2 b → S1 b ∨ (w.heap.size ≤ b ∧ b < w'.heap.size)) → RR S2 w' w.heap.size pv r v →
      (∀ S3 ρ3, Sim w0 B pv S3 ρ3 (((st1.setRows news)).putO o.dst av) (a.put o.dst v) w' → GlOk E S3 w' → Grew B S S3 → (∀ j, ρ j = none → ¬ (id ≤ j ∧ j < id + 4) → ρ3 j = none) → K (a.put o.dst v) w') → st1.nt = st.nt → K (a.put o.dst v) w' := by
    intro S1 S2 st1 v w' h1 hsub hgl1 hb hS hS2 hrr hk hnt
    have hold : ∀ b, b < w.heap.size → w'.heap[b]? = w.heap[b]? := fun b hb' => hb.block b hb'
    have h2 := h1.grow (w' := w') (S' := S2) (ρ' := ρ) (row' := st1.row) (h1.below.trans (hb.mono h1.hB)) hb.size hold hS hS2 (fun id l h => ⟨h, rfl⟩) (fun id r l h3 h4 _ => by rw [h3] at h4; cases h4) (fun id id' g c c' h3 _ h4 => by rw [h3] at h4; cases h4)
    have h2 : Sim w0 B pv S2 ρ st1 a w' := h2.cong rfl rfl rfl
    obtain ⟨ρ3, h3, h4, h5⟩ := inst_ok h2 h1.hB hrr hid hi (fun j g c h6 h7 => by
      cases h8 : st1.row j with
      | none => exact absurd h8 h7
      | some r0 => exact (h1.hs.rows j r0 _ h8 h6).lt)
    refine hk S2 ρ3 (h3.put ?_ h4) (hgl1.mono hS fun b hb' => hold b (h1.hs.stab b hb')) (hsub.trans ⟨hS, fun b hb' => (hS2 b hb').imp _root_.id fun h => Nat.le_trans h1.hB h.1⟩) h5
    have : (st1.setRows news).nt = st.nt := by
      rw [← hnt]
      clear hi hu hk h3 h4
      generalize st1 = s
      induction news generalizing s with
      | nil => rfl
      | cons p l ih => exact ih (s.setRow p.1 p.2)
    rw [this]
    exact dst_lt hd
  rcases hu with ⟨hl, rfl⟩ | ⟨heps, _, rfl⟩
  · have hall := argsOk (fun b => b < w.heap.size) hs.hs.stab (fun b _ => .inl fun _ h => h)
    refine wp_runsTo (hrun _ ?_)
    have := hm (fun b => b < w.heap.size) w vs (fun _ h => h) (hgl.mono hs.hs.stab fun _ _ => rfl) hall
    have step : ∀ v w', (Below w.heap.size w w' ∧ ∃ S' : Nat → Prop, (∀ b, b < w.heap.size → S' b) ∧ (∀ b, S' b → b < w.heap.size ∨ (w.heap.size ≤ b ∧ b < w'.heap.size)) ∧ RR S' w' w.heap.size pv r v) → K (a.put o.dst v) w' := fun v w' ⟨hb, S', _, _, hrr⟩ =>
      fin (S1 := S) (S2 := S) hs (Grew.refl _ _) hgl hb (fun _ h => h) (fun _ h => .inl h) (rr_flat hl hs.hs.stab hrr) (fun S3 ρ3 h1 h2 h3 h4 => hK S3 ρ3 _ _ h1 h2 h3 h4) rfl
    cases cal with
    | f n => exact RunsTo.mono this step
    | par i => exact RunsTo.mono this step
  · have hzf := hs.frzs (idsL args)
    have hall := argsOk (frzS S ρ st.row (idsL args)) (fun _ h => .inl h) (fun b hb => by
      obtain ⟨k, hk⟩ := List.getElem?_of_mem hb
      exact .inr ⟨anyL_false (f := epsN 6) heps hk, fun j hj r g c hr hz hl => .inr ⟨j, idsL_mem hb hj, r, c, hr, hz, hl⟩⟩)
    refine wp_runsTo (hrun _ ?_)
    have hgl1 : GlOk E (frzS S ρ st.row (idsL args)) w := hgl.mono (fun _ h => .inl h) (fun _ _ => rfl)
    have := hm (frzS S ρ st.row (idsL args)) w vs hzf.hs.stab hgl1 hall
    have step : ∀ v w', (Below w.heap.size w w' ∧ ∃ S' : Nat → Prop, (∀ b, frzS S ρ st.row (idsL args) b → S' b) ∧ (∀ b, S' b → frzS S ρ st.row (idsL args) b ∨ (w.heap.size ≤ b ∧ b < w'.heap.size)) ∧ RR S' w' w.heap.size pv r v) → K (a.put o.dst v) w' := fun v w' ⟨hb, S', h1, h2, hrr⟩ =>
      fin (S1 := frzS S ρ st.row (idsL args)) (S2 := S') hzf (grew_frz hs _) hgl1 hb h1 h2 hrr (fun S3 ρ3 h1 h2 h3 h4 => hK S3 ρ3 _ _ h1 h2 h3 h4) (freeze_slot _ st).2
    cases cal with
    | f n => exact RunsTo.mono this step
    | par i => exact RunsTo.mono this step
theorem step_call {args : Array Operand} {ats : Array TypeId} {f : Operand} {dr : Bool} {u : Upd} (ho : o.op = .call { callee := .value f, args := args, argTypes := ats }) (hid : ∀ c, c < 4 → ρ (id + c) = none)
    (h : (∃ g caps, ev E st f = .clo g caps ∧ CallR G st.row dr id (.f g) (mapE (ev E st) args.toList ++ caps) u) ∨ (∃ i, ev E st f = .par i ∧ CallR G st.row dr id (.par i) (mapE (ev E st) args.toList) u))
    (hK : Nx E w0 B pv S ρ st o.dst u id K) : o.wp P a w K Q := by
  have ef := ev_ok hgl hs f
  have hargs : ∀ (i : Nat) b v, (mapE (ev E st) args.toList)[i]? = some b → (args.toList.map a.eval)[i]? = some v → VR S w ρ st.row pv b v := fun i b v hb hv => by
    rw [mapE_eq, List.getElem?_map] at hb
    rw [List.getElem?_map] at hv
    cases hx : args.toList[i]? with
    | none => rw [hx] at hb; cases hb
    | some x =>
      rw [hx] at hb hv
      cases hb; cases hv
      exact ev_ok hgl hs x
  have hlen : (args.toList.map a.eval).length = (mapE (ev E st) args.toList).length := by simp [mapE_eq]
  rcases h with ⟨g, caps, hf, h⟩ | ⟨i, hf, h⟩
  · rw [hf] at ef
    obtain ⟨cs, h', h2⟩ := vr_ar ef (by simp)
    cases h' with
    | clo _ _ css hl hh =>
      simp only [valOf, isAg, cond_false, List.headD_cons] at h2
      have hcapl : (valsOf caps css).length = caps.length := by
        have : ∀ (l : List AV) (m : List (List Value)), l.length = m.length → (valsOf l m).length = l.length := fun l => by
          induction l with
          | nil => intro m _; rfl
          | cons x l ih => intro m hm; cases m with
            | nil => simp at hm
            | cons c m => simp [valsOf, ih m (by simpa using hm)]
        exact this caps css hl
      refine step_meets hs hgl hd hG (vs := args.toList.map a.eval ++ valsOf caps css) hid (fun R hR => ?_) (by simp [hlen, hcapl]) (fun k b v hb hv => ?_) h hK
      · have e : (execOp a.eval o).run P w = (callFunc g (args.toList.map a.eval ++ valsOf caps css).toArray).run P w := by
          unfold execOp
          simp only [ho, resolve, h2, Deferred.ofValue, invoke, Sem.run_bind, Sem.run_pure, Result.andThen_ok]
          congr 2
          apply Array.ext'
          simp
        rw [e]; exact hR
      · rw [List.getElem?_append] at hb hv
        rw [hlen] at hv
        split at hb
        · rename_i hlt
          rw [if_pos hlt] at hv
          exact hargs k b v hb hv
        · rename_i hlt
          rw [if_neg hlt] at hv
          obtain ⟨c, h3, h4⟩ := valsOf_get hl hb
          rw [h4] at hv
          cases hv
          exact .inr ⟨c, hh _ b c hb h3, rfl⟩
  · rw [hf] at ef
    obtain ⟨cs, h', h2⟩ := vr_ar ef (by simp)
    cases h' with
    | par _ h1 =>
      simp only [valOf, isAg, cond_false, List.headD_cons] at h2
      refine step_meets hs hgl hd hG (vs := args.toList.map a.eval) hid (fun R hR => ?_) hlen hargs h hK
      have e : (execOp a.eval o).run P w = (do let d ← Deferred.ofValue (pv i) (args.toList.map a.eval).toArray; invoke d.target d.args : Sem Next).run P w := by
        unfold execOp
        have : args.map a.eval = (args.toList.map a.eval).toArray := by apply Array.ext'; simp
        simp only [ho, resolve, h2, this]
      rw [e]; exact hR
end
end Go.Gx
