/- What is printed of a function, tied to the machine. -/
import Derived.Test.YtnffgabfibafjaaDoorGxLoop
namespace Go.Gx
open Go.RowKit
set_option linter.unusedVariables false
set_option linter.unusedSimpArgs false

def CG (C : Orc) : Cal → List AV → AV → Prop := fun cal av res => C cal av some = some res
def LG (L : LOrc) : Nat → St → Ex → St → Prop := fun b st e st' => L b st (fun e s => some (e, s)) = some (e, st')

theorem mem_keys {b : Nat} {d : Code} : ∀ {l : List (Nat × Code)}, (b, d) ∈ l → b ∈ keysOf l
  | [], h => by cases h
  | p :: l, h => by
    rcases List.mem_cons.1 h with e | h
    · subst e; exact List.mem_cons_self
    · exact List.mem_cons_of_mem _ (mem_keys h)
theorem findL_mem : ∀ {l : List (Nat × Code)} {b : Nat} {d : Code}, (keysOf l).Nodup → (b, d) ∈ l → findL b l = d
  | [], b, d, _, h => by cases h
  | p :: l, b, d, hn, h => by
    obtain ⟨h1, h2⟩ := List.nodup_cons.1 (show (p.1 :: keysOf l).Nodup from hn)
    unfold findL
    rcases List.mem_cons.1 h with e | h
    · subst e; simp
    · have hne : p.1 ≠ b := by rintro rfl; exact h1 (mem_keys h)
      rw [beq_eq, decide_eq_false hne]
      exact findL_mem h2 h
theorem loopsOf_sub : ∀ {c : Code} {b : Nat} {p q : Nat × Code}, p ∈ loopsOf b c → q ∈ loopsOf p.1 p.2 → q ∈ loopsOf b c
  | .seq x y, b, p, q, hp, hq => by
    rcases List.mem_append.1 hp with hp | hp
    · exact List.mem_append_left _ (loopsOf_sub hp hq)
    · exact List.mem_append_right _ (loopsOf_sub hp hq)
  | .cond _ x y, b, p, q, hp, hq => by
    rcases List.mem_append.1 hp with hp | hp
    · exact List.mem_append_left _ (loopsOf_sub hp hq)
    · exact List.mem_append_right _ (loopsOf_sub hp hq)
  | .block id c, b, p, q, hp, hq => loopsOf_sub (c := c) (b := id) hp hq
  | .loop c, b, p, q, hp, hq => by
    rcases List.mem_cons.1 hp with e | hp
    · subst e; exact List.mem_cons_of_mem _ hq
    · exact List.mem_cons_of_mem _ (loopsOf_sub hp hq)
  | .skip, _, _, _, hp, _ => by cases hp
  | .region .., _, _, _, hp, _ => by cases hp
  | .exit _, _, _, _, hp, _ => by cases hp
  | .ret, _, _, _, hp, _ => by cases hp
  | .rangeFunc .., _, _, _, hp, _ => by cases hp
  | .scope _, _, _, _, hp, _ => by cases hp
  | .label _, _, _, _, hp, _ => by cases hp
  | .goto _, _, _, _, hp, _ => by cases hp
  | .refuse _, _, _, _, hp, _ => by cases hp
theorem loopAt_eq {f : Func} {c : Code} (hb : f.body = some c) (h : loopsOk f = true) {p : Nat × Code} (hp : p ∈ loopsOf 0 c) : loopAt f p.1 = p.2 := by
  unfold loopsOk at h
  unfold loopAt
  rw [hb] at h ⊢
  exact findL_mem (distinctL_nodup h) hp
theorem viewN_some {nt : Nat} {st : St} {l : List Sp} {x : SX l} (h : viewN nt st l = some x) : st.nt = nt ∧ view (st.freeze (rdIds st l)) l = some x := by
  unfold viewN at h
  split at h
  · rename_i e; exact ⟨Nat.eq_of_beq_eq_true e, h⟩
  · cases h

/-- A round of a loop, by what is printed of it. -/
def StepOk (E : Env) (C : Orc) (L : LOrc) (nt : Nat) (d : Code) (b : Nat) (e : Ex) (st st' : St) : Prop :=
  ∃ sp : List Sp, ∃ x : SX sp, spOk sp = true ∧ viewN nt st sp = some x ∧ ∃ Y : Type, ∃ y : Y, ∃ cont : Ex → St → Option Y, runC E C L b d (stOf nt sp x) cont = some y ∧
    ∀ e1 st1, cont e1 st1 = some y → (e1 = .normal ∧ LG L b st1 e st') ∨ (e1 = e ∧ e ≠ .normal ∧ ∃ sp' : List Sp, ∃ x' : SX sp', spOk sp' = true ∧ viewN nt st1 sp' = some x' ∧ st' = stOf nt sp' x')

theorem rounds_ok {P : Program} {E : Env} {pv : Nat → Value} (hE : EnvOk P E) {C : Nat → Orc} {L : Nat → LOrc} (hC : ∀ k, OrcIs (C k) (CG (C k))) (hL : ∀ k, LIs (L k) (LG (L k))) {fn : Func} {c : Code} (hb : fn.body = some c) (hok : loopsOk fn = true)
    {n : Nat} (hG : ∀ k, k < n → GOk P E pv (CG (C k))) (h0 : ∀ b st e st', ¬ LG (L 0) b st e st') (hS : ∀ k b e st st', b ∈ keysOf (loopsOf 0 c) → LG (L (k + 1)) b st e st' → StepOk E (C k) (L k) fn.ntmps (loopAt fn b) b e st st') :
    ∀ (k : Nat), k ≤ n → ∀ (w0 : World) (B : Old), ∀ p ∈ loopsOf 0 c, ∀ (st : St) (e : Ex) (st' : St) (S : Nat → Prop) (ρ : Nat → Option Loc) (a : Act) (w : World) (Q : Exit → Act → World → Prop), LG (L k) p.1 st e st' → Sim w0 B pv S ρ st a w → GlOk E S w →
      (∀ S' ρ' a' w', Sim w0 B pv S' ρ' st' a' w' → GlOk E S' w' → Grew B S S' → Q (exw e) a' w') → Code.rounds P p.2 Q k a w
  | 0, _, _, _, _, _, _, _, _, _, _, _, _, _, h, _, _, _ => absurd h (h0 _ _ _ _)
  | k + 1, hkn, w0, B, p, hp, st, e, st', S, ρ, a, w, Q, h, hs, hgl, hQ => by
    have ih := rounds_ok hE hC hL hb hok hG h0 hS k (by omega) w0 B
    obtain ⟨sp, x, hsp, hv, Y, y, cont, hrun, hcont⟩ := hS k p.1 e st st' (mem_keys hp) h
    rw [loopAt_eq hb hok hp] at hrun
    obtain ⟨hnt, hv⟩ := viewN_some hv
    have hgf := grew_frz hs (rdIds st sp)
    obtain ⟨ρ1, hs1⟩ := (hs.frzs (rdIds st sp)).view hv hsp
    rw [(freeze_slot _ st).2, hnt] at hs1
    obtain ⟨e1, st1, hcr, hc1⟩ := runC_rel (hC k) (hL k) _ _ _ hrun
    rw [rounds_succ]
    have hloops : ∀ q ∈ loopsOf p.1 p.2, LoopSound P E w0 B pv q.2 (LG (L k) q.1) := fun q hq st e st' S ρ a w Q h hs hgl hQ =>
      wp_loop_rounds k (ih q (loopsOf_sub hp hq) st e st' S ρ a w Q h hs hgl hQ)
    refine code_ok hE (hG k (by omega)) hcr hloops hs1 (hgl.mono (fun _ h => .inl h) (fun _ _ => rfl)) fun S1 ρ2 a1 w1 hs2 hgl2 hg => ?_
    have hg := hgf.trans hg
    rcases hcont e1 st1 hc1 with ⟨rfl, hl⟩ | ⟨rfl, hne, sp', x', hsp', hv', rfl⟩
    · exact ih p hp st1 e st' S1 ρ2 a1 w1 Q hl hs2 hgl2 fun S2 ρ3 a2 w2 hs3 hgl3 hg3 => hQ S2 ρ3 a2 w2 hs3 hgl3 (hg.trans hg3)
    · obtain ⟨hnt', hv'⟩ := viewN_some hv'
      have hgf' := grew_frz hs2 (rdIds st1 sp')
      obtain ⟨ρ3, hs3⟩ := (hs2.frzs (rdIds st1 sp')).view hv' hsp'
      rw [(freeze_slot _ st1).2, hnt'] at hs3
      have := hQ _ ρ3 a1 w1 hs3 (hgl2.mono (fun _ h => .inl h) (fun _ _ => rfl)) (hg.trans hgf')
      cases e1 with
      | normal => exact absurd rfl hne
      | exit id => exact this
      | ret => exact this

/-! ### Answers, seen as of a kind -/
inductive Wk1 : AV → AV → Prop
  | refl (a : AV) : Wk1 a a
  | nilFr (e : Nat) (τ : Ty) (h : 0 < nc τ) : Wk1 .nil (.fr e τ [])
  | nilT (e : Ty) : Wk1 .nil (.t (.sl e) [])
  | frT (e : Nat) (τ : Ty) (xs : List (den τ)) : Wk1 (.fr e τ xs) (.t (.sl τ) xs)
theorem rk_wk {k : RK} {a : AV} {x : k.X} (h : k.view a = some x) : Wk1 a (k.val x) := by
  cases k with
  | t τ =>
    simp only [RK.view] at h
    split at h
    · rename_i e σ xs
      split at h
      · rename_i ρ
        split at h
        · rename_i e' _
          subst e'
          cases h
          exact .frT e _ xs
        · cases h
      · cases h
    · rename_i hn
      rcases asT_form h with rfl | rfl
      · exact .refl _
      · cases τ <;> simp [asT] at h
        subst h
        exact .nilT _
  | fr e τ =>
    simp only [RK.view] at h
    split at h
    · rename_i e' σ xs
      split at h
      · rename_i e'' _ he
        subst e''
        cases h
        have := Nat.eq_of_beq_eq_true he
        subst this
        exact .refl _
      · cases h
    · split at h
      · rename_i hp
        cases h
        exact .nilFr e τ (Nat.le_of_ble_eq_true hp)
      · cases h
    · cases h
theorem R1.new {S : Nat → Prop} {w : World} {n0 : Nat} {pv : Nat → Value} {a : AV} {v : Value} {b : Nat} (h : R1 S w n0 pv a v (some b)) : n0 ≤ b ∧ b < w.heap.size ∧ ¬ S b := by
  cases h with
  | fr e τ xs g cap hg hS hr => exact ⟨hg, hr.lt, hS⟩
theorem wk1_ok {S : Nat → Prop} {w : World} {n0 : Nat} {pv : Nat → Value} {a a' : AV} {v : Value} {g : Option Nat} (h : Wk1 a a') (hr : R1 S w n0 pv a v g) :
    ∃ g', (g' = none ∨ g' = g) ∧ ∀ S2 : Nat → Prop, (∀ b, S b → S2 b) → (∀ b, g = some b → g' = none → S2 b) → (∀ b, g' = some b → ¬ S2 b) → R1 S2 w n0 pv a' v g' := by
  have row : ∀ {S2 : Nat → Prop} {e : Nat} {τ : Ty} {xs : List (den τ)} {l : Loc}, (∀ b, S b → S2 b) → RowOk S w (fun _ => none) (fun _ => none) pv (.flat e τ xs false true) l → RowOk S2 w (fun _ => none) (fun _ => none) pv (.flat e τ xs false true) l := fun hsub h =>
    h.ext (P := fun _ => True) hsub (fun _ _ => rfl) (fun id l r _ h1 => by cases h1) (fun _ _ _ => rfl) (fun _ _ e => by cases e)
  cases h with
  | refl =>
    refine ⟨g, .inr rfl, fun S2 hsub _ hn => ?_⟩
    cases hr with
    | plain _ cs ha => exact .plain a cs (ha.ext (P := fun _ => True) hsub (fun _ _ => rfl) (fun id l r _ h1 => by cases h1) (fun _ _ => trivial))
    | fr e τ xs g cap hg hS hrow => exact .fr e τ xs g cap hg (hn g rfl) (row hsub hrow)
    | frNil e τ hp => exact .frNil e τ hp
  | nilFr e τ hp =>
    refine ⟨none, .inl rfl, fun S2 hsub _ _ => ?_⟩
    cases hr with
    | plain _ cs ha => cases ha; exact .frNil e τ hp
  | nilT e =>
    refine ⟨none, .inl rfl, fun S2 hsub _ _ => ?_⟩
    cases hr with
    | plain _ cs ha => cases ha; exact .plain (.t (.sl e) []) _ (.t _ _ _ (cr_nil S2 w e))
  | frT e τ xs =>
    refine ⟨none, .inl rfl, fun S2 hsub hS2 _ => ?_⟩
    cases hr with
    | plain _ cs ha => cases ha
    | fr _ _ _ g cap hg hS hrow =>
      obtain ⟨cur, f, h1, h2, h3, h4, h5, h6, h7, h8⟩ := row hsub hrow
      have hx : ∀ i, ∃ cs, ∀ (hi : i < xs.length), CR S2 w τ xs[i] cs ∧ ∀ j v, cs[j]? = some v → cur[i * nc τ + j]? = some v := fun i => by
        by_cases hi : i < xs.length
        · obtain ⟨cs, hc⟩ := h8 i hi
          exact ⟨cs, fun _ => hc⟩
        · exact ⟨[], fun h => absurd h hi⟩
      refine .plain (.t (.sl τ) xs) [.slice (some ⟨g, 0, none⟩) xs.length cap] (.t _ _ _ (.sl τ xs _ cap (fun i => Classical.choose (hx i)) h3 h4 (fun i hi => (Classical.choose_spec (hx i) hi).1) fun i hi => ⟨g, 0, rfl, hS2 g rfl rfl, fun j v hj => ?_⟩))
      have := (Classical.choose_spec (hx i) hi).2 j v hj
      simp only [World.cell?, h1, Nat.zero_add]
      simpa using this
    | frNil _ _ hp => exact .plain (.t (.sl τ) []) _ (.t _ _ _ (cr_nil S2 w τ))
def Wk (r r' : AV) : Prop := ((∀ l, r ≠ .tup l) ∧ (∀ l, r' ≠ .tup l) ∧ Wk1 r r') ∨ ∃ rs rs', r = .tup rs ∧ r' = .tup rs' ∧ rs'.length = rs.length ∧ ∀ (i : Nat) a a', rs[i]? = some a → rs'[i]? = some a' → Wk1 a a'
theorem rr_one {S : Nat → Prop} {w : World} {n0 : Nat} {pv : Nat → Value} {r : AV} {v : Value} (h : ∀ l, r ≠ .tup l) : RR S w n0 pv r v ↔ ∃ g, R1 S w n0 pv r v g := by
  cases r with
  | tup l => exact absurd rfl (h l)
  | _ => exact Iff.rfl
theorem rr_wk {S : Nat → Prop} {w : World} {n0 : Nat} {pv : Nat → Value} {r r' : AV} {v : Value} (h : Wk r r') (hr : RR S w n0 pv r v) :
    ∃ S2 : Nat → Prop, (∀ b, S b → S2 b) ∧ (∀ b, S2 b → S b ∨ (n0 ≤ b ∧ b < w.heap.size)) ∧ RR S2 w n0 pv r' v := by
  rcases h with ⟨h1, h2, h3⟩ | ⟨rs, rs', rfl, rfl, hl, hw⟩
  · obtain ⟨g, hg⟩ := (rr_one h1).1 hr
    obtain ⟨g', h4, h5⟩ := wk1_ok h3 hg
    refine ⟨fun b => S b ∨ (g = some b ∧ g' = none), fun b hb => .inl hb, fun b hb => hb.imp _root_.id fun ⟨e, _⟩ => by subst e; exact ⟨hg.new.1, hg.new.2.1⟩, (rr_one h2).2 ⟨g', h5 _ (fun b hb => .inl hb) (fun b e1 e2 => .inr ⟨e1, e2⟩) fun b e => ?_⟩⟩
    rcases h4 with h4 | h4
    · rw [h4] at e; cases e
    · rw [h4] at e
      subst e
      rintro (hb | ⟨_, hb⟩)
      · exact hg.new.2.2 hb
      · rw [h4] at hb; cases hb
  · obtain ⟨vs, gs, rfl, hvl, hgl, hc, hd⟩ := hr
    have key : ∀ i : Nat, ∃ g' : Option Nat, ∀ a a' v g, rs[i]? = some a → rs'[i]? = some a' → vs[i]? = some v → gs[i]? = some g → (g' = none ∨ g' = g) ∧ ∀ S2 : Nat → Prop, (∀ b, S b → S2 b) → (∀ b, g = some b → g' = none → S2 b) → (∀ b, g' = some b → ¬ S2 b) → R1 S2 w n0 pv a' v g' := fun i => by
      by_cases hi : i < rs.length
      · have e1 : rs[i]? = some rs[i] := List.getElem?_eq_getElem hi
        have e2 : rs'[i]? = some rs'[i] := List.getElem?_eq_getElem (by omega)
        have e3 : vs[i]? = some vs[i] := List.getElem?_eq_getElem (by omega)
        have e4 : gs[i]? = some gs[i] := List.getElem?_eq_getElem (by omega)
        obtain ⟨g', h1, h2⟩ := wk1_ok (hw i _ _ e1 e2) (hc i _ _ _ e1 e3 e4)
        refine ⟨g', fun a a' v g f1 f2 f3 f4 => ?_⟩
        rw [e1] at f1; rw [e2] at f2; rw [e3] at f3; rw [e4] at f4
        cases f1; cases f2; cases f3; cases f4
        exact ⟨h1, h2⟩
      · exact ⟨none, fun a a' v g f1 => by rw [List.getElem?_eq_none (by omega)] at f1; cases f1⟩
    obtain ⟨gf, hgf⟩ : ∃ gf : Nat → Option Nat, ∀ (i : Nat) a a' v g, rs[i]? = some a → rs'[i]? = some a' → vs[i]? = some v → gs[i]? = some g → (gf i = none ∨ gf i = g) ∧ ∀ S2 : Nat → Prop, (∀ b, S b → S2 b) → (∀ b, g = some b → gf i = none → S2 b) → (∀ b, gf i = some b → ¬ S2 b) → R1 S2 w n0 pv a' v (gf i) :=
      ⟨fun i => Classical.choose (key i), fun i => Classical.choose_spec (key i)⟩
    have full : ∀ i g, gs[i]? = some g → ∃ a v, rs[i]? = some a ∧ vs[i]? = some v ∧ R1 S w n0 pv a v g := fun i g hg => by
      have hi := (List.getElem?_eq_some_iff.1 hg).1
      have e1 : rs[i]? = some rs[i] := List.getElem?_eq_getElem (by omega)
      have e3 : vs[i]? = some vs[i] := List.getElem?_eq_getElem (by omega)
      exact ⟨_, _, e1, e3, hc i _ _ _ e1 e3 hg⟩
    refine ⟨fun b => S b ∨ ∃ i : Nat, gs[i]? = some (some b) ∧ gf i = none, fun b hb => .inl hb, fun b hb => ?_, vs, (List.range rs.length).map gf, rfl, by omega, by simp [hl], fun i r v g h1 h2 h3 => ?_, fun i j g hij h1 h2 => ?_⟩
    · rcases hb with hb | ⟨i, hi, _⟩
      · exact .inl hb
      · obtain ⟨a, v, _, _, h1⟩ := full i _ hi
        exact .inr ⟨h1.new.1, h1.new.2.1⟩
    · have hi : i < rs.length := by have := (List.getElem?_eq_some_iff.1 h1).1; omega
      have e1 : rs[i]? = some rs[i] := List.getElem?_eq_getElem hi
      have e4 : gs[i]? = some gs[i] := List.getElem?_eq_getElem (by omega)
      simp only [List.getElem?_map, List.getElem?_range hi, Option.map_some, Option.some.injEq] at h3
      subst h3
      obtain ⟨h5, h6⟩ := hgf i _ _ _ _ e1 h1 h2 e4
      refine h6 _ (fun b hb => .inl hb) (fun b e1 e2 => .inr ⟨i, by rw [e4, e1], e2⟩) fun b e => ?_
      rcases h5 with h5 | h5
      · rw [h5] at e; cases e
      · rw [h5] at e
        rw [e] at e4
        obtain ⟨_, _, _, _, h7⟩ := full i _ e4
        rintro (hb | ⟨j, hj, hb⟩)
        · exact h7.new.2.2 hb
        · by_cases hij : i = j
          · subst hij; rw [h5, e] at hb; cases hb
          · exact hd i j b hij e4 hj
    · have hi : i < rs.length := by have := (List.getElem?_eq_some_iff.1 h1).1; simpa using this
      have hj : j < rs.length := by have := (List.getElem?_eq_some_iff.1 h2).1; simpa using this
      simp only [List.getElem?_map, List.getElem?_range hi, List.getElem?_range hj, Option.map_some, Option.some.injEq] at h1 h2
      have f : ∀ i, i < rs.length → gf i = some g → gs[i]? = some (some g) := fun i hi h => by
        have e1 : rs[i]? = some rs[i] := List.getElem?_eq_getElem hi
        have e2 : rs'[i]? = some rs'[i] := List.getElem?_eq_getElem (by omega)
        have e3 : vs[i]? = some vs[i] := List.getElem?_eq_getElem (by omega)
        have e4 : gs[i]? = some gs[i] := List.getElem?_eq_getElem (by omega)
        rcases (hgf i _ _ _ _ e1 e2 e3 e4).1 with h5 | h5
        · rw [h5] at h; cases h
        · rw [e4, ← h5, h]
      exact hd i j g hij (f i hi h1) (f j hj h2)
theorem Goes.mono {P : Program} {E : Env} {pv : Nat → Value} {cal : Cal} {args args' : List AV} {r r' : AV} (h : Meets P E pv cal args r) (hw : Wk r r') (ha : ∀ S w vs, ArgsOk S w pv args' vs → ArgsOk S w pv args vs) : Meets P E pv cal args' r' := by
  intro S w vs hst hgl hargs
  have := h S w vs hst hgl (ha S w vs hargs)
  have step : ∀ v w', (Below w.heap.size w w' ∧ ∃ S' : Nat → Prop, (∀ b, S b → S' b) ∧ (∀ b, S' b → S b ∨ (w.heap.size ≤ b ∧ b < w'.heap.size)) ∧ RR S' w' w.heap.size pv r v) → (Below w.heap.size w w' ∧ ∃ S' : Nat → Prop, (∀ b, S b → S' b) ∧ (∀ b, S' b → S b ∨ (w.heap.size ≤ b ∧ b < w'.heap.size)) ∧ RR S' w' w.heap.size pv r' v) := fun v w' ⟨hb, S', h1, h2, h3⟩ => by
    obtain ⟨S2, h4, h5, h6⟩ := rr_wk hw h3
    exact ⟨hb, S2, fun b hb => h4 b (h1 b hb), fun b hb => (h5 b hb).elim (h2 b) .inr, h6⟩
  cases cal with
  | f n => exact RunsTo.mono this step
  | par i => exact RunsTo.mono this step
theorem viewT_get : ∀ {tys : List Ty} {av : List AV} {x : TX tys}, viewT tys av = some x → av.length = (tvals tys x).length ∧ ∀ (i : Nat) a b, av[i]? = some a → (tvals tys x)[i]? = some b → ∃ τ, ∃ y : den τ, b = .t τ y ∧ asT τ a = some y
  | [], [], x, _ => ⟨rfl, fun i a b h => by simp at h⟩
  | [], _ :: _, x, h => by simp [viewT] at h
  | τ :: l, [], x, h => by simp [viewT] at h
  | τ :: l, a :: as, x, h => by
    simp only [viewT] at h
    split at h
    · rename_i x0 hx
      split at h
      · rename_i y hy
        cases h
        obtain ⟨h1, h2⟩ := viewT_get hy
        refine ⟨by simp [tvals, h1], fun i b c hb hc => ?_⟩
        cases i with
        | zero => cases hb; cases hc; exact ⟨τ, x0, rfl, hx⟩
        | succ i => exact h2 i b c (by simpa using hb) (by simpa [tvals] using hc)
      · cases h
    · cases h
theorem meets_args {P : Program} {E : Env} {pv : Nat → Value} {cal : Cal} {tys : List Ty} {av : List AV} {x : TX tys} {r : AV} (hx : viewT tys av = some x) (h : Meets P E pv cal (tvals tys x) r) : Meets P E pv cal av r := by
  obtain ⟨h1, h2⟩ := viewT_get hx
  refine Goes.mono h ?_ fun S w vs ⟨h3, h4⟩ => ⟨h3.trans h1, fun i b v hb hv => ?_⟩
  · cases r with
    | tup rs => exact .inr ⟨rs, rs, rfl, rfl, rfl, fun i a a' e1 e2 => by rw [e1] at e2; cases e2; exact .refl a⟩
    | _ => exact .inl ⟨fun l h => (by cases h), fun l h => (by cases h), .refl _⟩
  · have hi := (List.getElem?_eq_some_iff.1 hb).1
    have ha : av[i]? = some av[i] := List.getElem?_eq_getElem (by omega)
    obtain ⟨τ, y, rfl, hy⟩ := h2 i _ b ha hb
    obtain ⟨cs, h5, h6⟩ := h4 i _ v ha hv
    exact ⟨cs, .t τ y cs (asT_ar hy h5), by rw [h6, valOf, valOf, asT_ag hy]⟩

/-! ### A function -/
theorem no_loops {P : Program} {E : Env} {pv : Nat → Value} {L : LOrc} (h : ∀ b st e st', ¬ LG L b st e st') (l : List (Nat × Code)) : ∀ w0 B, ∀ p ∈ l, LoopSound P E w0 B pv p.2 (LG L p.1) :=
  fun w0 B p _ st e st' S ρ a w Q hl => absurd hl (h _ _ _ _)
theorem wk_view1 {k : RK} {r : AV} {y : k.X} (h : viewR1 k r = some y) : Wk r (k.val y) := by
  refine .inl ⟨fun l e => ?_, fun l e => ?_, rk_wk h⟩
  · subst e; cases k <;> simp [viewR1, RK.view, asT] at h
  · cases k <;> cases e
theorem wk_view2 {k l : RK} {r : AV} {y : k.X × l.X} (h : viewR2 k l r = some y) : Wk r (.tup [k.val y.1, l.val y.2]) := by
  unfold viewR2 at h
  split at h
  · rename_i a b
    split at h
    · rename_i x z hx hz
      cases h
      refine .inr ⟨_, _, rfl, rfl, rfl, fun i c d hc hd => ?_⟩
      match i, hc, hd with
      | 0, hc, hd => cases hc; cases hd; exact rk_wk hx
      | 1, hc, hd => cases hc; cases hd; exact rk_wk hz
      | i + 2, hc, _ => simp at hc
    · cases h
  · cases h
theorem wk_view3 {k l m : RK} {r : AV} {y : k.X × l.X × m.X} (h : viewR3 k l m r = some y) : Wk r (.tup [k.val y.1, l.val y.2.1, m.val y.2.2]) := by
  unfold viewR3 at h
  split at h
  · rename_i a b c
    split at h
    · rename_i x z u hx hz hu
      cases h
      refine .inr ⟨_, _, rfl, rfl, rfl, fun i c d hc hd => ?_⟩
      match i, hc, hd with
      | 0, hc, hd => cases hc; cases hd; exact rk_wk hx
      | 1, hc, hd => cases hc; cases hd; exact rk_wk hz
      | 2, hc, hd => cases hc; cases hd; exact rk_wk hu
      | i + 3, hc, _ => simp at hc
    · cases h
  · cases h
theorem fun_good {P : Program} {E : Env} {pv : Nat → Value} (hE : EnvOk P E) {C : Orc} {L : LOrc} (hC : OrcIs C (CG C)) (hL : LIs L (LG L)) (hG : GOk P E pv (CG C)) {f : FuncId} {fn : Func} {c : Code} (hf : P.funcs[f]? = some fn) (hb : fn.body = some c) (hname : (fn.name == "runtime.NumGoroutine") = false)
    (hl : ∀ w0 B, ∀ p ∈ loopsOf 0 c, LoopSound P E w0 B pv p.2 (LG L p.1)) {args : List AV} (hn : args.length ≤ fn.ntmps) {R : Type} {K : AV → Option R} {y : R} (hrun : runF E C L fn args K = some y) {r' : AV} (hw : ∀ r, K r = some y → Wk r r') : Meets P E pv (.f f) args r' := by
  obtain ⟨c', res, e, st, rs, as, hfr, hk⟩ := runF_rel hC hL hrun
  have hcc : c' = c := by have := hfr.body; rw [hb] at this; cases this; rfl
  subst hcc
  exact Goes.mono (funR_meets hE hG hf hname hfr hn hl) (hw res hk) fun _ _ _ h => h
end Go.Gx
