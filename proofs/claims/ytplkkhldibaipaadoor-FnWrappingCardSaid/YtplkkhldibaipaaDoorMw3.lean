/- What is printed of a function, tied to the machine. -/
import Derived.Test.YtplkkhldibaipaaDoorMw2
import Derived.ChangeSame
import Derived.Carry
import Derived.WideKeyArgs
import Derived.Deep.Slices
import Derived.ProofKit
import Derived.Test.YtplkkhldibaipaaDoorMw1
import Derived.Laws.StructEq
import Derived.Lib.Strings
section
namespace Go.Gx
open Go.RowKit
set_option linter.unusedVariables false
set_option linter.unusedSimpArgs false

def CG (C : Orc) : Cal → List AV → AV → Prop := fun cal av res => C cal av some = some res
def LG (L : LOrc) : Nat → St → Ex → St → Prop := fun b st e st' => L b st (fun e s => some (e, s)) = some (e, st')

theorem mem_keys {b : Nat} {d : Code} : ∀ {l : List (Nat × Code)}, (b, d) ∈ l → b ∈ keysOf l
  | [], h => by cases h
  | p :: l, h => by
    rcases List.mem_cons.1 h with e | h
    · subst e; exact List.mem_cons_self
    · exact List.mem_cons_of_mem _ (mem_keys h)
theorem findL_mem : ∀ {l : List (Nat × Code)} {b : Nat} {d : Code}, (keysOf l).Nodup → (b, d) ∈ l → findL b l = d
  | [], b, d, _, h => by cases h
  | p :: l, b, d, hn, h => by
    obtain ⟨h1, h2⟩ := List.nodup_cons.1 (show (p.1 :: keysOf l).Nodup from hn)
    unfold findL
    rcases List.mem_cons.1 h with e | h
    · subst e; simp
    · have hne : p.1 ≠ b := by rintro rfl; exact h1 (mem_keys h)
      rw [beq_eq, decide_eq_false hne]
      exact findL_mem h2 h
theorem loopsOf_sub : ∀ {c : Code} {b : Nat} {p q : Nat × Code}, p ∈ loopsOf b c → q ∈ loopsOf p.1 p.2 → q ∈ loopsOf b c
  | .seq x y, b, p, q, hp, hq => by
    rcases List.mem_append.1 hp with hp | hp
    · exact List.mem_append_left _ (loopsOf_sub hp hq)
    · exact List.mem_append_right _ (loopsOf_sub hp hq)
  | .cond _ x y, b, p, q, hp, hq => by
    rcases List.mem_append.1 hp with hp | hp
    · exact List.mem_append_left _ (loopsOf_sub hp hq)
    · exact List.mem_append_right _ (loopsOf_sub hp hq)
  | .block id c, b, p, q, hp, hq => loopsOf_sub (c := c) (b := id) hp hq
  | .loop c, b, p, q, hp, hq => by
    rcases List.mem_cons.1 hp with e | hp
    · subst e; exact List.mem_cons_of_mem _ hq
    · exact List.mem_cons_of_mem _ (loopsOf_sub hp hq)
  | .skip, _, _, _, hp, _ => by cases hp
  | .region .., _, _, _, hp, _ => by cases hp
  | .exit _, _, _, _, hp, _ => by cases hp
  | .ret, _, _, _, hp, _ => by cases hp
  | .rangeFunc .., _, _, _, hp, _ => by cases hp
  | .scope _, _, _, _, hp, _ => by cases hp
  | .label _, _, _, _, hp, _ => by cases hp
  | .goto _, _, _, _, hp, _ => by cases hp
  | .refuse _, _, _, _, hp, _ => by cases hp
theorem loopAt_eq {f : Func} {c : Code} (hb : f.body = some c) (h : loopsOk f = true) {p : Nat × Code} (hp : p ∈ loopsOf 0 c) : loopAt f p.1 = p.2 := by
  unfold loopsOk at h
  unfold loopAt
  rw [hb] at h ⊢
  exact findL_mem (distinctL_nodup h) hp
theorem viewN_some {nt : Nat} {st : St} {l : List Sp} {x : SX l} (h : viewN nt st l = some x) : st.nt = nt ∧ view ((renam st l).freeze (rdIds (renam st l) l)) l = some x := by
  unfold viewN at h
  split at h
  · rename_i e; exact ⟨Nat.eq_of_beq_eq_true e, h⟩
  · cases h

/-- A round of a loop, by what is printed of it. -/
def StepOk (E : Env) (C : Orc) (L : LOrc) (nt : Nat) (d : Code) (b : Nat) (e : Ex) (st st' : St) : Prop :=
  ∃ sp : List Sp, ∃ x : SX sp, spOk sp = true ∧ viewN nt st sp = some x ∧ ∃ Y : Type, ∃ y : Y, ∃ cont : Ex → St → Option Y, runC E C L b d (stOf nt sp x) cont = some y ∧
    ∀ e1 st1, cont e1 st1 = some y → (e1 = .normal ∧ LG L b st1 e st') ∨ (e1 = e ∧ e ≠ .normal ∧ ∃ sp' : List Sp, ∃ x' : SX sp', spOk sp' = true ∧ viewN nt st1 sp' = some x' ∧ st' = stOf nt sp' x')

theorem rounds_ok {P : Program} {E : Env} {pv : Nat → Value} (hE : EnvOk P E) {C : Nat → Orc} {L : Nat → LOrc} (hC : ∀ k, OrcIs (C k) (CG (C k))) (hL : ∀ k, LIs (L k) (LG (L k))) {fn : Func} {c : Code} (hb : fn.body = some c) (hok : loopsOk fn = true)
    {n : Nat} (hG : ∀ k, k < n → GOk P E pv (CG (C k))) (h0 : ∀ b st e st', ¬ LG (L 0) b st e st') (hS : ∀ k b e st st', b ∈ keysOf (loopsOf 0 c) → LG (L (k + 1)) b st e st' → StepOk E (C k) (L k) fn.ntmps (loopAt fn b) b e st st') :
    ∀ (k : Nat), k ≤ n → ∀ (w0 : World) (B : Old), ∀ p ∈ loopsOf 0 c, ∀ (st : St) (e : Ex) (st' : St) (S : Nat → Prop) (ρ : Nat → Option Loc) (a : Act) (w : World) (Q : Exit → Act → World → Prop), LG (L k) p.1 st e st' → Sim w0 B pv S ρ st a w → GlOk E S w →
      (∀ S' ρ' a' w', Sim w0 B pv S' ρ' st' a' w' → GlOk E S' w' → Grew B S S' → Q (exw e) a' w') → Code.rounds P p.2 Q k a w
  | 0, _, _, _, _, _, _, _, _, _, _, _, _, _, h, _, _, _ => absurd h (h0 _ _ _ _)
  | k + 1, hkn, w0, B, p, hp, st, e, st', S, ρ, a, w, Q, h, hs, hgl, hQ => by
    have ih := rounds_ok hE hC hL hb hok hG h0 hS k (by omega) w0 B
    obtain ⟨sp, x, hsp, hv, Y, y, cont, hrun, hcont⟩ := hS k p.1 e st st' (mem_keys hp) h
    rw [loopAt_eq hb hok hp] at hrun
    obtain ⟨hnt, hv⟩ := viewN_some hv
    obtain ⟨ρ0, hs0⟩ := hs.renam sp
    have hgf := grew_frz hs0 (rdIds (renam st sp) sp)
    obtain ⟨ρ1, hs1⟩ := (hs0.frzs (rdIds (renam st sp) sp)).view hv hsp
    rw [(freeze_slot _ (renam st sp)).2, renam_nt, hnt] at hs1
    obtain ⟨e1, st1, hcr, hc1⟩ := runC_rel (hC k) (hL k) _ _ _ hrun
    rw [rounds_succ]
    have hloops : ∀ q ∈ loopsOf p.1 p.2, LoopSound P E w0 B pv q.2 (LG (L k) q.1) := fun q hq st e st' S ρ a w Q h hs hgl hQ =>
      wp_loop_rounds k (ih q (loopsOf_sub hp hq) st e st' S ρ a w Q h hs hgl hQ)
    refine code_ok hE (hG k (by omega)) hcr hloops hs1 (hgl.mono (fun _ h => .inl h) (fun _ _ => rfl)) fun S1 ρ2 a1 w1 hs2 hgl2 hg => ?_
    have hg := hgf.trans hg
    rcases hcont e1 st1 hc1 with ⟨rfl, hl⟩ | ⟨rfl, hne, sp', x', hsp', hv', rfl⟩
    · exact ih p hp st1 e st' S1 ρ2 a1 w1 Q hl hs2 hgl2 fun S2 ρ3 a2 w2 hs3 hgl3 hg3 => hQ S2 ρ3 a2 w2 hs3 hgl3 (hg.trans hg3)
    · obtain ⟨hnt', hv'⟩ := viewN_some hv'
      obtain ⟨ρ0', hs0'⟩ := hs2.renam sp'
      have hgf' := grew_frz hs0' (rdIds (renam st1 sp') sp')
      obtain ⟨ρ3, hs3⟩ := (hs0'.frzs (rdIds (renam st1 sp') sp')).view hv' hsp'
      rw [(freeze_slot _ (renam st1 sp')).2, renam_nt, hnt'] at hs3
      have := hQ _ ρ3 a1 w1 hs3 (hgl2.mono (fun _ h => .inl h) (fun _ _ => rfl)) (hg.trans hgf')
      cases e1 with
      | normal => exact absurd rfl hne
      | exit id => exact this
      | ret => exact this

/-! ### Answers, seen as of a kind -/
inductive Wk1 : AV → AV → Prop
  | refl (a : AV) : Wk1 a a
  | nilFr (e : Nat) (τ : Ty) (h : 0 < nc τ) : Wk1 .nil (.fr e τ [])
  | nilT (e : Ty) : Wk1 .nil (.t (.sl e) [])
  | frT (e : Nat) (τ : Ty) (xs : List (den τ)) : Wk1 (.fr e τ xs) (.t (.sl τ) xs)
theorem rk_wk {k : RK} {a : AV} {x : k.X} (h : k.view a = some x) : Wk1 a (k.val x) := by
  cases k with
  | t τ =>
    simp only [RK.view] at h
    split at h
    · rename_i e σ xs
      split at h
      · rename_i ρ
        split at h
        · rename_i e' _
          subst e'
          cases h
          exact .frT e _ xs
        · cases h
      · cases h
    · rename_i hn
      rcases asT_form h with rfl | rfl
      · exact .refl _
      · cases τ <;> simp [asT] at h
        subst h
        exact .nilT _
  | fr e τ =>
    simp only [RK.view] at h
    split at h
    · rename_i e' σ xs
      split at h
      · rename_i e'' _ he
        subst e''
        cases h
        have := Nat.eq_of_beq_eq_true he
        subst this
        exact .refl _
      · cases h
    · split at h
      · rename_i hp
        cases h
        exact .nilFr e τ (Nat.le_of_ble_eq_true hp)
      · cases h
    · cases h
theorem R1.new {S : Nat → Prop} {w : World} {n0 : Nat} {pv : Nat → Value} {a : AV} {v : Value} {b : Nat} (h : R1 S w n0 pv a v (some b)) : n0 ≤ b ∧ b < w.heap.size ∧ ¬ S b := by
  cases h with
  | fr e τ xs g cap hg hS hr => exact ⟨hg, hr.lt, hS⟩
theorem wk1_ok {S : Nat → Prop} {w : World} {n0 : Nat} {pv : Nat → Value} {a a' : AV} {v : Value} {g : Option Nat} (h : Wk1 a a') (hr : R1 S w n0 pv a v g) :
    ∃ g', (g' = none ∨ g' = g) ∧ ∀ S2 : Nat → Prop, (∀ b, S b → S2 b) → (∀ b, g = some b → g' = none → S2 b) → (∀ b, g' = some b → ¬ S2 b) → R1 S2 w n0 pv a' v g' := by
  have row : ∀ {S2 : Nat → Prop} {e : Nat} {τ : Ty} {xs : List (den τ)} {l : Loc}, (∀ b, S b → S2 b) → RowOk S w (fun _ => none) (fun _ => none) pv (.flat e τ xs false true) l → RowOk S2 w (fun _ => none) (fun _ => none) pv (.flat e τ xs false true) l := fun hsub h =>
    h.ext (P := fun _ => True) hsub (fun _ _ => rfl) (fun id l r _ h1 => by cases h1) (fun _ _ _ => rfl) (fun _ _ e => by cases e)
  cases h with
  | refl =>
    refine ⟨g, .inr rfl, fun S2 hsub _ hn => ?_⟩
    cases hr with
    | plain _ cs ha => exact .plain a cs (ha.ext (P := fun _ => True) hsub (fun _ _ => rfl) (fun id l r _ h1 => by cases h1) (fun _ _ => trivial))
    | fr e τ xs g cap hg hS hrow => exact .fr e τ xs g cap hg (hn g rfl) (row hsub hrow)
    | frNil e τ hp => exact .frNil e τ hp
  | nilFr e τ hp =>
    refine ⟨none, .inl rfl, fun S2 hsub _ _ => ?_⟩
    cases hr with
    | plain _ cs ha => cases ha; exact .frNil e τ hp
  | nilT e =>
    refine ⟨none, .inl rfl, fun S2 hsub _ _ => ?_⟩
    cases hr with
    | plain _ cs ha => cases ha; exact .plain (.t (.sl e) []) _ (.t _ _ _ (cr_nil S2 w e))
  | frT e τ xs =>
    refine ⟨none, .inl rfl, fun S2 hsub hS2 _ => ?_⟩
    cases hr with
    | plain _ cs ha => cases ha
    | fr _ _ _ g cap hg hS hrow =>
      obtain ⟨cur, f, h1, h2, h3, h4, h5, h6, h7, h8⟩ := row hsub hrow
      have hx : ∀ i, ∃ cs, ∀ (hi : i < xs.length), CR S2 w τ xs[i] cs ∧ ∀ j v, cs[j]? = some v → cur[i * nc τ + j]? = some v := fun i => by
        by_cases hi : i < xs.length
        · obtain ⟨cs, hc⟩ := h8 i hi
          exact ⟨cs, fun _ => hc⟩
        · exact ⟨[], fun h => absurd h hi⟩
      refine .plain (.t (.sl τ) xs) [.slice (some ⟨g, 0, none⟩) xs.length cap] (.t _ _ _ (.sl τ xs _ cap (fun i => Classical.choose (hx i)) h3 h4 (fun i hi => (Classical.choose_spec (hx i) hi).1) fun i hi => ⟨g, 0, rfl, hS2 g rfl rfl, fun j v hj => ?_⟩))
      have := (Classical.choose_spec (hx i) hi).2 j v hj
      simp only [World.cell?, h1, Nat.zero_add]
      simpa using this
    | frNil _ _ hp => exact .plain (.t (.sl τ) []) _ (.t _ _ _ (cr_nil S2 w τ))
def Wk (r r' : AV) : Prop := ((∀ l, r ≠ .tup l) ∧ (∀ l, r' ≠ .tup l) ∧ Wk1 r r') ∨ ∃ rs rs', r = .tup rs ∧ r' = .tup rs' ∧ rs'.length = rs.length ∧ ∀ (i : Nat) a a', rs[i]? = some a → rs'[i]? = some a' → Wk1 a a'
theorem rr_one {S : Nat → Prop} {w : World} {n0 : Nat} {pv : Nat → Value} {r : AV} {v : Value} (h : ∀ l, r ≠ .tup l) : RR S w n0 pv r v ↔ ∃ g, R1 S w n0 pv r v g := by
  cases r with
  | tup l => exact absurd rfl (h l)
  | _ => exact Iff.rfl
theorem rr_wk {S : Nat → Prop} {w : World} {n0 : Nat} {pv : Nat → Value} {r r' : AV} {v : Value} (h : Wk r r') (hr : RR S w n0 pv r v) :
    ∃ S2 : Nat → Prop, (∀ b, S b → S2 b) ∧ (∀ b, S2 b → S b ∨ (n0 ≤ b ∧ b < w.heap.size)) ∧ RR S2 w n0 pv r' v := by
  rcases h with ⟨h1, h2, h3⟩ | ⟨rs, rs', rfl, rfl, hl, hw⟩
  · obtain ⟨g, hg⟩ := (rr_one h1).1 hr
    obtain ⟨g', h4, h5⟩ := wk1_ok h3 hg
    refine ⟨fun b => S b ∨ (g = some b ∧ g' = none), fun b hb => .inl hb, fun b hb => hb.imp _root_.id fun ⟨e, _⟩ => by subst e; exact ⟨hg.new.1, hg.new.2.1⟩, (rr_one h2).2 ⟨g', h5 _ (fun b hb => .inl hb) (fun b e1 e2 => .inr ⟨e1, e2⟩) fun b e => ?_⟩⟩
    rcases h4 with h4 | h4
    · rw [h4] at e; cases e
    · rw [h4] at e
      subst e
      rintro (hb | ⟨_, hb⟩)
      · exact hg.new.2.2 hb
      · rw [h4] at hb; cases hb
  · obtain ⟨vs, gs, rfl, hvl, hgl, hc, hd⟩ := hr
    have key : ∀ i : Nat, ∃ g' : Option Nat, ∀ a a' v g, rs[i]? = some a → rs'[i]? = some a' → vs[i]? = some v → gs[i]? = some g → (g' = none ∨ g' = g) ∧ ∀ S2 : Nat → Prop, (∀ b, S b → S2 b) → (∀ b, g = some b → g' = none → S2 b) → (∀ b, g' = some b → ¬ S2 b) → R1 S2 w n0 pv a' v g' := fun i => by
      by_cases hi : i < rs.length
      · have e1 : rs[i]? = some rs[i] := List.getElem?_eq_getElem hi
        have e2 : rs'[i]? = some rs'[i] := List.getElem?_eq_getElem (by omega)
        have e3 : vs[i]? = some vs[i] := List.getElem?_eq_getElem (by omega)
        have e4 : gs[i]? = some gs[i] := List.getElem?_eq_getElem (by omega)
        obtain ⟨g', h1, h2⟩ := wk1_ok (hw i _ _ e1 e2) (hc i _ _ _ e1 e3 e4)
        refine ⟨g', fun a a' v g f1 f2 f3 f4 => ?_⟩
        rw [e1] at f1; rw [e2] at f2; rw [e3] at f3; rw [e4] at f4
        cases f1; cases f2; cases f3; cases f4
        exact ⟨h1, h2⟩
      · exact ⟨none, fun a a' v g f1 => by rw [List.getElem?_eq_none (by omega)] at f1; cases f1⟩
    obtain ⟨gf, hgf⟩ : ∃ gf : Nat → Option Nat, ∀ (i : Nat) a a' v g, rs[i]? = some a → rs'[i]? = some a' → vs[i]? = some v → gs[i]? = some g → (gf i = none ∨ gf i = g) ∧ ∀ S2 : Nat → Prop, (∀ b, S b → S2 b) → (∀ b, g = some b → gf i = none → S2 b) → (∀ b, gf i = some b → ¬ S2 b) → R1 S2 w n0 pv a' v (gf i) :=
      ⟨fun i => Classical.choose (key i), fun i => Classical.choose_spec (key i)⟩
    have full : ∀ i g, gs[i]? = some g → ∃ a v, rs[i]? = some a ∧ vs[i]? = some v ∧ R1 S w n0 pv a v g := fun i g hg => by
      have hi := (List.getElem?_eq_some_iff.1 hg).1
      have e1 : rs[i]? = some rs[i] := List.getElem?_eq_getElem (by omega)
      have e3 : vs[i]? = some vs[i] := List.getElem?_eq_getElem (by omega)
      exact ⟨_, _, e1, e3, hc i _ _ _ e1 e3 hg⟩
    refine ⟨fun b => S b ∨ ∃ i : Nat, gs[i]? = some (some b) ∧ gf i = none, fun b hb => .inl hb, fun b hb => ?_, vs, (List.range rs.length).map gf, rfl, by omega, by simp [hl], fun i r v g h1 h2 h3 => ?_, fun i j g hij h1 h2 => ?_⟩
    · rcases hb with hb | ⟨i, hi, _⟩
      · exact .inl hb
      · obtain ⟨a, v, _, _, h1⟩ := full i _ hi
        exact .inr ⟨h1.new.1, h1.new.2.1⟩
    · have hi : i < rs.length := by have := (List.getElem?_eq_some_iff.1 h1).1; omega
      have e1 : rs[i]? = some rs[i] := List.getElem?_eq_getElem hi
      have e4 : gs[i]? = some gs[i] := List.getElem?_eq_getElem (by omega)
      simp only [List.getElem?_map, List.getElem?_range hi, Option.map_some, Option.some.injEq] at h3
      subst h3
      obtain ⟨h5, h6⟩ := hgf i _ _ _ _ e1 h1 h2 e4
      refine h6 _ (fun b hb => .inl hb) (fun b e1 e2 => .inr ⟨i, by rw [e4, e1], e2⟩) fun b e => ?_
      rcases h5 with h5 | h5
      · rw [h5] at e; cases e
      · rw [h5] at e
        rw [e] at e4
        obtain ⟨_, _, _, _, h7⟩ := full i _ e4
        rintro (hb | ⟨j, hj, hb⟩)
        · exact h7.new.2.2 hb
        · by_cases hij : i = j
          · subst hij; rw [h5, e] at hb; cases hb
          · exact hd i j b hij e4 hj
    · have hi : i < rs.length := by have := (List.getElem?_eq_some_iff.1 h1).1; simpa using this
      have hj : j < rs.length := by have := (List.getElem?_eq_some_iff.1 h2).1; simpa using this
      simp only [List.getElem?_map, List.getElem?_range hi, List.getElem?_range hj, Option.map_some, Option.some.injEq] at h1 h2
      have f : ∀ i, i < rs.length → gf i = some g → gs[i]? = some (some g) := fun i hi h => by
        have e1 : rs[i]? = some rs[i] := List.getElem?_eq_getElem hi
        have e2 : rs'[i]? = some rs'[i] := List.getElem?_eq_getElem (by omega)
        have e3 : vs[i]? = some vs[i] := List.getElem?_eq_getElem (by omega)
        have e4 : gs[i]? = some gs[i] := List.getElem?_eq_getElem (by omega)
        rcases (hgf i _ _ _ _ e1 e2 e3 e4).1 with h5 | h5
        · rw [h5] at h; cases h
        · rw [e4, ← h5, h]
      exact hd i j g hij (f i hi h1) (f j hj h2)
theorem Goes.mono {P : Program} {E : Env} {pv : Nat → Value} {cal : Cal} {args args' : List AV} {r r' : AV} (h : Meets P E pv cal args r) (hw : Wk r r') (ha : ∀ S w vs, ArgsOk S w pv args' vs → ArgsOk S w pv args vs) : Meets P E pv cal args' r' := by
  intro S w vs hst hgl hargs
  have := h S w vs hst hgl (ha S w vs hargs)
  have step : ∀ v w', (Below w.heap.size w w' ∧ ∃ S' : Nat → Prop, (∀ b, S b → S' b) ∧ (∀ b, S' b → S b ∨ (w.heap.size ≤ b ∧ b < w'.heap.size)) ∧ RR S' w' w.heap.size pv r v) → (Below w.heap.size w w' ∧ ∃ S' : Nat → Prop, (∀ b, S b → S' b) ∧ (∀ b, S' b → S b ∨ (w.heap.size ≤ b ∧ b < w'.heap.size)) ∧ RR S' w' w.heap.size pv r' v) := fun v w' ⟨hb, S', h1, h2, h3⟩ => by
    obtain ⟨S2, h4, h5, h6⟩ := rr_wk hw h3
    exact ⟨hb, S2, fun b hb => h4 b (h1 b hb), fun b hb => (h5 b hb).elim (h2 b) .inr, h6⟩
  cases cal with
  | f n => exact RunsTo.mono this step
  | par i => exact RunsTo.mono this step
theorem viewT_get : ∀ {tys : List Ty} {av : List AV} {x : TX tys}, viewT tys av = some x → av.length = (tvals tys x).length ∧ ∀ (i : Nat) a b, av[i]? = some a → (tvals tys x)[i]? = some b → ∃ τ, ∃ y : den τ, b = .t τ y ∧ asT τ a = some y
  | [], [], x, _ => ⟨rfl, fun i a b h => by simp at h⟩
  | [], _ :: _, x, h => by simp [viewT] at h
  | τ :: l, [], x, h => by simp [viewT] at h
  | τ :: l, a :: as, x, h => by
    simp only [viewT] at h
    split at h
    · rename_i x0 hx
      split at h
      · rename_i y hy
        cases h
        obtain ⟨h1, h2⟩ := viewT_get hy
        refine ⟨by simp [tvals, h1], fun i b c hb hc => ?_⟩
        cases i with
        | zero => cases hb; cases hc; exact ⟨τ, x0, rfl, hx⟩
        | succ i => exact h2 i b c (by simpa using hb) (by simpa [tvals] using hc)
      · cases h
    · cases h
theorem meets_args {P : Program} {E : Env} {pv : Nat → Value} {cal : Cal} {tys : List Ty} {av : List AV} {x : TX tys} {r : AV} (hx : viewT tys av = some x) (h : Meets P E pv cal (tvals tys x) r) : Meets P E pv cal av r := by
  obtain ⟨h1, h2⟩ := viewT_get hx
  refine Goes.mono h ?_ fun S w vs ⟨h3, h4⟩ => ⟨h3.trans h1, fun i b v hb hv => ?_⟩
  · cases r with
    | tup rs => exact .inr ⟨rs, rs, rfl, rfl, rfl, fun i a a' e1 e2 => by rw [e1] at e2; cases e2; exact .refl a⟩
    | _ => exact .inl ⟨fun l h => (by cases h), fun l h => (by cases h), .refl _⟩
  · have hi := (List.getElem?_eq_some_iff.1 hb).1
    have ha : av[i]? = some av[i] := List.getElem?_eq_getElem (by omega)
    obtain ⟨τ, y, rfl, hy⟩ := h2 i _ b ha hb
    obtain ⟨cs, h5, h6⟩ := h4 i _ v ha hv
    exact ⟨cs, .t τ y cs (asT_ar hy h5), by rw [h6, valOf, valOf, asT_ag hy]⟩

/-! ### A function -/
theorem no_loops {P : Program} {E : Env} {pv : Nat → Value} {L : LOrc} (h : ∀ b st e st', ¬ LG L b st e st') (l : List (Nat × Code)) : ∀ w0 B, ∀ p ∈ l, LoopSound P E w0 B pv p.2 (LG L p.1) :=
  fun w0 B p _ st e st' S ρ a w Q hl => absurd hl (h _ _ _ _)
theorem wk_view1 {k : RK} {r : AV} {y : k.X} (h : viewR1 k r = some y) : Wk r (k.val y) := by
  refine .inl ⟨fun l e => ?_, fun l e => ?_, rk_wk h⟩
  · subst e; cases k <;> simp [viewR1, RK.view, asT] at h
  · cases k <;> cases e
theorem wk_view2 {k l : RK} {r : AV} {y : k.X × l.X} (h : viewR2 k l r = some y) : Wk r (.tup [k.val y.1, l.val y.2]) := by
  unfold viewR2 at h
  split at h
  · rename_i a b
    split at h
    · rename_i x z hx hz
      cases h
      refine .inr ⟨_, _, rfl, rfl, rfl, fun i c d hc hd => ?_⟩
      match i, hc, hd with
      | 0, hc, hd => cases hc; cases hd; exact rk_wk hx
      | 1, hc, hd => cases hc; cases hd; exact rk_wk hz
      | i + 2, hc, _ => simp at hc
    · cases h
  · cases h
theorem wk_view3 {k l m : RK} {r : AV} {y : k.X × l.X × m.X} (h : viewR3 k l m r = some y) : Wk r (.tup [k.val y.1, l.val y.2.1, m.val y.2.2]) := by
  unfold viewR3 at h
  split at h
  · rename_i a b c
    split at h
    · rename_i x z u hx hz hu
      cases h
      refine .inr ⟨_, _, rfl, rfl, rfl, fun i c d hc hd => ?_⟩
      match i, hc, hd with
      | 0, hc, hd => cases hc; cases hd; exact rk_wk hx
      | 1, hc, hd => cases hc; cases hd; exact rk_wk hz
      | 2, hc, hd => cases hc; cases hd; exact rk_wk hu
      | i + 3, hc, _ => simp at hc
    · cases h
  · cases h
theorem fun_good {P : Program} {E : Env} {pv : Nat → Value} (hE : EnvOk P E) {C : Orc} {L : LOrc} (hC : OrcIs C (CG C)) (hL : LIs L (LG L)) (hG : GOk P E pv (CG C)) {f : FuncId} {fn : Func} {c : Code} (hf : P.funcs[f]? = some fn) (hb : fn.body = some c) (hname : (fn.name == "runtime.NumGoroutine") = false)
    (hl : ∀ w0 B, ∀ p ∈ loopsOf 0 c, LoopSound P E w0 B pv p.2 (LG L p.1)) {args : List AV} (hn : args.length ≤ fn.ntmps) {R : Type} {K : AV → Option R} {y : R} (hrun : runF E C L fn args K = some y) {r' : AV} (hw : ∀ r, K r = some y → Wk r r') : Meets P E pv (.f f) args r' := by
  obtain ⟨c', res, e, st, rs, as, hfr, hk⟩ := runF_rel hC hL hrun
  have hcc : c' = c := by have := hfr.body; rw [hb] at this; cases this; rfl
  subst hcc
  exact Goes.mono (funR_meets hE hG hf hname hfr hn hl) (hw res hk) fun _ _ _ h => h
end Go.Gx
end
section
/- Tables of callees and of loops, and what they are tied by. -/
namespace Go.Gx
open Go.RowKit
set_option linter.unusedVariables false
set_option linter.unusedSimpArgs false

/-! ### Callees -/
/-- What is handed over: a row, a variable. -/
inductive MK where
  | fr (e : Nat) (τ : Ty)
  | bx (τ : Ty)
@[reducible] def MK.X : MK → Type
  | .fr _ τ => List (den τ)
  | .bx τ => den τ
def MK.val : (k : MK) → k.X → AV
  | .fr e τ, x => .fr e τ x
  | .bx τ, x => .bx τ x
def MK.view : (k : MK) → AV → Option k.X
  | .fr e τ, a => match a with
    | .fr e' σ xs => match decEq σ τ, Nat.beq e' e with
      | .isTrue h, true => some (h ▸ xs)
      | _, _ => none
    | _ => none
  | .bx τ, a => match a with
    | .bx σ x => match decEq σ τ with
      | .isTrue h => some (h ▸ x)
      | .isFalse _ => none
    | _ => none
theorem MK.view_eq {k : MK} {a : AV} {x : k.X} (h : k.view a = some x) : a = k.val x := by
  cases k with
  | fr e τ =>
    cases a <;> simp only [MK.view] at h <;> try cases h
    split at h
    · rename_i e' _ he
      subst e'
      cases h
      rw [Nat.eq_of_beq_eq_true he]; rfl
    · cases h
  | bx τ =>
    cases a <;> simp only [MK.view] at h <;> try cases h
    split at h
    · rename_i e' _
      subst e'
      cases h
      rfl
    · cases h
/-- An answer of a function that was handed something: what that is then, and the answer proper. -/
def viewK0 (k : MK) : AV → Option k.X
  | .kep o (.tup []) => k.view o
  | _ => none
def viewK {Y : Type} (k : MK) (V : AV → Option Y) : AV → Option (k.X × Y)
  | .kep o r => match k.view o, V r with
    | some a, some b => some (a, b)
    | _, _ => none
  | _ => none
def viewMov (e : Nat) (τ : Ty) : AV → Option (List (den τ))
  | .mov e' σ xs => match decEq σ τ, Nat.beq e' e with
    | .isTrue h, true => some (h ▸ xs)
    | _, _ => none
  | _ => none
inductive WkM : AV → AV → Prop
  | kep (o r r' : AV) (h : Wk r r') : WkM (.kep o r) (.kep o r')
  | mov (e : Nat) (τ : Ty) (ys : List (den τ)) : WkM (.mov e τ ys) (.mov e τ ys)
theorem wk_refl (r : AV) : Wk r r := by
  cases r with
  | tup rs => exact .inr ⟨rs, rs, rfl, rfl, rfl, fun i a a' e1 e2 => by rw [e1] at e2; cases e2; exact .refl a⟩
  | _ => exact .inl ⟨fun l h => (by cases h), fun l h => (by cases h), .refl _⟩
theorem wk_viewK0 {k : MK} {r : AV} {y : k.X} (h : viewK0 k r = some y) : WkM r (.kep (k.val y) (.tup [])) := by
  unfold viewK0 at h
  split at h
  · rw [MK.view_eq h]; exact .kep _ _ _ (wk_refl _)
  · cases h
theorem wk_viewK {Y : Type} {k : MK} {V : AV → Option Y} {out : Y → AV} (hV : ∀ r y, V r = some y → Wk r (out y)) {r : AV} {y : k.X × Y} (h : viewK k V r = some y) : WkM r (.kep (k.val y.1) (out y.2)) := by
  unfold viewK at h
  split at h
  · split at h
    · rename_i a b ha hb
      cases h
      rw [MK.view_eq ha]
      exact .kep _ _ _ (hV _ _ hb)
    · cases h
  · cases h
theorem wk_viewMov {e : Nat} {τ : Ty} {r : AV} {y : List (den τ)} (h : viewMov e τ r = some y) : WkM r (.mov e τ y) := by
  unfold viewMov at h
  split at h
  · split at h
    · rename_i e' _ he
      subst e'
      cases h
      rw [Nat.eq_of_beq_eq_true he]
      exact .mov _ _ _
    · cases h
  · cases h
theorem MeetsM.mono {P : Program} {E : Env} {pv : Nat → Value} {f : Nat} {a0 : AV} {args : List AV} {r r' : AV} (h : MeetsM P E pv f a0 args r) (hw : WkM r r') : MeetsM P E pv f a0 args r' := by
  intro S w v0 vs l r0 hst hgl hargs hr0 hrow hSl hv0
  have := h S w v0 vs l r0 hst hgl hargs hr0 hrow hSl hv0
  refine RunsTo.mono this fun v w' ⟨hb, S', h1, h2, h3⟩ => ?_
  cases hw with
  | mov e τ ys => exact ⟨hb, S', h1, h2, h3⟩
  | kep o r r' hw =>
    obtain ⟨h4, r1, ro, h5, h6, h7, h8, h9⟩ := h3
    obtain ⟨S2, k1, k2, k3⟩ := rr_wk hw h4
    have hlt : ∀ g c, l = .at g c → g < w.heap.size := fun g c e => by subst e; exact hrow.lt
    refine ⟨hb, S2, fun b hb => k1 b (h1 b hb), fun b hb => ?_, k3, r1, ro, h5, h6, ?_, h8, fun g c e hS => ?_⟩
    · rcases k2 b hb with h | h
      · exact h2 b h
      · exact .inr (.inr h)
    · exact RowOk.ext (P := fun _ => True) k1 (fun _ _ => rfl) (fun id l r _ h1 => by cases h1) h7 (fun _ _ _ => rfl) (fun _ _ _ _ _ => trivial)
    · rcases k2 g hS with h | h
      · exact h9 g c e h
      · have := hlt g c e; omega
/-! ### Arguments of more kinds: plain data, a variable that is read, a function value -/
inductive PK where
  | t (τ : Ty)
  | tp (τ : Ty)
  | clo (g : Nat) (cs : List CK)
@[reducible] def PK.X : PK → Type
  | .t τ => den τ
  | .tp τ => den τ
  | .clo _ cs => CX cs
def PK.val : (k : PK) → k.X → AV
  | .t τ, x => .t τ x
  | .tp τ, x => .tp (.t τ x)
  | .clo g cs, x => .clo g (cvals cs x)
def PK.view : (k : PK) → AV → Option k.X
  | .t τ, a => asT τ a
  | .tp τ, a => match a with
    | .tp b => asT τ b
    | _ => none
  | .clo g cs, a => match a with
    | .clo f caps => match Nat.beq f g with
      | true => viewC cs caps
      | false => none
    | _ => none
@[reducible] def PX : List PK → Type
  | [] => Unit
  | k :: l => k.X × PX l
def pvals : (l : List PK) → PX l → List AV
  | [], _ => []
  | k :: l, x => k.val x.1 :: pvals l x.2
def viewP : (l : List PK) → List AV → Option (PX l)
  | [], [] => some ()
  | k :: l, a :: al => match k.view a with
    | some x => match viewP l al with
      | some y => some (x, y)
      | none => none
    | none => none
  | _, _ => none
section
variable {S : Nat → Prop} {w : World} {ρ : Nat → Option Loc} {row : Nat → Option Row} {pv : Nat → Value}
theorem PK.ok {k : PK} {a : AV} {x : k.X} {cs : List Value} (hx : k.view a = some x) (h : AR S w ρ row pv a cs) : AR S w ρ row pv (k.val x) cs ∧ isAg a = isAg (k.val x) := by
  cases k with
  | t τ => exact ⟨.t _ _ _ (asT_ar hx h), (asT_ag hx).symm⟩
  | tp τ =>
    simp only [PK.view] at hx
    split at hx
    · exact ⟨tp_ar hx h, rfl⟩
    · cases hx
  | clo g ks =>
    simp only [PK.view] at hx
    split at hx
    · rename_i f caps
      split at hx
      · rename_i hf
        obtain rfl := Nat.eq_of_beq_eq_true hf
        exact ⟨clo_view hx h, rfl⟩
      · cases hx
    · cases hx
theorem viewP_get : ∀ {ks : List PK} {av : List AV} {x : PX ks}, viewP ks av = some x → av.length = (pvals ks x).length ∧ ∀ (i : Nat) a b, av[i]? = some a → (pvals ks x)[i]? = some b → ∃ k : PK, ∃ y : k.X, b = k.val y ∧ k.view a = some y
  | [], [], x, _ => ⟨rfl, fun i a b h => by simp at h⟩
  | [], _ :: _, x, h => by simp [viewP] at h
  | k :: l, [], x, h => by simp [viewP] at h
  | k :: l, a :: al, x, h => by
    simp only [viewP] at h
    split at h
    · rename_i x0 hx
      split at h
      · rename_i y hy
        cases h
        obtain ⟨h1, h2⟩ := viewP_get hy
        refine ⟨by simp [pvals, h1], fun i b c hb hc => ?_⟩
        cases i with
        | zero => cases hb; cases hc; exact ⟨k, x0, rfl, hx⟩
        | succ i => exact h2 i b c (by simpa using hb) (by simpa [pvals] using hc)
      · cases h
    · cases h
theorem args_viewP {ks : List PK} {av : List AV} {x : PX ks} {vs : List Value} (hx : viewP ks av = some x) (h : ArgsOk S w pv av vs) : ArgsOk S w pv (pvals ks x) vs := by
  obtain ⟨h1, h2⟩ := viewP_get hx
  obtain ⟨h3, h4⟩ := h
  refine ⟨h3.trans h1, fun i b v hb hv => ?_⟩
  have hi := (List.getElem?_eq_some_iff.1 hb).1
  have ha : av[i]? = some av[i] := List.getElem?_eq_getElem (by omega)
  obtain ⟨k, y, rfl, hy⟩ := h2 i _ b ha hb
  obtain ⟨cs, h5, h6⟩ := h4 i _ v ha hv
  obtain ⟨h7, h8⟩ := PK.ok hy h5
  exact ⟨cs, h7, by rw [h6, valOf, valOf, h8]⟩
end
/-- A callee: its arguments' types, its Lean function, its answer's value. -/
inductive CArm : Type 1
  | p (ps : List Ty) (Y : Type) (F : TX ps → Option Y) (out : Y → AV)
  | m (k : MK) (ps : List Ty) (Y : Type) (F : k.X → TX ps → Option Y) (out : Y → AV)
  | q (ps : List PK) (Y : Type) (F : PX ps → Option Y) (out : Y → AV)
  | mq (k : MK) (ps : List PK) (Y : Type) (F : k.X → PX ps → Option Y) (out : Y → AV)
def CArm.run {R : Type} (A : CArm) (av : List AV) (K : AV → Option R) : Option R := match A with
  | .p ps Y F out => (viewT ps av).bind fun x => (F x).bind fun r => K (out r)
  | .m k ps Y F out => match av with
    | [] => none
    | a0 :: rest => (k.view a0).bind fun x0 => (viewT ps rest).bind fun x => (F x0 x).bind fun r => K (out r)
  | .q ps Y F out => (viewP ps av).bind fun x => (F x).bind fun r => K (out r)
  | .mq k ps Y F out => match av with
    | [] => none
    | a0 :: rest => (k.view a0).bind fun x0 => (viewP ps rest).bind fun x => (F x0 x).bind fun r => K (out r)
def tabC (t : Cal → Option CArm) : Orc := fun cal av K => match t cal with
  | some A => A.run av K
  | none => none
theorem tabC_is (t : Cal → Option CArm) : OrcIs (tabC t) (CG (tabC t)) := by
  intro R cal av K r h
  unfold CG
  unfold tabC at h ⊢
  dsimp only at h ⊢
  split at h
  · rename_i A hA
    cases A with
    | p ps Y F out =>
      simp only [CArm.run] at h ⊢
      obtain ⟨x, hx, h⟩ := Option.bind_eq_some_iff.1 h
      obtain ⟨y, hy, h⟩ := Option.bind_eq_some_iff.1 h
      exact ⟨out y, by simp only [hx, hy, Option.bind_some], h⟩
    | m k ps Y F out =>
      cases av with
      | nil => simp only [CArm.run] at h; cases h
      | cons a0 rest =>
        simp only [CArm.run] at h ⊢
        obtain ⟨x0, hx0, h⟩ := Option.bind_eq_some_iff.1 h
        obtain ⟨x, hx, h⟩ := Option.bind_eq_some_iff.1 h
        obtain ⟨y, hy, h⟩ := Option.bind_eq_some_iff.1 h
        exact ⟨out y, by simp only [hx0, hx, hy, Option.bind_some], h⟩
    | q ps Y F out =>
      simp only [CArm.run] at h ⊢
      obtain ⟨x, hx, h⟩ := Option.bind_eq_some_iff.1 h
      obtain ⟨y, hy, h⟩ := Option.bind_eq_some_iff.1 h
      exact ⟨out y, by simp only [hx, hy, Option.bind_some], h⟩
    | mq k ps Y F out =>
      cases av with
      | nil => simp only [CArm.run] at h; cases h
      | cons a0 rest =>
        simp only [CArm.run] at h ⊢
        obtain ⟨x0, hx0, h⟩ := Option.bind_eq_some_iff.1 h
        obtain ⟨x, hx, h⟩ := Option.bind_eq_some_iff.1 h
        obtain ⟨y, hy, h⟩ := Option.bind_eq_some_iff.1 h
        exact ⟨out y, by simp only [hx0, hx, hy, Option.bind_some], h⟩
  · cases h
def ArmOk (P : Program) (E : Env) (pv : Nat → Value) (cal : Cal) (A : CArm) : Prop := match A with
  | .p ps Y F out => ∀ x y, F x = some y → Meets P E pv cal (tvals ps x) (out y)
  | .m k ps Y F out => ∃ f, cal = .f f ∧ ∀ x0 x y, F x0 x = some y → MeetsM P E pv f (k.val x0) (tvals ps x) (out y)
  | .q ps Y F out => ∀ x y, F x = some y → Meets P E pv cal (pvals ps x) (out y)
  | .mq k ps Y F out => ∃ f, cal = .f f ∧ ∀ x0 x y, F x0 x = some y → MeetsM P E pv f (k.val x0) (pvals ps x) (out y)
theorem args_view {S : Nat → Prop} {w : World} {pv : Nat → Value} {tys : List Ty} {av : List AV} {x : TX tys} {vs : List Value} (hx : viewT tys av = some x) (h : ArgsOk S w pv av vs) : ArgsOk S w pv (tvals tys x) vs := by
  obtain ⟨h1, h2⟩ := viewT_get hx
  obtain ⟨h3, h4⟩ := h
  refine ⟨h3.trans h1, fun i b v hb hv => ?_⟩
  have hi := (List.getElem?_eq_some_iff.1 hb).1
  have ha : av[i]? = some av[i] := List.getElem?_eq_getElem (by omega)
  obtain ⟨τ, y, rfl, hy⟩ := h2 i _ b ha hb
  obtain ⟨cs, h5, h6⟩ := h4 i _ v ha hv
  exact ⟨cs, .t τ y cs (asT_ar hy h5), by rw [h6, valOf, valOf, asT_ag hy]⟩
theorem tabC_ok {P : Program} {E : Env} {pv : Nat → Value} {t : Cal → Option CArm} (h : ∀ cal A, t cal = some A → ArmOk P E pv cal A) : GOk P E pv (CG (tabC t)) := by
  intro cal av r hr
  unfold CG tabC at hr
  dsimp only at hr
  split at hr
  · rename_i A hA
    have hok := h cal A hA
    cases A with
    | p ps Y F out =>
      simp only [CArm.run] at hr
      obtain ⟨x, hx, hr⟩ := Option.bind_eq_some_iff.1 hr
      obtain ⟨y, hy, hr⟩ := Option.bind_eq_some_iff.1 hr
      cases hr
      refine ⟨meets_args hx (hok x y hy), fun f a0 rest e1 e2 hn => ?_⟩
      subst e2
      exfalso
      cases ps with
      | nil => simp [viewT] at hx
      | cons τ ps =>
        simp only [viewT] at hx
        split at hx
        · rename_i y0 hy0
          rcases asT_form hy0 with rfl | rfl <;> exact hn rfl
        · cases hx
    | m k ps Y F out =>
      obtain ⟨f, rfl, hok⟩ := hok
      cases av with
      | nil => simp only [CArm.run] at hr; cases hr
      | cons a0 rest =>
        simp only [CArm.run] at hr
        obtain ⟨x0, hx0, hr⟩ := Option.bind_eq_some_iff.1 hr
        obtain ⟨x, hx, hr⟩ := Option.bind_eq_some_iff.1 hr
        obtain ⟨y, hy, hr⟩ := Option.bind_eq_some_iff.1 hr
        cases hr
        have ha0 := MK.view_eq hx0
        subst ha0
        refine ⟨fun S w vs _ _ ha => ?_, fun f' a0 rest' e1 e2 hn => ?_⟩
        · exfalso
          obtain ⟨hl, ha⟩ := ha
          match vs, hl with
          | v :: vs, _ =>
            obtain ⟨cs, h5, _⟩ := ha 0 _ v rfl rfl
            cases k <;> cases h5
        · cases e1; cases e2
          have hm := hok x0 x y hy
          intro S w v0 vs l r0 hst hgl hargs hr0 hrow hSl hv0
          exact hm S w v0 vs l r0 hst hgl (args_view hx hargs) hr0 hrow hSl hv0
    | q ps Y F out =>
      simp only [CArm.run] at hr
      obtain ⟨x, hx, hr⟩ := Option.bind_eq_some_iff.1 hr
      obtain ⟨y, hy, hr⟩ := Option.bind_eq_some_iff.1 hr
      cases hr
      refine ⟨Goes.mono (hok x y hy) (wk_refl _) fun S w vs ha => args_viewP hx ha, fun f a0 rest e1 e2 hn => ?_⟩
      subst e2
      exfalso
      cases ps with
      | nil => simp [viewP] at hx
      | cons k ps =>
        simp only [viewP] at hx
        split at hx
        · rename_i y0 hy0
          cases k with
          | t τ => rcases asT_form hy0 with rfl | rfl <;> exact hn rfl
          | tp τ =>
            simp only [PK.view] at hy0
            split at hy0
            · exact hn rfl
            · cases hy0
          | clo g cs =>
            simp only [PK.view] at hy0
            split at hy0
            · exact hn rfl
            · cases hy0
        · cases hx
    | mq k ps Y F out =>
      obtain ⟨f, rfl, hok⟩ := hok
      cases av with
      | nil => simp only [CArm.run] at hr; cases hr
      | cons a0 rest =>
        simp only [CArm.run] at hr
        obtain ⟨x0, hx0, hr⟩ := Option.bind_eq_some_iff.1 hr
        obtain ⟨x, hx, hr⟩ := Option.bind_eq_some_iff.1 hr
        obtain ⟨y, hy, hr⟩ := Option.bind_eq_some_iff.1 hr
        cases hr
        have ha0 := MK.view_eq hx0
        subst ha0
        refine ⟨fun S w vs _ _ ha => ?_, fun f' a0 rest' e1 e2 hn => ?_⟩
        · exfalso
          obtain ⟨hl, ha⟩ := ha
          match vs, hl with
          | v :: vs, _ =>
            obtain ⟨cs, h5, _⟩ := ha 0 _ v rfl rfl
            cases k <;> cases h5
        · cases e1; cases e2
          have hm := hok x0 x y hy
          intro S w v0 vs l r0 hst hgl hargs hr0 hrow hSl hv0
          exact hm S w v0 vs l r0 hst hgl (args_viewP hx hargs) hr0 hrow hSl hv0
  · cases hr

/-! ### Loops -/
/-- A loop: its states' shape at the head, its Lean function, how it ends: by one exit, or by one of two. -/
inductive LArm : Type 1
  | one (sp so : List Sp) (Y : Type) (l : Nat → SX sp → Option Y) (e : Ex) (g : Y → SX so) (h : SX so → Y)
  | two (sp so1 so2 : List Sp) (Y Z : Type) (l : Nat → SX sp → Option (Sum Y Z)) (e1 e2 : Ex) (g1 : Y → SX so1) (h1 : SX so1 → Y) (g2 : Z → SX so2) (h2 : SX so2 → Z)
def LArm.run {R : Type} (nt k : Nat) (A : LArm) (st : St) (K : Ex → St → Option R) : Option R := match A with
  | .one sp so Y l e g _ => (viewN nt st sp).bind fun x => (l k x).bind fun y => K e (stOf nt so (g y))
  | .two sp so1 so2 Y Z l e1 e2 g1 _ g2 _ => (viewN nt st sp).bind fun x => (l k x).bind fun y => match y with
    | .inl z => K e1 (stOf nt so1 (g1 z))
    | .inr z => K e2 (stOf nt so2 (g2 z))
def exEq : Ex → Ex → Bool
  | .exit a, .exit b => Nat.beq a b
  | .ret, .ret => true
  | _, _ => false
theorem exEq_eq {a b : Ex} (h : exEq a b = true) : a = b ∧ a ≠ .normal := by
  cases a <;> cases b <;> first
    | exact Bool.noConfusion h
    | (have := Nat.eq_of_beq_eq_true h; subst this; exact ⟨rfl, by simp⟩)
    | exact ⟨rfl, by simp⟩
@[reducible] def LArm.sp : LArm → List Sp
  | .one sp .. => sp
  | .two sp .. => sp
@[reducible] def LArm.Y : LArm → Type
  | .one _ _ Y .. => Y
  | .two _ _ _ Y Z .. => Sum Y Z
def LArm.l : (A : LArm) → Nat → SX A.sp → Option A.Y
  | .one _ _ _ l _ _ _ => l
  | .two _ _ _ _ _ l _ _ _ _ _ _ => l
/-- What follows a round. -/
def LArm.cont (nt k : Nat) : (A : LArm) → Ex → St → Option A.Y
  | .one sp so Y l e g h, e', st => match e' with
    | .normal => (viewN nt st sp).bind fun x => l k x
    | e' => match exEq e' e with
      | true => (viewN nt st so).bind fun x => some (h x)
      | false => none
  | .two sp so1 so2 Y Z l e1 e2 g1 h1 g2 h2, e', st => match e' with
    | .normal => (viewN nt st sp).bind fun x => l k x
    | e' => match exEq e' e1 with
      | true => (viewN nt st so1).bind fun x => some (.inl (h1 x))
      | false => match exEq e' e2 with
        | true => (viewN nt st so2).bind fun x => some (.inr (h2 x))
        | false => none
def LArm.Ok : LArm → Prop
  | .one sp so Y l e g h => spOk sp = true ∧ spOk so = true ∧ (∀ x, l 0 x = none) ∧ ∀ x, g (h x) = x
  | .two sp so1 so2 Y Z l e1 e2 g1 h1 g2 h2 => spOk sp = true ∧ spOk so1 = true ∧ spOk so2 = true ∧ (∀ x, l 0 x = none) ∧ (∀ x, g1 (h1 x) = x) ∧ ∀ x, g2 (h2 x) = x
def tabL (nt k : Nat) (t : Nat → Option LArm) : LOrc := fun b st K => match t b with
  | some A => A.run nt k st K
  | none => none
theorem tabL_is (nt k : Nat) (t : Nat → Option LArm) : LIs (tabL nt k t) (LG (tabL nt k t)) := by
  intro R b st K r h
  unfold LG
  unfold tabL at h ⊢
  dsimp only at h ⊢
  split at h
  · rename_i A hA
    cases A with
    | one sp so Y l e g h' =>
      unfold LArm.run at h ⊢
      obtain ⟨x, hx, h⟩ := Option.bind_eq_some_iff.1 h
      obtain ⟨y, hy, h⟩ := Option.bind_eq_some_iff.1 h
      exact ⟨_, _, by simp only [hx, hy, Option.bind_some], h⟩
    | two sp so1 so2 Y Z l e1 e2 g1 h1 g2 h2 =>
      unfold LArm.run at h ⊢
      obtain ⟨x, hx, h⟩ := Option.bind_eq_some_iff.1 h
      obtain ⟨y, hy, h⟩ := Option.bind_eq_some_iff.1 h
      cases y with
      | inl z => exact ⟨_, _, by simp only [hx, hy, Option.bind_some], h⟩
      | inr z => exact ⟨_, _, by simp only [hx, hy, Option.bind_some], h⟩
  · cases h
theorem tabL_zero {nt : Nat} {t : Nat → Option LArm} (hok : ∀ b A, t b = some A → A.Ok) : ∀ b st e st', ¬ LG (tabL nt 0 t) b st e st' := by
  intro b st e st' h
  unfold LG tabL at h
  dsimp only at h
  split at h
  · rename_i A hA
    have := hok b A hA
    cases A with
    | one sp so Y l e g h' =>
      unfold LArm.run at h
      obtain ⟨x, hx, h⟩ := Option.bind_eq_some_iff.1 h
      rw [this.2.2.1] at h; cases h
    | two sp so1 so2 Y Z l e1 e2 g1 h1 g2 h2 =>
      unfold LArm.run at h
      obtain ⟨x, hx, h⟩ := Option.bind_eq_some_iff.1 h
      rw [this.2.2.2.1] at h; cases h
  · cases h
theorem tabL_step {E : Env} {C : Nat → Orc} {nt : Nat} {t : Nat → Option LArm} {fn : Func} (hok : ∀ b A, t b = some A → A.Ok)
    (hS : ∀ b A, t b = some A → ∀ k x, runC E (C k) (tabL nt k t) b (loopAt fn b) (stOf nt A.sp x) (A.cont nt k) = A.l (k + 1) x) :
    ∀ k b e st st', LG (tabL nt (k + 1) t) b st e st' → StepOk E (C k) (tabL nt k t) nt (loopAt fn b) b e st st' := by
  intro k b e st st' h
  unfold LG at h
  unfold tabL at h
  dsimp only at h
  split at h
  · rename_i A hA
    have ho := hok b A hA
    have hs := hS b A hA k
    cases A with
    | one sp so Y l e1 g h' =>
      unfold LArm.run at h
      obtain ⟨x, hx, h⟩ := Option.bind_eq_some_iff.1 h
      obtain ⟨y, hy, h⟩ := Option.bind_eq_some_iff.1 h
      simp only [Option.some.injEq, Prod.mk.injEq] at h
      obtain ⟨rfl, rfl⟩ := h
      refine ⟨sp, x, ho.1, hx, Y, y, _, (hs x).trans hy, fun e' st1 hc => ?_⟩
      unfold LArm.cont at hc
      dsimp only at hc
      split at hc
      · obtain ⟨x1, hx1, hl⟩ := Option.bind_eq_some_iff.1 hc
        refine .inl ⟨rfl, ?_⟩
        unfold LG tabL
        simp only [hA, LArm.run, hx1, hl, Option.bind_some]
      · split at hc
        · rename_i hne he
          obtain ⟨rfl, hn⟩ := exEq_eq he
          obtain ⟨x1, hx1, hl⟩ := Option.bind_eq_some_iff.1 hc
          cases hl
          exact .inr ⟨rfl, hn, so, x1, ho.2.1, hx1, by rw [ho.2.2.2]⟩
        · cases hc
    | two sp so1 so2 Y Z l e1 e2 g1 h1 g2 h2 =>
      unfold LArm.run at h
      obtain ⟨x, hx, h⟩ := Option.bind_eq_some_iff.1 h
      obtain ⟨y, hy, h⟩ := Option.bind_eq_some_iff.1 h
      refine ⟨sp, x, ho.1, hx, Sum Y Z, y, _, (hs x).trans hy, fun e' st1 hc => ?_⟩
      unfold LArm.cont at hc
      dsimp only at hc
      split at hc
      · obtain ⟨x1, hx1, hl⟩ := Option.bind_eq_some_iff.1 hc
        refine .inl ⟨rfl, ?_⟩
        unfold LG tabL
        simp only [hA, LArm.run, hx1, hl, Option.bind_some]
        exact h
      · split at hc
        · rename_i hne he
          obtain ⟨rfl, hn⟩ := exEq_eq he
          obtain ⟨x1, hx1, hl⟩ := Option.bind_eq_some_iff.1 hc
          cases hl
          simp only [Option.some.injEq, Prod.mk.injEq] at h
          obtain ⟨rfl, rfl⟩ := h
          exact .inr ⟨rfl, hn, so1, x1, ho.2.1, hx1, by rw [ho.2.2.2.2.1]⟩
        · split at hc
          · rename_i hne he' he
            obtain ⟨rfl, hn⟩ := exEq_eq he
            obtain ⟨x1, hx1, hl⟩ := Option.bind_eq_some_iff.1 hc
            cases hl
            simp only [Option.some.injEq, Prod.mk.injEq] at h
            obtain ⟨rfl, rfl⟩ := h
            exact .inr ⟨rfl, hn, so2, x1, ho.2.2.1, hx1, by rw [ho.2.2.2.2.2]⟩
          · cases hc
  · cases h

/-- A function without loops. -/
theorem fun_plain {P : Program} {E : Env} {pv : Nat → Value} (hE : EnvOk P E) {t : Cal → Option CArm} (hG : ∀ cal A, t cal = some A → ArmOk P E pv cal A) {f : FuncId} {fn : Func} {c : Code} (hf : P.funcs[f]? = some fn) (hb : fn.body = some c)
    (hname : (fn.name == "runtime.NumGoroutine") = false) {args : List AV} (hn : Nat.ble args.length fn.ntmps = true) {R : Type} {K : AV → Option R} {y : R} (hrun : runF E (tabC t) (tabL fn.ntmps 0 fun _ => none) fn args K = some y) {r' : AV} (hw : ∀ r, K r = some y → Wk r r') :
    Meets P E pv (.f f) args r' :=
  fun_good hE (tabC_is t) (tabL_is _ _ _) (tabC_ok hG) hf hb hname (no_loops (fun b st e st' h => by unfold LG tabL at h; cases h) _) (Nat.le_of_ble_eq_true hn) hrun hw
/-- A function with loops. -/
theorem fun_loops {P : Program} {E : Env} {pv : Nat → Value} (hE : EnvOk P E) {t : Nat → Cal → Option CArm} (k : Nat) (hG : ∀ k', k' ≤ k → ∀ cal A, t k' cal = some A → ArmOk P E pv cal A) {f : FuncId} {fn : Func} {c : Code} (hf : P.funcs[f]? = some fn) (hb : fn.body = some c)
    (hname : (fn.name == "runtime.NumGoroutine") = false) {args : List AV} (hn : Nat.ble args.length fn.ntmps = true) {lt : Nat → Option LArm} (hok : loopsOk fn = true) (hlt : ∀ b A, lt b = some A → A.Ok)
    (hS : ∀ b A, lt b = some A → ∀ k x, runC E (tabC (t k)) (tabL fn.ntmps k lt) b (loopAt fn b) (stOf fn.ntmps A.sp x) (A.cont fn.ntmps k) = A.l (k + 1) x)
    {R : Type} {K : AV → Option R} {y : R} (hrun : runF E (tabC (t k)) (tabL fn.ntmps k lt) fn args K = some y) {r' : AV} (hw : ∀ r, K r = some y → Wk r r') : Meets P E pv (.f f) args r' :=
  fun_good hE (tabC_is _) (tabL_is _ _ _) (tabC_ok (hG k (Nat.le_refl k))) hf hb hname (fun w0 B p hp st e st' S ρ a w Q h hs hgl hQ =>
    wp_loop_rounds k (rounds_ok hE (C := fun k => tabC (t k)) (L := fun k => tabL fn.ntmps k lt) (fun k => tabC_is _) (fun k => tabL_is _ _ _) hb hok (n := k) (fun k' hk' => tabC_ok (hG k' (Nat.le_of_lt hk'))) (tabL_zero hlt) (fun k b e st st' _ h => tabL_step (C := fun k => tabC (t k)) hlt hS k b e st st' h) k (Nat.le_refl k) w0 B p hp st e st' S ρ a w Q h hs hgl hQ)) (Nat.le_of_ble_eq_true hn) hrun hw
/-! ### Functions that are handed something -/
theorem funM_good {P : Program} {E : Env} {pv : Nat → Value} (hE : EnvOk P E) {C : Orc} {L : LOrc} (hC : OrcIs C (CG C)) (hL : LIs L (LG L)) (hG : GOk P E pv (CG C)) {f : FuncId} {fn : Func} {c : Code} (hf : P.funcs[f]? = some fn) (hb : fn.body = some c) (hname : (fn.name == "runtime.NumGoroutine") = false)
    (hl : ∀ w0 B, ∀ p ∈ loopsOf 0 c, LoopSound P E w0 B pv p.2 (LG L p.1)) {mb : Nat} (hmb : mb = mbase ∨ mb = mmove) {a0 : AV} {args : List AV} (hn : args.length + 1 ≤ fn.ntmps) {R : Type} {K : AV → Option R} {y : R} (hrun : runM E C L fn mb a0 args K = some y) {r' : AV} (hw : ∀ r, K r = some y → WkM r r') : MeetsM P E pv f a0 args r' := by
  obtain ⟨c', res, e, st, rs, hfr, hk⟩ := runM_rel hC hL hrun
  have hcc : c' = c := by have := hfr.body; rw [hb] at this; cases this; rfl
  subst hcc
  exact MeetsM.mono (funM_meets hE hG hf hname hfr hmb hn hl) (hw res hk)
theorem funM_plain {P : Program} {E : Env} {pv : Nat → Value} (hE : EnvOk P E) {t : Cal → Option CArm} (hG : ∀ cal A, t cal = some A → ArmOk P E pv cal A) {f : FuncId} {fn : Func} {c : Code} (hf : P.funcs[f]? = some fn) (hb : fn.body = some c)
    (hname : (fn.name == "runtime.NumGoroutine") = false) {mb : Nat} (hmb : mb = mbase ∨ mb = mmove) {a0 : AV} {args : List AV} (hn : Nat.ble (args.length + 1) fn.ntmps = true) {R : Type} {K : AV → Option R} {y : R} (hrun : runM E (tabC t) (tabL fn.ntmps 0 fun _ => none) fn mb a0 args K = some y) {r' : AV} (hw : ∀ r, K r = some y → WkM r r') :
    MeetsM P E pv f a0 args r' :=
  funM_good hE (tabC_is t) (tabL_is _ _ _) (tabC_ok hG) hf hb hname (no_loops (fun b st e st' h => by unfold LG tabL at h; cases h) _) hmb (Nat.le_of_ble_eq_true hn) hrun hw
theorem funM_loops {P : Program} {E : Env} {pv : Nat → Value} (hE : EnvOk P E) {t : Nat → Cal → Option CArm} (k : Nat) (hG : ∀ k', k' ≤ k → ∀ cal A, t k' cal = some A → ArmOk P E pv cal A) {f : FuncId} {fn : Func} {c : Code} (hf : P.funcs[f]? = some fn) (hb : fn.body = some c)
    (hname : (fn.name == "runtime.NumGoroutine") = false) {mb : Nat} (hmb : mb = mbase ∨ mb = mmove) {a0 : AV} {args : List AV} (hn : Nat.ble (args.length + 1) fn.ntmps = true) {lt : Nat → Option LArm} (hok : loopsOk fn = true) (hlt : ∀ b A, lt b = some A → A.Ok)
    (hS : ∀ b A, lt b = some A → ∀ k x, runC E (tabC (t k)) (tabL fn.ntmps k lt) b (loopAt fn b) (stOf fn.ntmps A.sp x) (A.cont fn.ntmps k) = A.l (k + 1) x)
    {R : Type} {K : AV → Option R} {y : R} (hrun : runM E (tabC (t k)) (tabL fn.ntmps k lt) fn mb a0 args K = some y) {r' : AV} (hw : ∀ r, K r = some y → WkM r r') : MeetsM P E pv f a0 args r' :=
  funM_good hE (tabC_is _) (tabL_is _ _ _) (tabC_ok (hG k (Nat.le_refl k))) hf hb hname (fun w0 B p hp st e st' S ρ a w Q h hs hgl hQ =>
    wp_loop_rounds k (rounds_ok hE (C := fun k => tabC (t k)) (L := fun k => tabL fn.ntmps k lt) (fun k => tabC_is _) (fun k => tabL_is _ _ _) hb hok (n := k) (fun k' hk' => tabC_ok (hG k' (Nat.le_of_lt hk'))) (tabL_zero hlt) (fun k b e st st' _ h => tabL_step (C := fun k => tabC (t k)) hlt hS k b e st st' h) k (Nat.le_refl k) w0 B p hp st e st' S ρ a w Q h hs hgl hQ)) hmb (Nat.le_of_ble_eq_true hn) hrun hw
end Go.Gx
end
section
/- Rows: data that was trodden is plain data in memory; a law's contract out of its call's answer. -/
namespace Go.Gx
open Go.RowKit Go.ChangeShapes Go.WideShapes
set_option linter.unusedVariables false
set_option linter.unusedSimpArgs false

/-- Data as the model lets it come in. -/
inductive WF : (τ : Ty) → den τ → Prop
  | int (k : IntKind) (n : Int) (h : (Lit.int k n).wf = true) : WF (.int k) n
  | bool (b : Bool) : WF .bool b
  | str (s : ByteArray) (h : s.size ≤ maxLen) : WF .str s
  | sl (e : Ty) (xs : List (den e)) (hm : xs.length ≤ maxLen) (h : ∀ i (hi : i < xs.length), WF e xs[i]) : WF (.sl e) xs
  | date (d : Date) (hy : WF (.int .i64) d.y) (hm : WF (.int .i64) d.m) (hd : WF (.int .i64) d.d) : WF .date d
  | abbr (a : Abbr) (h1 : WF .str a.word) (h2 : WF .str a.short) : WF .abbr a
  | name (n : Name) (h1 : WF (.sl .str) n.given) (h2 : WF .str n.particle) (h3 : WF .str n.family) (h4 : WF .str n.suffix) : WF .name n
  | entry (e : Entry) (h1 : WF .str e.key) (h2 : WF (.int .i64) e.kind) (h3 : WF (.sl .name) e.authors) (h4 : WF (.sl .name) e.editors) (h5 : WF .str e.title) (h6 : WF .str e.container) (h7 : WF .str e.publisher)
      (h8 : WF .date e.date) (h9 : WF (.int .i64) e.volume) (h10 : WF .str e.pages) (h11 : WF .str e.cross) : WF .entry e
  | lib (l : Library) (h : WF (.sl .entry) l.entries) : WF .lib l
  | cur (q : Cur) (h1 : WF (.sl (.int .u8)) q.code) (h2 : WF (.int .i64) q.at_) (h3 : WF (.int .u64) q.seed) : WF .cur q
  | query (q : Query) (h1 : WF (.int .i64) q.op) (h2 : WF .str q.field) (h3 : WF .str q.word) (h4 : WF (.sl .query) q.parts) : WF .query q
def noA : Ty → Bool
  | .arr _ _ => false
  | .sl e => noA e
  | _ => true

section
variable {H : Type} {enc : TypeId × Value → H} {P : Program} {E : Env} {w : World} {spare : Nat → Bool} {held : Bool} {S : Nat → Prop}
abbrev Lt (w : World) : Nat → Prop := fun b => b < w.heap.size
theorem cell_lt {a : Addr} {v : Value} (h : w.cell? a = some v) : a.block < w.heap.size := by
  unfold World.cell? at h
  split at h
  · rename_i c e f hb; exact (Array.getElem?_eq_some_iff.1 hb).1
  · cases h
theorem one_of {c : Value} {l : List Value} (h : l = [c]) : l = [c] := h
theorem list_len {n : Nat} {cs : List Value} (h : cs.length = n) : cs = (List.range n).map fun i => cs.getD i undef := by
  apply List.ext_getElem?
  intro i
  by_cases hi : i < n
  · rw [List.getElem?_map, List.getElem?_range hi, List.getElem?_eq_getElem (by omega)]
    simp [List.getD, List.getElem?_eq_getElem (show i < cs.length by omega)]
  · rw [List.getElem?_eq_none (by omega), List.getElem?_eq_none (by simp; omega)]
theorem trod_cr (hty : ∀ T τ, E.ty T = some τ → TyOk P E T τ) : ∀ (fuel : Nat) (T : Nat) (τ : Ty) (cs : List Value) (y : DataW H × List MemPlace), noA τ = true → E.ty T = some τ → DataW.trod enc P w 0 spare held fuel T cs = some y → ∃ x : den τ, WF τ x ∧ CR (Lt w) w τ x cs
  | 0, T, τ, cs, y, _, _, h => by simp [DataW.trod] at h
  | fuel + 1, T, τ, cs, y, hn, hT, h => by
    have ih := trod_cr hty fuel
    have hu := hty T τ hT
    obtain ⟨i, hi, hsz, -, -⟩ := hu.info
    have hcells : P.cellsOf T = nc τ := by simp [Program.cellsOf, hi, hsz]
    have cellsOf : ∀ {t σ}, E.ty t = some σ → P.cellsOf t = nc σ := fun {t σ} ht => by
      obtain ⟨i, hi, hsz, -, -⟩ := (hty t σ ht).info
      simp [Program.cellsOf, hi, hsz]
    have hund := hu.und
    -- a struct's fields
    have fields : ∀ fs, P.underlying T = some (.struct fs) → fs.size = (fty τ).length → (∀ (f : Nat) (d : Field), fs[f]? = some d → ∃ σ, (fty τ)[f]? = some σ ∧ d.offset = offL (fty τ) f ∧ E.ty d.type = some σ) →
        cs.length = nc τ ∧ ∀ (f : Nat) σ, (fty τ)[f]? = some σ → noA σ = true → ∃ x : den σ, WF σ x ∧ CR (Lt w) w σ x ((cs.drop (offL (fty τ) f)).take (nc σ)) := fun fs hfs hl hf => by
      obtain ⟨xs, n, hn, _, hlen, hxl, hx⟩ := DataW.trod_struct hfs h
      cases hn
      refine ⟨hlen.trans hcells, fun f σ hσ hno => ?_⟩
      have hfl : f < fs.size := by have := (List.getElem?_eq_some_iff.1 hσ).1; omega
      obtain ⟨σ', h1, h2, h3⟩ := hf f fs[f] (Array.getElem?_eq_getElem hfl)
      rw [hσ] at h1
      cases h1
      have h4 := hx f fs[f] (Array.getElem?_eq_getElem hfl)
      rw [List.getElem?_eq_getElem (show f < xs.length by omega), h2, cellsOf h3] at h4
      exact ih _ σ _ _ hno h3 h4
    cases τ with
    | int k => obtain ⟨n, rfl, _, hw⟩ := DataW.trod_int hund h; exact ⟨n, .int k n hw, .int k n⟩
    | bool => obtain ⟨b, rfl, _⟩ := DataW.trod_bool hund h; exact ⟨b, .bool b, .bool b⟩
    | str => obtain ⟨s, rfl, _, hs⟩ := DataW.trod_string hund h; exact ⟨s, .str s hs, .str s⟩
    | arr n e => cases hn
    | sl e =>
      obtain ⟨t, h1, h2, h3, h4, h5⟩ := hund
      rcases DataW.trod_slice h1 h with ⟨rfl, _⟩ | ⟨a, len, cap, elems, rest, n, hfn, rfl, _, hb, hl, hm, hlen, hel, _⟩
      · exact ⟨[], .sl e [] (Nat.zero_le _) (fun i hi => absurd hi (Nat.not_lt_zero i)), cr_nil _ _ e⟩
      · cases hfn
        have key : ∀ i, ∃ x : den e, ∃ c : List Value, i < len → WF e x ∧ CR (Lt w) w e x c ∧ a.spot = none ∧ a.block < w.heap.size ∧ ∀ j v, c[j]? = some v → w.cell? ⟨a.block, a.off + (i * nc e + j), none⟩ = some v := fun i => by
          by_cases hi : i < len
          · have h6 := hel i hi
            rw [List.getElem?_eq_getElem (show i < elems.length by omega)] at h6
            obtain ⟨c, h7, h8⟩ := Option.bind_eq_some_iff.1 h6
            rw [cellsOf h3] at h7
            obtain ⟨x, h9, h10⟩ := ih t e c _ hn h3 h8
            obtain ⟨_, hcl, hcc⟩ := World.cells?_some h7
            have hcell : ∀ j v, c[j]? = some v → w.cell? ((a.add (i * nc e)).add j) = some v := fun j v hj => by
              have : j < c.length := (List.getElem?_eq_some_iff.1 hj).1
              rw [hcc j (by omega), hj]
            have h0 : ∃ v, c[0]? = some v := ⟨c[0], List.getElem?_eq_getElem (by omega)⟩
            obtain ⟨v0, hv0⟩ := h0
            have hlt : a.block < w.heap.size := by
              have := cell_lt (hcell 0 v0 hv0)
              simpa [Addr.add] using (show (a.add (i * nc e)).block < w.heap.size by simpa [Addr.add] using this) |> fun h => by unfold Addr.add at h; split at h <;> exact h
            have hsp : a.spot = none := by
              have h11 := hel 0 (by omega)
              rw [List.getElem?_eq_getElem (show 0 < elems.length by omega)] at h11
              obtain ⟨c', h12, _⟩ := Option.bind_eq_some_iff.1 h11
              rw [cellsOf h3] at h12
              obtain ⟨_, hcl', hcc'⟩ := World.cells?_some h12
              have h13 := hcc' 0 (by omega)
              rw [List.getElem?_eq_getElem (show 0 < c'.length by omega)] at h13
              have := World.cell?_spot h13
              simpa [Addr.add] using this
            refine ⟨x, c, fun _ => ⟨h9, h10, hsp, hlt, fun j v hj => ?_⟩⟩
            have := hcell j v hj
            rw [Go.Deep.add_add] at this
            obtain ⟨ab, ao, asp⟩ := a
            cases hsp
            simp only [Addr.add] at this
            split at this
            · rename_i hz
              have h14 : i * nc e + j = 0 := hz
              rw [h14]; exact this
            · exact this
          · exact ⟨dflt e, [], fun h => absurd h hi⟩
        let xf := fun i => Classical.choose (key i)
        have hxf : ∀ i, ∃ c : List Value, i < len → WF e (xf i) ∧ CR (Lt w) w e (xf i) c ∧ a.spot = none ∧ a.block < w.heap.size ∧ ∀ j v, c[j]? = some v → w.cell? ⟨a.block, a.off + (i * nc e + j), none⟩ = some v := fun i => Classical.choose_spec (key i)
        let cf := fun i => Classical.choose (hxf i)
        have hcf := fun i => Classical.choose_spec (hxf i)
        have hxl : ((List.range len).map xf).length = len := by simp
        refine ⟨(List.range len).map xf, .sl e _ (by rw [hxl]; omega) (fun i hi => ?_), ?_⟩
        · rw [hxl] at hi
          simp only [List.getElem_map, List.getElem_range]
          exact (hcf i hi).1
        · have := CR.sl (S := Lt w) (w := w) e ((List.range len).map xf) (some a) cap cf (by rw [hxl]; exact hl) hm (fun i hi => by
            rw [hxl] at hi
            simp only [List.getElem_map, List.getElem_range]
            exact (hcf i hi).2.1) (fun i hi => by
            rw [hxl] at hi
            obtain ⟨_, _, h6, h7, h8⟩ := hcf i hi
            obtain ⟨ab, ao, asp⟩ := a
            cases h6
            exact ⟨ab, ao, rfl, h7, h8⟩)
          rw [hxl] at this
          exact this
    | date =>
      obtain ⟨fs, h1, h2, h3⟩ := hund
      obtain ⟨hl, hf⟩ := fields fs h1 h2 h3
      match cs, hl with
      | [c0, c1, c2, c3], _ =>
        obtain ⟨x0, g0, k0⟩ := hf 0 _ rfl rfl
        obtain ⟨x1, g1, k1⟩ := hf 1 _ rfl rfl
        obtain ⟨x2, g2, k2⟩ := hf 2 _ rfl rfl
        obtain ⟨x3, g3, k3⟩ := hf 3 _ rfl rfl
        simp [offL, nc] at k0 k1 k2 k3
        cases k0; cases k1; cases k2; cases k3
        exact ⟨⟨x0, x1, x2, x3⟩, .date _ g0 g1 g2, .date ⟨x0, x1, x2, x3⟩⟩
    | abbr =>
      obtain ⟨fs, h1, h2, h3⟩ := hund
      obtain ⟨hl, hf⟩ := fields fs h1 h2 h3
      match cs, hl with
      | [c0, c1], _ =>
        obtain ⟨x0, g0, k0⟩ := hf 0 _ rfl rfl
        obtain ⟨x1, g1, k1⟩ := hf 1 _ rfl rfl
        simp [offL, nc] at k0 k1
        cases k0; cases k1
        exact ⟨⟨x0, x1⟩, .abbr _ g0 g1, .abbr ⟨x0, x1⟩⟩
    | cur =>
      obtain ⟨fs, h1, h2, h3⟩ := hund
      obtain ⟨hl, hf⟩ := fields fs h1 h2 h3
      match cs, hl with
      | [c0, c1, c2], _ =>
        obtain ⟨x0, g0, k0⟩ := hf 0 _ rfl rfl
        obtain ⟨x1, g1, k1⟩ := hf 1 _ rfl rfl
        obtain ⟨x2, g2, k2⟩ := hf 2 _ rfl rfl
        simp [offL, nc] at k0 k1 k2
        obtain ⟨v, rfl⟩ : ∃ v, c0 = v := ⟨_, rfl⟩
        cases k1; cases k2
        exact ⟨⟨x0, x1, x2⟩, .cur _ g0 g1 g2, .cur ⟨x0, x1, x2⟩ _ k0⟩
    | name =>
      obtain ⟨fs, h1, h2, h3⟩ := hund
      obtain ⟨hl, hf⟩ := fields fs h1 h2 h3
      match cs, hl with
      | [c0, c1, c2, c3], _ =>
        obtain ⟨x0, g0, k0⟩ := hf 0 _ rfl rfl
        obtain ⟨x1, g1, k1⟩ := hf 1 _ rfl rfl
        obtain ⟨x2, g2, k2⟩ := hf 2 _ rfl rfl
        obtain ⟨x3, g3, k3⟩ := hf 3 _ rfl rfl
        simp [offL, nc] at k0 k1 k2 k3
        cases k1; cases k2; cases k3
        exact ⟨⟨x0, x1, x2, x3⟩, .name _ g0 g1 g2 g3, .name ⟨x0, x1, x2, x3⟩ _ k0⟩
    | query =>
      obtain ⟨fs, h1, h2, h3⟩ := hund
      obtain ⟨hl, hf⟩ := fields fs h1 h2 h3
      match cs, hl with
      | [c0, c1, c2, c3], _ =>
        obtain ⟨x0, g0, k0⟩ := hf 0 _ rfl rfl
        obtain ⟨x1, g1, k1⟩ := hf 1 _ rfl rfl
        obtain ⟨x2, g2, k2⟩ := hf 2 _ rfl rfl
        obtain ⟨x3, g3, k3⟩ := hf 3 _ rfl rfl
        simp [offL, nc] at k0 k1 k2 k3
        cases k0; cases k1; cases k2
        exact ⟨.mk x0 x1 x2 x3, .query _ g0 g1 g2 g3, .query (.mk x0 x1 x2 x3) _ k3⟩
    | lib =>
      obtain ⟨fs, h1, h2, h3⟩ := hund
      obtain ⟨hl, hf⟩ := fields fs h1 h2 h3
      match cs, hl with
      | [c0], _ =>
        obtain ⟨x0, g0, k0⟩ := hf 0 _ rfl rfl
        simp [offL, nc] at k0
        exact ⟨⟨x0⟩, .lib _ g0, .lib ⟨x0⟩ _ k0⟩
    | entry =>
      obtain ⟨fs, h1, h2, h3⟩ := hund
      obtain ⟨hl, hf⟩ := fields fs h1 h2 h3
      match cs, hl with
      | [c0, c1, c2, c3, c4, c5, c6, c7, c8, c9, c10, c11, c12, c13], _ =>
        obtain ⟨x0, g0, k0⟩ := hf 0 _ rfl rfl
        obtain ⟨x1, g1, k1⟩ := hf 1 _ rfl rfl
        obtain ⟨x2, g2, k2⟩ := hf 2 _ rfl rfl
        obtain ⟨x3, g3, k3⟩ := hf 3 _ rfl rfl
        obtain ⟨x4, g4, k4⟩ := hf 4 _ rfl rfl
        obtain ⟨x5, g5, k5⟩ := hf 5 _ rfl rfl
        obtain ⟨x6, g6, k6⟩ := hf 6 _ rfl rfl
        obtain ⟨x7, g7, k7⟩ := hf 7 _ rfl rfl
        obtain ⟨x8, g8, k8⟩ := hf 8 _ rfl rfl
        obtain ⟨x9, g9, k9⟩ := hf 9 _ rfl rfl
        obtain ⟨x10, g10, k10⟩ := hf 10 _ rfl rfl
        simp [offL, nc] at k0 k1 k2 k3 k4 k5 k6 k7 k8 k9 k10
        cases k0; cases k1; cases k4; cases k5; cases k6; cases k7; cases k8; cases k9; cases k10
        exact ⟨⟨x0, x1, x2, x3, x4, x5, x6, x7, x8, x9, x10⟩, .entry _ g0 g1 g2 g3 g4 g5 g6 g7 g8 g9 g10, .entry ⟨x0, x1, x2, x3, x4, x5, x6, x7, x8, x9, x10⟩ _ _ k2 k3⟩

/-! ### Arguments -/
def WFs : (l : List Ty) → TX l → Prop
  | [], _ => True
  | τ :: l, x => WF τ x.1 ∧ WFs l x.2
/-- Parameters of these types. -/
def parsOk (E : Env) : List Nat → List Ty → Bool
  | [], [] => true
  | T :: l, τ :: m => (match E.ty T with
    | some σ => sameTy σ τ
    | none => false) && (noA τ && parsOk E l m)
  | _, _ => false
theorem val_of (hty : ∀ T τ, E.ty T = some τ → TyOk P E T τ) {T : Nat} {τ : Ty} (hn : noA τ = true) (hT : E.ty T = some τ) {base : Nat} {v : Value} (hv : Value.okWide P w .any base T v) {x : den τ} {S : Nat → Prop} : v = valOf (.t τ x) v.cells.toList := by
  have hund := (hty T τ hT).und
  cases τ with
  | int k => obtain ⟨n, rfl⟩ := okWide_int hund hv; rfl
  | bool => obtain ⟨n, rfl⟩ := okWide_bool hund hv; rfl
  | str => obtain ⟨n, rfl⟩ := okWide_string hund hv; rfl
  | sl e => obtain ⟨t, h1, _⟩ := hund; obtain ⟨a, l, c, rfl⟩ := okWide_slice h1 hv; rfl
  | arr n e => cases hn
  | date | name | entry | lib | abbr | query | cur => obtain ⟨fs, h1, _⟩ := hund; obtain ⟨cs, rfl, _⟩ := okWide_struct h1 hv; rfl
theorem args_open (hty : ∀ T τ, E.ty T = some τ → TyOk P E T τ) {base : Nat} {pv : Nat → Value} : ∀ {Ts : List Nat} {τs : List Ty} {vs : List Value} {ds : List (DataW H)} {ps : List MemPlace}, parsOk E Ts τs = true → DataW.TrodAll enc P w 0 spare held Ts vs ds ps →
    (∀ (j : Nat) t v, Ts[j]? = some t → vs[j]? = some v → Value.okWide P w .any base t v) → ∃ x : TX τs, WFs τs x ∧ ArgsOk (Lt w) w pv (tvals τs x) vs
  | [], [], [], [], ps, _, _, _ => ⟨(), trivial, rfl, fun i a v h => by simp [tvals] at h⟩
  | T :: Ts, τ :: τs, vs, ds, ps, hp, h, hv => by
    obtain ⟨v, vs', d, ds', p, q, rfl, rfl, rfl, hd, hr⟩ := trodAll_cons h
    simp only [parsOk, Bool.and_eq_true] at hp
    obtain ⟨hT, hn, hp⟩ := hp
    cases hE : E.ty T with
    | none => rw [hE] at hT; cases hT
    | some σ =>
      rw [hE] at hT
      have := sameTy_eq hT
      subst this
      obtain ⟨x, hx, hlen, hargs⟩ := args_open hty (pv := pv) hp hr fun j t v h1 h2 => hv (j + 1) t v (by simpa using h1) (by simpa using h2)
      obtain ⟨fuel, hf⟩ := hd
      obtain ⟨x0, hw0, hc0⟩ := trod_cr hty fuel T σ _ _ hn hE hf
      refine ⟨(x0, x), ⟨hw0, hx⟩, by simp [tvals, hlen], fun i a u h1 h2 => ?_⟩
      cases i with
      | zero =>
        cases h1; cases h2
        exact ⟨_, .t σ x0 _ hc0, val_of hty hn hE (hv 0 T v rfl rfl) (S := Lt w)⟩
      | succ i => exact hargs i a u (by simpa [tvals] using h1) (by simpa using h2)
  | [], _ :: _, _, _, _, hp, _, _ => by cases hp
  | _ :: _, [], _, _, _, hp, _, _ => by cases hp
  | [], [], _ :: _, _, _, _, h, _ => by cases h
  | [], [], [], _ :: _, _, _, h, _ => by cases h

/-- A law's contract: its call answers true. -/
theorem law_contract (hE : EnvOk P E) {f : FuncId} {fn : Func} {c : Code} (hfn : P.funcs[f]? = some fn) (hbody : fn.body = some c) (hname : (fn.name == "runtime.NumGoroutine") = false) {τs : List Ty} (hps : parsOk E fn.params.toList τs = true) {tb : Nat} (hres : fn.resultTypes = #[tb]) (hb : P.underlying tb = some .bool)
    (hl : laidOutB P = true) (hr : ∀ t ∈ fn.params.toList, P.readableRec t = true ∧ t < P.types.size) {s : ChangeSpec}
    {W : World} {base : Nat} {args : Array Value} {ds gs : List (DataW H)} {before : List MemPlace} {r : AV} (hrt : r = .t .bool true)
    (hlaw : ∀ x : TX τs, WFs τs x → Meets P E (fun _ => undef) (.f f) (tvals τs x) r)
    (hspec : s.fn H (ds ++ gs) = { results := [.lit (.bool true)], args := ds, vars := gs })
    (hval : ∀ (j : Nat) t v, fn.params[j]? = some t → args[j]? = some v → Value.okWide P W .any base t v)
    (hW : DataW.Whole enc P fn.params.toList s.vars false W args.toList ds gs before) (hgl : GlOk E (Lt W) W)
    (hv : ∀ q, DataW.TrodVars enc P W (fun _ => true) s.vars gs q → ∀ W', Below W.heap.size W W' → DataW.TrodVars enc P W' (fun b => decide (b < W.heap.size)) s.vars gs q) :
    Calls P f args W fun e W' => ∃ v, e = .returned v ∧ s.post enc P fn false true false false W args v W' := by
  have hW' := hW
  obtain ⟨p, q, hA, hV, rfl, hfz, hnd⟩ := hW
  obtain ⟨x, hx, hargs⟩ := args_open (spare := fun _ => true) (held := true) hE.ty (pv := fun _ => undef) hps hA fun j t v h1 h2 => hval j t v (by simpa using h1) (by simpa using h2)
  subst hrt
  have hgo := hlaw x hx (Lt W) W args.toList (fun b hb => hb) hgl hargs
  have hcall : (callFunc f args).run P W = .ok (.enter f args) W := by
    have hn' : fn.name ≠ "runtime.NumGoroutine" := by simpa using hname
    simp [callFunc, hfn, hn', hbody]
  have hgo2 : Calls P f args W fun e w'' => ∃ v, e = .returned v ∧ (Below W.heap.size W w'' ∧ ∃ S' : Nat → Prop, (∀ b, Lt W b → S' b) ∧ (∀ b, S' b → Lt W b ∨ (W.heap.size ≤ b ∧ b < w''.heap.size)) ∧ RR S' w'' W.heap.size (fun _ => undef) (.t .bool true) v) := by
    have h := hgo
    simp only [Goes] at h
    rw [hcall] at h
    exact h
  refine hgo2.mono fun e W' ⟨v, he, hbl, S', _, _, hrr⟩ => ?_
  subst he
  obtain ⟨g, hr1⟩ := hrr
  have hvb : v = .bool true := by
    cases hr1 with
    | plain _ cs ha => cases ha with | t _ _ _ hc => cases hc; rfl
  subst hvb
  have hlt : ∀ y ∈ p ++ q, y.block < W.heap.size := fun y hy => hW'.lt y hy
  refine ⟨_, rfl, ds, gs, p ++ q, [], p, q, hW', ?_, ?_, ?_, hbl.frame _, fun h => by cases h⟩
  · rw [hspec, hres]
    exact trodAll_mk1 (shut_bool hb true)
  · rw [hspec]
    have all : ∀ {Ts : List Nat} {vs : List Value} {ds : List (DataW H)} {p : List MemPlace}, DataW.TrodAll enc P W 0 (fun _ => true) true Ts vs ds p → (∀ t ∈ Ts, P.readableRec t = true ∧ t < P.types.size) → (∀ y ∈ p, y.block < W.heap.size) → DataW.TrodAll enc P W' 0 (fun b => decide (b < W.heap.size)) true Ts vs ds p := by
      intro Ts
      induction Ts with
      | nil =>
        intro vs ds p h _ _
        obtain ⟨rfl, rfl, rfl⟩ := trodAll_nil h
        exact trodAll_mk0
      | cons t Ts ih =>
        intro vs ds p h h1 h2
        obtain ⟨v, vs', d, ds', p1, q1, rfl, rfl, rfl, hd, hr'⟩ := trodAll_cons h
        exact ⟨p1, q1, Go.WideElems.Trod_stays hl (h1 t List.mem_cons_self).1 (h1 t List.mem_cons_self).2 hd (fun y hy => hbl.same (h2 y (List.mem_append_left _ hy))) (fun y hy => by simpa using h2 y (List.mem_append_left _ hy)), ih hr' (fun t ht => h1 t (List.mem_cons_of_mem _ ht)) (fun y hy => h2 y (List.mem_append_right _ hy)), rfl⟩
    exact all hA hr (fun y hy => hlt y (List.mem_append_left _ hy))
  · rw [hspec]
    exact hv q hV W' hbl
end
end Go.Gx
end
section
/- '==' of dates and abbreviations. -/
namespace Go.Gx
set_option linter.unusedVariables false
set_option linter.unusedSimpArgs false

theorem eqF_nil {P : Program} {w : World} {d : Nat} {xs ys : Array Value} : (Op.eqFields d xs ys []).run P w = .ok true w := by simp [Op.eqFields]
theorem eqF_cons {P : Program} {w : World} {d : Nat} {xs ys : Array Value} {f : Field} {fs : List Field} {a b : Value} {r s : Bool} (hn : f.name ≠ "_") (h1 : (part f.type xs f.offset).run P w = .ok a w) (h2 : (part f.type ys f.offset).run P w = .ok b w)
    (h3 : (Op.equalIn d f.type a b).run P w = .ok r w) (h4 : (Op.eqFields d xs ys fs).run P w = .ok s w) : (Op.eqFields d xs ys (f :: fs)).run P w = .ok (r && s) w := by
  cases r <;> simp [Op.eqFields, hn, h1, h2, h3, h4]
theorem part_one {P : Program} {E : Env} {w : World} {T : Nat} {τ : Ty} (ht : TyOk P E T τ) (hg : agT τ = false) {cs : Array Value} {o : Nat} {v : Value} (hv : cs[o]? = some v) : (part T cs o).run P w = .ok v w := by
  simp [part, run_isAgg ht, hg, hv]
theorem date_eq {P : Program} {E : Env} (ht : ∀ T τ, E.ty T = some τ → TyOk P E T τ) {T : Nat} (hT : E.ty T = some .date) (hg : P.eqGuardType P.depth T = false) (hs : P.stoodInHeld T = false) (hn : (P.fieldsOf T).all (fun f => f.name != "_") = true) :
    P.eqGuardType P.depth T = false ∧ ∀ (x y : Date) (w : World), (Op.equalIn 10000 T (.agg #[.int .i64 x.y, .int .i64 x.m, .int .i64 x.d, .bool x.c]) (.agg #[.int .i64 y.y, .int .i64 y.m, .int .i64 y.d, .bool y.c])).run P w = .ok (x.y == y.y && (x.m == y.m && (x.d == y.d && x.c == y.c))) w := by
  refine ⟨hg, fun x y w => ?_⟩
  obtain ⟨fs, hu, hsz, hf⟩ := (ht T _ hT).und
  have hfo : P.fieldsOf T = fs := by simp [Program.fieldsOf, hu]
  rw [run_equalIn_agg (P := P) w 9999 T _ _ (by rw [hfo]; exact hu) hs, hfo]
  rw [hfo, Array.all_eq_true'] at hn
  have hname : ∀ f ∈ fs.toList, f.name ≠ "_" := fun f hm => by simpa using hn f (by simpa using hm)
  have hget : ∀ i f, fs.toList[i]? = some f → ∃ σ, (fty .date)[i]? = some σ ∧ f.offset = offL (fty .date) i ∧ E.ty f.type = some σ := fun i f h => hf i f (by simpa using h)
  have hlen : fs.toList.length = 4 := by simpa [fty] using hsz
  match hl : fs.toList, hlen with
  | [f0, f1, f2, f3], _ =>
    rw [hl] at hname hget
    obtain ⟨s0, a0, b0, c0⟩ := hget 0 f0 rfl
    obtain ⟨s1, a1, b1, c1⟩ := hget 1 f1 rfl
    obtain ⟨s2, a2, b2, c2⟩ := hget 2 f2 rfl
    obtain ⟨s3, a3, b3, c3⟩ := hget 3 f3 rfl
    cases a0; cases a1; cases a2; cases a3
    have e3 := eqF_cons (P := P) (w := w) (d := 9999) (xs := #[.int .i64 x.y, .int .i64 x.m, .int .i64 x.d, .bool x.c]) (ys := #[.int .i64 y.y, .int .i64 y.m, .int .i64 y.d, .bool y.c]) (hname f3 (by simp)) (part_one (v := .bool x.c) (ht _ _ c3) rfl (by rw [b3]; rfl)) (part_one (v := .bool y.c) (ht _ _ c3) rfl (by rw [b3]; rfl)) (run_equalIn_bool' w 9998 f3.type _ _ (ht _ _ c3).und) eqF_nil
    have e2 := eqF_cons (hname f2 (by simp)) (part_one (v := .int .i64 x.d) (ht _ _ c2) rfl (by rw [b2]; rfl)) (part_one (v := .int .i64 y.d) (ht _ _ c2) rfl (by rw [b2]; rfl)) (run_equalIn_int w 9998 f2.type _ _ _ _ (ht _ _ c2).und) e3
    have e1 := eqF_cons (hname f1 (by simp)) (part_one (v := .int .i64 x.m) (ht _ _ c1) rfl (by rw [b1]; rfl)) (part_one (v := .int .i64 y.m) (ht _ _ c1) rfl (by rw [b1]; rfl)) (run_equalIn_int w 9998 f1.type _ _ _ _ (ht _ _ c1).und) e2
    have e0 := eqF_cons (hname f0 (by simp)) (part_one (v := .int .i64 x.y) (ht _ _ c0) rfl (by rw [b0]; rfl)) (part_one (v := .int .i64 y.y) (ht _ _ c0) rfl (by rw [b0]; rfl)) (run_equalIn_int w 9998 f0.type _ _ _ _ (ht _ _ c0).und) e1
    rw [e0]
    simp
theorem abbr_eq {P : Program} {E : Env} (ht : ∀ T τ, E.ty T = some τ → TyOk P E T τ) {T : Nat} (hT : E.ty T = some .abbr) (hg : P.eqGuardType P.depth T = false) (hs : P.stoodInHeld T = false) (hn : (P.fieldsOf T).all (fun f => f.name != "_") = true) :
    P.eqGuardType P.depth T = false ∧ ∀ (x y : Abbr) (w : World), (Op.equalIn 10000 T (.agg #[.string x.word, .string x.short]) (.agg #[.string y.word, .string y.short])).run P w = .ok (beqS x.word y.word && beqS x.short y.short) w := by
  refine ⟨hg, fun x y w => ?_⟩
  obtain ⟨fs, hu, hsz, hf⟩ := (ht T _ hT).und
  have hfo : P.fieldsOf T = fs := by simp [Program.fieldsOf, hu]
  rw [run_equalIn_agg (P := P) w 9999 T _ _ (by rw [hfo]; exact hu) hs, hfo]
  rw [hfo, Array.all_eq_true'] at hn
  have hname : ∀ f ∈ fs.toList, f.name ≠ "_" := fun f hm => by simpa using hn f (by simpa using hm)
  have hget : ∀ i f, fs.toList[i]? = some f → ∃ σ, (fty .abbr)[i]? = some σ ∧ f.offset = offL (fty .abbr) i ∧ E.ty f.type = some σ := fun i f h => hf i f (by simpa using h)
  have hlen : fs.toList.length = 2 := by simpa [fty] using hsz
  match hl : fs.toList, hlen with
  | [f0, f1], _ =>
    rw [hl] at hname hget
    obtain ⟨s0, a0, b0, c0⟩ := hget 0 f0 rfl
    obtain ⟨s1, a1, b1, c1⟩ := hget 1 f1 rfl
    cases a0; cases a1
    have e1 := eqF_cons (P := P) (w := w) (d := 9999) (xs := #[.string x.word, .string x.short]) (ys := #[.string y.word, .string y.short]) (hname f1 (by simp)) (part_one (v := .string x.short) (ht _ _ c1) rfl (by rw [b1]; rfl)) (part_one (v := .string y.short) (ht _ _ c1) rfl (by rw [b1]; rfl)) (run_equalIn_string w 9998 f1.type _ _ (ht _ _ c1).und) eqF_nil
    have e0 := eqF_cons (hname f0 (by simp)) (part_one (v := .string x.word) (ht _ _ c0) rfl (by rw [b0]; rfl)) (part_one (v := .string y.word) (ht _ _ c0) rfl (by rw [b0]; rfl)) (run_equalIn_string w 9998 f0.type _ _ (ht _ _ c0).und) e1
    rw [e0]
    simp [beqS]
end Go.Gx
end
section
/- What a printed function answers with rounds enough; plain lemmas. -/
namespace Go.Gx
set_option linter.unusedVariables false
set_option linter.unusedSimpArgs false

/-- With rounds enough f answers r. -/
def Ev {α : Type} (f : Nat → Option α) (r : α) : Prop := ∃ K, ∀ k, K ≤ k → f k = some r
theorem Ev.pure {α : Type} (r : α) : Ev (fun _ => some r) r := ⟨0, fun _ _ => rfl⟩
theorem Ev.const {α : Type} {f : Option α} {r : α} (h : f = some r) : Ev (fun _ => f) r := ⟨0, fun _ _ => h⟩
theorem Ev.bind {α β : Type} {f : Nat → Option α} {g : Nat → α → Option β} {a : α} {b : β} (hf : Ev f a) (hg : Ev (fun k => g k a) b) : Ev (fun k => (f k).bind (g k)) b := by
  obtain ⟨K, hK⟩ := hf
  obtain ⟨L, hL⟩ := hg
  exact ⟨max K L, fun k hk => by show (f k).bind (g k) = some b; rw [hK k (by omega), Option.bind_some]; exact hL k (by omega)⟩
/-- .. where what is bound takes no rounds. -/
theorem Ev.bind0 {α β : Type} {f : Option α} {g : Nat → α → Option β} {a : α} {b : β} (hf : f = some a) (hg : Ev (fun k => g k a) b) : Ev (fun k => f.bind (g k)) b := by
  subst hf; exact hg
theorem Ev.step {α : Type} {f g : Nat → Option α} {r : α} (h : ∀ k, f (k + 1) = g k) (hg : Ev g r) : Ev f r := by
  obtain ⟨K, hK⟩ := hg
  exact ⟨K + 1, fun k hk => by obtain ⟨m, rfl⟩ : ∃ m, k = m + 1 := ⟨k - 1, by omega⟩; rw [h]; exact hK m (by omega)⟩
theorem Ev.congr {α : Type} {f g : Nat → Option α} {r : α} (hg : Ev g r) (h : ∀ k, f k = g k) : Ev f r := by
  obtain ⟨K, hK⟩ := hg
  exact ⟨K, fun k hk => by rw [h]; exact hK k hk⟩
theorem Ev.eq {α : Type} {f : Nat → Option α} {r s : α} (h : Ev f r) (e : r = s) : Ev f s := e ▸ h
theorem Ev.get {α : Type} {f : Nat → Option α} {r : α} (h : Ev f r) : ∃ k, f k = some r := by
  obtain ⟨K, hK⟩ := h; exact ⟨K, hK K (Nat.le_refl K)⟩
theorem Ev.uniq {α : Type} {f : Nat → Option α} {r s : α} (h : Ev f r) (h' : Ev f s) : r = s := by
  obtain ⟨K, hK⟩ := h
  obtain ⟨L, hL⟩ := h'
  have := (hK (max K L) (by omega)).symm.trans (hL (max K L) (by omega))
  exact Option.some.inj this
theorem Ev.cond {α : Type} {b : Bool} {f g : Nat → Option α} {r : α} (h1 : b = true → Ev f r) (h2 : b = false → Ev g r) : Ev (fun k => cond b (f k) (g k)) r := by
  cases b with
  | true => exact h1 rfl
  | false => exact h2 rfl
theorem Ev.inl {α β γ : Type} {f : Nat → Option (Sum α β)} {g : Nat → α → Option γ} {h : Nat → β → Option γ} {a : α} {r : γ} (hf : Ev f (.inl a)) (hg : Ev (fun k => g k a) r) : Ev (fun k => (f k).bind fun y => match y with | .inl z => g k z | .inr z => h k z) r := Ev.bind hf hg
theorem Ev.inr {α β γ : Type} {f : Nat → Option (Sum α β)} {g : Nat → α → Option γ} {h : Nat → β → Option γ} {a : β} {r : γ} (hf : Ev f (.inr a)) (hg : Ev (fun k => h k a) r) : Ev (fun k => (f k).bind fun y => match y with | .inl z => g k z | .inr z => h k z) r := Ev.bind hf hg
/-- With rounds enough f answers something of this kind. -/
def EvP {α : Type} (f : Nat → Option α) (P : α → Prop) : Prop := ∃ r, Ev f r ∧ P r
theorem EvP.pure {α : Type} {P : α → Prop} (r : α) (h : P r) : EvP (fun _ => some r) P := ⟨r, Ev.pure r, h⟩
theorem EvP.bind {α β : Type} {f : Nat → Option α} {g : Nat → α → Option β} {P : α → Prop} {Q : β → Prop} (hf : EvP f P) (hg : ∀ a, P a → EvP (fun k => g k a) Q) : EvP (fun k => (f k).bind (g k)) Q := by
  obtain ⟨a, h1, h2⟩ := hf
  obtain ⟨r, h3, h4⟩ := hg a h2
  exact ⟨r, Ev.bind h1 h3, h4⟩
theorem EvP.of {α β : Type} {f : Nat → Option α} {g : Nat → α → Option β} {a : α} {Q : β → Prop} (hf : Ev f a) (hg : EvP (fun k => g k a) Q) : EvP (fun k => (f k).bind (g k)) Q := by
  obtain ⟨r, h3, h4⟩ := hg
  exact ⟨r, Ev.bind hf h3, h4⟩
theorem EvP.of0 {α β : Type} {f : Option α} {g : Nat → α → Option β} {a : α} {Q : β → Prop} (hf : f = some a) (hg : EvP (fun k => g k a) Q) : EvP (fun k => f.bind (g k)) Q := by
  subst hf; exact hg
theorem EvP.step {α : Type} {f g : Nat → Option α} {P : α → Prop} (h : ∀ k, f (k + 1) = g k) (hg : EvP g P) : EvP f P := by
  obtain ⟨r, h1, h2⟩ := hg
  exact ⟨r, Ev.step h h1, h2⟩
theorem EvP.mono {α : Type} {f : Nat → Option α} {P Q : α → Prop} (h : EvP f P) (hq : ∀ r, P r → Q r) : EvP f Q := by
  obtain ⟨r, h1, h2⟩ := h
  exact ⟨r, h1, hq r h2⟩
theorem EvP.ev {α : Type} {f : Nat → Option α} {s : α} (h : EvP f fun r => r = s) : Ev f s := by
  obtain ⟨r, h1, rfl⟩ := h; exact h1
theorem Ev.evp {α : Type} {f : Nat → Option α} {s : α} {P : α → Prop} (h : Ev f s) (hp : P s) : EvP f P := ⟨s, h, hp⟩
/-- Two that answer the same. -/
def EvQ {α : Type} (f g : Nat → Option α) : Prop := ∃ r, Ev f r ∧ Ev g r
theorem EvQ.pure {α : Type} (r : α) : EvQ (fun _ => some r) (fun _ => some r) := ⟨r, Ev.pure r, Ev.pure r⟩
theorem EvQ.bind {α β : Type} {f f' : Nat → Option α} {g g' : Nat → α → Option β} (hf : EvQ f f') (hg : ∀ a, EvQ (fun k => g k a) (fun k => g' k a)) : EvQ (fun k => (f k).bind (g k)) (fun k => (f' k).bind (g' k)) := by
  obtain ⟨a, h1, h2⟩ := hf
  obtain ⟨r, h3, h4⟩ := hg a
  exact ⟨r, Ev.bind h1 h3, Ev.bind h2 h4⟩

/-! ### Tests -/
theorem cpos {α : Type} {p : Prop} [Decidable p] {a b : α} (h : p) : cond (decide p) a b = a := by rw [decide_eq_true h]; rfl
theorem cneg {α : Type} {p : Prop} [Decidable p] {a b : α} (h : ¬ p) : cond (decide p) a b = b := by rw [decide_eq_false h]; rfl
theorem ceq {α : Type} {x y : Int} {a b : α} (h : x = y) : cond (x == y) a b = a := by rw [show (x == y) = true by simpa using h]; rfl
theorem cne {α : Type} {x y : Int} {a b : α} (h : x ≠ y) : cond (x == y) a b = b := by rw [show (x == y) = false by simpa using h]; rfl
theorem cbeq {α : Type} {x y : Int} {a b : α} (h : x = y) : cond (x != y) a b = b := by rw [show (x != y) = false by simpa using h]; rfl
theorem cbne {α : Type} {x y : Int} {a b : α} (h : x ≠ y) : cond (x != y) a b = a := by rw [show (x != y) = true by simpa using h]; rfl
theorem cnb {α : Type} {p : Prop} [Decidable p] {a b : α} : cond (!decide p) a b = cond (decide p) b a := by cases decide p <;> rfl
theorem cnot {α : Type} {c : Bool} {a b : α} : cond (!c) a b = cond c b a := by cases c <;> rfl
theorem cble {α : Type} {n m : Nat} {a b : α} (h : n ≤ m) : cond (Nat.ble n m) a b = a := by rw [Nat.ble_eq_true_of_le h]; rfl
theorem dpos {p : Prop} [Decidable p] (h : p) : decide p = true := decide_eq_true h
theorem dneg {p : Prop} [Decidable p] (h : ¬ p) : decide p = false := decide_eq_false h
theorem wrap_in {x : Int} (h1 : -9223372036854775808 ≤ x) (h2 : x ≤ 9223372036854775807) : IntKind.wrap .i64 x = x := by
  rw [IntKind.wrap_i64]; omega
theorem wf_i64 {n : Int} (h : WF (.int .i64) n) : -9223372036854775808 ≤ n ∧ n ≤ 9223372036854775807 := by
  cases h with
  | int _ _ h =>
    have h1 : IntKind.i64.min = -9223372036854775808 := rfl
    have h2 : IntKind.i64.max = 9223372036854775807 := rfl
    simp only [Lit.wf, Bool.and_eq_true, decide_eq_true_eq] at h
    omega
theorem maxLen_eq : maxLen = 9223372036854775807 := by decide
theorem wf_str {s : ByteArray} (h : WF .str s) : s.size ≤ 9223372036854775807 := by
  cases h with | str _ h => exact maxLen_eq ▸ h

/-! ### Texts -/
def L (s : ByteArray) : List UInt8 := s.data.toList
theorem L_inj {s t : ByteArray} (h : L s = L t) : s = t := by
  cases s; cases t
  simp only [L] at h
  rw [Array.toList_inj.1 h]
theorem L_size (s : ByteArray) : (L s).length = s.size := rfl
theorem toList_eq (s : ByteArray) : s.toList = s.data.toList := ByteArray.toList_eq s
theorem beqS_iff {s t : ByteArray} : beqS s t = true ↔ s = t := by
  unfold beqS
  rw [beq_iff_eq, toList_eq, toList_eq]
  exact ⟨fun h => L_inj h, fun h => by rw [h]⟩
theorem beqS_self (s : ByteArray) : beqS s s = true := beqS_iff.2 rfl
theorem beqS_eq (s t : ByteArray) : beqS s t = (L s == L t) := by
  unfold beqS; rw [toList_eq, toList_eq]; rfl
theorem L_bt (s : ByteArray) (i : Nat) : bt s i = (((L s).getD i 0).toNat : Int) := by
  simp [bt, L, Array.getD_eq_getD_getElem?, List.getD_eq_getElem?_getD]
theorem bt_range (s : ByteArray) (i : Nat) : 0 ≤ bt s i ∧ bt s i ≤ 255 := by
  unfold bt
  have := (s.data.getD i 0).toNat_lt
  omega
theorem L_extract (s : ByteArray) (a b : Nat) : L (s.extract a b) = ((L s).take b).drop a := by
  simp [L, ByteArray.data_extract, List.drop_take]
theorem L_append (s t : ByteArray) : L (s ++ t) = L s ++ L t := by simp [L, ByteArray.data_append]
theorem L_mk (l : List UInt8) : L ⟨l.toArray⟩ = l := by simp [L]
theorem size_mk (l : List UInt8) : (⟨l.toArray⟩ : ByteArray).size = l.length := by simp [ByteArray.size]

/-! ### Loops -/
/-- A loop that stops at the first one that isn't so. -/
theorem loop_all {R : Type} {f : Nat → Int → Option R} {n : Nat} {p : Nat → Bool} {no yes : R} (hno : ∀ i : Nat, i < n → p i = false → Ev (fun k => f k i) no)
    (hyes : ∀ (i : Nat) r, i < n → p i = true → Ev (fun k => f k ((i : Int) + 1)) r → Ev (fun k => f k i) r) (hend : Ev (fun k => f k n) yes) :
    ∀ m i : Nat, i + m = n → Ev (fun k => f k i) (if (List.range' i m).all p = true then yes else no)
  | 0, i, h => by
    rw [show i = n by omega]
    exact hend
  | m + 1, i, h => by
    rw [List.range'_succ, List.all_cons]
    cases hp : p i with
    | false => exact hno i (by omega) hp
    | true =>
      rw [Bool.true_and]
      exact hyes i _ (by omega) hp (loop_all hno hyes hend m (i + 1) (by omega))
theorem range_all {α : Type} (xs : List α) (d : α) (q : α → Bool) : (List.range' 0 xs.length).all (fun i => q (xs.getD i d)) = xs.all q := by
  rw [Bool.eq_iff_iff]
  simp only [List.all_eq_true, List.mem_range'_1, Nat.zero_add, Nat.zero_le, true_and]
  constructor
  · intro h x hx
    obtain ⟨i, hi, rfl⟩ := List.getElem_of_mem hx
    have := h i hi
    simpa [List.getD, hi] using this
  · intro h i hi
    simpa [List.getD, hi] using h _ (List.getElem_mem hi)
end Go.Gx
end
