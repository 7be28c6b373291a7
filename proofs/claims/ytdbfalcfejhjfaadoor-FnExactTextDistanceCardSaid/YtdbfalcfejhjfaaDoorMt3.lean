/- What is printed of a function, tied to the machine. -/
import Derived.Test.YtdbfalcfejhjfaaDoorMt2
import Derived.ChangeSame
import Derived.Carry
import Derived.WideKeyArgs
import Derived.Deep.Slices
import Derived.ProofKit
import Derived.Shelf.Strings.Builder1
import Derived.Shelf.Strings.Builder2
import Derived.Shelf.Strings.OnBuilder
import Derived.Shelf.Strings.Trim
import Derived.Shelf.Small.Utf8
import Derived.Shelf.Small.Strs
import Derived.Shelf.Utf8.RuneCount
import Derived.Shelf.Strings.Search1
import Derived.Shelf.Strings.Search2
import Derived.Shelf.Strings.Search3
import Derived.Shelf.Strings.Count
import Derived.Shelf.LaysM
import Derived.Shelf.Strings.Shaped
import Derived.Shelf.Strings.Split
import Derived.Shelf.Strings.SplitShaped
import Derived.Shelf.Unicode.Decode
import Derived.Shelf.Strings.Runes
import Derived.Shelf.Strings.RuneCount
import Derived.Shelf.Strings.AsciiSet
import Derived.Shelf.Strings.Explode
import Derived.Shelf.Unicode.DecodeSlow
import Derived.Shelf.Unicode.DecodeAny
import Derived.Shelf.Unicode.DecodeLast
import Derived.Test.YtdbfalcfejhjfaaDoorProg
import Derived.Shelf.Vars
import Derived.Below
import Derived.Lib.IndexMore
import Derived.Lib.Split
import Derived.Lib.SplitLaws
import Derived.Lib.Repeat
import Derived.Deep.Draws
import Derived.Lib.Join
import Derived.Lib.SlTrimSet
import Derived.Lib.IndexAny
import Derived.Lib.TrimByte
import Derived.Laws.AppendOwn
import Derived.Test.YtdbfalcfejhjfaaDoorMt1
import Derived.Laws.StructEq
import Derived.KernelRfl
import Derived.Lib.Strings
import Derived.Lib.IndexBytes
import Derived.Lib.IndexLaws
import Derived.Lib.CountLaws
section
namespace Go.Gx
open Go.RowKit
set_option linter.unusedVariables false
set_option linter.unusedSimpArgs false

def CG (C : Orc) : Cal → List AV → AV → Prop := fun cal av res => C cal av some = some res
def LG (L : LOrc) : Nat → St → Ex → St → Prop := fun b st e st' => L b st (fun e s => some (e, s)) = some (e, st')

theorem mem_keys {b : Nat} {d : Code} : ∀ {l : List (Nat × Code)}, (b, d) ∈ l → b ∈ keysOf l
  | [], h => by cases h
  | p :: l, h => by
    rcases List.mem_cons.1 h with e | h
    · subst e; exact List.mem_cons_self
    · exact List.mem_cons_of_mem _ (mem_keys h)
theorem findL_mem : ∀ {l : List (Nat × Code)} {b : Nat} {d : Code}, (keysOf l).Nodup → (b, d) ∈ l → findL b l = d
  | [], b, d, _, h => by cases h
  | p :: l, b, d, hn, h => by
    obtain ⟨h1, h2⟩ := List.nodup_cons.1 (show (p.1 :: keysOf l).Nodup from hn)
    unfold findL
    rcases List.mem_cons.1 h with e | h
    · subst e; simp
    · have hne : p.1 ≠ b := by rintro rfl; exact h1 (mem_keys h)
      rw [beq_eq, decide_eq_false hne]
      exact findL_mem h2 h
theorem loopsOf_sub : ∀ {c : Code} {b : Nat} {p q : Nat × Code}, p ∈ loopsOf b c → q ∈ loopsOf p.1 p.2 → q ∈ loopsOf b c
  | .seq x y, b, p, q, hp, hq => by
    rcases List.mem_append.1 hp with hp | hp
    · exact List.mem_append_left _ (loopsOf_sub hp hq)
    · exact List.mem_append_right _ (loopsOf_sub hp hq)
  | .cond _ x y, b, p, q, hp, hq => by
    rcases List.mem_append.1 hp with hp | hp
    · exact List.mem_append_left _ (loopsOf_sub hp hq)
    · exact List.mem_append_right _ (loopsOf_sub hp hq)
  | .block id c, b, p, q, hp, hq => loopsOf_sub (c := c) (b := id) hp hq
  | .loop c, b, p, q, hp, hq => by
    rcases List.mem_cons.1 hp with e | hp
    · subst e; exact List.mem_cons_of_mem _ hq
    · exact List.mem_cons_of_mem _ (loopsOf_sub hp hq)
  | .skip, _, _, _, hp, _ => by cases hp
  | .region .., _, _, _, hp, _ => by cases hp
  | .exit _, _, _, _, hp, _ => by cases hp
  | .ret, _, _, _, hp, _ => by cases hp
  | .rangeFunc .., _, _, _, hp, _ => by cases hp
  | .scope _, _, _, _, hp, _ => by cases hp
  | .label _, _, _, _, hp, _ => by cases hp
  | .goto _, _, _, _, hp, _ => by cases hp
  | .refuse _, _, _, _, hp, _ => by cases hp
theorem loopAt_eq {f : Func} {c : Code} (hb : f.body = some c) (h : loopsOk f = true) {p : Nat × Code} (hp : p ∈ loopsOf 0 c) : loopAt f p.1 = p.2 := by
  unfold loopsOk at h
  unfold loopAt
  rw [hb] at h ⊢
  exact findL_mem (distinctL_nodup h) hp
theorem viewN_some {nt : Nat} {st : St} {l : List Sp} {x : SX l} (h : viewN nt st l = some x) : st.nt = nt ∧ view ((renam st l).freeze (rdIds (renam st l) l)) l = some x := by
  unfold viewN at h
  split at h
  · rename_i e; exact ⟨Nat.eq_of_beq_eq_true e, h⟩
  · cases h

/-- A round of a loop, by what is printed of it. -/
def StepOk (E : Env) (C : Orc) (L : LOrc) (nt : Nat) (d : Code) (b : Nat) (e : Ex) (st st' : St) : Prop :=
  ∃ sp : List Sp, ∃ x : SX sp, spOk sp = true ∧ viewN nt st sp = some x ∧ ∃ Y : Type, ∃ y : Y, ∃ cont : Ex → St → Option Y, runC E C L b d (stOf nt sp x) cont = some y ∧
    ∀ e1 st1, cont e1 st1 = some y → (e1 = .normal ∧ LG L b st1 e st') ∨ (e1 = e ∧ e ≠ .normal ∧ ∃ sp' : List Sp, ∃ x' : SX sp', spOk sp' = true ∧ viewN nt st1 sp' = some x' ∧ st' = stOf nt sp' x')

theorem rounds_ok {P : Program} {E : Env} {pv : Nat → Value} (hE : EnvOk P E) {C : Nat → Orc} {L : Nat → LOrc} (hC : ∀ k, OrcIs (C k) (CG (C k))) (hL : ∀ k, LIs (L k) (LG (L k))) {fn : Func} {c : Code} (hb : fn.body = some c) (hok : loopsOk fn = true)
    {n : Nat} (hG : ∀ k, k < n → GOk P E pv (CG (C k))) (h0 : ∀ b st e st', ¬ LG (L 0) b st e st') (hS : ∀ k b e st st', b ∈ keysOf (loopsOf 0 c) → LG (L (k + 1)) b st e st' → StepOk E (C k) (L k) fn.ntmps (loopAt fn b) b e st st') :
    ∀ (k : Nat), k ≤ n → ∀ (w0 : World) (B : Old), ∀ p ∈ loopsOf 0 c, ∀ (st : St) (e : Ex) (st' : St) (S : Nat → Prop) (ρ : Nat → Option Loc) (a : Act) (w : World) (Q : Exit → Act → World → Prop), LG (L k) p.1 st e st' → Sim w0 B pv S ρ st a w → GlOk E S w →
      (∀ S' ρ' a' w', Sim w0 B pv S' ρ' st' a' w' → GlOk E S' w' → Grew B S S' → Q (exw e) a' w') → Code.rounds P p.2 Q k a w
  | 0, _, _, _, _, _, _, _, _, _, _, _, _, _, h, _, _, _ => absurd h (h0 _ _ _ _)
  | k + 1, hkn, w0, B, p, hp, st, e, st', S, ρ, a, w, Q, h, hs, hgl, hQ => by
    have ih := rounds_ok hE hC hL hb hok hG h0 hS k (by omega) w0 B
    obtain ⟨sp, x, hsp, hv, Y, y, cont, hrun, hcont⟩ := hS k p.1 e st st' (mem_keys hp) h
    rw [loopAt_eq hb hok hp] at hrun
    obtain ⟨hnt, hv⟩ := viewN_some hv
    obtain ⟨ρ0, hs0⟩ := hs.renam sp
    have hgf := grew_frz hs0 (rdIds (renam st sp) sp)
    obtain ⟨ρ1, hs1⟩ := (hs0.frzs (rdIds (renam st sp) sp)).view hv hsp
    rw [(freeze_slot _ (renam st sp)).2, renam_nt, hnt] at hs1
    obtain ⟨e1, st1, hcr, hc1⟩ := runC_rel (hC k) (hL k) _ _ _ hrun
    rw [rounds_succ]
    have hloops : ∀ q ∈ loopsOf p.1 p.2, LoopSound P E w0 B pv q.2 (LG (L k) q.1) := fun q hq st e st' S ρ a w Q h hs hgl hQ =>
      wp_loop_rounds k (ih q (loopsOf_sub hp hq) st e st' S ρ a w Q h hs hgl hQ)
    refine code_ok hE (hG k (by omega)) hcr hloops hs1 (hgl.mono (fun _ h => .inl h) (fun _ _ => rfl)) fun S1 ρ2 a1 w1 hs2 hgl2 hg => ?_
    have hg := hgf.trans hg
    rcases hcont e1 st1 hc1 with ⟨rfl, hl⟩ | ⟨rfl, hne, sp', x', hsp', hv', rfl⟩
    · exact ih p hp st1 e st' S1 ρ2 a1 w1 Q hl hs2 hgl2 fun S2 ρ3 a2 w2 hs3 hgl3 hg3 => hQ S2 ρ3 a2 w2 hs3 hgl3 (hg.trans hg3)
    · obtain ⟨hnt', hv'⟩ := viewN_some hv'
      obtain ⟨ρ0', hs0'⟩ := hs2.renam sp'
      have hgf' := grew_frz hs0' (rdIds (renam st1 sp') sp')
      obtain ⟨ρ3, hs3⟩ := (hs0'.frzs (rdIds (renam st1 sp') sp')).view hv' hsp'
      rw [(freeze_slot _ (renam st1 sp')).2, renam_nt, hnt'] at hs3
      have := hQ _ ρ3 a1 w1 hs3 (hgl2.mono (fun _ h => .inl h) (fun _ _ => rfl)) (hg.trans hgf')
      cases e1 with
      | normal => exact absurd rfl hne
      | exit id => exact this
      | ret => exact this

/-! ### Answers, seen as of a kind -/
inductive Wk1 : AV → AV → Prop
  | refl (a : AV) : Wk1 a a
  | nilFr (e : Nat) (τ : Ty) (h : 0 < nc τ) : Wk1 .nil (.fr e τ [])
  | nilT (e : Ty) : Wk1 .nil (.t (.sl e) [])
  | frT (e : Nat) (τ : Ty) (xs : List (den τ)) : Wk1 (.fr e τ xs) (.t (.sl τ) xs)
theorem rk_wk {k : RK} {a : AV} {x : k.X} (h : k.view a = some x) : Wk1 a (k.val x) := by
  cases k with
  | t τ =>
    simp only [RK.view] at h
    split at h
    · rename_i e σ xs
      split at h
      · rename_i ρ
        split at h
        · rename_i e' _
          subst e'
          cases h
          exact .frT e _ xs
        · cases h
      · cases h
    · rename_i hn
      rcases asT_form h with rfl | rfl
      · exact .refl _
      · cases τ <;> simp [asT] at h
        subst h
        exact .nilT _
  | fr e τ =>
    simp only [RK.view] at h
    split at h
    · rename_i e' σ xs
      split at h
      · rename_i e'' _ he
        subst e''
        cases h
        have := Nat.eq_of_beq_eq_true he
        subst this
        exact .refl _
      · cases h
    · split at h
      · rename_i hp
        cases h
        exact .nilFr e τ (Nat.le_of_ble_eq_true hp)
      · cases h
    · cases h
theorem R1.new {S : Nat → Prop} {w : World} {n0 : Nat} {pv : Nat → Value} {a : AV} {v : Value} {b : Nat} (h : R1 S w n0 pv a v (some b)) : n0 ≤ b ∧ b < w.heap.size ∧ ¬ S b := by
  cases h with
  | fr e τ xs g cap hg hS hr => exact ⟨hg, hr.lt, hS⟩
theorem wk1_ok {S : Nat → Prop} {w : World} {n0 : Nat} {pv : Nat → Value} {a a' : AV} {v : Value} {g : Option Nat} (h : Wk1 a a') (hr : R1 S w n0 pv a v g) :
    ∃ g', (g' = none ∨ g' = g) ∧ ∀ S2 : Nat → Prop, (∀ b, S b → S2 b) → (∀ b, g = some b → g' = none → S2 b) → (∀ b, g' = some b → ¬ S2 b) → R1 S2 w n0 pv a' v g' := by
  have row : ∀ {S2 : Nat → Prop} {e : Nat} {τ : Ty} {xs : List (den τ)} {l : Loc}, (∀ b, S b → S2 b) → RowOk S w (fun _ => none) (fun _ => none) pv (.flat e τ xs false true) l → RowOk S2 w (fun _ => none) (fun _ => none) pv (.flat e τ xs false true) l := fun hsub h =>
    h.ext (P := fun _ => True) hsub (fun _ _ => rfl) (fun id l r _ h1 => by cases h1) (fun _ _ _ => rfl) (fun _ _ e => by cases e)
  cases h with
  | refl =>
    refine ⟨g, .inr rfl, fun S2 hsub _ hn => ?_⟩
    cases hr with
    | plain _ cs ha => exact .plain a cs (ha.ext (P := fun _ => True) hsub (fun _ _ => rfl) (fun id l r _ h1 => by cases h1) (fun _ _ => trivial))
    | fr e τ xs g cap hg hS hrow => exact .fr e τ xs g cap hg (hn g rfl) (row hsub hrow)
    | frNil e τ hp => exact .frNil e τ hp
  | nilFr e τ hp =>
    refine ⟨none, .inl rfl, fun S2 hsub _ _ => ?_⟩
    cases hr with
    | plain _ cs ha => cases ha; exact .frNil e τ hp
  | nilT e =>
    refine ⟨none, .inl rfl, fun S2 hsub _ _ => ?_⟩
    cases hr with
    | plain _ cs ha => cases ha; exact .plain (.t (.sl e) []) _ (.t _ _ _ (cr_nil S2 w e))
  | frT e τ xs =>
    refine ⟨none, .inl rfl, fun S2 hsub hS2 _ => ?_⟩
    cases hr with
    | plain _ cs ha => cases ha
    | fr _ _ _ g cap hg hS hrow =>
      obtain ⟨cur, f, h1, h2, h3, h4, h5, h6, h7, h8⟩ := row hsub hrow
      have hx : ∀ i, ∃ cs, ∀ (hi : i < xs.length), CR S2 w τ xs[i] cs ∧ ∀ j v, cs[j]? = some v → cur[i * nc τ + j]? = some v := fun i => by
        by_cases hi : i < xs.length
        · obtain ⟨cs, hc⟩ := h8 i hi
          exact ⟨cs, fun _ => hc⟩
        · exact ⟨[], fun h => absurd h hi⟩
      refine .plain (.t (.sl τ) xs) [.slice (some ⟨g, 0, none⟩) xs.length cap] (.t _ _ _ (.sl τ xs _ cap (fun i => Classical.choose (hx i)) h3 h4 (fun i hi => (Classical.choose_spec (hx i) hi).1) fun i hi => ⟨g, 0, rfl, hS2 g rfl rfl, fun j v hj => ?_⟩))
      have := (Classical.choose_spec (hx i) hi).2 j v hj
      simp only [World.cell?, h1, Nat.zero_add]
      simpa using this
    | frNil _ _ hp => exact .plain (.t (.sl τ) []) _ (.t _ _ _ (cr_nil S2 w τ))
def Wk (r r' : AV) : Prop := ((∀ l, r ≠ .tup l) ∧ (∀ l, r' ≠ .tup l) ∧ Wk1 r r') ∨ ∃ rs rs', r = .tup rs ∧ r' = .tup rs' ∧ rs'.length = rs.length ∧ ∀ (i : Nat) a a', rs[i]? = some a → rs'[i]? = some a' → Wk1 a a'
theorem rr_one {S : Nat → Prop} {w : World} {n0 : Nat} {pv : Nat → Value} {r : AV} {v : Value} (h : ∀ l, r ≠ .tup l) : RR S w n0 pv r v ↔ ∃ g, R1 S w n0 pv r v g := by
  cases r with
  | tup l => exact absurd rfl (h l)
  | _ => exact Iff.rfl
theorem rr_wk {S : Nat → Prop} {w : World} {n0 : Nat} {pv : Nat → Value} {r r' : AV} {v : Value} (h : Wk r r') (hr : RR S w n0 pv r v) :
    ∃ S2 : Nat → Prop, (∀ b, S b → S2 b) ∧ (∀ b, S2 b → S b ∨ (n0 ≤ b ∧ b < w.heap.size)) ∧ RR S2 w n0 pv r' v := by
  rcases h with ⟨h1, h2, h3⟩ | ⟨rs, rs', rfl, rfl, hl, hw⟩
  · obtain ⟨g, hg⟩ := (rr_one h1).1 hr
    obtain ⟨g', h4, h5⟩ := wk1_ok h3 hg
    refine ⟨fun b => S b ∨ (g = some b ∧ g' = none), fun b hb => .inl hb, fun b hb => hb.imp _root_.id fun ⟨e, _⟩ => by subst e; exact ⟨hg.new.1, hg.new.2.1⟩, (rr_one h2).2 ⟨g', h5 _ (fun b hb => .inl hb) (fun b e1 e2 => .inr ⟨e1, e2⟩) fun b e => ?_⟩⟩
    rcases h4 with h4 | h4
    · rw [h4] at e; cases e
    · rw [h4] at e
      subst e
      rintro (hb | ⟨_, hb⟩)
      · exact hg.new.2.2 hb
      · rw [h4] at hb; cases hb
  · obtain ⟨vs, gs, rfl, hvl, hgl, hc, hd⟩ := hr
    have key : ∀ i : Nat, ∃ g' : Option Nat, ∀ a a' v g, rs[i]? = some a → rs'[i]? = some a' → vs[i]? = some v → gs[i]? = some g → (g' = none ∨ g' = g) ∧ ∀ S2 : Nat → Prop, (∀ b, S b → S2 b) → (∀ b, g = some b → g' = none → S2 b) → (∀ b, g' = some b → ¬ S2 b) → R1 S2 w n0 pv a' v g' := fun i => by
      by_cases hi : i < rs.length
      · have e1 : rs[i]? = some rs[i] := List.getElem?_eq_getElem hi
        have e2 : rs'[i]? = some rs'[i] := List.getElem?_eq_getElem (by omega)
        have e3 : vs[i]? = some vs[i] := List.getElem?_eq_getElem (by omega)
        have e4 : gs[i]? = some gs[i] := List.getElem?_eq_getElem (by omega)
        obtain ⟨g', h1, h2⟩ := wk1_ok (hw i _ _ e1 e2) (hc i _ _ _ e1 e3 e4)
        refine ⟨g', fun a a' v g f1 f2 f3 f4 => ?_⟩
        rw [e1] at f1; rw [e2] at f2; rw [e3] at f3; rw [e4] at f4
        cases f1; cases f2; cases f3; cases f4
        exact ⟨h1, h2⟩
      · exact ⟨none, fun a a' v g f1 => by rw [List.getElem?_eq_none (by omega)] at f1; cases f1⟩
    obtain ⟨gf, hgf⟩ : ∃ gf : Nat → Option Nat, ∀ (i : Nat) a a' v g, rs[i]? = some a → rs'[i]? = some a' → vs[i]? = some v → gs[i]? = some g → (gf i = none ∨ gf i = g) ∧ ∀ S2 : Nat → Prop, (∀ b, S b → S2 b) → (∀ b, g = some b → gf i = none → S2 b) → (∀ b, gf i = some b → ¬ S2 b) → R1 S2 w n0 pv a' v (gf i) :=
      ⟨fun i => Classical.choose (key i), fun i => Classical.choose_spec (key i)⟩
    have full : ∀ i g, gs[i]? = some g → ∃ a v, rs[i]? = some a ∧ vs[i]? = some v ∧ R1 S w n0 pv a v g := fun i g hg => by
      have hi := (List.getElem?_eq_some_iff.1 hg).1
      have e1 : rs[i]? = some rs[i] := List.getElem?_eq_getElem (by omega)
      have e3 : vs[i]? = some vs[i] := List.getElem?_eq_getElem (by omega)
      exact ⟨_, _, e1, e3, hc i _ _ _ e1 e3 hg⟩
    refine ⟨fun b => S b ∨ ∃ i : Nat, gs[i]? = some (some b) ∧ gf i = none, fun b hb => .inl hb, fun b hb => ?_, vs, (List.range rs.length).map gf, rfl, by omega, by simp [hl], fun i r v g h1 h2 h3 => ?_, fun i j g hij h1 h2 => ?_⟩
    · rcases hb with hb | ⟨i, hi, _⟩
      · exact .inl hb
      · obtain ⟨a, v, _, _, h1⟩ := full i _ hi
        exact .inr ⟨h1.new.1, h1.new.2.1⟩
    · have hi : i < rs.length := by have := (List.getElem?_eq_some_iff.1 h1).1; omega
      have e1 : rs[i]? = some rs[i] := List.getElem?_eq_getElem hi
      have e4 : gs[i]? = some gs[i] := List.getElem?_eq_getElem (by omega)
      simp only [List.getElem?_map, List.getElem?_range hi, Option.map_some, Option.some.injEq] at h3
      subst h3
      obtain ⟨h5, h6⟩ := hgf i _ _ _ _ e1 h1 h2 e4
      refine h6 _ (fun b hb => .inl hb) (fun b e1 e2 => .inr ⟨i, by rw [e4, e1], e2⟩) fun b e => ?_
      rcases h5 with h5 | h5
      · rw [h5] at e; cases e
      · rw [h5] at e
        rw [e] at e4
        obtain ⟨_, _, _, _, h7⟩ := full i _ e4
        rintro (hb | ⟨j, hj, hb⟩)
        · exact h7.new.2.2 hb
        · by_cases hij : i = j
          · subst hij; rw [h5, e] at hb; cases hb
          · exact hd i j b hij e4 hj
    · have hi : i < rs.length := by have := (List.getElem?_eq_some_iff.1 h1).1; simpa using this
      have hj : j < rs.length := by have := (List.getElem?_eq_some_iff.1 h2).1; simpa using this
      simp only [List.getElem?_map, List.getElem?_range hi, List.getElem?_range hj, Option.map_some, Option.some.injEq] at h1 h2
      have f : ∀ i, i < rs.length → gf i = some g → gs[i]? = some (some g) := fun i hi h => by
        have e1 : rs[i]? = some rs[i] := List.getElem?_eq_getElem hi
        have e2 : rs'[i]? = some rs'[i] := List.getElem?_eq_getElem (by omega)
        have e3 : vs[i]? = some vs[i] := List.getElem?_eq_getElem (by omega)
        have e4 : gs[i]? = some gs[i] := List.getElem?_eq_getElem (by omega)
        rcases (hgf i _ _ _ _ e1 e2 e3 e4).1 with h5 | h5
        · rw [h5] at h; cases h
        · rw [e4, ← h5, h]
      exact hd i j g hij (f i hi h1) (f j hj h2)
theorem Goes.mono {P : Program} {E : Env} {pv : Nat → Value} {cal : Cal} {args args' : List AV} {r r' : AV} (h : Meets P E pv cal args r) (hw : Wk r r') (ha : ∀ S w vs, ArgsOk S w pv args' vs → ArgsOk S w pv args vs) : Meets P E pv cal args' r' := by
  intro S w vs hst hgl hargs
  have := h S w vs hst hgl (ha S w vs hargs)
  have step : ∀ v w', (Below w.heap.size w w' ∧ ∃ S' : Nat → Prop, (∀ b, S b → S' b) ∧ (∀ b, S' b → S b ∨ (w.heap.size ≤ b ∧ b < w'.heap.size)) ∧ RR S' w' w.heap.size pv r v) → (Below w.heap.size w w' ∧ ∃ S' : Nat → Prop, (∀ b, S b → S' b) ∧ (∀ b, S' b → S b ∨ (w.heap.size ≤ b ∧ b < w'.heap.size)) ∧ RR S' w' w.heap.size pv r' v) := fun v w' ⟨hb, S', h1, h2, h3⟩ => by
    obtain ⟨S2, h4, h5, h6⟩ := rr_wk hw h3
    exact ⟨hb, S2, fun b hb => h4 b (h1 b hb), fun b hb => (h5 b hb).elim (h2 b) .inr, h6⟩
  cases cal with
  | f n => exact RunsTo.mono this step
  | par i => exact RunsTo.mono this step
theorem viewT_get : ∀ {tys : List Ty} {av : List AV} {x : TX tys}, viewT tys av = some x → av.length = (tvals tys x).length ∧ ∀ (i : Nat) a b, av[i]? = some a → (tvals tys x)[i]? = some b → ∃ τ, ∃ y : den τ, b = .t τ y ∧ asT τ a = some y
  | [], [], x, _ => ⟨rfl, fun i a b h => by simp at h⟩
  | [], _ :: _, x, h => by simp [viewT] at h
  | τ :: l, [], x, h => by simp [viewT] at h
  | τ :: l, a :: as, x, h => by
    simp only [viewT] at h
    split at h
    · rename_i x0 hx
      split at h
      · rename_i y hy
        cases h
        obtain ⟨h1, h2⟩ := viewT_get hy
        refine ⟨by simp [tvals, h1], fun i b c hb hc => ?_⟩
        cases i with
        | zero => cases hb; cases hc; exact ⟨τ, x0, rfl, hx⟩
        | succ i => exact h2 i b c (by simpa using hb) (by simpa [tvals] using hc)
      · cases h
    · cases h
theorem meets_args {P : Program} {E : Env} {pv : Nat → Value} {cal : Cal} {tys : List Ty} {av : List AV} {x : TX tys} {r : AV} (hx : viewT tys av = some x) (h : Meets P E pv cal (tvals tys x) r) : Meets P E pv cal av r := by
  obtain ⟨h1, h2⟩ := viewT_get hx
  refine Goes.mono h ?_ fun S w vs ⟨h3, h4⟩ => ⟨h3.trans h1, fun i b v hb hv => ?_⟩
  · cases r with
    | tup rs => exact .inr ⟨rs, rs, rfl, rfl, rfl, fun i a a' e1 e2 => by rw [e1] at e2; cases e2; exact .refl a⟩
    | _ => exact .inl ⟨fun l h => (by cases h), fun l h => (by cases h), .refl _⟩
  · have hi := (List.getElem?_eq_some_iff.1 hb).1
    have ha : av[i]? = some av[i] := List.getElem?_eq_getElem (by omega)
    obtain ⟨τ, y, rfl, hy⟩ := h2 i _ b ha hb
    obtain ⟨cs, h5, h6⟩ := h4 i _ v ha hv
    exact ⟨cs, .t τ y cs (asT_ar hy h5), by rw [h6, valOf, valOf, asT_ag hy]⟩

/-! ### A function -/
theorem no_loops {P : Program} {E : Env} {pv : Nat → Value} {L : LOrc} (h : ∀ b st e st', ¬ LG L b st e st') (l : List (Nat × Code)) : ∀ w0 B, ∀ p ∈ l, LoopSound P E w0 B pv p.2 (LG L p.1) :=
  fun w0 B p _ st e st' S ρ a w Q hl => absurd hl (h _ _ _ _)
theorem wk_view1 {k : RK} {r : AV} {y : k.X} (h : viewR1 k r = some y) : Wk r (k.val y) := by
  refine .inl ⟨fun l e => ?_, fun l e => ?_, rk_wk h⟩
  · subst e; cases k <;> simp [viewR1, RK.view, asT] at h
  · cases k <;> cases e
theorem wk_view2 {k l : RK} {r : AV} {y : k.X × l.X} (h : viewR2 k l r = some y) : Wk r (.tup [k.val y.1, l.val y.2]) := by
  unfold viewR2 at h
  split at h
  · rename_i a b
    split at h
    · rename_i x z hx hz
      cases h
      refine .inr ⟨_, _, rfl, rfl, rfl, fun i c d hc hd => ?_⟩
      match i, hc, hd with
      | 0, hc, hd => cases hc; cases hd; exact rk_wk hx
      | 1, hc, hd => cases hc; cases hd; exact rk_wk hz
      | i + 2, hc, _ => simp at hc
    · cases h
  · cases h
theorem wk_view3 {k l m : RK} {r : AV} {y : k.X × l.X × m.X} (h : viewR3 k l m r = some y) : Wk r (.tup [k.val y.1, l.val y.2.1, m.val y.2.2]) := by
  unfold viewR3 at h
  split at h
  · rename_i a b c
    split at h
    · rename_i x z u hx hz hu
      cases h
      refine .inr ⟨_, _, rfl, rfl, rfl, fun i c d hc hd => ?_⟩
      match i, hc, hd with
      | 0, hc, hd => cases hc; cases hd; exact rk_wk hx
      | 1, hc, hd => cases hc; cases hd; exact rk_wk hz
      | 2, hc, hd => cases hc; cases hd; exact rk_wk hu
      | i + 3, hc, _ => simp at hc
    · cases h
  · cases h
theorem fun_good {P : Program} {E : Env} {pv : Nat → Value} (hE : EnvOk P E) {C : Orc} {L : LOrc} (hC : OrcIs C (CG C)) (hL : LIs L (LG L)) (hG : GOk P E pv (CG C)) {f : FuncId} {fn : Func} {c : Code} (hf : P.funcs[f]? = some fn) (hb : fn.body = some c) (hname : (fn.name == "runtime.NumGoroutine") = false)
    (hl : ∀ w0 B, ∀ p ∈ loopsOf 0 c, LoopSound P E w0 B pv p.2 (LG L p.1)) {args : List AV} (hn : args.length ≤ fn.ntmps) {R : Type} {K : AV → Option R} {y : R} (hrun : runF E C L fn args K = some y) {r' : AV} (hw : ∀ r, K r = some y → Wk r r') : Meets P E pv (.f f) args r' := by
  obtain ⟨c', res, e, st, rs, as, hfr, hk⟩ := runF_rel hC hL hrun
  have hcc : c' = c := by have := hfr.body; rw [hb] at this; cases this; rfl
  subst hcc
  exact Goes.mono (funR_meets hE hG hf hname hfr hn hl) (hw res hk) fun _ _ _ h => h
end Go.Gx
end
section
/- Tables of callees and of loops, and what they are tied by. -/
namespace Go.Gx
open Go.RowKit
set_option linter.unusedVariables false
set_option linter.unusedSimpArgs false

/-! ### Callees -/
/-- What is handed over: a row, a variable. -/
inductive MK where
  | fr (e : Nat) (τ : Ty)
  | bx (τ : Ty)
@[reducible] def MK.X : MK → Type
  | .fr _ τ => List (den τ)
  | .bx τ => den τ
def MK.val : (k : MK) → k.X → AV
  | .fr e τ, x => .fr e τ x
  | .bx τ, x => .bx τ x
def MK.view : (k : MK) → AV → Option k.X
  | .fr e τ, a => match a with
    | .fr e' σ xs => match decEq σ τ, Nat.beq e' e with
      | .isTrue h, true => some (h ▸ xs)
      | _, _ => none
    | _ => none
  | .bx τ, a => match a with
    | .bx σ x => match decEq σ τ with
      | .isTrue h => some (h ▸ x)
      | .isFalse _ => none
    | _ => none
theorem MK.view_eq {k : MK} {a : AV} {x : k.X} (h : k.view a = some x) : a = k.val x := by
  cases k with
  | fr e τ =>
    cases a <;> simp only [MK.view] at h <;> try cases h
    split at h
    · rename_i e' _ he
      subst e'
      cases h
      rw [Nat.eq_of_beq_eq_true he]; rfl
    · cases h
  | bx τ =>
    cases a <;> simp only [MK.view] at h <;> try cases h
    split at h
    · rename_i e' _
      subst e'
      cases h
      rfl
    · cases h
/-- An answer of a function that was handed something: what that is then, and the answer proper. -/
def viewK0 (k : MK) : AV → Option k.X
  | .kep o (.tup []) => k.view o
  | _ => none
def viewK {Y : Type} (k : MK) (V : AV → Option Y) : AV → Option (k.X × Y)
  | .kep o r => match k.view o, V r with
    | some a, some b => some (a, b)
    | _, _ => none
  | _ => none
def viewMov (e : Nat) (τ : Ty) : AV → Option (List (den τ))
  | .mov e' σ xs => match decEq σ τ, Nat.beq e' e with
    | .isTrue h, true => some (h ▸ xs)
    | _, _ => none
  | _ => none
inductive WkM : AV → AV → Prop
  | kep (o r r' : AV) (h : Wk r r') : WkM (.kep o r) (.kep o r')
  | mov (e : Nat) (τ : Ty) (ys : List (den τ)) : WkM (.mov e τ ys) (.mov e τ ys)
theorem wk_refl (r : AV) : Wk r r := by
  cases r with
  | tup rs => exact .inr ⟨rs, rs, rfl, rfl, rfl, fun i a a' e1 e2 => by rw [e1] at e2; cases e2; exact .refl a⟩
  | _ => exact .inl ⟨fun l h => (by cases h), fun l h => (by cases h), .refl _⟩
theorem wk_viewK0 {k : MK} {r : AV} {y : k.X} (h : viewK0 k r = some y) : WkM r (.kep (k.val y) (.tup [])) := by
  unfold viewK0 at h
  split at h
  · rw [MK.view_eq h]; exact .kep _ _ _ (wk_refl _)
  · cases h
theorem wk_viewK {Y : Type} {k : MK} {V : AV → Option Y} {out : Y → AV} (hV : ∀ r y, V r = some y → Wk r (out y)) {r : AV} {y : k.X × Y} (h : viewK k V r = some y) : WkM r (.kep (k.val y.1) (out y.2)) := by
  unfold viewK at h
  split at h
  · split at h
    · rename_i a b ha hb
      cases h
      rw [MK.view_eq ha]
      exact .kep _ _ _ (hV _ _ hb)
    · cases h
  · cases h
theorem wk_viewMov {e : Nat} {τ : Ty} {r : AV} {y : List (den τ)} (h : viewMov e τ r = some y) : WkM r (.mov e τ y) := by
  unfold viewMov at h
  split at h
  · split at h
    · rename_i e' _ he
      subst e'
      cases h
      rw [Nat.eq_of_beq_eq_true he]
      exact .mov _ _ _
    · cases h
  · cases h
theorem MeetsM.mono {P : Program} {E : Env} {pv : Nat → Value} {f : Nat} {a0 : AV} {args : List AV} {r r' : AV} (h : MeetsM P E pv f a0 args r) (hw : WkM r r') : MeetsM P E pv f a0 args r' := by
  intro S w v0 vs l r0 hst hgl hargs hr0 hrow hSl hv0
  have := h S w v0 vs l r0 hst hgl hargs hr0 hrow hSl hv0
  refine RunsTo.mono this fun v w' ⟨hb, S', h1, h2, h3⟩ => ?_
  cases hw with
  | mov e τ ys => exact ⟨hb, S', h1, h2, h3⟩
  | kep o r r' hw =>
    obtain ⟨h4, r1, ro, h5, h6, h7, h8, h9⟩ := h3
    obtain ⟨S2, k1, k2, k3⟩ := rr_wk hw h4
    have hlt : ∀ g c, l = .at g c → g < w.heap.size := fun g c e => by subst e; exact hrow.lt
    refine ⟨hb, S2, fun b hb => k1 b (h1 b hb), fun b hb => ?_, k3, r1, ro, h5, h6, ?_, h8, fun g c e hS => ?_⟩
    · rcases k2 b hb with h | h
      · exact h2 b h
      · exact .inr (.inr h)
    · exact RowOk.ext (P := fun _ => True) k1 (fun _ _ => rfl) (fun id l r _ h1 => by cases h1) h7 (fun _ _ _ => rfl) (fun _ _ _ _ _ => trivial)
    · rcases k2 g hS with h | h
      · exact h9 g c e h
      · have := hlt g c e; omega
/-! ### Arguments of more kinds: plain data, a variable that is read, a function value -/
inductive PK where
  | t (τ : Ty)
  | tp (τ : Ty)
  | clo (g : Nat) (cs : List CK)
@[reducible] def PK.X : PK → Type
  | .t τ => den τ
  | .tp τ => den τ
  | .clo _ cs => CX cs
def PK.val : (k : PK) → k.X → AV
  | .t τ, x => .t τ x
  | .tp τ, x => .tp (.t τ x)
  | .clo g cs, x => .clo g (cvals cs x)
def PK.view : (k : PK) → AV → Option k.X
  | .t τ, a => asT τ a
  | .tp τ, a => match a with
    | .tp b => asT τ b
    | _ => none
  | .clo g cs, a => match a with
    | .clo f caps => match Nat.beq f g with
      | true => viewC cs caps
      | false => none
    | _ => none
@[reducible] def PX : List PK → Type
  | [] => Unit
  | k :: l => k.X × PX l
def pvals : (l : List PK) → PX l → List AV
  | [], _ => []
  | k :: l, x => k.val x.1 :: pvals l x.2
def viewP : (l : List PK) → List AV → Option (PX l)
  | [], [] => some ()
  | k :: l, a :: al => match k.view a with
    | some x => match viewP l al with
      | some y => some (x, y)
      | none => none
    | none => none
  | _, _ => none
section
variable {S : Nat → Prop} {w : World} {ρ : Nat → Option Loc} {row : Nat → Option Row} {pv : Nat → Value}
theorem PK.ok {k : PK} {a : AV} {x : k.X} {cs : List Value} (hx : k.view a = some x) (h : AR S w ρ row pv a cs) : AR S w ρ row pv (k.val x) cs ∧ isAg a = isAg (k.val x) := by
  cases k with
  | t τ => exact ⟨.t _ _ _ (asT_ar hx h), (asT_ag hx).symm⟩
  | tp τ =>
    simp only [PK.view] at hx
    split at hx
    · exact ⟨tp_ar hx h, rfl⟩
    · cases hx
  | clo g ks =>
    simp only [PK.view] at hx
    split at hx
    · rename_i f caps
      split at hx
      · rename_i hf
        obtain rfl := Nat.eq_of_beq_eq_true hf
        exact ⟨clo_view hx h, rfl⟩
      · cases hx
    · cases hx
theorem viewP_get : ∀ {ks : List PK} {av : List AV} {x : PX ks}, viewP ks av = some x → av.length = (pvals ks x).length ∧ ∀ (i : Nat) a b, av[i]? = some a → (pvals ks x)[i]? = some b → ∃ k : PK, ∃ y : k.X, b = k.val y ∧ k.view a = some y
  | [], [], x, _ => ⟨rfl, fun i a b h => by simp at h⟩
  | [], _ :: _, x, h => by simp [viewP] at h
  | k :: l, [], x, h => by simp [viewP] at h
  | k :: l, a :: al, x, h => by
    simp only [viewP] at h
    split at h
    · rename_i x0 hx
      split at h
      · rename_i y hy
        cases h
        obtain ⟨h1, h2⟩ := viewP_get hy
        refine ⟨by simp [pvals, h1], fun i b c hb hc => ?_⟩
        cases i with
        | zero => cases hb; cases hc; exact ⟨k, x0, rfl, hx⟩
        | succ i => exact h2 i b c (by simpa using hb) (by simpa [pvals] using hc)
      · cases h
    · cases h
theorem args_viewP {ks : List PK} {av : List AV} {x : PX ks} {vs : List Value} (hx : viewP ks av = some x) (h : ArgsOk S w pv av vs) : ArgsOk S w pv (pvals ks x) vs := by
  obtain ⟨h1, h2⟩ := viewP_get hx
  obtain ⟨h3, h4⟩ := h
  refine ⟨h3.trans h1, fun i b v hb hv => ?_⟩
  have hi := (List.getElem?_eq_some_iff.1 hb).1
  have ha : av[i]? = some av[i] := List.getElem?_eq_getElem (by omega)
  obtain ⟨k, y, rfl, hy⟩ := h2 i _ b ha hb
  obtain ⟨cs, h5, h6⟩ := h4 i _ v ha hv
  obtain ⟨h7, h8⟩ := PK.ok hy h5
  exact ⟨cs, h7, by rw [h6, valOf, valOf, h8]⟩
end
/-- A callee: its arguments' types, its Lean function, its answer's value. -/
inductive CArm : Type 1
  | p (ps : List Ty) (Y : Type) (F : TX ps → Option Y) (out : Y → AV)
  | m (k : MK) (ps : List Ty) (Y : Type) (F : k.X → TX ps → Option Y) (out : Y → AV)
  | q (ps : List PK) (Y : Type) (F : PX ps → Option Y) (out : Y → AV)
  | mq (k : MK) (ps : List PK) (Y : Type) (F : k.X → PX ps → Option Y) (out : Y → AV)
def CArm.run {R : Type} (A : CArm) (av : List AV) (K : AV → Option R) : Option R := match A with
  | .p ps Y F out => (viewT ps av).bind fun x => (F x).bind fun r => K (out r)
  | .m k ps Y F out => match av with
    | [] => none
    | a0 :: rest => (k.view a0).bind fun x0 => (viewT ps rest).bind fun x => (F x0 x).bind fun r => K (out r)
  | .q ps Y F out => (viewP ps av).bind fun x => (F x).bind fun r => K (out r)
  | .mq k ps Y F out => match av with
    | [] => none
    | a0 :: rest => (k.view a0).bind fun x0 => (viewP ps rest).bind fun x => (F x0 x).bind fun r => K (out r)
def tabC (t : Cal → Option CArm) : Orc := fun cal av K => match t cal with
  | some A => A.run av K
  | none => none
theorem tabC_is (t : Cal → Option CArm) : OrcIs (tabC t) (CG (tabC t)) := by
  intro R cal av K r h
  unfold CG
  unfold tabC at h ⊢
  dsimp only at h ⊢
  split at h
  · rename_i A hA
    cases A with
    | p ps Y F out =>
      simp only [CArm.run] at h ⊢
      obtain ⟨x, hx, h⟩ := Option.bind_eq_some_iff.1 h
      obtain ⟨y, hy, h⟩ := Option.bind_eq_some_iff.1 h
      exact ⟨out y, by simp only [hx, hy, Option.bind_some], h⟩
    | m k ps Y F out =>
      cases av with
      | nil => simp only [CArm.run] at h; cases h
      | cons a0 rest =>
        simp only [CArm.run] at h ⊢
        obtain ⟨x0, hx0, h⟩ := Option.bind_eq_some_iff.1 h
        obtain ⟨x, hx, h⟩ := Option.bind_eq_some_iff.1 h
        obtain ⟨y, hy, h⟩ := Option.bind_eq_some_iff.1 h
        exact ⟨out y, by simp only [hx0, hx, hy, Option.bind_some], h⟩
    | q ps Y F out =>
      simp only [CArm.run] at h ⊢
      obtain ⟨x, hx, h⟩ := Option.bind_eq_some_iff.1 h
      obtain ⟨y, hy, h⟩ := Option.bind_eq_some_iff.1 h
      exact ⟨out y, by simp only [hx, hy, Option.bind_some], h⟩
    | mq k ps Y F out =>
      cases av with
      | nil => simp only [CArm.run] at h; cases h
      | cons a0 rest =>
        simp only [CArm.run] at h ⊢
        obtain ⟨x0, hx0, h⟩ := Option.bind_eq_some_iff.1 h
        obtain ⟨x, hx, h⟩ := Option.bind_eq_some_iff.1 h
        obtain ⟨y, hy, h⟩ := Option.bind_eq_some_iff.1 h
        exact ⟨out y, by simp only [hx0, hx, hy, Option.bind_some], h⟩
  · cases h
def ArmOk (P : Program) (E : Env) (pv : Nat → Value) (cal : Cal) (A : CArm) : Prop := match A with
  | .p ps Y F out => ∀ x y, F x = some y → Meets P E pv cal (tvals ps x) (out y)
  | .m k ps Y F out => ∃ f, cal = .f f ∧ ∀ x0 x y, F x0 x = some y → MeetsM P E pv f (k.val x0) (tvals ps x) (out y)
  | .q ps Y F out => ∀ x y, F x = some y → Meets P E pv cal (pvals ps x) (out y)
  | .mq k ps Y F out => ∃ f, cal = .f f ∧ ∀ x0 x y, F x0 x = some y → MeetsM P E pv f (k.val x0) (pvals ps x) (out y)
theorem args_view {S : Nat → Prop} {w : World} {pv : Nat → Value} {tys : List Ty} {av : List AV} {x : TX tys} {vs : List Value} (hx : viewT tys av = some x) (h : ArgsOk S w pv av vs) : ArgsOk S w pv (tvals tys x) vs := by
  obtain ⟨h1, h2⟩ := viewT_get hx
  obtain ⟨h3, h4⟩ := h
  refine ⟨h3.trans h1, fun i b v hb hv => ?_⟩
  have hi := (List.getElem?_eq_some_iff.1 hb).1
  have ha : av[i]? = some av[i] := List.getElem?_eq_getElem (by omega)
  obtain ⟨τ, y, rfl, hy⟩ := h2 i _ b ha hb
  obtain ⟨cs, h5, h6⟩ := h4 i _ v ha hv
  exact ⟨cs, .t τ y cs (asT_ar hy h5), by rw [h6, valOf, valOf, asT_ag hy]⟩
theorem tabC_ok {P : Program} {E : Env} {pv : Nat → Value} {t : Cal → Option CArm} (h : ∀ cal A, t cal = some A → ArmOk P E pv cal A) : GOk P E pv (CG (tabC t)) := by
  intro cal av r hr
  unfold CG tabC at hr
  dsimp only at hr
  split at hr
  · rename_i A hA
    have hok := h cal A hA
    cases A with
    | p ps Y F out =>
      simp only [CArm.run] at hr
      obtain ⟨x, hx, hr⟩ := Option.bind_eq_some_iff.1 hr
      obtain ⟨y, hy, hr⟩ := Option.bind_eq_some_iff.1 hr
      cases hr
      refine ⟨meets_args hx (hok x y hy), fun f a0 rest e1 e2 hn => ?_⟩
      subst e2
      exfalso
      cases ps with
      | nil => simp [viewT] at hx
      | cons τ ps =>
        simp only [viewT] at hx
        split at hx
        · rename_i y0 hy0
          rcases asT_form hy0 with rfl | rfl <;> exact hn rfl
        · cases hx
    | m k ps Y F out =>
      obtain ⟨f, rfl, hok⟩ := hok
      cases av with
      | nil => simp only [CArm.run] at hr; cases hr
      | cons a0 rest =>
        simp only [CArm.run] at hr
        obtain ⟨x0, hx0, hr⟩ := Option.bind_eq_some_iff.1 hr
        obtain ⟨x, hx, hr⟩ := Option.bind_eq_some_iff.1 hr
        obtain ⟨y, hy, hr⟩ := Option.bind_eq_some_iff.1 hr
        cases hr
        have ha0 := MK.view_eq hx0
        subst ha0
        refine ⟨fun S w vs _ _ ha => ?_, fun f' a0 rest' e1 e2 hn => ?_⟩
        · exfalso
          obtain ⟨hl, ha⟩ := ha
          match vs, hl with
          | v :: vs, _ =>
            obtain ⟨cs, h5, _⟩ := ha 0 _ v rfl rfl
            cases k <;> cases h5
        · cases e1; cases e2
          have hm := hok x0 x y hy
          intro S w v0 vs l r0 hst hgl hargs hr0 hrow hSl hv0
          exact hm S w v0 vs l r0 hst hgl (args_view hx hargs) hr0 hrow hSl hv0
    | q ps Y F out =>
      simp only [CArm.run] at hr
      obtain ⟨x, hx, hr⟩ := Option.bind_eq_some_iff.1 hr
      obtain ⟨y, hy, hr⟩ := Option.bind_eq_some_iff.1 hr
      cases hr
      refine ⟨Goes.mono (hok x y hy) (wk_refl _) fun S w vs ha => args_viewP hx ha, fun f a0 rest e1 e2 hn => ?_⟩
      subst e2
      exfalso
      cases ps with
      | nil => simp [viewP] at hx
      | cons k ps =>
        simp only [viewP] at hx
        split at hx
        · rename_i y0 hy0
          cases k with
          | t τ => rcases asT_form hy0 with rfl | rfl <;> exact hn rfl
          | tp τ =>
            simp only [PK.view] at hy0
            split at hy0
            · exact hn rfl
            · cases hy0
          | clo g cs =>
            simp only [PK.view] at hy0
            split at hy0
            · exact hn rfl
            · cases hy0
        · cases hx
    | mq k ps Y F out =>
      obtain ⟨f, rfl, hok⟩ := hok
      cases av with
      | nil => simp only [CArm.run] at hr; cases hr
      | cons a0 rest =>
        simp only [CArm.run] at hr
        obtain ⟨x0, hx0, hr⟩ := Option.bind_eq_some_iff.1 hr
        obtain ⟨x, hx, hr⟩ := Option.bind_eq_some_iff.1 hr
        obtain ⟨y, hy, hr⟩ := Option.bind_eq_some_iff.1 hr
        cases hr
        have ha0 := MK.view_eq hx0
        subst ha0
        refine ⟨fun S w vs _ _ ha => ?_, fun f' a0 rest' e1 e2 hn => ?_⟩
        · exfalso
          obtain ⟨hl, ha⟩ := ha
          match vs, hl with
          | v :: vs, _ =>
            obtain ⟨cs, h5, _⟩ := ha 0 _ v rfl rfl
            cases k <;> cases h5
        · cases e1; cases e2
          have hm := hok x0 x y hy
          intro S w v0 vs l r0 hst hgl hargs hr0 hrow hSl hv0
          exact hm S w v0 vs l r0 hst hgl (args_viewP hx hargs) hr0 hrow hSl hv0
  · cases hr

/-! ### Loops -/
/-- A loop: its states' shape at the head, its Lean function, how it ends: by one exit, or by one of two. -/
inductive LArm : Type 1
  | one (sp so : List Sp) (Y : Type) (l : Nat → SX sp → Option Y) (e : Ex) (g : Y → SX so) (h : SX so → Y)
  | two (sp so1 so2 : List Sp) (Y Z : Type) (l : Nat → SX sp → Option (Sum Y Z)) (e1 e2 : Ex) (g1 : Y → SX so1) (h1 : SX so1 → Y) (g2 : Z → SX so2) (h2 : SX so2 → Z)
def LArm.run {R : Type} (nt k : Nat) (A : LArm) (st : St) (K : Ex → St → Option R) : Option R := match A with
  | .one sp so Y l e g _ => (viewN nt st sp).bind fun x => (l k x).bind fun y => K e (stOf nt so (g y))
  | .two sp so1 so2 Y Z l e1 e2 g1 _ g2 _ => (viewN nt st sp).bind fun x => (l k x).bind fun y => match y with
    | .inl z => K e1 (stOf nt so1 (g1 z))
    | .inr z => K e2 (stOf nt so2 (g2 z))
def exEq : Ex → Ex → Bool
  | .exit a, .exit b => Nat.beq a b
  | .ret, .ret => true
  | _, _ => false
theorem exEq_eq {a b : Ex} (h : exEq a b = true) : a = b ∧ a ≠ .normal := by
  cases a <;> cases b <;> first
    | exact Bool.noConfusion h
    | (have := Nat.eq_of_beq_eq_true h; subst this; exact ⟨rfl, by simp⟩)
    | exact ⟨rfl, by simp⟩
@[reducible] def LArm.sp : LArm → List Sp
  | .one sp .. => sp
  | .two sp .. => sp
@[reducible] def LArm.Y : LArm → Type
  | .one _ _ Y .. => Y
  | .two _ _ _ Y Z .. => Sum Y Z
def LArm.l : (A : LArm) → Nat → SX A.sp → Option A.Y
  | .one _ _ _ l _ _ _ => l
  | .two _ _ _ _ _ l _ _ _ _ _ _ => l
/-- What follows a round. -/
def LArm.cont (nt k : Nat) : (A : LArm) → Ex → St → Option A.Y
  | .one sp so Y l e g h, e', st => match e' with
    | .normal => (viewN nt st sp).bind fun x => l k x
    | e' => match exEq e' e with
      | true => (viewN nt st so).bind fun x => some (h x)
      | false => none
  | .two sp so1 so2 Y Z l e1 e2 g1 h1 g2 h2, e', st => match e' with
    | .normal => (viewN nt st sp).bind fun x => l k x
    | e' => match exEq e' e1 with
      | true => (viewN nt st so1).bind fun x => some (.inl (h1 x))
      | false => match exEq e' e2 with
        | true => (viewN nt st so2).bind fun x => some (.inr (h2 x))
        | false => none
def LArm.Ok : LArm → Prop
  | .one sp so Y l e g h => spOk sp = true ∧ spOk so = true ∧ (∀ x, l 0 x = none) ∧ ∀ x, g (h x) = x
  | .two sp so1 so2 Y Z l e1 e2 g1 h1 g2 h2 => spOk sp = true ∧ spOk so1 = true ∧ spOk so2 = true ∧ (∀ x, l 0 x = none) ∧ (∀ x, g1 (h1 x) = x) ∧ ∀ x, g2 (h2 x) = x
def tabL (nt k : Nat) (t : Nat → Option LArm) : LOrc := fun b st K => match t b with
  | some A => A.run nt k st K
  | none => none
theorem tabL_is (nt k : Nat) (t : Nat → Option LArm) : LIs (tabL nt k t) (LG (tabL nt k t)) := by
  intro R b st K r h
  unfold LG
  unfold tabL at h ⊢
  dsimp only at h ⊢
  split at h
  · rename_i A hA
    cases A with
    | one sp so Y l e g h' =>
      unfold LArm.run at h ⊢
      obtain ⟨x, hx, h⟩ := Option.bind_eq_some_iff.1 h
      obtain ⟨y, hy, h⟩ := Option.bind_eq_some_iff.1 h
      exact ⟨_, _, by simp only [hx, hy, Option.bind_some], h⟩
    | two sp so1 so2 Y Z l e1 e2 g1 h1 g2 h2 =>
      unfold LArm.run at h ⊢
      obtain ⟨x, hx, h⟩ := Option.bind_eq_some_iff.1 h
      obtain ⟨y, hy, h⟩ := Option.bind_eq_some_iff.1 h
      cases y with
      | inl z => exact ⟨_, _, by simp only [hx, hy, Option.bind_some], h⟩
      | inr z => exact ⟨_, _, by simp only [hx, hy, Option.bind_some], h⟩
  · cases h
theorem tabL_zero {nt : Nat} {t : Nat → Option LArm} (hok : ∀ b A, t b = some A → A.Ok) : ∀ b st e st', ¬ LG (tabL nt 0 t) b st e st' := by
  intro b st e st' h
  unfold LG tabL at h
  dsimp only at h
  split at h
  · rename_i A hA
    have := hok b A hA
    cases A with
    | one sp so Y l e g h' =>
      unfold LArm.run at h
      obtain ⟨x, hx, h⟩ := Option.bind_eq_some_iff.1 h
      rw [this.2.2.1] at h; cases h
    | two sp so1 so2 Y Z l e1 e2 g1 h1 g2 h2 =>
      unfold LArm.run at h
      obtain ⟨x, hx, h⟩ := Option.bind_eq_some_iff.1 h
      rw [this.2.2.2.1] at h; cases h
  · cases h
theorem tabL_step {E : Env} {C : Nat → Orc} {nt : Nat} {t : Nat → Option LArm} {fn : Func} (hok : ∀ b A, t b = some A → A.Ok)
    (hS : ∀ b A, t b = some A → ∀ k x, runC E (C k) (tabL nt k t) b (loopAt fn b) (stOf nt A.sp x) (A.cont nt k) = A.l (k + 1) x) :
    ∀ k b e st st', LG (tabL nt (k + 1) t) b st e st' → StepOk E (C k) (tabL nt k t) nt (loopAt fn b) b e st st' := by
  intro k b e st st' h
  unfold LG at h
  unfold tabL at h
  dsimp only at h
  split at h
  · rename_i A hA
    have ho := hok b A hA
    have hs := hS b A hA k
    cases A with
    | one sp so Y l e1 g h' =>
      unfold LArm.run at h
      obtain ⟨x, hx, h⟩ := Option.bind_eq_some_iff.1 h
      obtain ⟨y, hy, h⟩ := Option.bind_eq_some_iff.1 h
      simp only [Option.some.injEq, Prod.mk.injEq] at h
      obtain ⟨rfl, rfl⟩ := h
      refine ⟨sp, x, ho.1, hx, Y, y, _, (hs x).trans hy, fun e' st1 hc => ?_⟩
      unfold LArm.cont at hc
      dsimp only at hc
      split at hc
      · obtain ⟨x1, hx1, hl⟩ := Option.bind_eq_some_iff.1 hc
        refine .inl ⟨rfl, ?_⟩
        unfold LG tabL
        simp only [hA, LArm.run, hx1, hl, Option.bind_some]
      · split at hc
        · rename_i hne he
          obtain ⟨rfl, hn⟩ := exEq_eq he
          obtain ⟨x1, hx1, hl⟩ := Option.bind_eq_some_iff.1 hc
          cases hl
          exact .inr ⟨rfl, hn, so, x1, ho.2.1, hx1, by rw [ho.2.2.2]⟩
        · cases hc
    | two sp so1 so2 Y Z l e1 e2 g1 h1 g2 h2 =>
      unfold LArm.run at h
      obtain ⟨x, hx, h⟩ := Option.bind_eq_some_iff.1 h
      obtain ⟨y, hy, h⟩ := Option.bind_eq_some_iff.1 h
      refine ⟨sp, x, ho.1, hx, Sum Y Z, y, _, (hs x).trans hy, fun e' st1 hc => ?_⟩
      unfold LArm.cont at hc
      dsimp only at hc
      split at hc
      · obtain ⟨x1, hx1, hl⟩ := Option.bind_eq_some_iff.1 hc
        refine .inl ⟨rfl, ?_⟩
        unfold LG tabL
        simp only [hA, LArm.run, hx1, hl, Option.bind_some]
        exact h
      · split at hc
        · rename_i hne he
          obtain ⟨rfl, hn⟩ := exEq_eq he
          obtain ⟨x1, hx1, hl⟩ := Option.bind_eq_some_iff.1 hc
          cases hl
          simp only [Option.some.injEq, Prod.mk.injEq] at h
          obtain ⟨rfl, rfl⟩ := h
          exact .inr ⟨rfl, hn, so1, x1, ho.2.1, hx1, by rw [ho.2.2.2.2.1]⟩
        · split at hc
          · rename_i hne he' he
            obtain ⟨rfl, hn⟩ := exEq_eq he
            obtain ⟨x1, hx1, hl⟩ := Option.bind_eq_some_iff.1 hc
            cases hl
            simp only [Option.some.injEq, Prod.mk.injEq] at h
            obtain ⟨rfl, rfl⟩ := h
            exact .inr ⟨rfl, hn, so2, x1, ho.2.2.1, hx1, by rw [ho.2.2.2.2.2]⟩
          · cases hc
  · cases h

/-- A function without loops. -/
theorem fun_plain {P : Program} {E : Env} {pv : Nat → Value} (hE : EnvOk P E) {t : Cal → Option CArm} (hG : ∀ cal A, t cal = some A → ArmOk P E pv cal A) {f : FuncId} {fn : Func} {c : Code} (hf : P.funcs[f]? = some fn) (hb : fn.body = some c)
    (hname : (fn.name == "runtime.NumGoroutine") = false) {args : List AV} (hn : Nat.ble args.length fn.ntmps = true) {R : Type} {K : AV → Option R} {y : R} (hrun : runF E (tabC t) (tabL fn.ntmps 0 fun _ => none) fn args K = some y) {r' : AV} (hw : ∀ r, K r = some y → Wk r r') :
    Meets P E pv (.f f) args r' :=
  fun_good hE (tabC_is t) (tabL_is _ _ _) (tabC_ok hG) hf hb hname (no_loops (fun b st e st' h => by unfold LG tabL at h; cases h) _) (Nat.le_of_ble_eq_true hn) hrun hw
/-- A function with loops. -/
theorem fun_loops {P : Program} {E : Env} {pv : Nat → Value} (hE : EnvOk P E) {t : Nat → Cal → Option CArm} (k : Nat) (hG : ∀ k', k' ≤ k → ∀ cal A, t k' cal = some A → ArmOk P E pv cal A) {f : FuncId} {fn : Func} {c : Code} (hf : P.funcs[f]? = some fn) (hb : fn.body = some c)
    (hname : (fn.name == "runtime.NumGoroutine") = false) {args : List AV} (hn : Nat.ble args.length fn.ntmps = true) {lt : Nat → Option LArm} (hok : loopsOk fn = true) (hlt : ∀ b A, lt b = some A → A.Ok)
    (hS : ∀ b A, lt b = some A → ∀ k x, runC E (tabC (t k)) (tabL fn.ntmps k lt) b (loopAt fn b) (stOf fn.ntmps A.sp x) (A.cont fn.ntmps k) = A.l (k + 1) x)
    {R : Type} {K : AV → Option R} {y : R} (hrun : runF E (tabC (t k)) (tabL fn.ntmps k lt) fn args K = some y) {r' : AV} (hw : ∀ r, K r = some y → Wk r r') : Meets P E pv (.f f) args r' :=
  fun_good hE (tabC_is _) (tabL_is _ _ _) (tabC_ok (hG k (Nat.le_refl k))) hf hb hname (fun w0 B p hp st e st' S ρ a w Q h hs hgl hQ =>
    wp_loop_rounds k (rounds_ok hE (C := fun k => tabC (t k)) (L := fun k => tabL fn.ntmps k lt) (fun k => tabC_is _) (fun k => tabL_is _ _ _) hb hok (n := k) (fun k' hk' => tabC_ok (hG k' (Nat.le_of_lt hk'))) (tabL_zero hlt) (fun k b e st st' _ h => tabL_step (C := fun k => tabC (t k)) hlt hS k b e st st' h) k (Nat.le_refl k) w0 B p hp st e st' S ρ a w Q h hs hgl hQ)) (Nat.le_of_ble_eq_true hn) hrun hw
/-! ### Functions that are handed something -/
theorem funM_good {P : Program} {E : Env} {pv : Nat → Value} (hE : EnvOk P E) {C : Orc} {L : LOrc} (hC : OrcIs C (CG C)) (hL : LIs L (LG L)) (hG : GOk P E pv (CG C)) {f : FuncId} {fn : Func} {c : Code} (hf : P.funcs[f]? = some fn) (hb : fn.body = some c) (hname : (fn.name == "runtime.NumGoroutine") = false)
    (hl : ∀ w0 B, ∀ p ∈ loopsOf 0 c, LoopSound P E w0 B pv p.2 (LG L p.1)) {mb : Nat} (hmb : mb = mbase ∨ mb = mmove) {a0 : AV} {args : List AV} (hn : args.length + 1 ≤ fn.ntmps) {R : Type} {K : AV → Option R} {y : R} (hrun : runM E C L fn mb a0 args K = some y) {r' : AV} (hw : ∀ r, K r = some y → WkM r r') : MeetsM P E pv f a0 args r' := by
  obtain ⟨c', res, e, st, rs, hfr, hk⟩ := runM_rel hC hL hrun
  have hcc : c' = c := by have := hfr.body; rw [hb] at this; cases this; rfl
  subst hcc
  exact MeetsM.mono (funM_meets hE hG hf hname hfr hmb hn hl) (hw res hk)
theorem funM_plain {P : Program} {E : Env} {pv : Nat → Value} (hE : EnvOk P E) {t : Cal → Option CArm} (hG : ∀ cal A, t cal = some A → ArmOk P E pv cal A) {f : FuncId} {fn : Func} {c : Code} (hf : P.funcs[f]? = some fn) (hb : fn.body = some c)
    (hname : (fn.name == "runtime.NumGoroutine") = false) {mb : Nat} (hmb : mb = mbase ∨ mb = mmove) {a0 : AV} {args : List AV} (hn : Nat.ble (args.length + 1) fn.ntmps = true) {R : Type} {K : AV → Option R} {y : R} (hrun : runM E (tabC t) (tabL fn.ntmps 0 fun _ => none) fn mb a0 args K = some y) {r' : AV} (hw : ∀ r, K r = some y → WkM r r') :
    MeetsM P E pv f a0 args r' :=
  funM_good hE (tabC_is t) (tabL_is _ _ _) (tabC_ok hG) hf hb hname (no_loops (fun b st e st' h => by unfold LG tabL at h; cases h) _) hmb (Nat.le_of_ble_eq_true hn) hrun hw
theorem funM_loops {P : Program} {E : Env} {pv : Nat → Value} (hE : EnvOk P E) {t : Nat → Cal → Option CArm} (k : Nat) (hG : ∀ k', k' ≤ k → ∀ cal A, t k' cal = some A → ArmOk P E pv cal A) {f : FuncId} {fn : Func} {c : Code} (hf : P.funcs[f]? = some fn) (hb : fn.body = some c)
    (hname : (fn.name == "runtime.NumGoroutine") = false) {mb : Nat} (hmb : mb = mbase ∨ mb = mmove) {a0 : AV} {args : List AV} (hn : Nat.ble (args.length + 1) fn.ntmps = true) {lt : Nat → Option LArm} (hok : loopsOk fn = true) (hlt : ∀ b A, lt b = some A → A.Ok)
    (hS : ∀ b A, lt b = some A → ∀ k x, runC E (tabC (t k)) (tabL fn.ntmps k lt) b (loopAt fn b) (stOf fn.ntmps A.sp x) (A.cont fn.ntmps k) = A.l (k + 1) x)
    {R : Type} {K : AV → Option R} {y : R} (hrun : runM E (tabC (t k)) (tabL fn.ntmps k lt) fn mb a0 args K = some y) {r' : AV} (hw : ∀ r, K r = some y → WkM r r') : MeetsM P E pv f a0 args r' :=
  funM_good hE (tabC_is _) (tabL_is _ _ _) (tabC_ok (hG k (Nat.le_refl k))) hf hb hname (fun w0 B p hp st e st' S ρ a w Q h hs hgl hQ =>
    wp_loop_rounds k (rounds_ok hE (C := fun k => tabC (t k)) (L := fun k => tabL fn.ntmps k lt) (fun k => tabC_is _) (fun k => tabL_is _ _ _) hb hok (n := k) (fun k' hk' => tabC_ok (hG k' (Nat.le_of_lt hk'))) (tabL_zero hlt) (fun k b e st st' _ h => tabL_step (C := fun k => tabC (t k)) hlt hS k b e st st' h) k (Nat.le_refl k) w0 B p hp st e st' S ρ a w Q h hs hgl hQ)) hmb (Nat.le_of_ble_eq_true hn) hrun hw
end Go.Gx
end
section
/- Rows: data that was trodden is plain data in memory; a law's contract out of its call's answer. -/
namespace Go.Gx
open Go.RowKit Go.ChangeShapes Go.WideShapes
set_option linter.unusedVariables false
set_option linter.unusedSimpArgs false

/-- Data as the model lets it come in. -/
inductive WF : (τ : Ty) → den τ → Prop
  | int (k : IntKind) (n : Int) (h : (Lit.int k n).wf = true) : WF (.int k) n
  | bool (b : Bool) : WF .bool b
  | str (s : ByteArray) (h : s.size ≤ maxLen) : WF .str s
  | sl (e : Ty) (xs : List (den e)) (hm : xs.length ≤ maxLen) (h : ∀ i (hi : i < xs.length), WF e xs[i]) : WF (.sl e) xs
  | date (d : Date) (hy : WF (.int .i64) d.y) (hm : WF (.int .i64) d.m) (hd : WF (.int .i64) d.d) : WF .date d
  | abbr (a : Abbr) (h1 : WF .str a.word) (h2 : WF .str a.short) : WF .abbr a
  | name (n : Name) (h1 : WF (.sl .str) n.given) (h2 : WF .str n.particle) (h3 : WF .str n.family) (h4 : WF .str n.suffix) : WF .name n
  | entry (e : Entry) (h1 : WF .str e.key) (h2 : WF (.int .i64) e.kind) (h3 : WF (.sl .name) e.authors) (h4 : WF (.sl .name) e.editors) (h5 : WF .str e.title) (h6 : WF .str e.container) (h7 : WF .str e.publisher)
      (h8 : WF .date e.date) (h9 : WF (.int .i64) e.volume) (h10 : WF .str e.pages) (h11 : WF .str e.cross) : WF .entry e
  | lib (l : Library) (h : WF (.sl .entry) l.entries) : WF .lib l
  | query (q : Query) (h1 : WF (.int .i64) q.op) (h2 : WF .str q.field) (h3 : WF .str q.word) (h4 : WF (.sl .query) q.parts) : WF .query q
def noA : Ty → Bool
  | .arr _ _ => false
  | .sl e => noA e
  | _ => true

section
variable {H : Type} {enc : TypeId × Value → H} {P : Program} {E : Env} {w : World} {spare : Nat → Bool} {held : Bool} {S : Nat → Prop}
abbrev Lt (w : World) : Nat → Prop := fun b => b < w.heap.size
theorem cell_lt {a : Addr} {v : Value} (h : w.cell? a = some v) : a.block < w.heap.size := by
  unfold World.cell? at h
  split at h
  · rename_i c e f hb; exact (Array.getElem?_eq_some_iff.1 hb).1
  · cases h
theorem one_of {c : Value} {l : List Value} (h : l = [c]) : l = [c] := h
theorem list_len {n : Nat} {cs : List Value} (h : cs.length = n) : cs = (List.range n).map fun i => cs.getD i undef := by
  apply List.ext_getElem?
  intro i
  by_cases hi : i < n
  · rw [List.getElem?_map, List.getElem?_range hi, List.getElem?_eq_getElem (by omega)]
    simp [List.getD, List.getElem?_eq_getElem (show i < cs.length by omega)]
  · rw [List.getElem?_eq_none (by omega), List.getElem?_eq_none (by simp; omega)]
theorem trod_cr (hty : ∀ T τ, E.ty T = some τ → TyOk P E T τ) : ∀ (fuel : Nat) (T : Nat) (τ : Ty) (cs : List Value) (y : DataW H × List MemPlace), noA τ = true → E.ty T = some τ → DataW.trod enc P w 0 spare held fuel T cs = some y → ∃ x : den τ, WF τ x ∧ CR (Lt w) w τ x cs
  | 0, T, τ, cs, y, _, _, h => by simp [DataW.trod] at h
  | fuel + 1, T, τ, cs, y, hn, hT, h => by
    have ih := trod_cr hty fuel
    have hu := hty T τ hT
    obtain ⟨i, hi, hsz, -, -⟩ := hu.info
    have hcells : P.cellsOf T = nc τ := by simp [Program.cellsOf, hi, hsz]
    have cellsOf : ∀ {t σ}, E.ty t = some σ → P.cellsOf t = nc σ := fun {t σ} ht => by
      obtain ⟨i, hi, hsz, -, -⟩ := (hty t σ ht).info
      simp [Program.cellsOf, hi, hsz]
    have hund := hu.und
    -- a struct's fields
    have fields : ∀ fs, P.underlying T = some (.struct fs) → fs.size = (fty τ).length → (∀ (f : Nat) (d : Field), fs[f]? = some d → ∃ σ, (fty τ)[f]? = some σ ∧ d.offset = offL (fty τ) f ∧ E.ty d.type = some σ) →
        cs.length = nc τ ∧ ∀ (f : Nat) σ, (fty τ)[f]? = some σ → noA σ = true → ∃ x : den σ, WF σ x ∧ CR (Lt w) w σ x ((cs.drop (offL (fty τ) f)).take (nc σ)) := fun fs hfs hl hf => by
      obtain ⟨xs, n, hn, _, hlen, hxl, hx⟩ := DataW.trod_struct hfs h
      cases hn
      refine ⟨hlen.trans hcells, fun f σ hσ hno => ?_⟩
      have hfl : f < fs.size := by have := (List.getElem?_eq_some_iff.1 hσ).1; omega
      obtain ⟨σ', h1, h2, h3⟩ := hf f fs[f] (Array.getElem?_eq_getElem hfl)
      rw [hσ] at h1
      cases h1
      have h4 := hx f fs[f] (Array.getElem?_eq_getElem hfl)
      rw [List.getElem?_eq_getElem (show f < xs.length by omega), h2, cellsOf h3] at h4
      exact ih _ σ _ _ hno h3 h4
    cases τ with
    | int k => obtain ⟨n, rfl, _, hw⟩ := DataW.trod_int hund h; exact ⟨n, .int k n hw, .int k n⟩
    | bool => obtain ⟨b, rfl, _⟩ := DataW.trod_bool hund h; exact ⟨b, .bool b, .bool b⟩
    | str => obtain ⟨s, rfl, _, hs⟩ := DataW.trod_string hund h; exact ⟨s, .str s hs, .str s⟩
    | arr n e => cases hn
    | sl e =>
      obtain ⟨t, h1, h2, h3, h4, h5⟩ := hund
      rcases DataW.trod_slice h1 h with ⟨rfl, _⟩ | ⟨a, len, cap, elems, rest, n, hfn, rfl, _, hb, hl, hm, hlen, hel, _⟩
      · exact ⟨[], .sl e [] (Nat.zero_le _) (fun i hi => absurd hi (Nat.not_lt_zero i)), cr_nil _ _ e⟩
      · cases hfn
        have key : ∀ i, ∃ x : den e, ∃ c : List Value, i < len → WF e x ∧ CR (Lt w) w e x c ∧ a.spot = none ∧ a.block < w.heap.size ∧ ∀ j v, c[j]? = some v → w.cell? ⟨a.block, a.off + (i * nc e + j), none⟩ = some v := fun i => by
          by_cases hi : i < len
          · have h6 := hel i hi
            rw [List.getElem?_eq_getElem (show i < elems.length by omega)] at h6
            obtain ⟨c, h7, h8⟩ := Option.bind_eq_some_iff.1 h6
            rw [cellsOf h3] at h7
            obtain ⟨x, h9, h10⟩ := ih t e c _ hn h3 h8
            obtain ⟨_, hcl, hcc⟩ := World.cells?_some h7
            have hcell : ∀ j v, c[j]? = some v → w.cell? ((a.add (i * nc e)).add j) = some v := fun j v hj => by
              have : j < c.length := (List.getElem?_eq_some_iff.1 hj).1
              rw [hcc j (by omega), hj]
            have h0 : ∃ v, c[0]? = some v := ⟨c[0], List.getElem?_eq_getElem (by omega)⟩
            obtain ⟨v0, hv0⟩ := h0
            have hlt : a.block < w.heap.size := by
              have := cell_lt (hcell 0 v0 hv0)
              simpa [Addr.add] using (show (a.add (i * nc e)).block < w.heap.size by simpa [Addr.add] using this) |> fun h => by unfold Addr.add at h; split at h <;> exact h
            have hsp : a.spot = none := by
              have h11 := hel 0 (by omega)
              rw [List.getElem?_eq_getElem (show 0 < elems.length by omega)] at h11
              obtain ⟨c', h12, _⟩ := Option.bind_eq_some_iff.1 h11
              rw [cellsOf h3] at h12
              obtain ⟨_, hcl', hcc'⟩ := World.cells?_some h12
              have h13 := hcc' 0 (by omega)
              rw [List.getElem?_eq_getElem (show 0 < c'.length by omega)] at h13
              have := World.cell?_spot h13
              simpa [Addr.add] using this
            refine ⟨x, c, fun _ => ⟨h9, h10, hsp, hlt, fun j v hj => ?_⟩⟩
            have := hcell j v hj
            rw [Go.Deep.add_add] at this
            obtain ⟨ab, ao, asp⟩ := a
            cases hsp
            simp only [Addr.add] at this
            split at this
            · rename_i hz
              have h14 : i * nc e + j = 0 := hz
              rw [h14]; exact this
            · exact this
          · exact ⟨dflt e, [], fun h => absurd h hi⟩
        let xf := fun i => Classical.choose (key i)
        have hxf : ∀ i, ∃ c : List Value, i < len → WF e (xf i) ∧ CR (Lt w) w e (xf i) c ∧ a.spot = none ∧ a.block < w.heap.size ∧ ∀ j v, c[j]? = some v → w.cell? ⟨a.block, a.off + (i * nc e + j), none⟩ = some v := fun i => Classical.choose_spec (key i)
        let cf := fun i => Classical.choose (hxf i)
        have hcf := fun i => Classical.choose_spec (hxf i)
        have hxl : ((List.range len).map xf).length = len := by simp
        refine ⟨(List.range len).map xf, .sl e _ (by rw [hxl]; omega) (fun i hi => ?_), ?_⟩
        · rw [hxl] at hi
          simp only [List.getElem_map, List.getElem_range]
          exact (hcf i hi).1
        · have := CR.sl (S := Lt w) (w := w) e ((List.range len).map xf) (some a) cap cf (by rw [hxl]; exact hl) hm (fun i hi => by
            rw [hxl] at hi
            simp only [List.getElem_map, List.getElem_range]
            exact (hcf i hi).2.1) (fun i hi => by
            rw [hxl] at hi
            obtain ⟨_, _, h6, h7, h8⟩ := hcf i hi
            obtain ⟨ab, ao, asp⟩ := a
            cases h6
            exact ⟨ab, ao, rfl, h7, h8⟩)
          rw [hxl] at this
          exact this
    | date =>
      obtain ⟨fs, h1, h2, h3⟩ := hund
      obtain ⟨hl, hf⟩ := fields fs h1 h2 h3
      match cs, hl with
      | [c0, c1, c2, c3], _ =>
        obtain ⟨x0, g0, k0⟩ := hf 0 _ rfl rfl
        obtain ⟨x1, g1, k1⟩ := hf 1 _ rfl rfl
        obtain ⟨x2, g2, k2⟩ := hf 2 _ rfl rfl
        obtain ⟨x3, g3, k3⟩ := hf 3 _ rfl rfl
        simp [offL, nc] at k0 k1 k2 k3
        cases k0; cases k1; cases k2; cases k3
        exact ⟨⟨x0, x1, x2, x3⟩, .date _ g0 g1 g2, .date ⟨x0, x1, x2, x3⟩⟩
    | abbr =>
      obtain ⟨fs, h1, h2, h3⟩ := hund
      obtain ⟨hl, hf⟩ := fields fs h1 h2 h3
      match cs, hl with
      | [c0, c1], _ =>
        obtain ⟨x0, g0, k0⟩ := hf 0 _ rfl rfl
        obtain ⟨x1, g1, k1⟩ := hf 1 _ rfl rfl
        simp [offL, nc] at k0 k1
        cases k0; cases k1
        exact ⟨⟨x0, x1⟩, .abbr _ g0 g1, .abbr ⟨x0, x1⟩⟩
    | name =>
      obtain ⟨fs, h1, h2, h3⟩ := hund
      obtain ⟨hl, hf⟩ := fields fs h1 h2 h3
      match cs, hl with
      | [c0, c1, c2, c3], _ =>
        obtain ⟨x0, g0, k0⟩ := hf 0 _ rfl rfl
        obtain ⟨x1, g1, k1⟩ := hf 1 _ rfl rfl
        obtain ⟨x2, g2, k2⟩ := hf 2 _ rfl rfl
        obtain ⟨x3, g3, k3⟩ := hf 3 _ rfl rfl
        simp [offL, nc] at k0 k1 k2 k3
        cases k1; cases k2; cases k3
        exact ⟨⟨x0, x1, x2, x3⟩, .name _ g0 g1 g2 g3, .name ⟨x0, x1, x2, x3⟩ _ k0⟩
    | query =>
      obtain ⟨fs, h1, h2, h3⟩ := hund
      obtain ⟨hl, hf⟩ := fields fs h1 h2 h3
      match cs, hl with
      | [c0, c1, c2, c3], _ =>
        obtain ⟨x0, g0, k0⟩ := hf 0 _ rfl rfl
        obtain ⟨x1, g1, k1⟩ := hf 1 _ rfl rfl
        obtain ⟨x2, g2, k2⟩ := hf 2 _ rfl rfl
        obtain ⟨x3, g3, k3⟩ := hf 3 _ rfl rfl
        simp [offL, nc] at k0 k1 k2 k3
        cases k0; cases k1; cases k2
        exact ⟨.mk x0 x1 x2 x3, .query _ g0 g1 g2 g3, .query (.mk x0 x1 x2 x3) _ k3⟩
    | lib =>
      obtain ⟨fs, h1, h2, h3⟩ := hund
      obtain ⟨hl, hf⟩ := fields fs h1 h2 h3
      match cs, hl with
      | [c0], _ =>
        obtain ⟨x0, g0, k0⟩ := hf 0 _ rfl rfl
        simp [offL, nc] at k0
        exact ⟨⟨x0⟩, .lib _ g0, .lib ⟨x0⟩ _ k0⟩
    | entry =>
      obtain ⟨fs, h1, h2, h3⟩ := hund
      obtain ⟨hl, hf⟩ := fields fs h1 h2 h3
      match cs, hl with
      | [c0, c1, c2, c3, c4, c5, c6, c7, c8, c9, c10, c11, c12, c13], _ =>
        obtain ⟨x0, g0, k0⟩ := hf 0 _ rfl rfl
        obtain ⟨x1, g1, k1⟩ := hf 1 _ rfl rfl
        obtain ⟨x2, g2, k2⟩ := hf 2 _ rfl rfl
        obtain ⟨x3, g3, k3⟩ := hf 3 _ rfl rfl
        obtain ⟨x4, g4, k4⟩ := hf 4 _ rfl rfl
        obtain ⟨x5, g5, k5⟩ := hf 5 _ rfl rfl
        obtain ⟨x6, g6, k6⟩ := hf 6 _ rfl rfl
        obtain ⟨x7, g7, k7⟩ := hf 7 _ rfl rfl
        obtain ⟨x8, g8, k8⟩ := hf 8 _ rfl rfl
        obtain ⟨x9, g9, k9⟩ := hf 9 _ rfl rfl
        obtain ⟨x10, g10, k10⟩ := hf 10 _ rfl rfl
        simp [offL, nc] at k0 k1 k2 k3 k4 k5 k6 k7 k8 k9 k10
        cases k0; cases k1; cases k4; cases k5; cases k6; cases k7; cases k8; cases k9; cases k10
        exact ⟨⟨x0, x1, x2, x3, x4, x5, x6, x7, x8, x9, x10⟩, .entry _ g0 g1 g2 g3 g4 g5 g6 g7 g8 g9 g10, .entry ⟨x0, x1, x2, x3, x4, x5, x6, x7, x8, x9, x10⟩ _ _ k2 k3⟩

/-! ### Arguments -/
def WFs : (l : List Ty) → TX l → Prop
  | [], _ => True
  | τ :: l, x => WF τ x.1 ∧ WFs l x.2
/-- Parameters of these types. -/
def parsOk (E : Env) : List Nat → List Ty → Bool
  | [], [] => true
  | T :: l, τ :: m => (match E.ty T with
    | some σ => sameTy σ τ
    | none => false) && (noA τ && parsOk E l m)
  | _, _ => false
theorem val_of (hty : ∀ T τ, E.ty T = some τ → TyOk P E T τ) {T : Nat} {τ : Ty} (hn : noA τ = true) (hT : E.ty T = some τ) {base : Nat} {v : Value} (hv : Value.okWide P w .any base T v) {x : den τ} {S : Nat → Prop} : v = valOf (.t τ x) v.cells.toList := by
  have hund := (hty T τ hT).und
  cases τ with
  | int k => obtain ⟨n, rfl⟩ := okWide_int hund hv; rfl
  | bool => obtain ⟨n, rfl⟩ := okWide_bool hund hv; rfl
  | str => obtain ⟨n, rfl⟩ := okWide_string hund hv; rfl
  | sl e => obtain ⟨t, h1, _⟩ := hund; obtain ⟨a, l, c, rfl⟩ := okWide_slice h1 hv; rfl
  | arr n e => cases hn
  | date | name | entry | lib | abbr | query => obtain ⟨fs, h1, _⟩ := hund; obtain ⟨cs, rfl, _⟩ := okWide_struct h1 hv; rfl
theorem args_open (hty : ∀ T τ, E.ty T = some τ → TyOk P E T τ) {base : Nat} {pv : Nat → Value} : ∀ {Ts : List Nat} {τs : List Ty} {vs : List Value} {ds : List (DataW H)} {ps : List MemPlace}, parsOk E Ts τs = true → DataW.TrodAll enc P w 0 spare held Ts vs ds ps →
    (∀ (j : Nat) t v, Ts[j]? = some t → vs[j]? = some v → Value.okWide P w .any base t v) → ∃ x : TX τs, WFs τs x ∧ ArgsOk (Lt w) w pv (tvals τs x) vs
  | [], [], [], [], ps, _, _, _ => ⟨(), trivial, rfl, fun i a v h => by simp [tvals] at h⟩
  | T :: Ts, τ :: τs, vs, ds, ps, hp, h, hv => by
    obtain ⟨v, vs', d, ds', p, q, rfl, rfl, rfl, hd, hr⟩ := trodAll_cons h
    simp only [parsOk, Bool.and_eq_true] at hp
    obtain ⟨hT, hn, hp⟩ := hp
    cases hE : E.ty T with
    | none => rw [hE] at hT; cases hT
    | some σ =>
      rw [hE] at hT
      have := sameTy_eq hT
      subst this
      obtain ⟨x, hx, hlen, hargs⟩ := args_open hty (pv := pv) hp hr fun j t v h1 h2 => hv (j + 1) t v (by simpa using h1) (by simpa using h2)
      obtain ⟨fuel, hf⟩ := hd
      obtain ⟨x0, hw0, hc0⟩ := trod_cr hty fuel T σ _ _ hn hE hf
      refine ⟨(x0, x), ⟨hw0, hx⟩, by simp [tvals, hlen], fun i a u h1 h2 => ?_⟩
      cases i with
      | zero =>
        cases h1; cases h2
        exact ⟨_, .t σ x0 _ hc0, val_of hty hn hE (hv 0 T v rfl rfl) (S := Lt w)⟩
      | succ i => exact hargs i a u (by simpa [tvals] using h1) (by simpa using h2)
  | [], _ :: _, _, _, _, hp, _, _ => by cases hp
  | _ :: _, [], _, _, _, hp, _, _ => by cases hp
  | [], [], _ :: _, _, _, _, h, _ => by cases h
  | [], [], [], _ :: _, _, _, h, _ => by cases h

/-- A law's contract: its call answers true. -/
theorem law_contract (hE : EnvOk P E) {f : FuncId} {fn : Func} {c : Code} (hfn : P.funcs[f]? = some fn) (hbody : fn.body = some c) (hname : (fn.name == "runtime.NumGoroutine") = false) {τs : List Ty} (hps : parsOk E fn.params.toList τs = true) {tb : Nat} (hres : fn.resultTypes = #[tb]) (hb : P.underlying tb = some .bool)
    (hl : laidOutB P = true) (hr : ∀ t ∈ fn.params.toList, P.readableRec t = true ∧ t < P.types.size) {s : ChangeSpec}
    {W : World} {base : Nat} {args : Array Value} {ds gs : List (DataW H)} {before : List MemPlace} {r : AV} (hrt : r = .t .bool true)
    (hlaw : ∀ x : TX τs, WFs τs x → Meets P E (fun _ => undef) (.f f) (tvals τs x) r)
    (hspec : s.fn H (ds ++ gs) = { results := [.lit (.bool true)], args := ds, vars := gs })
    (hval : ∀ (j : Nat) t v, fn.params[j]? = some t → args[j]? = some v → Value.okWide P W .any base t v)
    (hW : DataW.Whole enc P fn.params.toList s.vars false W args.toList ds gs before) (hgl : GlOk E (Lt W) W)
    (hv : ∀ q, DataW.TrodVars enc P W (fun _ => true) s.vars gs q → ∀ W', Below W.heap.size W W' → DataW.TrodVars enc P W' (fun b => decide (b < W.heap.size)) s.vars gs q) :
    Calls P f args W fun e W' => ∃ v, e = .returned v ∧ s.post enc P fn false true false false W args v W' := by
  have hW' := hW
  obtain ⟨p, q, hA, hV, rfl, hfz, hnd⟩ := hW
  obtain ⟨x, hx, hargs⟩ := args_open (spare := fun _ => true) (held := true) hE.ty (pv := fun _ => undef) hps hA fun j t v h1 h2 => hval j t v (by simpa using h1) (by simpa using h2)
  subst hrt
  have hgo := hlaw x hx (Lt W) W args.toList (fun b hb => hb) hgl hargs
  have hcall : (callFunc f args).run P W = .ok (.enter f args) W := by
    have hn' : fn.name ≠ "runtime.NumGoroutine" := by simpa using hname
    simp [callFunc, hfn, hn', hbody]
  have hgo2 : Calls P f args W fun e w'' => ∃ v, e = .returned v ∧ (Below W.heap.size W w'' ∧ ∃ S' : Nat → Prop, (∀ b, Lt W b → S' b) ∧ (∀ b, S' b → Lt W b ∨ (W.heap.size ≤ b ∧ b < w''.heap.size)) ∧ RR S' w'' W.heap.size (fun _ => undef) (.t .bool true) v) := by
    have h := hgo
    simp only [Goes] at h
    rw [hcall] at h
    exact h
  refine hgo2.mono fun e W' ⟨v, he, hbl, S', _, _, hrr⟩ => ?_
  subst he
  obtain ⟨g, hr1⟩ := hrr
  have hvb : v = .bool true := by
    cases hr1 with
    | plain _ cs ha => cases ha with | t _ _ _ hc => cases hc; rfl
  subst hvb
  have hlt : ∀ y ∈ p ++ q, y.block < W.heap.size := fun y hy => hW'.lt y hy
  refine ⟨_, rfl, ds, gs, p ++ q, [], p, q, hW', ?_, ?_, ?_, hbl.frame _, fun h => by cases h⟩
  · rw [hspec, hres]
    exact trodAll_mk1 (shut_bool hb true)
  · rw [hspec]
    have all : ∀ {Ts : List Nat} {vs : List Value} {ds : List (DataW H)} {p : List MemPlace}, DataW.TrodAll enc P W 0 (fun _ => true) true Ts vs ds p → (∀ t ∈ Ts, P.readableRec t = true ∧ t < P.types.size) → (∀ y ∈ p, y.block < W.heap.size) → DataW.TrodAll enc P W' 0 (fun b => decide (b < W.heap.size)) true Ts vs ds p := by
      intro Ts
      induction Ts with
      | nil =>
        intro vs ds p h _ _
        obtain ⟨rfl, rfl, rfl⟩ := trodAll_nil h
        exact trodAll_mk0
      | cons t Ts ih =>
        intro vs ds p h h1 h2
        obtain ⟨v, vs', d, ds', p1, q1, rfl, rfl, rfl, hd, hr'⟩ := trodAll_cons h
        exact ⟨p1, q1, Go.WideElems.Trod_stays hl (h1 t List.mem_cons_self).1 (h1 t List.mem_cons_self).2 hd (fun y hy => hbl.same (h2 y (List.mem_append_left _ hy))) (fun y hy => by simpa using h2 y (List.mem_append_left _ hy)), ih hr' (fun t ht => h1 t (List.mem_cons_of_mem _ ht)) (fun y hy => h2 y (List.mem_append_right _ hy)), rfl⟩
    exact all hA hr (fun y hy => hlt y (List.mem_append_left _ hy))
  · rw [hspec]
    exact hv q hV W' hbl
end
end Go.Gx
end
section
/-
  DERIVED: THE SHELF's CONTRACTS AT THIS DUMP, IN PLAIN WORDS (tools/lay-plain.mjs out of 'TrydShelf.lean', which tools/lay-shelf.mjs wrote): THE SAME DECLARATIONS UNDER THE SAME NAMES: 'import', 'namespace', 'open', 'def', 'theorem' AND NOTHING ELSE: no command of the shelf's: FOR A HAND-IN. Each laying: the table of numbers ('.._ren') and one theorem, a field a fact of the dump's own or the kernel's comparison; each contract: ONE APPLICATION.
-/
namespace Go.Proofs
open Go.Shelf
def Tryd.lays169_ren : Go.Shelf.Ren := ⟨fun | 169 => 36 | n => n, fun | 70 => 45 | 9 => 9 | 0 => 0 | 72 => 47 | 37 => 34 | 127 => 59 | 3 => 3 | 5 => 5 | n => n, fun | n => n⟩
theorem Tryd.lays169 : Go.Proofs.Lays.n169 Tryd.prog Tryd.lays169_ren := {
  mixed := by kernel_rfl
  f169 := Tryd.func36.trans (congrArg some (by kernel_rfl))
  t0 := Tryd.underlying0
  a0 := Tryd.isAgg0
  z0 := Tryd.sizeOf0
  v0 := Tryd.zeroValue0
  t3 := Tryd.underlying3
  a3 := Tryd.isAgg3
  z3 := Tryd.sizeOf3
  v3 := Tryd.zeroValue3
  t9 := Tryd.underlying9
  a9 := Tryd.isAgg9
  z9 := Tryd.sizeOf9
  v9 := Tryd.zeroValue9
  t37 := Tryd.underlying34
  a37 := Tryd.isAgg34
  z37 := Tryd.sizeOf34
  v37 := Tryd.zeroValue34
  t70 := Tryd.underlying45
  a70 := Tryd.isAgg45
  z70 := Tryd.sizeOf45
  v70 := Tryd.zeroValue45
  t72 := Tryd.underlying47
  a72 := Tryd.isAgg47
  z72 := Tryd.sizeOf47
  v72 := Tryd.zeroValue47
  t127 := Tryd.underlying59
  a127 := Tryd.isAgg59
  z127 := Tryd.sizeOf59
  v127 := Tryd.zeroValue59 }
theorem Tryd.Builder_Extra_169 : Builder.Extra Tryd.prog Tryd.lays169_ren := {
  sizeBuilder := by kernel_rfl
  liesBuilder := by kernel_rfl
  t5 := Tryd.underlying5
  a5 := Tryd.isAgg5
  z5 := Tryd.sizeOf5
  v5 := Tryd.zeroValue5
  infoByte := by kernel_rfl
  cellsByte := by kernel_rfl
  sizeByte := by kernel_rfl
  neB5 := by decide }
open Go.RowKit in
/-- (*strings.Builder).String: "String returns the accumulated string.": OF A BUILDER THAT HOLDS AT LEAST ONE BYTE. ✋ THE MODEL FREEZES THOSE BYTES IN THE BUFFER (unsafe.String): a later write INTO them ends the model's run without an answer; a later append BEHIND them goes on. The statement's order of evaluation is drawn: one draw. (LAID: no walk: one application.) -/
theorem Tryd.Builder_String (B b : Nat) (l : List UInt8) (w : World) (h : Lib.IsBuilder 47 5 B b (Lib.byteCells l) w) (h0 : l ≠ []) :
    Calls Tryd.prog 36 #[.pointer (some ⟨b, 0, none⟩)] w fun e w' => e = .returned (.string ⟨l.toArray⟩) ∧ Below B w w' := Any.Builder_String Tryd.lays169 Tryd.Builder_Extra_169 B b l w h h0
open Go.RowKit in
/-- (*strings.Builder).String OF A BUILDER THAT HOLDS NO BYTE: the empty string. (Its buffer is nil, or a row of which it has taken nothing yet; where that row has NO capacity the model lays one new block for unsafe.SliceData's 'some address'.) One draw. (LAID: no walk: one application.) -/
theorem Tryd.Builder_String_empty (B b : Nat) (w : World) (h : Lib.IsBuilder 47 5 B b [] w) (hBw : B ≤ w.heap.size) :
    Calls Tryd.prog 36 #[.pointer (some ⟨b, 0, none⟩)] w fun e w' => e = .returned (.string ⟨#[]⟩) ∧ Below B w w' := Any.Builder_String_empty Tryd.lays169 Tryd.Builder_Extra_169 B b w h hBw
open Go.RowKit in
/-- (*strings.Builder).String: "String returns the accumulated string.": WHATEVER THE BUILDER HOLDS. (LAID: no walk: one application.) -/
theorem Tryd.Builder_String_any (B b : Nat) (l : List UInt8) (w : World) (h : Lib.IsBuilder 47 5 B b (Lib.byteCells l) w) (hBw : B ≤ w.heap.size) :
    Calls Tryd.prog 36 #[.pointer (some ⟨b, 0, none⟩)] w fun e w' => e = .returned (.string ⟨l.toArray⟩) ∧ Below B w w' := Any.Builder_String_any Tryd.lays169 Tryd.Builder_Extra_169 B b l w h hBw
def Tryd.lays241_ren : Go.Shelf.Ren := ⟨fun | 241 => 45 | 277 => 52 | n => n, fun | 70 => 45 | 3 => 3 | 0 => 0 | 72 => 47 | 37 => 34 | 5 => 5 | n => n, fun | n => n⟩
theorem Tryd.lays241 : Go.Proofs.Lays.n241 Tryd.prog Tryd.lays241_ren := {
  mixed := by kernel_rfl
  f241 := Tryd.func45.trans (congrArg some (by kernel_rfl))
  f277 := Tryd.func52.trans (congrArg some (by kernel_rfl))
  t0 := Tryd.underlying0
  a0 := Tryd.isAgg0
  z0 := Tryd.sizeOf0
  v0 := Tryd.zeroValue0
  t3 := Tryd.underlying3
  a3 := Tryd.isAgg3
  z3 := Tryd.sizeOf3
  v3 := Tryd.zeroValue3
  t37 := Tryd.underlying34
  a37 := Tryd.isAgg34
  z37 := Tryd.sizeOf34
  v37 := Tryd.zeroValue34
  t70 := Tryd.underlying45
  a70 := Tryd.isAgg45
  z70 := Tryd.sizeOf45
  v70 := Tryd.zeroValue45
  t72 := Tryd.underlying47
  a72 := Tryd.isAgg47
  z72 := Tryd.sizeOf47
  v72 := Tryd.zeroValue47 }
theorem Tryd.Builder_Extra_241 : Builder.Extra Tryd.prog Tryd.lays241_ren := {
  sizeBuilder := by kernel_rfl
  liesBuilder := by kernel_rfl
  t5 := Tryd.underlying5
  a5 := Tryd.isAgg5
  z5 := Tryd.sizeOf5
  v5 := Tryd.zeroValue5
  infoByte := by kernel_rfl
  cellsByte := by kernel_rfl
  sizeByte := by kernel_rfl
  neB5 := by decide }
open Go.RowKit in
/-- (*strings.Builder).grow (no doc but "grow copies the buffer to a new, larger buffer so that there are at least n bytes of capacity beyond len(b.buf)."): AT A BUILDER WITHOUT A BUFFER: a new row of whatever bytes for its buffer, none of them its own yet. Three draws. (LAID: no walk: one application.) -/
theorem Tryd.Builder_grow_fresh (B b n : Nat) (w : World) (hB : B ≤ b) (hbk : w.heap[b]? = some (.cells #[.pointer (some ⟨b, 0, none⟩), .slice none 0 0] 47 (0, 0))) (hBw : B ≤ w.heap.size) (hn : n ≤ 281474976710656) :
    Calls Tryd.prog 45 #[.pointer (some ⟨b, 0, none⟩), .int .i64 n] w fun e w' => e = .returned (.tuple #[]) ∧ (Lib.BuilderAt 47 5 B b (.pointer (some ⟨b, 0, none⟩)) [] w' ∧ Below B w w') := Any.Builder_grow_fresh Tryd.lays241 Tryd.Builder_Extra_241 B b n w hB hbk hBw hn
def Tryd.lays165_ren : Go.Shelf.Ren := ⟨fun | 165 => 34 | 240 => 44 | 241 => 45 | 276 => 51 | 277 => 52 | n => n, fun | 70 => 45 | 3 => 3 | 0 => 0 | 4 => 4 | 9 => 9 | 20 => 20 | 72 => 47 | 37 => 34 | 164 => 63 | 5 => 5 | n => n, fun | n => n⟩
theorem Tryd.lays165 : Go.Proofs.Lays.n165 Tryd.prog Tryd.lays165_ren := {
  mixed := by kernel_rfl
  f165 := Tryd.func34.trans (congrArg some (by kernel_rfl))
  f240 := Tryd.func44.trans (congrArg some (by kernel_rfl))
  f241 := Tryd.func45.trans (congrArg some (by kernel_rfl))
  f276 := Tryd.func51.trans (congrArg some (by kernel_rfl))
  f277 := Tryd.func52.trans (congrArg some (by kernel_rfl))
  t0 := Tryd.underlying0
  a0 := Tryd.isAgg0
  z0 := Tryd.sizeOf0
  v0 := Tryd.zeroValue0
  t3 := Tryd.underlying3
  a3 := Tryd.isAgg3
  z3 := Tryd.sizeOf3
  v3 := Tryd.zeroValue3
  t4 := Tryd.underlying4
  a4 := Tryd.isAgg4
  z4 := Tryd.sizeOf4
  v4 := Tryd.zeroValue4
  t9 := Tryd.underlying9
  a9 := Tryd.isAgg9
  z9 := Tryd.sizeOf9
  v9 := Tryd.zeroValue9
  t20 := Tryd.underlying20
  a20 := Tryd.isAgg20
  z20 := Tryd.sizeOf20
  v20 := Tryd.zeroValue20
  t37 := Tryd.underlying34
  a37 := Tryd.isAgg34
  z37 := Tryd.sizeOf34
  v37 := Tryd.zeroValue34
  t70 := Tryd.underlying45
  a70 := Tryd.isAgg45
  z70 := Tryd.sizeOf45
  v70 := Tryd.zeroValue45
  t72 := Tryd.underlying47
  a72 := Tryd.isAgg47
  z72 := Tryd.sizeOf47
  v72 := Tryd.zeroValue47
  t164 := Tryd.underlying63
  a164 := Tryd.isAgg63
  z164 := Tryd.sizeOf63
  v164 := Tryd.zeroValue63 }
theorem Tryd.Builder_Extra_165 : Builder.Extra Tryd.prog Tryd.lays165_ren := {
  sizeBuilder := by kernel_rfl
  liesBuilder := by kernel_rfl
  t5 := Tryd.underlying5
  a5 := Tryd.isAgg5
  z5 := Tryd.sizeOf5
  v5 := Tryd.zeroValue5
  infoByte := by kernel_rfl
  cellsByte := by kernel_rfl
  sizeByte := by kernel_rfl
  neB5 := by decide }
open Go.RowKit in
/-- (*strings.Builder).Grow AT A BUILDER THAT HAS NOT BEEN WRITTEN ('var b strings.Builder; b.Grow(n)'): "Grow grows b's capacity, if necessary, to guarantee space for another n bytes.": it holds no byte behind it as before it. (LAID: no walk: one application.) -/
theorem Tryd.Builder_Grow_fresh (B b n : Nat) (w : World) (hB : B ≤ b) (hbk : w.heap[b]? = some (.cells #[.pointer none, .slice none 0 0] 47 (0, 0))) (hBw : B ≤ w.heap.size) (hn : n ≤ 281474976710656) :
    Calls Tryd.prog 34 #[.pointer (some ⟨b, 0, none⟩), .int .i64 n] w fun e w' => e = .returned (.tuple #[]) ∧ (Lib.BuilderAt 47 5 B b (.pointer (some ⟨b, 0, none⟩)) [] w' ∧ Below B w w') := Any.Builder_Grow_fresh Tryd.lays165 Tryd.Builder_Extra_165 B b n w hB hbk hBw hn
def Tryd.lays156_ren : Go.Shelf.Ren := ⟨fun | 156 => 21 | 165 => 34 | 166 => 35 | 169 => 36 | 240 => 44 | 241 => 45 | 276 => 51 | 277 => 52 | n => n, fun | 31 => 31 | 9 => 9 | 3 => 3 | 4 => 4 | 0 => 0 | 20 => 20 | 72 => 47 | 76 => 51 | 70 => 45 | 37 => 34 | 75 => 50 | 127 => 59 | 164 => 63 | 5 => 5 | 80 => 53 | n => n, fun | n => n⟩
theorem Tryd.lays156 : Go.Proofs.Lays.n156 Tryd.prog Tryd.lays156_ren := {
  mixed := by kernel_rfl
  f156 := Tryd.func21.trans (congrArg some (by kernel_rfl))
  f165 := Tryd.func34.trans (congrArg some (by kernel_rfl))
  f166 := Tryd.func35.trans (congrArg some (by kernel_rfl))
  f169 := Tryd.func36.trans (congrArg some (by kernel_rfl))
  f240 := Tryd.func44.trans (congrArg some (by kernel_rfl))
  f241 := Tryd.func45.trans (congrArg some (by kernel_rfl))
  f276 := Tryd.func51.trans (congrArg some (by kernel_rfl))
  f277 := Tryd.func52.trans (congrArg some (by kernel_rfl))
  t0 := Tryd.underlying0
  a0 := Tryd.isAgg0
  z0 := Tryd.sizeOf0
  v0 := Tryd.zeroValue0
  t3 := Tryd.underlying3
  a3 := Tryd.isAgg3
  z3 := Tryd.sizeOf3
  v3 := Tryd.zeroValue3
  t4 := Tryd.underlying4
  a4 := Tryd.isAgg4
  z4 := Tryd.sizeOf4
  v4 := Tryd.zeroValue4
  t9 := Tryd.underlying9
  a9 := Tryd.isAgg9
  z9 := Tryd.sizeOf9
  v9 := Tryd.zeroValue9
  t20 := Tryd.underlying20
  a20 := Tryd.isAgg20
  z20 := Tryd.sizeOf20
  v20 := Tryd.zeroValue20
  t31 := Tryd.underlying31
  a31 := Tryd.isAgg31
  z31 := Tryd.sizeOf31
  v31 := Tryd.zeroValue31
  t37 := Tryd.underlying34
  a37 := Tryd.isAgg34
  z37 := Tryd.sizeOf34
  v37 := Tryd.zeroValue34
  t70 := Tryd.underlying45
  a70 := Tryd.isAgg45
  z70 := Tryd.sizeOf45
  v70 := Tryd.zeroValue45
  t72 := Tryd.underlying47
  a72 := Tryd.isAgg47
  z72 := Tryd.sizeOf47
  v72 := Tryd.zeroValue47
  t75 := Tryd.underlying50
  a75 := Tryd.isAgg50
  z75 := Tryd.sizeOf50
  v75 := Tryd.zeroValue50
  t76 := Tryd.underlying51
  a76 := Tryd.isAgg51
  z76 := Tryd.sizeOf51
  v76 := Tryd.zeroValue51
  t127 := Tryd.underlying59
  a127 := Tryd.isAgg59
  z127 := Tryd.sizeOf59
  v127 := Tryd.zeroValue59
  t164 := Tryd.underlying63
  a164 := Tryd.isAgg63
  z164 := Tryd.sizeOf63
  v164 := Tryd.zeroValue63 }
theorem Tryd.Builder_Extra_156 : Builder.Extra Tryd.prog Tryd.lays156_ren := {
  sizeBuilder := by kernel_rfl
  liesBuilder := by kernel_rfl
  t5 := Tryd.underlying5
  a5 := Tryd.isAgg5
  z5 := Tryd.sizeOf5
  v5 := Tryd.zeroValue5
  infoByte := by kernel_rfl
  cellsByte := by kernel_rfl
  sizeByte := by kernel_rfl
  neB5 := by decide }
open Go.RowKit in
/-- No element: the empty string; the world is as it was. (Whatever the slice's address and capacity: a nil slice too.) (LAID: no walk: one application.) -/
theorem Tryd.strings_Join_none (a : Option Addr) (c : Nat) (sep : ByteArray) (w : World) :
    Calls Tryd.prog 21 #[.slice a 0 c, .string sep] w fun e w' => e = .returned (.string ⟨#[]⟩) ∧ w' = w := Any.strings_Join_none Tryd.lays156 Tryd.Builder_Extra_156 a c sep w
open Go.RowKit in
/-- strings.Join: "Join concatenates the elements of its first argument to create a single string. The separator string sep is placed between elements in the resulting string.": HOWEVER MANY ELEMENTS. Below the heap's end the world is as it was. (LAID: no walk: one application.) -/
theorem Tryd.strings_Join (bk o c : Nat) (xs : List ByteArray) (sep : ByteArray) (w : World) (hcells : ∀ (j : Nat) x, xs[j]? = some x → w.cell? ⟨bk, o + j, none⟩ = some (.string x)) (hbk : bk < w.heap.size) (hN : xs.length ≤ 140737488355328) (hcap : xs.length ≤ c) (hlen : (Lib.join (xs.map (·.data.toList)) sep.data.toList).length ≤ 140737488355328) :
    Calls Tryd.prog 21 #[.slice (some ⟨bk, o, none⟩) xs.length c, .string sep] w fun e w' => e = .returned (.string ⟨(Lib.join (xs.map (·.data.toList)) sep.data.toList).toArray⟩) ∧ Below w.heap.size w w' := Any.strings_Join Tryd.lays156 Tryd.Builder_Extra_156 bk o c xs sep w hcells hbk hN hcap hlen
def Tryd.lays231_ren : Go.Shelf.Ren := ⟨fun | 231 => 26 | n => n, fun | 9 => 9 | 5 => 5 | 3 => 3 | 4 => 4 | n => n, fun | n => n⟩
theorem Tryd.lays231 : Go.Proofs.Lays.n231 Tryd.prog Tryd.lays231_ren := {
  mixed := by kernel_rfl
  f231 := Tryd.func26.trans (congrArg some (by kernel_rfl))
  t3 := Tryd.underlying3
  a3 := Tryd.isAgg3
  z3 := Tryd.sizeOf3
  v3 := Tryd.zeroValue3
  t4 := Tryd.underlying4
  a4 := Tryd.isAgg4
  z4 := Tryd.sizeOf4
  v4 := Tryd.zeroValue4
  t5 := Tryd.underlying5
  a5 := Tryd.isAgg5
  z5 := Tryd.sizeOf5
  v5 := Tryd.zeroValue5
  t9 := Tryd.underlying9
  a9 := Tryd.isAgg9
  z9 := Tryd.sizeOf9
  v9 := Tryd.zeroValue9 }
open Go.RowKit in
/-- strings.trimLeftByte (no doc; what TrimLeft and Trim call at a cutset of one ASCII byte): the leading bytes that are c are cut off. The world is as it was. (LAID: no walk: one application.) -/
theorem Tryd.strings_trimLeftByte (s : ByteArray) (c : UInt8) (w : World) :
    Calls Tryd.prog 26 #[.string s, .int .u8 c.toNat] w fun e w' => e = .returned (.string ⟨(Lib.trimLeftB s.data.toList c).toArray⟩) ∧ w' = w := Any.strings_trimLeftByte Tryd.lays231 s c w
def Tryd.lays232_ren : Go.Shelf.Ren := ⟨fun | 232 => 27 | n => n, fun | 9 => 9 | 5 => 5 | 3 => 3 | 4 => 4 | n => n, fun | n => n⟩
theorem Tryd.lays232 : Go.Proofs.Lays.n232 Tryd.prog Tryd.lays232_ren := {
  mixed := by kernel_rfl
  f232 := Tryd.func27.trans (congrArg some (by kernel_rfl))
  t3 := Tryd.underlying3
  a3 := Tryd.isAgg3
  z3 := Tryd.sizeOf3
  v3 := Tryd.zeroValue3
  t4 := Tryd.underlying4
  a4 := Tryd.isAgg4
  z4 := Tryd.sizeOf4
  v4 := Tryd.zeroValue4
  t5 := Tryd.underlying5
  a5 := Tryd.isAgg5
  z5 := Tryd.sizeOf5
  v5 := Tryd.zeroValue5
  t9 := Tryd.underlying9
  a9 := Tryd.isAgg9
  z9 := Tryd.sizeOf9
  v9 := Tryd.zeroValue9 }
open Go.RowKit in
/-- strings.trimRightByte (no doc; what TrimRight and Trim call at a cutset of one ASCII byte): the trailing bytes that are c are cut off. The world is as it was. ('hs': a string's length is a number that an int holds.) (LAID: no walk: one application.) -/
theorem Tryd.strings_trimRightByte (s : ByteArray) (c : UInt8) (w : World) (hs : s.size ≤ 9223372036854775807) :
    Calls Tryd.prog 27 #[.string s, .int .u8 c.toNat] w fun e w' => e = .returned (.string ⟨(Lib.trimRightB s.data.toList c).toArray⟩) ∧ w' = w := Any.strings_trimRightByte Tryd.lays232 s c w hs
def Tryd.lays160_ren : Go.Shelf.Ren := ⟨fun | 160 => 17 | 232 => 27 | 231 => 26 | 227 => 28 | 234 => 30 | 233 => 29 | 236 => 32 | 235 => 31 | 228 => 40 | 271 => 43 | 151 => 42 | 197 => 41 | 120 => 50 | 152 => 49 | 260 => 48 | 137 => 56 | 119 => 57 | 224 => 58 | 225 => 59 | 217 => 63 | 266 => 65 | n => n, fun | 9 => 9 | 4 => 4 | 3 => 3 | 5 => 5 | 117 => 41 | 116 => 40 | 0 => 0 | 124 => 44 | 21 => 21 | 105 => 56 | 46 => 68 | 119 => 67 | 139 => 71 | 138 => 70 | n => n, fun | 3 => 0 | 4 => 1 | n => n⟩
theorem Tryd.lays160 : Go.Proofs.Lays.n160 Tryd.prog Tryd.lays160_ren := {
  mixed := by kernel_rfl
  f119 := Tryd.func57.trans (congrArg some (by kernel_rfl))
  f120 := Tryd.func50.trans (congrArg some (by kernel_rfl))
  f137 := Tryd.func56.trans (congrArg some (by kernel_rfl))
  f151 := Tryd.func42.trans (congrArg some (by kernel_rfl))
  f152 := Tryd.func49.trans (congrArg some (by kernel_rfl))
  f160 := Tryd.func17.trans (congrArg some (by kernel_rfl))
  f197 := Tryd.func41.trans (congrArg some (by kernel_rfl))
  f217 := Tryd.func63.trans (congrArg some (by kernel_rfl))
  f224 := Tryd.func58.trans (congrArg some (by kernel_rfl))
  f225 := Tryd.func59.trans (congrArg some (by kernel_rfl))
  f227 := Tryd.func28.trans (congrArg some (by kernel_rfl))
  f228 := Tryd.func40.trans (congrArg some (by kernel_rfl))
  f231 := Tryd.func26.trans (congrArg some (by kernel_rfl))
  f232 := Tryd.func27.trans (congrArg some (by kernel_rfl))
  f233 := Tryd.func29.trans (congrArg some (by kernel_rfl))
  f234 := Tryd.func30.trans (congrArg some (by kernel_rfl))
  f235 := Tryd.func31.trans (congrArg some (by kernel_rfl))
  f236 := Tryd.func32.trans (congrArg some (by kernel_rfl))
  f260 := Tryd.func48.trans (congrArg some (by kernel_rfl))
  f266 := Tryd.func65.trans (congrArg some (by kernel_rfl))
  f271 := Tryd.func43.trans (congrArg some (by kernel_rfl))
  t0 := Tryd.underlying0
  a0 := Tryd.isAgg0
  z0 := Tryd.sizeOf0
  v0 := Tryd.zeroValue0
  t3 := Tryd.underlying3
  a3 := Tryd.isAgg3
  z3 := Tryd.sizeOf3
  v3 := Tryd.zeroValue3
  t4 := Tryd.underlying4
  a4 := Tryd.isAgg4
  z4 := Tryd.sizeOf4
  v4 := Tryd.zeroValue4
  t5 := Tryd.underlying5
  a5 := Tryd.isAgg5
  z5 := Tryd.sizeOf5
  v5 := Tryd.zeroValue5
  t9 := Tryd.underlying9
  a9 := Tryd.isAgg9
  z9 := Tryd.sizeOf9
  v9 := Tryd.zeroValue9
  t21 := Tryd.underlying21
  a21 := Tryd.isAgg21
  z21 := Tryd.sizeOf21
  v21 := Tryd.zeroValue21
  t46 := Tryd.underlying68
  a46 := Tryd.isAgg68
  z46 := Tryd.sizeOf68
  v46 := Tryd.zeroValue68
  t105 := Tryd.underlying56
  a105 := Tryd.isAgg56
  z105 := Tryd.sizeOf56
  v105 := Tryd.zeroValue56
  t116 := Tryd.underlying40
  a116 := Tryd.isAgg40
  z116 := Tryd.sizeOf40
  t117 := Tryd.underlying41
  a117 := Tryd.isAgg41
  z117 := Tryd.sizeOf41
  v117 := Tryd.zeroValue41
  t119 := Tryd.underlying67
  a119 := Tryd.isAgg67
  z119 := Tryd.sizeOf67
  t124 := Tryd.underlying44
  a124 := Tryd.isAgg44
  z124 := Tryd.sizeOf44
  v124 := Tryd.zeroValue44
  t138 := Tryd.underlying70
  a138 := Tryd.isAgg70
  z138 := Tryd.sizeOf70
  v138 := Tryd.zeroValue70
  t139 := Tryd.underlying71
  a139 := Tryd.isAgg71
  z139 := Tryd.sizeOf71
  v139 := Tryd.zeroValue71
  g3 := by kernel_rfl
  g4 := by kernel_rfl }
open Go.RowKit in
/-- strings.Trim: "Trim returns a slice of the string s with all leading and trailing Unicode code points contained in cutset removed.": AT A cutset OF ONE ASCII BYTE. THE WORLD BEHIND IT: as it was, or (where s is not empty) with ONE DRAW MORE off the tape: the statement 'return trimLeftByte(trimRightByte(s, c), c)' draws its order of evaluation. (LAID: no walk: one application.) -/
theorem Tryd.strings_Trim_one (s : ByteArray) (c : UInt8) (hc : c.toNat < 128) (w : World) (hs : s.size ≤ 9223372036854775807) :
    Calls Tryd.prog 17 #[.string s, .string ⟨#[c]⟩] w fun e w' => e = .returned (.string ⟨(Lib.trimB s.data.toList c).toArray⟩) ∧ (w' = w ∨ w' = w.drew) := Any.strings_Trim_one Tryd.lays160 s c hc w hs
def Tryd.lays119_ren : Go.Shelf.Ren := ⟨fun | 119 => 57 | n => n, fun | 21 => 21 | 4 => 4 | n => n, fun | n => n⟩
theorem Tryd.lays119 : Go.Proofs.Lays.n119 Tryd.prog Tryd.lays119_ren := {
  mixed := by kernel_rfl
  f119 := Tryd.func57.trans (congrArg some (by kernel_rfl))
  t4 := Tryd.underlying4
  a4 := Tryd.isAgg4
  z4 := Tryd.sizeOf4
  v4 := Tryd.zeroValue4
  t21 := Tryd.underlying21
  a21 := Tryd.isAgg21
  z21 := Tryd.sizeOf21
  v21 := Tryd.zeroValue21 }
/-- utf8.ValidRune: "ValidRune reports whether r can be legally encoded as UTF-8. Code points that are out of range or a surrogate half are illegal.": IT RETURNS 'Lib.validRune r'; the world is as it was. (LAID: no walk: one application.) -/
theorem Tryd.utf8_ValidRune (r : Int) (w : World) :
    Calls Tryd.prog 57 #[.int .i32 r] w fun e w' => e = .returned (.bool (Lib.validRune r)) ∧ w' = w := Any.utf8_ValidRune Tryd.lays119 r w
def Tryd.lays120_ren : Go.Shelf.Ren := ⟨fun | 120 => 50 | n => n, fun | 5 => 5 | 4 => 4 | n => n, fun | n => n⟩
theorem Tryd.lays120 : Go.Proofs.Lays.n120 Tryd.prog Tryd.lays120_ren := {
  mixed := by kernel_rfl
  f120 := Tryd.func50.trans (congrArg some (by kernel_rfl))
  t4 := Tryd.underlying4
  a4 := Tryd.isAgg4
  z4 := Tryd.sizeOf4
  v4 := Tryd.zeroValue4
  t5 := Tryd.underlying5
  a5 := Tryd.isAgg5
  z5 := Tryd.sizeOf5
  v5 := Tryd.zeroValue5 }
/-- utf8.RuneStart: "RuneStart reports whether the byte could be the first byte of an encoded, possibly invalid rune. Second and subsequent bytes always have the top two bits set to 10.": IT RETURNS 'Lib.runeStart b'; the world is as it was. ('h0', 'h1': b is a byte: a caller has it of every byte that it was handed.) (LAID: no walk: one application.) -/
theorem Tryd.utf8_RuneStart (b : Int) (w : World) (h0 : 0 ≤ b) (h1 : b < 256) :
    Calls Tryd.prog 50 #[.int .u8 b] w fun e w' => e = .returned (.bool (Lib.runeStart b)) ∧ w' = w := Any.utf8_RuneStart Tryd.lays120 b w h0 h1
def Tryd.lays137_ren : Go.Shelf.Ren := ⟨fun | 137 => 56 | 217 => 63 | 266 => 65 | n => n, fun | 9 => 9 | 5 => 5 | 3 => 3 | n => n, fun | n => n⟩
theorem Tryd.lays137 : Go.Proofs.Lays.n137 Tryd.prog Tryd.lays137_ren := {
  mixed := by kernel_rfl
  f137 := Tryd.func56.trans (congrArg some (by kernel_rfl))
  f217 := Tryd.func63.trans (congrArg some (by kernel_rfl))
  f266 := Tryd.func65.trans (congrArg some (by kernel_rfl))
  t3 := Tryd.underlying3
  a3 := Tryd.isAgg3
  z3 := Tryd.sizeOf3
  v3 := Tryd.zeroValue3
  t5 := Tryd.underlying5
  a5 := Tryd.isAgg5
  z5 := Tryd.sizeOf5
  v5 := Tryd.zeroValue5
  t9 := Tryd.underlying9
  a9 := Tryd.isAgg9
  z9 := Tryd.sizeOf9
  v9 := Tryd.zeroValue9 }
open Go.RowKit in
/-- strings.IndexByte: "IndexByte returns the index of the first instance of c in s, or -1 if c is not present in s.": IT RETURNS 'Lib.indexByte s c'; the world is as it was. (LAID: no walk: one application.) -/
theorem Tryd.strings_IndexByte (s : ByteArray) (c : Int) (w : World) :
    Calls Tryd.prog 56 #[.string s, .int .u8 c] w fun e w' => e = .returned (.int .i64 (Lib.indexByte s.data.toList c.toNat.toUInt8)) ∧ w' = w := Any.strings_IndexByte Tryd.lays137 s c w
def Tryd.lays195_ren : Go.Shelf.Ren := ⟨fun | 195 => 60 | n => n, fun | 9 => 9 | 3 => 3 | 0 => 0 | 4 => 4 | n => n, fun | n => n⟩
theorem Tryd.lays195 : Go.Proofs.Lays.n195 Tryd.prog Tryd.lays195_ren := {
  mixed := by kernel_rfl
  f195 := Tryd.func60.trans (congrArg some (by kernel_rfl))
  t0 := Tryd.underlying0
  a0 := Tryd.isAgg0
  z0 := Tryd.sizeOf0
  v0 := Tryd.zeroValue0
  t3 := Tryd.underlying3
  a3 := Tryd.isAgg3
  z3 := Tryd.sizeOf3
  v3 := Tryd.zeroValue3
  t4 := Tryd.underlying4
  a4 := Tryd.isAgg4
  z4 := Tryd.sizeOf4
  v4 := Tryd.zeroValue4
  t9 := Tryd.underlying9
  a9 := Tryd.isAgg9
  z9 := Tryd.sizeOf9
  v9 := Tryd.zeroValue9 }
open Go.RowKit in
/-- unicode/utf8.RuneCountInString: "RuneCountInString is like RuneCount but its input is a string." ("RuneCount returns the number of runes in p. Erroneous and short encodings are treated as single runes of width 1 byte."): EVERY STRING, valid UTF-8 or not: 'Lib.runeCount s' (plain Lean over the model's own 'Utf8.decode'; 'Lib.runeCount_le': at most len(s); 'Lib.runeCount_ascii': on ASCII: len(s)). THE ONE CONDITION: len(s) below 2^63 - 1 (the counter does not wrap): the form's reach pays it. THE WORLD BEHIND THE CALL: ONE BLOCK MORE: the model's iterator over s, at its end: all else as it was. (LAID: no walk: one application.) -/
theorem Tryd.utf8_RuneCountInString (s : ByteArray) (w : World) (hs : s.size < 9223372036854775807) :
    Calls Tryd.prog 60 #[.string s] w fun e w' => e = .returned (.int .i64 (Lib.runeCount s)) ∧ ∃ pos, w' = w.iter s pos := Any.utf8_RuneCountInString Tryd.lays195 s w hs
def Tryd.lays217_ren : Go.Shelf.Ren := ⟨fun | 217 => 63 | 266 => 65 | n => n, fun | 9 => 9 | 5 => 5 | 3 => 3 | n => n, fun | n => n⟩
theorem Tryd.lays217 : Go.Proofs.Lays.n217 Tryd.prog Tryd.lays217_ren := {
  mixed := by kernel_rfl
  f217 := Tryd.func63.trans (congrArg some (by kernel_rfl))
  f266 := Tryd.func65.trans (congrArg some (by kernel_rfl))
  t3 := Tryd.underlying3
  a3 := Tryd.isAgg3
  z3 := Tryd.sizeOf3
  v3 := Tryd.zeroValue3
  t5 := Tryd.underlying5
  a5 := Tryd.isAgg5
  z5 := Tryd.sizeOf5
  v5 := Tryd.zeroValue5
  t9 := Tryd.underlying9
  a9 := Tryd.isAgg9
  z9 := Tryd.sizeOf9
  v9 := Tryd.zeroValue9 }
open Go.RowKit Go.Lib in
/-- internal/stringslite.IndexByte (what strings.IndexByte calls): IT RETURNS 'Lib.indexByte s c'; the world is as it was. (LAID: no walk: one application.) -/
theorem Tryd.stringslite_IndexByte (s : ByteArray) (c : Int) (w : World) :
    Calls Tryd.prog 63 #[.string s, .int .u8 c] w fun e w' => e = .returned (.int .i64 (Lib.indexByte s.data.toList c.toNat.toUInt8)) ∧ w' = w := Any.stringslite_IndexByte Tryd.lays217 s c w
def Tryd.lays224_ren : Go.Shelf.Ren := ⟨fun | 224 => 58 | n => n, fun | 3 => 3 | n => n, fun | n => n⟩
theorem Tryd.lays224 : Go.Proofs.Lays.n224 Tryd.prog Tryd.lays224_ren := {
  mixed := by kernel_rfl
  f224 := Tryd.func58.trans (congrArg some (by kernel_rfl))
  t3 := Tryd.underlying3
  a3 := Tryd.isAgg3
  z3 := Tryd.sizeOf3
  v3 := Tryd.zeroValue3 }
open Go.RowKit Go.Lib in
/-- internal/bytealg.Cutover: "Cutover reports the number of failures of IndexByte we should tolerate before switching over to Index. n is the number of bytes processed so far.": on amd64: (n + 16) / 8. (LAID: no walk: one application.) -/
theorem Tryd.bytealg_Cutover (n : Int) (h0 : 0 ≤ n) (h1 : n < 4611686018427387904) (w : World) :
    Calls Tryd.prog 58 #[.int .i64 n] w fun e w' => e = .returned (.int .i64 ((n + 16) / 8)) ∧ w' = w := Any.bytealg_Cutover Tryd.lays224 n h0 h1 w
def Tryd.lays314_ren : Go.Shelf.Ren := ⟨fun | 314 => 66 | n => n, fun | 9 => 9 | 51 => 76 | 3 => 3 | 4 => 4 | 5 => 5 | 46 => 68 | n => n, fun | n => n⟩
theorem Tryd.lays314 : Go.Proofs.Lays.n314 Tryd.prog Tryd.lays314_ren := {
  mixed := by kernel_rfl
  f314 := Tryd.func66.trans (congrArg some (by kernel_rfl))
  t3 := Tryd.underlying3
  a3 := Tryd.isAgg3
  z3 := Tryd.sizeOf3
  v3 := Tryd.zeroValue3
  t4 := Tryd.underlying4
  a4 := Tryd.isAgg4
  z4 := Tryd.sizeOf4
  v4 := Tryd.zeroValue4
  t5 := Tryd.underlying5
  a5 := Tryd.isAgg5
  z5 := Tryd.sizeOf5
  v5 := Tryd.zeroValue5
  t9 := Tryd.underlying9
  a9 := Tryd.isAgg9
  z9 := Tryd.sizeOf9
  v9 := Tryd.zeroValue9
  t46 := Tryd.underlying68
  a46 := Tryd.isAgg68
  z46 := Tryd.sizeOf68
  v46 := Tryd.zeroValue68
  t51 := Tryd.underlying76
  a51 := Tryd.isAgg76
  z51 := Tryd.sizeOf76
  v51 := Tryd.zeroValue76 }
open Go.RowKit Go.Lib in
/-- hashStr: "returns the hash and the appropriate multiplicative factor for use in Rabin-Karp algorithm": THE HASH OF ALL OF sep, AND 16777619 ^ len(sep), both in uint32. (LAID: no walk: one application.) -/
theorem Tryd.bytealg_hashStr (sep : ByteArray) (hs : sep.size < 4294967281) (w : World) :
    Calls Tryd.prog 66 #[.string sep] w fun e w' => e = .returned (.tuple #[.int .u32 (RK.H sep.data.toList % 4294967296), .int .u32 (16777619 ^ sep.size % 4294967296)]) ∧ w' = w := Any.bytealg_hashStr Tryd.lays314 sep hs w
def Tryd.lays267_ren : Go.Shelf.Ren := ⟨fun | 267 => 64 | 314 => 66 | n => n, fun | 9 => 9 | 3 => 3 | 146 => 77 | 51 => 76 | 4 => 4 | 5 => 5 | 46 => 68 | n => n, fun | n => n⟩
theorem Tryd.lays267 : Go.Proofs.Lays.n267 Tryd.prog Tryd.lays267_ren := {
  mixed := by kernel_rfl
  f267 := Tryd.func64.trans (congrArg some (by kernel_rfl))
  f314 := Tryd.func66.trans (congrArg some (by kernel_rfl))
  t3 := Tryd.underlying3
  a3 := Tryd.isAgg3
  z3 := Tryd.sizeOf3
  v3 := Tryd.zeroValue3
  t4 := Tryd.underlying4
  a4 := Tryd.isAgg4
  z4 := Tryd.sizeOf4
  v4 := Tryd.zeroValue4
  t5 := Tryd.underlying5
  a5 := Tryd.isAgg5
  z5 := Tryd.sizeOf5
  v5 := Tryd.zeroValue5
  t9 := Tryd.underlying9
  a9 := Tryd.isAgg9
  z9 := Tryd.sizeOf9
  v9 := Tryd.zeroValue9
  t46 := Tryd.underlying68
  a46 := Tryd.isAgg68
  z46 := Tryd.sizeOf68
  v46 := Tryd.zeroValue68
  t51 := Tryd.underlying76
  a51 := Tryd.isAgg76
  z51 := Tryd.sizeOf76
  v51 := Tryd.zeroValue76
  t146 := Tryd.underlying77
  a146 := Tryd.isAgg77
  z146 := Tryd.sizeOf77
  v146 := Tryd.zeroValue77 }
open Go.RowKit Go.Lib in
theorem Tryd.bytealg_IndexRabinKarp (s sep : ByteArray) (h1 : 1 ≤ sep.size) (h2 : sep.size ≤ s.size) (hs : s.size < 4294967281) (w : World) :
    Calls Tryd.prog 64 #[.string s, .string sep] w fun e w' => e = .returned (.int .i64 (Lib.index s.data.toList sep.data.toList)) ∧ w' = w := Any.bytealg_IndexRabinKarp Tryd.lays267 s sep h1 h2 hs w
def Tryd.lays219_ren : Go.Shelf.Ren := ⟨fun | 219 => 62 | 217 => 63 | 225 => 59 | 224 => 58 | 267 => 64 | 266 => 65 | 314 => 66 | n => n, fun | 9 => 9 | 3 => 3 | 4 => 4 | 5 => 5 | 46 => 68 | 146 => 77 | 51 => 76 | n => n, fun | 1 => 2 | n => n⟩
theorem Tryd.lays219 : Go.Proofs.Lays.n219 Tryd.prog Tryd.lays219_ren := {
  mixed := by kernel_rfl
  f217 := Tryd.func63.trans (congrArg some (by kernel_rfl))
  f219 := Tryd.func62.trans (congrArg some (by kernel_rfl))
  f224 := Tryd.func58.trans (congrArg some (by kernel_rfl))
  f225 := Tryd.func59.trans (congrArg some (by kernel_rfl))
  f266 := Tryd.func65.trans (congrArg some (by kernel_rfl))
  f267 := Tryd.func64.trans (congrArg some (by kernel_rfl))
  f314 := Tryd.func66.trans (congrArg some (by kernel_rfl))
  t3 := Tryd.underlying3
  a3 := Tryd.isAgg3
  z3 := Tryd.sizeOf3
  v3 := Tryd.zeroValue3
  t4 := Tryd.underlying4
  a4 := Tryd.isAgg4
  z4 := Tryd.sizeOf4
  v4 := Tryd.zeroValue4
  t5 := Tryd.underlying5
  a5 := Tryd.isAgg5
  z5 := Tryd.sizeOf5
  v5 := Tryd.zeroValue5
  t9 := Tryd.underlying9
  a9 := Tryd.isAgg9
  z9 := Tryd.sizeOf9
  v9 := Tryd.zeroValue9
  t46 := Tryd.underlying68
  a46 := Tryd.isAgg68
  z46 := Tryd.sizeOf68
  v46 := Tryd.zeroValue68
  t51 := Tryd.underlying76
  a51 := Tryd.isAgg76
  z51 := Tryd.sizeOf76
  v51 := Tryd.zeroValue76
  t146 := Tryd.underlying77
  a146 := Tryd.isAgg77
  z146 := Tryd.sizeOf77
  v146 := Tryd.zeroValue77
  g1 := by kernel_rfl }
open Go.RowKit Go.Lib in
/-- internal/stringslite.Index (what strings.Index calls) AT A substr OF ONE BYTE c: IT RETURNS 'Lib.indexByte s c'; the world is as it was. (LAID: no walk: one application.) -/
theorem Tryd.stringslite_Index_one (s : ByteArray) (c : UInt8) (w : World) :
    Calls Tryd.prog 62 #[.string s, .string ⟨#[c]⟩] w fun e w' => e = .returned (.int .i64 (Lib.indexByte s.data.toList c)) ∧ w' = w := Any.stringslite_Index_one Tryd.lays219 s c w
open Go.RowKit Go.Lib in
/-- internal/stringslite.Index (what strings.Index calls) AT A substr OF WHATEVER LENGTH: IT RETURNS 'Lib.index s substr'; the world is as it was. 'm': what internal/bytealg.MaxLen holds: whatever. (LAID: no walk: one application.) -/
theorem Tryd.stringslite_Index (s sub : ByteArray) (m : Int) (w : World) (hs : s.size < 4294967281) (hm : w.cell? ⟨2, 0, none⟩ = some (.int .i64 m)) :
    Calls Tryd.prog 62 #[.string s, .string sub] w fun e w' => e = .returned (.int .i64 (Lib.index s.data.toList sub.data.toList)) ∧ w' = w := Any.stringslite_Index Tryd.lays219 s sub m w hs hm
def Tryd.lays143_ren : Go.Shelf.Ren := ⟨fun | 143 => 55 | 219 => 62 | 217 => 63 | 225 => 59 | 224 => 58 | 267 => 64 | 266 => 65 | 314 => 66 | n => n, fun | 9 => 9 | 3 => 3 | 4 => 4 | 5 => 5 | 46 => 68 | 146 => 77 | 51 => 76 | n => n, fun | 1 => 2 | n => n⟩
theorem Tryd.lays143 : Go.Proofs.Lays.n143 Tryd.prog Tryd.lays143_ren := {
  mixed := by kernel_rfl
  f143 := Tryd.func55.trans (congrArg some (by kernel_rfl))
  f217 := Tryd.func63.trans (congrArg some (by kernel_rfl))
  f219 := Tryd.func62.trans (congrArg some (by kernel_rfl))
  f224 := Tryd.func58.trans (congrArg some (by kernel_rfl))
  f225 := Tryd.func59.trans (congrArg some (by kernel_rfl))
  f266 := Tryd.func65.trans (congrArg some (by kernel_rfl))
  f267 := Tryd.func64.trans (congrArg some (by kernel_rfl))
  f314 := Tryd.func66.trans (congrArg some (by kernel_rfl))
  t3 := Tryd.underlying3
  a3 := Tryd.isAgg3
  z3 := Tryd.sizeOf3
  v3 := Tryd.zeroValue3
  t4 := Tryd.underlying4
  a4 := Tryd.isAgg4
  z4 := Tryd.sizeOf4
  v4 := Tryd.zeroValue4
  t5 := Tryd.underlying5
  a5 := Tryd.isAgg5
  z5 := Tryd.sizeOf5
  v5 := Tryd.zeroValue5
  t9 := Tryd.underlying9
  a9 := Tryd.isAgg9
  z9 := Tryd.sizeOf9
  v9 := Tryd.zeroValue9
  t46 := Tryd.underlying68
  a46 := Tryd.isAgg68
  z46 := Tryd.sizeOf68
  v46 := Tryd.zeroValue68
  t51 := Tryd.underlying76
  a51 := Tryd.isAgg76
  z51 := Tryd.sizeOf76
  v51 := Tryd.zeroValue76
  t146 := Tryd.underlying77
  a146 := Tryd.isAgg77
  z146 := Tryd.sizeOf77
  v146 := Tryd.zeroValue77
  g1 := by kernel_rfl }
open Go.RowKit Go.Lib in
/-- strings.Index: "Index returns the index of the first instance of substr in s, or -1 if substr is not present in s.": AT A substr OF ONE BYTE c: IT RETURNS 'Lib.indexByte s c'; the world is as it was. (LAID: no walk: one application.) -/
theorem Tryd.strings_Index_one (s : ByteArray) (c : UInt8) (w : World) :
    Calls Tryd.prog 55 #[.string s, .string ⟨#[c]⟩] w fun e w' => e = .returned (.int .i64 (Lib.indexByte s.data.toList c)) ∧ w' = w := Any.strings_Index_one Tryd.lays143 s c w
open Go.RowKit Go.Lib in
/-- strings.Index: "Index returns the index of the first instance of substr in s, or -1 if substr is not present in s.": IT RETURNS 'Lib.index s substr'; the world is as it was. (LAID: no walk: one application.) -/
theorem Tryd.strings_Index (s sub : ByteArray) (m : Int) (w : World) (hs : s.size < 4294967281) (hm : w.cell? ⟨2, 0, none⟩ = some (.int .i64 m)) :
    Calls Tryd.prog 55 #[.string s, .string sub] w fun e w' => e = .returned (.int .i64 (Lib.index s.data.toList sub.data.toList)) ∧ w' = w := Any.strings_Index Tryd.lays143 s sub m w hs hm
def Tryd.lays138_ren : Go.Shelf.Ren := ⟨fun | 138 => 54 | 195 => 60 | 218 => 61 | 143 => 55 | 219 => 62 | 217 => 63 | 225 => 59 | 224 => 58 | 267 => 64 | 266 => 65 | 314 => 66 | n => n, fun | 9 => 9 | 3 => 3 | 4 => 4 | 5 => 5 | 0 => 0 | 46 => 68 | 146 => 77 | 51 => 76 | n => n, fun | 1 => 2 | n => n⟩
theorem Tryd.lays138 : Go.Proofs.Lays.n138 Tryd.prog Tryd.lays138_ren := {
  mixed := by kernel_rfl
  f138 := Tryd.func54.trans (congrArg some (by kernel_rfl))
  f143 := Tryd.func55.trans (congrArg some (by kernel_rfl))
  f195 := Tryd.func60.trans (congrArg some (by kernel_rfl))
  f217 := Tryd.func63.trans (congrArg some (by kernel_rfl))
  f218 := Tryd.func61.trans (congrArg some (by kernel_rfl))
  f219 := Tryd.func62.trans (congrArg some (by kernel_rfl))
  f224 := Tryd.func58.trans (congrArg some (by kernel_rfl))
  f225 := Tryd.func59.trans (congrArg some (by kernel_rfl))
  f266 := Tryd.func65.trans (congrArg some (by kernel_rfl))
  f267 := Tryd.func64.trans (congrArg some (by kernel_rfl))
  f314 := Tryd.func66.trans (congrArg some (by kernel_rfl))
  t0 := Tryd.underlying0
  a0 := Tryd.isAgg0
  z0 := Tryd.sizeOf0
  v0 := Tryd.zeroValue0
  t3 := Tryd.underlying3
  a3 := Tryd.isAgg3
  z3 := Tryd.sizeOf3
  v3 := Tryd.zeroValue3
  t4 := Tryd.underlying4
  a4 := Tryd.isAgg4
  z4 := Tryd.sizeOf4
  v4 := Tryd.zeroValue4
  t5 := Tryd.underlying5
  a5 := Tryd.isAgg5
  z5 := Tryd.sizeOf5
  v5 := Tryd.zeroValue5
  t9 := Tryd.underlying9
  a9 := Tryd.isAgg9
  z9 := Tryd.sizeOf9
  v9 := Tryd.zeroValue9
  t46 := Tryd.underlying68
  a46 := Tryd.isAgg68
  z46 := Tryd.sizeOf68
  v46 := Tryd.zeroValue68
  t51 := Tryd.underlying76
  a51 := Tryd.isAgg76
  z51 := Tryd.sizeOf76
  v51 := Tryd.zeroValue76
  t146 := Tryd.underlying77
  a146 := Tryd.isAgg77
  z146 := Tryd.sizeOf77
  v146 := Tryd.zeroValue77
  g1 := by kernel_rfl }
open Go.RowKit Go.Lib in
/-- strings.Count AT A substr OF ONE BYTE ('hp'): "Count counts the number of non-overlapping instances of substr in s.": IT RETURNS 'Lib.countByte s (that byte)'; the world is as it was. ✋ NO CONTRACT HERE YET at an empty substr (utf8.RuneCountInString) or at a longer one (a loop over strings.Index). (LAID: no walk: one application.) -/
theorem Tryd.strings_Count_one (s : ByteArray) (c : UInt8) (w : World) :
    Calls Tryd.prog 54 #[.string s, .string ⟨#[c]⟩] w fun e w' => e = .returned (.int .i64 (Lib.countByte s.data.toList c)) ∧ w' = w := Any.strings_Count_one Tryd.lays138 s c w
open Go.RowKit Go.Lib in
/-- strings.Count AT A substr OF TWO BYTES OR MORE: "Count counts the number of non-overlapping instances of substr in s.": IT RETURNS 'Lib.count s substr'; the world is as it was. (LAID: no walk: one application.) -/
theorem Tryd.strings_Count (s sub : ByteArray) (m : Int) (w : World) (hs : s.size < 4294967281) (hm : w.cell? ⟨2, 0, none⟩ = some (.int .i64 m)) (h2 : 2 ≤ sub.size) :
    Calls Tryd.prog 54 #[.string s, .string sub] w fun e w' => e = .returned (.int .i64 (Lib.countB s sub)) ∧ w' = w := Any.strings_Count Tryd.lays138 s sub m w hs hm h2
def Tryd.laysM219_ren : Go.Shelf.Ren := ⟨fun | 219 => 62 | 217 => 63 | 225 => 59 | 224 => 58 | 267 => 64 | 266 => 65 | 314 => 66 | n => n, fun | 9 => 9 | 3 => 3 | 4 => 4 | 5 => 5 | 46 => 68 | 146 => 77 | 51 => 76 | n => n, fun | 1 => 2 | n => n⟩
theorem Tryd.laysM219 : Go.Proofs.LaysM.n219 Tryd.prog Tryd.laysM219_ren := {
  mixed := by kernel_rfl
  f217 := Tryd.func63.trans (congrArg some (by kernel_rfl))
  f219 := Tryd.func62.trans (congrArg some (by kernel_rfl))
  f224 := Tryd.func58.trans (congrArg some (by kernel_rfl))
  f225 := Tryd.func59.trans (congrArg some (by kernel_rfl))
  f266 := Tryd.func65.trans (congrArg some (by kernel_rfl))
  f267 := Tryd.func64.trans (congrArg some (by kernel_rfl))
  f314 := Tryd.func66.trans (congrArg some (by kernel_rfl))
  t3 := Tryd.underlying3
  a3 := Tryd.isAgg3
  z3 := Tryd.sizeOf3
  v3 := Tryd.zeroValue3
  t4 := Tryd.underlying4
  a4 := Tryd.isAgg4
  z4 := Tryd.sizeOf4
  v4 := Tryd.zeroValue4
  t5 := Tryd.underlying5
  a5 := Tryd.isAgg5
  z5 := Tryd.sizeOf5
  v5 := Tryd.zeroValue5
  t9 := Tryd.underlying9
  a9 := Tryd.isAgg9
  z9 := Tryd.sizeOf9
  v9 := Tryd.zeroValue9
  t46 := Tryd.underlying68
  a46 := Tryd.isAgg68
  z46 := Tryd.sizeOf68
  v46 := Tryd.zeroValue68
  t51 := Tryd.underlying76
  a51 := Tryd.isAgg76
  z51 := Tryd.sizeOf76
  v51 := Tryd.zeroValue76
  t146 := Tryd.underlying77
  a146 := Tryd.isAgg77
  z146 := Tryd.sizeOf77
  v146 := Tryd.zeroValue77
  g1 := by kernel_rfl
  i3 := by kernel_rfl
  i4 := by kernel_rfl
  i5 := by kernel_rfl
  i9 := by kernel_rfl
  i46 := by kernel_rfl
  i51 := by kernel_rfl
  i146 := by kernel_rfl
  m1 := by kernel_rfl
  s1_3 := fun w h => Go.Proofs.cell_of_shapedOpen_int (zero := #[.int .i64 0]) (t := 3) h (of_decide_eq_true (by kernel_rfl)) (by kernel_rfl) rfl (by kernel_rfl) (by kernel_rfl) Tryd.underlying3 }
open Go.RowKit Go.Lib in
theorem Tryd.stringslite_Index_shaped (s sub : ByteArray) (w : World) (h : w.ShapedOpen Tryd.prog) (hs : s.size < 4294967281) :
    Calls Tryd.prog 62 #[.string s, .string sub] w fun e w' => e = .returned (.int .i64 (Lib.index s.data.toList sub.data.toList)) ∧ w' = w := Any.stringslite_Index_shaped Tryd.laysM219 s sub w h hs
def Tryd.laysM143_ren : Go.Shelf.Ren := ⟨fun | 143 => 55 | 219 => 62 | 217 => 63 | 225 => 59 | 224 => 58 | 267 => 64 | 266 => 65 | 314 => 66 | n => n, fun | 9 => 9 | 3 => 3 | 4 => 4 | 5 => 5 | 46 => 68 | 146 => 77 | 51 => 76 | n => n, fun | 1 => 2 | n => n⟩
theorem Tryd.laysM143 : Go.Proofs.LaysM.n143 Tryd.prog Tryd.laysM143_ren := {
  mixed := by kernel_rfl
  f143 := Tryd.func55.trans (congrArg some (by kernel_rfl))
  f217 := Tryd.func63.trans (congrArg some (by kernel_rfl))
  f219 := Tryd.func62.trans (congrArg some (by kernel_rfl))
  f224 := Tryd.func58.trans (congrArg some (by kernel_rfl))
  f225 := Tryd.func59.trans (congrArg some (by kernel_rfl))
  f266 := Tryd.func65.trans (congrArg some (by kernel_rfl))
  f267 := Tryd.func64.trans (congrArg some (by kernel_rfl))
  f314 := Tryd.func66.trans (congrArg some (by kernel_rfl))
  t3 := Tryd.underlying3
  a3 := Tryd.isAgg3
  z3 := Tryd.sizeOf3
  v3 := Tryd.zeroValue3
  t4 := Tryd.underlying4
  a4 := Tryd.isAgg4
  z4 := Tryd.sizeOf4
  v4 := Tryd.zeroValue4
  t5 := Tryd.underlying5
  a5 := Tryd.isAgg5
  z5 := Tryd.sizeOf5
  v5 := Tryd.zeroValue5
  t9 := Tryd.underlying9
  a9 := Tryd.isAgg9
  z9 := Tryd.sizeOf9
  v9 := Tryd.zeroValue9
  t46 := Tryd.underlying68
  a46 := Tryd.isAgg68
  z46 := Tryd.sizeOf68
  v46 := Tryd.zeroValue68
  t51 := Tryd.underlying76
  a51 := Tryd.isAgg76
  z51 := Tryd.sizeOf76
  v51 := Tryd.zeroValue76
  t146 := Tryd.underlying77
  a146 := Tryd.isAgg77
  z146 := Tryd.sizeOf77
  v146 := Tryd.zeroValue77
  g1 := by kernel_rfl
  i3 := by kernel_rfl
  i4 := by kernel_rfl
  i5 := by kernel_rfl
  i9 := by kernel_rfl
  i46 := by kernel_rfl
  i51 := by kernel_rfl
  i146 := by kernel_rfl
  m1 := by kernel_rfl
  s1_3 := fun w h => Go.Proofs.cell_of_shapedOpen_int (zero := #[.int .i64 0]) (t := 3) h (of_decide_eq_true (by kernel_rfl)) (by kernel_rfl) rfl (by kernel_rfl) (by kernel_rfl) Tryd.underlying3 }
open Go.RowKit Go.Lib in
theorem Tryd.strings_Index_shaped (s sub : ByteArray) (w : World) (h : w.ShapedOpen Tryd.prog) (hs : s.size < 4294967281) :
    Calls Tryd.prog 55 #[.string s, .string sub] w fun e w' => e = .returned (.int .i64 (Lib.index s.data.toList sub.data.toList)) ∧ w' = w := Any.strings_Index_shaped Tryd.laysM143 s sub w h hs
def Tryd.laysM138_ren : Go.Shelf.Ren := ⟨fun | 138 => 54 | 195 => 60 | 218 => 61 | 143 => 55 | 219 => 62 | 217 => 63 | 225 => 59 | 224 => 58 | 267 => 64 | 266 => 65 | 314 => 66 | n => n, fun | 9 => 9 | 3 => 3 | 4 => 4 | 5 => 5 | 0 => 0 | 46 => 68 | 146 => 77 | 51 => 76 | n => n, fun | 1 => 2 | n => n⟩
theorem Tryd.laysM138 : Go.Proofs.LaysM.n138 Tryd.prog Tryd.laysM138_ren := {
  mixed := by kernel_rfl
  f138 := Tryd.func54.trans (congrArg some (by kernel_rfl))
  f143 := Tryd.func55.trans (congrArg some (by kernel_rfl))
  f195 := Tryd.func60.trans (congrArg some (by kernel_rfl))
  f217 := Tryd.func63.trans (congrArg some (by kernel_rfl))
  f218 := Tryd.func61.trans (congrArg some (by kernel_rfl))
  f219 := Tryd.func62.trans (congrArg some (by kernel_rfl))
  f224 := Tryd.func58.trans (congrArg some (by kernel_rfl))
  f225 := Tryd.func59.trans (congrArg some (by kernel_rfl))
  f266 := Tryd.func65.trans (congrArg some (by kernel_rfl))
  f267 := Tryd.func64.trans (congrArg some (by kernel_rfl))
  f314 := Tryd.func66.trans (congrArg some (by kernel_rfl))
  t0 := Tryd.underlying0
  a0 := Tryd.isAgg0
  z0 := Tryd.sizeOf0
  v0 := Tryd.zeroValue0
  t3 := Tryd.underlying3
  a3 := Tryd.isAgg3
  z3 := Tryd.sizeOf3
  v3 := Tryd.zeroValue3
  t4 := Tryd.underlying4
  a4 := Tryd.isAgg4
  z4 := Tryd.sizeOf4
  v4 := Tryd.zeroValue4
  t5 := Tryd.underlying5
  a5 := Tryd.isAgg5
  z5 := Tryd.sizeOf5
  v5 := Tryd.zeroValue5
  t9 := Tryd.underlying9
  a9 := Tryd.isAgg9
  z9 := Tryd.sizeOf9
  v9 := Tryd.zeroValue9
  t46 := Tryd.underlying68
  a46 := Tryd.isAgg68
  z46 := Tryd.sizeOf68
  v46 := Tryd.zeroValue68
  t51 := Tryd.underlying76
  a51 := Tryd.isAgg76
  z51 := Tryd.sizeOf76
  v51 := Tryd.zeroValue76
  t146 := Tryd.underlying77
  a146 := Tryd.isAgg77
  z146 := Tryd.sizeOf77
  v146 := Tryd.zeroValue77
  g1 := by kernel_rfl
  i0 := by kernel_rfl
  i3 := by kernel_rfl
  i4 := by kernel_rfl
  i5 := by kernel_rfl
  i9 := by kernel_rfl
  i46 := by kernel_rfl
  i51 := by kernel_rfl
  i146 := by kernel_rfl
  m1 := by kernel_rfl
  s1_3 := fun w h => Go.Proofs.cell_of_shapedOpen_int (zero := #[.int .i64 0]) (t := 3) h (of_decide_eq_true (by kernel_rfl)) (by kernel_rfl) rfl (by kernel_rfl) (by kernel_rfl) Tryd.underlying3 }
open Go.RowKit Go.Lib in
theorem Tryd.strings_Count_shaped (s sub : ByteArray) (w : World) (h : w.ShapedOpen Tryd.prog) (hs : s.size < 4294967281) (h2 : 2 ≤ sub.size) :
    Calls Tryd.prog 54 #[.string s, .string sub] w fun e w' => e = .returned (.int .i64 (Lib.countB s sub)) ∧ w' = w := Any.strings_Count_shaped Tryd.laysM138 s sub w h hs h2
open Go.RowKit Go.Lib in
/-- strings.Count at whatever sep that is not empty: the two roads under one statement. (LAID: no walk: one application.) -/
theorem Tryd.strings_Count_any (s sep : ByteArray) (m : Int) (w : World) (hs : s.size < 4294967281) (hm : w.cell? ⟨2, 0, none⟩ = some (.int .i64 m)) (h1 : 1 ≤ sep.size) :
    Calls Tryd.prog 54 #[.string s, .string sep] w fun e w' => e = .returned (.int .i64 (Lib.countB s sep)) ∧ w' = w := Any.strings_Count_any Tryd.lays138 s sep m w hs hm h1
def Tryd.lays221_ren : Go.Shelf.Ren := ⟨fun | 221 => 47 | 268 => 53 | 138 => 54 | 143 => 55 | 195 => 60 | 197 => 41 | 218 => 61 | 219 => 62 | 260 => 48 | 217 => 63 | 225 => 59 | 224 => 58 | 267 => 64 | 266 => 65 | 314 => 66 | n => n, fun | 9 => 9 | 3 => 3 | 31 => 31 | 4 => 4 | 0 => 0 | 105 => 56 | 21 => 21 | 5 => 5 | 46 => 68 | 119 => 67 | 139 => 71 | 138 => 70 | 146 => 77 | 51 => 76 | n => n, fun | 1 => 2 | 3 => 0 | 4 => 1 | n => n⟩
theorem Tryd.lays221 : Go.Proofs.Lays.n221 Tryd.prog Tryd.lays221_ren := {
  mixed := by kernel_rfl
  f138 := Tryd.func54.trans (congrArg some (by kernel_rfl))
  f143 := Tryd.func55.trans (congrArg some (by kernel_rfl))
  f195 := Tryd.func60.trans (congrArg some (by kernel_rfl))
  f197 := Tryd.func41.trans (congrArg some (by kernel_rfl))
  f217 := Tryd.func63.trans (congrArg some (by kernel_rfl))
  f218 := Tryd.func61.trans (congrArg some (by kernel_rfl))
  f219 := Tryd.func62.trans (congrArg some (by kernel_rfl))
  f221 := Tryd.func47.trans (congrArg some (by kernel_rfl))
  f224 := Tryd.func58.trans (congrArg some (by kernel_rfl))
  f225 := Tryd.func59.trans (congrArg some (by kernel_rfl))
  f260 := Tryd.func48.trans (congrArg some (by kernel_rfl))
  f266 := Tryd.func65.trans (congrArg some (by kernel_rfl))
  f267 := Tryd.func64.trans (congrArg some (by kernel_rfl))
  f268 := Tryd.func53.trans (congrArg some (by kernel_rfl))
  f314 := Tryd.func66.trans (congrArg some (by kernel_rfl))
  t0 := Tryd.underlying0
  a0 := Tryd.isAgg0
  z0 := Tryd.sizeOf0
  v0 := Tryd.zeroValue0
  t3 := Tryd.underlying3
  a3 := Tryd.isAgg3
  z3 := Tryd.sizeOf3
  v3 := Tryd.zeroValue3
  t4 := Tryd.underlying4
  a4 := Tryd.isAgg4
  z4 := Tryd.sizeOf4
  v4 := Tryd.zeroValue4
  t5 := Tryd.underlying5
  a5 := Tryd.isAgg5
  z5 := Tryd.sizeOf5
  v5 := Tryd.zeroValue5
  t9 := Tryd.underlying9
  a9 := Tryd.isAgg9
  z9 := Tryd.sizeOf9
  v9 := Tryd.zeroValue9
  t21 := Tryd.underlying21
  a21 := Tryd.isAgg21
  z21 := Tryd.sizeOf21
  v21 := Tryd.zeroValue21
  t31 := Tryd.underlying31
  a31 := Tryd.isAgg31
  z31 := Tryd.sizeOf31
  v31 := Tryd.zeroValue31
  t46 := Tryd.underlying68
  a46 := Tryd.isAgg68
  z46 := Tryd.sizeOf68
  v46 := Tryd.zeroValue68
  t51 := Tryd.underlying76
  a51 := Tryd.isAgg76
  z51 := Tryd.sizeOf76
  v51 := Tryd.zeroValue76
  t105 := Tryd.underlying56
  a105 := Tryd.isAgg56
  z105 := Tryd.sizeOf56
  v105 := Tryd.zeroValue56
  t119 := Tryd.underlying67
  a119 := Tryd.isAgg67
  z119 := Tryd.sizeOf67
  t138 := Tryd.underlying70
  a138 := Tryd.isAgg70
  z138 := Tryd.sizeOf70
  v138 := Tryd.zeroValue70
  t139 := Tryd.underlying71
  a139 := Tryd.isAgg71
  z139 := Tryd.sizeOf71
  v139 := Tryd.zeroValue71
  t146 := Tryd.underlying77
  a146 := Tryd.isAgg77
  z146 := Tryd.sizeOf77
  v146 := Tryd.zeroValue77
  g1 := by kernel_rfl
  g3 := by kernel_rfl
  g4 := by kernel_rfl }
open Go.RowKit Go.Lib in
theorem Tryd.strings_genSplit (s sep : ByteArray) (sv : Nat) (n : Int) (N : Nat) (m : Int) (w : World) (hs : s.size < 4294967281) (hm : w.cell? ⟨2, 0, none⟩ = some (.int .i64 m)) (h1 : 1 ≤ sep.size) (hsv : sv ≤ sep.size) (hn0 : n ≠ 0) (hn63 : n ≤ 9223372036854775807) (hN : (N : Int) = min (if n < 0 then (Lib.countB s sep : Int) + 1 else n) ((s.size : Int) + 1)) :
    Calls Tryd.prog 47 #[.string s, .string sep, .int .i64 sv, .int .i64 n] w fun e w' =>
      e = .returned (.slice (some ⟨w.heap.size, 0, none⟩) (Lib.splitB sep sv (N - 1) s).length N) ∧ w' = w.alloc (.cells (Lib.cellsOf (Lib.splitB sep sv (N - 1) s) N) 9) := Any.strings_genSplit Tryd.lays221 (by kernel_rfl) s sep sv n N m w hs hm h1 hsv hn0 hn63 hN
def Tryd.lays146_ren : Go.Shelf.Ren := ⟨fun | 146 => 38 | 221 => 47 | 268 => 53 | 138 => 54 | 143 => 55 | 195 => 60 | 197 => 41 | 218 => 61 | 219 => 62 | 260 => 48 | 217 => 63 | 225 => 59 | 224 => 58 | 267 => 64 | 266 => 65 | 314 => 66 | n => n, fun | 9 => 9 | 31 => 31 | 3 => 3 | 4 => 4 | 0 => 0 | 105 => 56 | 21 => 21 | 5 => 5 | 46 => 68 | 119 => 67 | 139 => 71 | 138 => 70 | 146 => 77 | 51 => 76 | n => n, fun | 1 => 2 | 3 => 0 | 4 => 1 | n => n⟩
theorem Tryd.lays146 : Go.Proofs.Lays.n146 Tryd.prog Tryd.lays146_ren := {
  mixed := by kernel_rfl
  f138 := Tryd.func54.trans (congrArg some (by kernel_rfl))
  f143 := Tryd.func55.trans (congrArg some (by kernel_rfl))
  f146 := Tryd.func38.trans (congrArg some (by kernel_rfl))
  f195 := Tryd.func60.trans (congrArg some (by kernel_rfl))
  f197 := Tryd.func41.trans (congrArg some (by kernel_rfl))
  f217 := Tryd.func63.trans (congrArg some (by kernel_rfl))
  f218 := Tryd.func61.trans (congrArg some (by kernel_rfl))
  f219 := Tryd.func62.trans (congrArg some (by kernel_rfl))
  f221 := Tryd.func47.trans (congrArg some (by kernel_rfl))
  f224 := Tryd.func58.trans (congrArg some (by kernel_rfl))
  f225 := Tryd.func59.trans (congrArg some (by kernel_rfl))
  f260 := Tryd.func48.trans (congrArg some (by kernel_rfl))
  f266 := Tryd.func65.trans (congrArg some (by kernel_rfl))
  f267 := Tryd.func64.trans (congrArg some (by kernel_rfl))
  f268 := Tryd.func53.trans (congrArg some (by kernel_rfl))
  f314 := Tryd.func66.trans (congrArg some (by kernel_rfl))
  t0 := Tryd.underlying0
  a0 := Tryd.isAgg0
  z0 := Tryd.sizeOf0
  v0 := Tryd.zeroValue0
  t3 := Tryd.underlying3
  a3 := Tryd.isAgg3
  z3 := Tryd.sizeOf3
  v3 := Tryd.zeroValue3
  t4 := Tryd.underlying4
  a4 := Tryd.isAgg4
  z4 := Tryd.sizeOf4
  v4 := Tryd.zeroValue4
  t5 := Tryd.underlying5
  a5 := Tryd.isAgg5
  z5 := Tryd.sizeOf5
  v5 := Tryd.zeroValue5
  t9 := Tryd.underlying9
  a9 := Tryd.isAgg9
  z9 := Tryd.sizeOf9
  v9 := Tryd.zeroValue9
  t21 := Tryd.underlying21
  a21 := Tryd.isAgg21
  z21 := Tryd.sizeOf21
  v21 := Tryd.zeroValue21
  t31 := Tryd.underlying31
  a31 := Tryd.isAgg31
  z31 := Tryd.sizeOf31
  v31 := Tryd.zeroValue31
  t46 := Tryd.underlying68
  a46 := Tryd.isAgg68
  z46 := Tryd.sizeOf68
  v46 := Tryd.zeroValue68
  t51 := Tryd.underlying76
  a51 := Tryd.isAgg76
  z51 := Tryd.sizeOf76
  v51 := Tryd.zeroValue76
  t105 := Tryd.underlying56
  a105 := Tryd.isAgg56
  z105 := Tryd.sizeOf56
  v105 := Tryd.zeroValue56
  t119 := Tryd.underlying67
  a119 := Tryd.isAgg67
  z119 := Tryd.sizeOf67
  t138 := Tryd.underlying70
  a138 := Tryd.isAgg70
  z138 := Tryd.sizeOf70
  v138 := Tryd.zeroValue70
  t139 := Tryd.underlying71
  a139 := Tryd.isAgg71
  z139 := Tryd.sizeOf71
  v139 := Tryd.zeroValue71
  t146 := Tryd.underlying77
  a146 := Tryd.isAgg77
  z146 := Tryd.sizeOf77
  v146 := Tryd.zeroValue77
  g1 := by kernel_rfl
  g3 := by kernel_rfl
  g4 := by kernel_rfl }
open Go.RowKit Go.Lib in
/-- strings.Split. (LAID: no walk: one application.) -/
theorem Tryd.strings_Split (s sep : ByteArray) (m : Int) (w : World) (hs : s.size < 4294967281) (hm : w.cell? ⟨2, 0, none⟩ = some (.int .i64 m)) (h1 : 1 ≤ sep.size) :
    Calls Tryd.prog 38 #[.string s, .string sep] w fun e w' =>
      e = .returned (.slice (some ⟨w.heap.size, 0, none⟩) (Lib.countB s sep + 1) (Lib.countB s sep + 1)) ∧ w' = w.alloc (.cells ((Lib.splitB sep 0 (Lib.countB s sep) s).map Value.string).toArray 9) := Any.strings_Split Tryd.lays146 (by kernel_rfl) s sep m w hs hm h1
def Tryd.laysM146_ren : Go.Shelf.Ren := ⟨fun | 146 => 38 | 221 => 47 | 268 => 53 | 138 => 54 | 143 => 55 | 195 => 60 | 197 => 41 | 218 => 61 | 219 => 62 | 260 => 48 | 217 => 63 | 225 => 59 | 224 => 58 | 267 => 64 | 266 => 65 | 314 => 66 | n => n, fun | 9 => 9 | 31 => 31 | 3 => 3 | 4 => 4 | 0 => 0 | 105 => 56 | 21 => 21 | 5 => 5 | 46 => 68 | 119 => 67 | 139 => 71 | 138 => 70 | 146 => 77 | 51 => 76 | n => n, fun | 1 => 2 | 3 => 0 | 4 => 1 | n => n⟩
theorem Tryd.laysM146 : Go.Proofs.LaysM.n146 Tryd.prog Tryd.laysM146_ren := {
  mixed := by kernel_rfl
  f138 := Tryd.func54.trans (congrArg some (by kernel_rfl))
  f143 := Tryd.func55.trans (congrArg some (by kernel_rfl))
  f146 := Tryd.func38.trans (congrArg some (by kernel_rfl))
  f195 := Tryd.func60.trans (congrArg some (by kernel_rfl))
  f197 := Tryd.func41.trans (congrArg some (by kernel_rfl))
  f217 := Tryd.func63.trans (congrArg some (by kernel_rfl))
  f218 := Tryd.func61.trans (congrArg some (by kernel_rfl))
  f219 := Tryd.func62.trans (congrArg some (by kernel_rfl))
  f221 := Tryd.func47.trans (congrArg some (by kernel_rfl))
  f224 := Tryd.func58.trans (congrArg some (by kernel_rfl))
  f225 := Tryd.func59.trans (congrArg some (by kernel_rfl))
  f260 := Tryd.func48.trans (congrArg some (by kernel_rfl))
  f266 := Tryd.func65.trans (congrArg some (by kernel_rfl))
  f267 := Tryd.func64.trans (congrArg some (by kernel_rfl))
  f268 := Tryd.func53.trans (congrArg some (by kernel_rfl))
  f314 := Tryd.func66.trans (congrArg some (by kernel_rfl))
  t0 := Tryd.underlying0
  a0 := Tryd.isAgg0
  z0 := Tryd.sizeOf0
  v0 := Tryd.zeroValue0
  t3 := Tryd.underlying3
  a3 := Tryd.isAgg3
  z3 := Tryd.sizeOf3
  v3 := Tryd.zeroValue3
  t4 := Tryd.underlying4
  a4 := Tryd.isAgg4
  z4 := Tryd.sizeOf4
  v4 := Tryd.zeroValue4
  t5 := Tryd.underlying5
  a5 := Tryd.isAgg5
  z5 := Tryd.sizeOf5
  v5 := Tryd.zeroValue5
  t9 := Tryd.underlying9
  a9 := Tryd.isAgg9
  z9 := Tryd.sizeOf9
  v9 := Tryd.zeroValue9
  t21 := Tryd.underlying21
  a21 := Tryd.isAgg21
  z21 := Tryd.sizeOf21
  v21 := Tryd.zeroValue21
  t31 := Tryd.underlying31
  a31 := Tryd.isAgg31
  z31 := Tryd.sizeOf31
  v31 := Tryd.zeroValue31
  t46 := Tryd.underlying68
  a46 := Tryd.isAgg68
  z46 := Tryd.sizeOf68
  v46 := Tryd.zeroValue68
  t51 := Tryd.underlying76
  a51 := Tryd.isAgg76
  z51 := Tryd.sizeOf76
  v51 := Tryd.zeroValue76
  t105 := Tryd.underlying56
  a105 := Tryd.isAgg56
  z105 := Tryd.sizeOf56
  v105 := Tryd.zeroValue56
  t119 := Tryd.underlying67
  a119 := Tryd.isAgg67
  z119 := Tryd.sizeOf67
  t138 := Tryd.underlying70
  a138 := Tryd.isAgg70
  z138 := Tryd.sizeOf70
  v138 := Tryd.zeroValue70
  t139 := Tryd.underlying71
  a139 := Tryd.isAgg71
  z139 := Tryd.sizeOf71
  v139 := Tryd.zeroValue71
  t146 := Tryd.underlying77
  a146 := Tryd.isAgg77
  z146 := Tryd.sizeOf77
  v146 := Tryd.zeroValue77
  g1 := by kernel_rfl
  g3 := by kernel_rfl
  g4 := by kernel_rfl
  i0 := by kernel_rfl
  i3 := by kernel_rfl
  i4 := by kernel_rfl
  i5 := by kernel_rfl
  i9 := by kernel_rfl
  i21 := by kernel_rfl
  i31 := by kernel_rfl
  i46 := by kernel_rfl
  i51 := by kernel_rfl
  i105 := by kernel_rfl
  i138 := by kernel_rfl
  i139 := by kernel_rfl
  i146 := by kernel_rfl
  m1 := by kernel_rfl
  s1_3 := fun w h => Go.Proofs.cell_of_shapedOpen_int (zero := #[.int .i64 0]) (t := 3) h (of_decide_eq_true (by kernel_rfl)) (by kernel_rfl) rfl (by kernel_rfl) (by kernel_rfl) Tryd.underlying3
  m3 := by kernel_rfl
  m4 := by kernel_rfl }
open Go.RowKit Go.Lib in
/-- strings.Split, sep not empty. (LAID: no walk: one application.) -/
theorem Tryd.strings_Split_shaped (s sep : ByteArray) (w : World) (h : w.ShapedOpen Tryd.prog) (hs : s.size < 4294967281) (h1 : 1 ≤ sep.size) :
    Calls Tryd.prog 38 #[.string s, .string sep] w fun e w' =>
      e = .returned (.slice (some ⟨w.heap.size, 0, none⟩) (Lib.countB s sep + 1) (Lib.countB s sep + 1)) ∧ w' = w.alloc (.cells ((Lib.splitB sep 0 (Lib.countB s sep) s).map Value.string).toArray 9) := Any.strings_Split_shaped Tryd.laysM146 s sep w h hs h1
def Tryd.lays197_ren : Go.Shelf.Ren := ⟨fun | 197 => 41 | 260 => 48 | n => n, fun | 9 => 9 | 21 => 21 | 3 => 3 | 4 => 4 | 5 => 5 | 105 => 56 | 119 => 67 | 0 => 0 | 46 => 68 | 139 => 71 | 138 => 70 | n => n, fun | 3 => 0 | 4 => 1 | n => n⟩
theorem Tryd.lays197 : Go.Proofs.Lays.n197 Tryd.prog Tryd.lays197_ren := {
  mixed := by kernel_rfl
  f197 := Tryd.func41.trans (congrArg some (by kernel_rfl))
  f260 := Tryd.func48.trans (congrArg some (by kernel_rfl))
  t0 := Tryd.underlying0
  a0 := Tryd.isAgg0
  z0 := Tryd.sizeOf0
  v0 := Tryd.zeroValue0
  t3 := Tryd.underlying3
  a3 := Tryd.isAgg3
  z3 := Tryd.sizeOf3
  v3 := Tryd.zeroValue3
  t4 := Tryd.underlying4
  a4 := Tryd.isAgg4
  z4 := Tryd.sizeOf4
  v4 := Tryd.zeroValue4
  t5 := Tryd.underlying5
  a5 := Tryd.isAgg5
  z5 := Tryd.sizeOf5
  v5 := Tryd.zeroValue5
  t9 := Tryd.underlying9
  a9 := Tryd.isAgg9
  z9 := Tryd.sizeOf9
  v9 := Tryd.zeroValue9
  t21 := Tryd.underlying21
  a21 := Tryd.isAgg21
  z21 := Tryd.sizeOf21
  v21 := Tryd.zeroValue21
  t46 := Tryd.underlying68
  a46 := Tryd.isAgg68
  z46 := Tryd.sizeOf68
  v46 := Tryd.zeroValue68
  t105 := Tryd.underlying56
  a105 := Tryd.isAgg56
  z105 := Tryd.sizeOf56
  v105 := Tryd.zeroValue56
  t119 := Tryd.underlying67
  a119 := Tryd.isAgg67
  z119 := Tryd.sizeOf67
  t138 := Tryd.underlying70
  a138 := Tryd.isAgg70
  z138 := Tryd.sizeOf70
  v138 := Tryd.zeroValue70
  t139 := Tryd.underlying71
  a139 := Tryd.isAgg71
  z139 := Tryd.sizeOf71
  v139 := Tryd.zeroValue71
  g3 := by kernel_rfl
  g4 := by kernel_rfl }
open Go.RowKit Go.Lib in
/-- unicode/utf8.DecodeRuneInString: "DecodeRuneInString is like DecodeRune but its input is a string.": ("DecodeRune unpacks the first UTF-8 encoding in p and returns the rune and its width in bytes."): WHERE s BEGINS WITH AN ASCII BYTE x: (x, 1). (LAID: no walk: one application.) -/
theorem Tryd.utf8_DecodeRuneInString_ascii (s : ByteArray) (x : UInt8) (w : World) (h0 : s.data.toList[0]? = some x) (hx : x.toNat < 128) :
    Calls Tryd.prog 41 #[.string s] w fun e w' => e = .returned (.tuple #[.int .i32 x.toNat, .int .i64 1]) ∧ w' = w := Any.utf8_DecodeRuneInString_ascii Tryd.lays197 s x w h0 hx
def Tryd.lays152_ren : Go.Shelf.Ren := ⟨fun | 152 => 49 | 137 => 56 | 119 => 57 | 224 => 58 | 225 => 59 | 217 => 63 | 266 => 65 | n => n, fun | 9 => 9 | 21 => 21 | 3 => 3 | 4 => 4 | 5 => 5 | 0 => 0 | 46 => 68 | n => n, fun | n => n⟩
theorem Tryd.lays152 : Go.Proofs.Lays.n152 Tryd.prog Tryd.lays152_ren := {
  mixed := by kernel_rfl
  f119 := Tryd.func57.trans (congrArg some (by kernel_rfl))
  f137 := Tryd.func56.trans (congrArg some (by kernel_rfl))
  f152 := Tryd.func49.trans (congrArg some (by kernel_rfl))
  f217 := Tryd.func63.trans (congrArg some (by kernel_rfl))
  f224 := Tryd.func58.trans (congrArg some (by kernel_rfl))
  f225 := Tryd.func59.trans (congrArg some (by kernel_rfl))
  f266 := Tryd.func65.trans (congrArg some (by kernel_rfl))
  t0 := Tryd.underlying0
  a0 := Tryd.isAgg0
  z0 := Tryd.sizeOf0
  v0 := Tryd.zeroValue0
  t3 := Tryd.underlying3
  a3 := Tryd.isAgg3
  z3 := Tryd.sizeOf3
  v3 := Tryd.zeroValue3
  t4 := Tryd.underlying4
  a4 := Tryd.isAgg4
  z4 := Tryd.sizeOf4
  v4 := Tryd.zeroValue4
  t5 := Tryd.underlying5
  a5 := Tryd.isAgg5
  z5 := Tryd.sizeOf5
  v5 := Tryd.zeroValue5
  t9 := Tryd.underlying9
  a9 := Tryd.isAgg9
  z9 := Tryd.sizeOf9
  v9 := Tryd.zeroValue9
  t21 := Tryd.underlying21
  a21 := Tryd.isAgg21
  z21 := Tryd.sizeOf21
  v21 := Tryd.zeroValue21
  t46 := Tryd.underlying68
  a46 := Tryd.isAgg68
  z46 := Tryd.sizeOf68
  v46 := Tryd.zeroValue68 }
open Go.RowKit Go.Lib in
theorem Tryd.strings_IndexRune_ascii (s : ByteArray) (r : Int) (w : World) (h0 : 0 ≤ r) (h1 : r < 128) :
    Calls Tryd.prog 49 #[.string s, .int .i32 r] w fun e w' => e = .returned (.int .i64 (Lib.indexByte s.data.toList r.toNat.toUInt8)) ∧ w' = w := Any.strings_IndexRune_ascii Tryd.lays152 s r w h0 h1
def Tryd.lays151_ren : Go.Shelf.Ren := ⟨fun | 151 => 42 | 152 => 49 | 137 => 56 | 119 => 57 | 224 => 58 | 225 => 59 | 217 => 63 | 266 => 65 | n => n, fun | 9 => 9 | 21 => 21 | 4 => 4 | 3 => 3 | 5 => 5 | 0 => 0 | 46 => 68 | n => n, fun | n => n⟩
theorem Tryd.lays151 : Go.Proofs.Lays.n151 Tryd.prog Tryd.lays151_ren := {
  mixed := by kernel_rfl
  f119 := Tryd.func57.trans (congrArg some (by kernel_rfl))
  f137 := Tryd.func56.trans (congrArg some (by kernel_rfl))
  f151 := Tryd.func42.trans (congrArg some (by kernel_rfl))
  f152 := Tryd.func49.trans (congrArg some (by kernel_rfl))
  f217 := Tryd.func63.trans (congrArg some (by kernel_rfl))
  f224 := Tryd.func58.trans (congrArg some (by kernel_rfl))
  f225 := Tryd.func59.trans (congrArg some (by kernel_rfl))
  f266 := Tryd.func65.trans (congrArg some (by kernel_rfl))
  t0 := Tryd.underlying0
  a0 := Tryd.isAgg0
  z0 := Tryd.sizeOf0
  v0 := Tryd.zeroValue0
  t3 := Tryd.underlying3
  a3 := Tryd.isAgg3
  z3 := Tryd.sizeOf3
  v3 := Tryd.zeroValue3
  t4 := Tryd.underlying4
  a4 := Tryd.isAgg4
  z4 := Tryd.sizeOf4
  v4 := Tryd.zeroValue4
  t5 := Tryd.underlying5
  a5 := Tryd.isAgg5
  z5 := Tryd.sizeOf5
  v5 := Tryd.zeroValue5
  t9 := Tryd.underlying9
  a9 := Tryd.isAgg9
  z9 := Tryd.sizeOf9
  v9 := Tryd.zeroValue9
  t21 := Tryd.underlying21
  a21 := Tryd.isAgg21
  z21 := Tryd.sizeOf21
  v21 := Tryd.zeroValue21
  t46 := Tryd.underlying68
  a46 := Tryd.isAgg68
  z46 := Tryd.sizeOf68
  v46 := Tryd.zeroValue68 }
open Go.RowKit Go.Lib in
theorem Tryd.strings_ContainsRune_ascii (s : ByteArray) (r : Int) (w : World) (h0 : 0 ≤ r) (h1 : r < 128) :
    Calls Tryd.prog 42 #[.string s, .int .i32 r] w fun e w' => e = .returned (.bool (decide (0 ≤ Lib.indexByte s.data.toList r.toNat.toUInt8))) ∧ w' = w := Any.strings_ContainsRune_ascii Tryd.lays151 s r w h0 h1
open Go.RowKit Go.Lib in
theorem Tryd.utf8_RuneCountInString_ascii (s : ByteArray) (w : World) (hs : s.size < 4294967281) (hascii : ∀ (j : Nat) b, s.data.toList[j]? = some b → b.toNat < 128) :
    Calls Tryd.prog 60 #[.string s] w fun e w' => e = .returned (.int .i64 s.size) ∧ w' = w.iter s s.size := Any.utf8_RuneCountInString_ascii Tryd.lays195 s w hs hascii
def Tryd.lays227_ren : Go.Shelf.Ren := ⟨fun | 227 => 28 | n => n, fun | 9 => 9 | 116 => 40 | 4 => 4 | 0 => 0 | 3 => 3 | 5 => 5 | n => n, fun | n => n⟩
theorem Tryd.lays227 : Go.Proofs.Lays.n227 Tryd.prog Tryd.lays227_ren := {
  mixed := by kernel_rfl
  f227 := Tryd.func28.trans (congrArg some (by kernel_rfl))
  t0 := Tryd.underlying0
  a0 := Tryd.isAgg0
  z0 := Tryd.sizeOf0
  v0 := Tryd.zeroValue0
  t3 := Tryd.underlying3
  a3 := Tryd.isAgg3
  z3 := Tryd.sizeOf3
  v3 := Tryd.zeroValue3
  t4 := Tryd.underlying4
  a4 := Tryd.isAgg4
  z4 := Tryd.sizeOf4
  v4 := Tryd.zeroValue4
  t5 := Tryd.underlying5
  a5 := Tryd.isAgg5
  z5 := Tryd.sizeOf5
  v5 := Tryd.zeroValue5
  t9 := Tryd.underlying9
  a9 := Tryd.isAgg9
  z9 := Tryd.sizeOf9
  v9 := Tryd.zeroValue9
  t116 := Tryd.underlying40
  a116 := Tryd.isAgg40
  z116 := Tryd.sizeOf40 }
open Go.RowKit Go.Lib in
theorem Tryd.strings_makeASCIISet (hv116 : ∀ w, (zeroValue 40).run Tryd.prog w = .ok (.agg (Array.replicate 256 (.bool false))) w) (chars : ByteArray) (w : World) (hs : chars.size < 4294967281) (hascii : ∀ (j : Nat) b, chars.data.toList[j]? = some b → b.toNat < 128) :
    Calls Tryd.prog 28 #[.string chars] w fun e w' => e = .returned (.tuple #[.agg (Lib.setCells chars.data.toList), .bool true]) ∧ w' = w.alloc (.cells (Lib.setCells chars.data.toList) 40) := Any.strings_makeASCIISet Tryd.lays227 hv116 (by kernel_rfl) chars w hs hascii
def Tryd.lays228_ren : Go.Shelf.Ren := ⟨fun | 228 => 40 | n => n, fun | 124 => 44 | 5 => 5 | 4 => 4 | 0 => 0 | 116 => 40 | n => n, fun | n => n⟩
theorem Tryd.lays228 : Go.Proofs.Lays.n228 Tryd.prog Tryd.lays228_ren := {
  mixed := by kernel_rfl
  f228 := Tryd.func40.trans (congrArg some (by kernel_rfl))
  t0 := Tryd.underlying0
  a0 := Tryd.isAgg0
  z0 := Tryd.sizeOf0
  v0 := Tryd.zeroValue0
  t4 := Tryd.underlying4
  a4 := Tryd.isAgg4
  z4 := Tryd.sizeOf4
  v4 := Tryd.zeroValue4
  t5 := Tryd.underlying5
  a5 := Tryd.isAgg5
  z5 := Tryd.sizeOf5
  v5 := Tryd.zeroValue5
  t116 := Tryd.underlying40
  a116 := Tryd.isAgg40
  z116 := Tryd.sizeOf40
  t124 := Tryd.underlying44
  a124 := Tryd.isAgg44
  z124 := Tryd.sizeOf44
  v124 := Tryd.zeroValue44 }
open Go.RowKit Go.Lib in
/-- '(as *asciiSet) contains(c)': 'as[c]': the set lies at block b, whole. (LAID: no walk: one application.) -/
theorem Tryd.asciiSet_contains (b : Nat) (x : UInt8) (v : Bool) (w : World) (hc : w.cell? ⟨b, x.toNat, none⟩ = some (.bool v)) :
    Calls Tryd.prog 40 #[.pointer (some ⟨b, 0, none⟩), .int .u8 x.toNat] w fun e w' => e = .returned (.bool v) ∧ w' = w := Any.asciiSet_contains Tryd.lays228 b x v w hc
def Tryd.lays268_ren : Go.Shelf.Ren := ⟨fun | 268 => 53 | 195 => 60 | 197 => 41 | 260 => 48 | n => n, fun | 9 => 9 | 3 => 3 | 31 => 31 | 4 => 4 | 105 => 56 | 21 => 21 | 0 => 0 | 5 => 5 | 119 => 67 | 46 => 68 | 139 => 71 | 138 => 70 | n => n, fun | 3 => 0 | 4 => 1 | n => n⟩
theorem Tryd.lays268 : Go.Proofs.Lays.n268 Tryd.prog Tryd.lays268_ren := {
  mixed := by kernel_rfl
  f195 := Tryd.func60.trans (congrArg some (by kernel_rfl))
  f197 := Tryd.func41.trans (congrArg some (by kernel_rfl))
  f260 := Tryd.func48.trans (congrArg some (by kernel_rfl))
  f268 := Tryd.func53.trans (congrArg some (by kernel_rfl))
  t0 := Tryd.underlying0
  a0 := Tryd.isAgg0
  z0 := Tryd.sizeOf0
  v0 := Tryd.zeroValue0
  t3 := Tryd.underlying3
  a3 := Tryd.isAgg3
  z3 := Tryd.sizeOf3
  v3 := Tryd.zeroValue3
  t4 := Tryd.underlying4
  a4 := Tryd.isAgg4
  z4 := Tryd.sizeOf4
  v4 := Tryd.zeroValue4
  t5 := Tryd.underlying5
  a5 := Tryd.isAgg5
  z5 := Tryd.sizeOf5
  v5 := Tryd.zeroValue5
  t9 := Tryd.underlying9
  a9 := Tryd.isAgg9
  z9 := Tryd.sizeOf9
  v9 := Tryd.zeroValue9
  t21 := Tryd.underlying21
  a21 := Tryd.isAgg21
  z21 := Tryd.sizeOf21
  v21 := Tryd.zeroValue21
  t31 := Tryd.underlying31
  a31 := Tryd.isAgg31
  z31 := Tryd.sizeOf31
  v31 := Tryd.zeroValue31
  t46 := Tryd.underlying68
  a46 := Tryd.isAgg68
  z46 := Tryd.sizeOf68
  v46 := Tryd.zeroValue68
  t105 := Tryd.underlying56
  a105 := Tryd.isAgg56
  z105 := Tryd.sizeOf56
  v105 := Tryd.zeroValue56
  t119 := Tryd.underlying67
  a119 := Tryd.isAgg67
  z119 := Tryd.sizeOf67
  t138 := Tryd.underlying70
  a138 := Tryd.isAgg70
  z138 := Tryd.sizeOf70
  v138 := Tryd.zeroValue70
  t139 := Tryd.underlying71
  a139 := Tryd.isAgg71
  z139 := Tryd.sizeOf71
  v139 := Tryd.zeroValue71
  g3 := by kernel_rfl
  g4 := by kernel_rfl }
open Go.RowKit Go.Lib in
theorem Tryd.strings_explode_all (s : ByteArray) (n : Int) (w : World) (hn : n < 0) (hs : s.size < 4294967281) (hascii : ∀ (j : Nat) b, s.data.toList[j]? = some b → b.toNat < 128) :
    Calls Tryd.prog 53 #[.string s, .int .i64 n] w fun e w' =>
      e = .returned (.slice (some ⟨(w.iter s s.size).heap.size, 0, none⟩) s.size s.size) ∧ w' = (w.iter s s.size).alloc (.cells ((Lib.charsB s).map Value.string).toArray 9) := Any.strings_explode_all Tryd.lays268 (by kernel_rfl) s n w hn hs hascii
open Go.RowKit Go.Lib in
/-- strings.genSplit at sep == "", n < 0: 'return explode(s, n)'. (LAID: no walk: one application.) -/
theorem Tryd.strings_genSplit_chars (s sep : ByteArray) (sv n : Int) (w : World) (h0 : sep.size = 0) (hn : n < 0) (hs : s.size < 4294967281) (hascii : ∀ (j : Nat) b, s.data.toList[j]? = some b → b.toNat < 128) :
    Calls Tryd.prog 47 #[.string s, .string sep, .int .i64 sv, .int .i64 n] w fun e w' =>
      e = .returned (.slice (some ⟨(w.iter s s.size).heap.size, 0, none⟩) s.size s.size) ∧ w' = (w.iter s s.size).alloc (.cells ((Lib.charsB s).map Value.string).toArray 9) := Any.strings_genSplit_chars Tryd.lays221 (by kernel_rfl) s sep sv n w h0 hn hs hascii
open Go.RowKit Go.Lib in
/-- strings.Split(s, ""), s ASCII: a piece a byte. (LAID: no walk: one application.) -/
theorem Tryd.strings_Split_chars (s sep : ByteArray) (w : World) (h0 : sep.size = 0) (hs : s.size < 4294967281) (hascii : ∀ (j : Nat) b, s.data.toList[j]? = some b → b.toNat < 128) :
    Calls Tryd.prog 38 #[.string s, .string sep] w fun e w' =>
      e = .returned (.slice (some ⟨(w.iter s s.size).heap.size, 0, none⟩) s.size s.size) ∧ w' = (w.iter s s.size).alloc (.cells ((Lib.charsB s).map Value.string).toArray 9) := Any.strings_Split_chars Tryd.lays146 (by kernel_rfl) s sep w h0 hs hascii
def Tryd.lays260_ren : Go.Shelf.Ren := ⟨fun | 260 => 48 | n => n, fun | 9 => 9 | 21 => 21 | 3 => 3 | 4 => 4 | 5 => 5 | 119 => 67 | 0 => 0 | 46 => 68 | 139 => 71 | 138 => 70 | n => n, fun | 3 => 0 | 4 => 1 | n => n⟩
theorem Tryd.lays260 : Go.Proofs.Lays.n260 Tryd.prog Tryd.lays260_ren := {
  mixed := by kernel_rfl
  f260 := Tryd.func48.trans (congrArg some (by kernel_rfl))
  t0 := Tryd.underlying0
  a0 := Tryd.isAgg0
  z0 := Tryd.sizeOf0
  v0 := Tryd.zeroValue0
  t3 := Tryd.underlying3
  a3 := Tryd.isAgg3
  z3 := Tryd.sizeOf3
  v3 := Tryd.zeroValue3
  t4 := Tryd.underlying4
  a4 := Tryd.isAgg4
  z4 := Tryd.sizeOf4
  v4 := Tryd.zeroValue4
  t5 := Tryd.underlying5
  a5 := Tryd.isAgg5
  z5 := Tryd.sizeOf5
  v5 := Tryd.zeroValue5
  t9 := Tryd.underlying9
  a9 := Tryd.isAgg9
  z9 := Tryd.sizeOf9
  v9 := Tryd.zeroValue9
  t21 := Tryd.underlying21
  a21 := Tryd.isAgg21
  z21 := Tryd.sizeOf21
  v21 := Tryd.zeroValue21
  t46 := Tryd.underlying68
  a46 := Tryd.isAgg68
  z46 := Tryd.sizeOf68
  v46 := Tryd.zeroValue68
  t119 := Tryd.underlying67
  a119 := Tryd.isAgg67
  z119 := Tryd.sizeOf67
  t138 := Tryd.underlying70
  a138 := Tryd.isAgg70
  z138 := Tryd.sizeOf70
  v138 := Tryd.zeroValue70
  t139 := Tryd.underlying71
  a139 := Tryd.isAgg71
  z139 := Tryd.sizeOf71
  v139 := Tryd.zeroValue71
  g3 := by kernel_rfl
  g4 := by kernel_rfl }
open Go.RowKit Go.Lib in
theorem Tryd.utf8_decodeRuneInStringSlow (s : ByteArray) (w : World) (hT : Lib.Utf8Tabs 0 1 w) :
    Calls Tryd.prog 48 #[.string s] w fun e w' => e = .returned (.tuple #[.int .i32 (Lib.decodeGo s).1, .int .i64 (Lib.decodeGo s).2]) ∧ Below w.heap.size w w' := Any.utf8_decodeRuneInStringSlow Tryd.lays260 s w hT
open Go.RowKit Go.Lib in
/-- **unicode/utf8.DecodeRuneInString AT EVERY STRING.** (LAID: no walk: one application.) -/
theorem Tryd.utf8_DecodeRuneInString (s : ByteArray) (w : World) (hT : Lib.Utf8Tabs 0 1 w) :
    Calls Tryd.prog 41 #[.string s] w fun e w' => e = .returned (.tuple #[.int .i32 (Lib.decodeGo s).1, .int .i64 (Lib.decodeGo s).2]) ∧ Below w.heap.size w w' := Any.utf8_DecodeRuneInString Tryd.lays197 s w hT
def Tryd.lays271_ren : Go.Shelf.Ren := ⟨fun | 271 => 43 | 120 => 50 | 197 => 41 | 260 => 48 | n => n, fun | 9 => 9 | 21 => 21 | 3 => 3 | 4 => 4 | 5 => 5 | 105 => 56 | 119 => 67 | 0 => 0 | 46 => 68 | 139 => 71 | 138 => 70 | n => n, fun | 3 => 0 | 4 => 1 | n => n⟩
theorem Tryd.lays271 : Go.Proofs.Lays.n271 Tryd.prog Tryd.lays271_ren := {
  mixed := by kernel_rfl
  f120 := Tryd.func50.trans (congrArg some (by kernel_rfl))
  f197 := Tryd.func41.trans (congrArg some (by kernel_rfl))
  f260 := Tryd.func48.trans (congrArg some (by kernel_rfl))
  f271 := Tryd.func43.trans (congrArg some (by kernel_rfl))
  t0 := Tryd.underlying0
  a0 := Tryd.isAgg0
  z0 := Tryd.sizeOf0
  v0 := Tryd.zeroValue0
  t3 := Tryd.underlying3
  a3 := Tryd.isAgg3
  z3 := Tryd.sizeOf3
  v3 := Tryd.zeroValue3
  t4 := Tryd.underlying4
  a4 := Tryd.isAgg4
  z4 := Tryd.sizeOf4
  v4 := Tryd.zeroValue4
  t5 := Tryd.underlying5
  a5 := Tryd.isAgg5
  z5 := Tryd.sizeOf5
  v5 := Tryd.zeroValue5
  t9 := Tryd.underlying9
  a9 := Tryd.isAgg9
  z9 := Tryd.sizeOf9
  v9 := Tryd.zeroValue9
  t21 := Tryd.underlying21
  a21 := Tryd.isAgg21
  z21 := Tryd.sizeOf21
  v21 := Tryd.zeroValue21
  t46 := Tryd.underlying68
  a46 := Tryd.isAgg68
  z46 := Tryd.sizeOf68
  v46 := Tryd.zeroValue68
  t105 := Tryd.underlying56
  a105 := Tryd.isAgg56
  z105 := Tryd.sizeOf56
  v105 := Tryd.zeroValue56
  t119 := Tryd.underlying67
  a119 := Tryd.isAgg67
  z119 := Tryd.sizeOf67
  t138 := Tryd.underlying70
  a138 := Tryd.isAgg70
  z138 := Tryd.sizeOf70
  v138 := Tryd.zeroValue70
  t139 := Tryd.underlying71
  a139 := Tryd.isAgg71
  z139 := Tryd.sizeOf71
  v139 := Tryd.zeroValue71
  g3 := by kernel_rfl
  g4 := by kernel_rfl }
open Go.RowKit Go.Lib in
/-- **unicode/utf8.DecodeLastRuneInString AT EVERY STRING.** (LAID: no walk: one application.) -/
theorem Tryd.utf8_DecodeLastRuneInString (s : ByteArray) (w : World) (hs : s.size ≤ 9223372036854775807) (hT : Lib.Utf8Tabs 0 1 w) :
    Calls Tryd.prog 43 #[.string s] w fun e w' => e = .returned (.tuple #[.int .i32 (Lib.decodeLastL s.data.toList).1, .int .i64 (Lib.decodeLastL s.data.toList).2]) ∧ Below w.heap.size w w' := Any.utf8_DecodeLastRuneInString Tryd.lays271 s w hs hT
end Go.Proofs
end
section
/- Library functions: their contracts, proved once for any program, as what a callee keeps to. By an AI agent's session. -/
namespace Go.Gx
open Go.RowKit Go.Lib
set_option linter.unusedVariables false
theorem ext_goes {P : Program} {f : FuncId} {fn : Func} {c : Code} (hf : P.funcs[f]? = some fn) (hb : fn.body = some c) (hname : (fn.name == "runtime.NumGoroutine") = false) {args : Array Value} {w : World} {R : Value → World → Prop}
    (h : Calls P f args w fun e w' => ∃ v, e = .returned v ∧ R v w') : Goes P f args w R := by
  have hcall : (callFunc f args).run P w = .ok (.enter f args) w := by
    have hn' : fn.name ≠ "runtime.NumGoroutine" := by simpa using hname
    simp [callFunc, hf, hn', hb]
  unfold Goes
  rw [hcall]
  exact h
theorem args_nil {S : Nat → Prop} {w : World} {pv : Nat → Value} {vs : List Value} (h : ArgsOk S w pv [] vs) : vs = [] := List.eq_nil_of_length_eq_zero h.1
theorem args_cons {S : Nat → Prop} {w : World} {pv : Nat → Value} {a : AV} {al : List AV} {vs : List Value} (h : ArgsOk S w pv (a :: al) vs) : ∃ cs vs', AR S w (fun _ => none) (fun _ => none) pv a cs ∧ vs = valOf a cs :: vs' ∧ ArgsOk S w pv al vs' := by
  match vs, h with
  | [], h => cases h.1
  | v :: vs', ⟨h1, h2⟩ =>
    obtain ⟨cs, hc, rfl⟩ := h2 0 a v rfl rfl
    exact ⟨cs, vs', hc, rfl, by simpa using h1, fun i b u hb hu => h2 (i + 1) b u (by simpa using hb) (by simpa using hu)⟩
theorem args_str {S : Nat → Prop} {w : World} {pv : Nat → Value} {s : ByteArray} {al : List AV} {vs : List Value} (h : ArgsOk S w pv (.t .str s :: al) vs) : ∃ vs', vs = .string s :: vs' ∧ ArgsOk S w pv al vs' := by
  obtain ⟨cs, vs', hc, rfl, h'⟩ := args_cons h
  cases hc with | t _ _ _ hc => cases hc; exact ⟨vs', rfl, h'⟩
theorem args_int {S : Nat → Prop} {w : World} {pv : Nat → Value} {k : IntKind} {n : Int} {al : List AV} {vs : List Value} (h : ArgsOk S w pv (.t (.int k) n :: al) vs) : ∃ vs', vs = .int k n :: vs' ∧ ArgsOk S w pv al vs' := by
  obtain ⟨cs, vs', hc, rfl, h'⟩ := args_cons h
  cases hc with | t _ _ _ hc => cases hc; exact ⟨vs', rfl, h'⟩
section
variable {P : Program} {E : Env} {pv : Nat → Value} {f : FuncId} {fn : Func} {c : Code}
/-- An answer that leads nowhere. -/
theorem ext_flat (hf : P.funcs[f]? = some fn) (hb : fn.body = some c) (hname : (fn.name == "runtime.NumGoroutine") = false) {args : List AV} {τ : Ty} {y : den τ} {v : Value} (hy : ∀ S w, ∃ cs, CR S w τ y cs ∧ v = valOf (.t τ y) cs)
    (h : ∀ S w vs, (∀ b, S b → b < w.heap.size) → GlOk E S w → ArgsOk S w pv args vs → Calls P f vs.toArray w fun e w' => e = .returned v ∧ Below w.heap.size w w') : Meets P E pv (.f f) args (.t τ y) := by
  intro S w vs hS hgl hargs
  refine ext_goes hf hb hname ((h S w vs hS hgl hargs).mono fun e w' ⟨he, hbl⟩ => ⟨v, he, hbl, S, fun b hb => hb, fun b hb => .inl hb, ?_⟩)
  obtain ⟨cs, hc, rfl⟩ := hy S w'
  exact ⟨none, .plain _ _ (.t _ _ _ hc)⟩
/-- New texts in a block of their own. -/
theorem ext_strs (hf : P.funcs[f]? = some fn) (hb : fn.body = some c) (hname : (fn.name == "runtime.NumGoroutine") = false) {args : List AV} {te : Nat} {xs : List ByteArray} (hx : xs.length ≤ maxLen)
    (h : ∀ S w vs, (∀ b, S b → b < w.heap.size) → GlOk E S w → ArgsOk S w pv args vs → Calls P f vs.toArray w fun e w' => e = .returned (.slice (some ⟨w.heap.size, 0, none⟩) xs.length xs.length) ∧ w' = w.alloc (.cells (xs.map Value.string).toArray te)) : Meets P E pv (.f f) args (.fr te .str xs) := by
  intro S w vs hS hgl hargs
  refine ext_goes hf hb hname ((h S w vs hS hgl hargs).mono fun e w' ⟨he, hw⟩ => ⟨_, he, ?_⟩)
  subst hw
  refine ⟨(Below.refl _ w).alloc (Nat.le_refl _) _, S, fun b hb => hb, fun b hb => .inl hb, some w.heap.size, .fr te .str xs w.heap.size xs.length (Nat.le_refl _) (fun hs => absurd (hS _ hs) (Nat.lt_irrefl _)) ⟨(xs.map Value.string).toArray, (0, 0), ?_, ?_, Nat.le_refl _, hx, fun _ => rfl, .inl (Nat.le_refl _), by decide, fun i hi => ⟨[.string xs[i]], .str _, fun j v hj => ?_⟩⟩⟩
  · show (w.heap.push _)[w.heap.size]? = _
    simp
  · simp [nc]
  · cases j with
    | zero =>
      simp only [List.getElem?_cons_zero, Option.some.injEq] at hj
      subst hj
      simp [nc, hi]
    | succ j => simp at hj
end
/-! ### The functions -/
def xContains (s sub : ByteArray) : Option Bool := bif Nat.ble s.size 4294967280 then some (Lib.contains s.data.toList sub.data.toList) else none
theorem ext_contains {P : Program} {E : Env} {pv : Nat → Value} {f : FuncId} {fn : Func} {c : Code} (hf : P.funcs[f]? = some fn) (hb : fn.body = some c) (hname : (fn.name == "runtime.NumGoroutine") = false) {mx : Nat} (hmx : E.gi mx = true)
    (hc : ∀ (s sub : ByteArray) (m : Int) (w : World), s.size < 4294967281 → w.cell? ⟨mx, 0, none⟩ = some (.int .i64 m) → Calls P f #[.string s, .string sub] w fun e w' => e = .returned (.bool (Lib.contains s.data.toList sub.data.toList)) ∧ w' = w)
    {s sub : ByteArray} {y : Bool} (h : xContains s sub = some y) : Meets P E pv (.f f) (tvals [.str, .str] (s, sub, ())) (.t .bool y) := by
  unfold xContains at h
  cases hs : Nat.ble s.size 4294967280 with
  | false => rw [hs] at h; cases h
  | true =>
    rw [hs] at h
    cases h
    refine ext_flat hf hb hname (v := .bool _) (fun S w => ⟨_, .bool _, rfl⟩) fun S w vs hS hgl ha => ?_
    obtain ⟨_, rfl, ha1⟩ := args_str ha
    obtain ⟨_, rfl, ha2⟩ := args_str ha1
    obtain rfl := args_nil ha2
    obtain ⟨_, m, hm⟩ := hgl.2 mx hmx
    refine (hc s sub m w (Nat.lt_succ_of_le (Nat.le_of_ble_eq_true hs)) hm).mono fun e w' ⟨he, hw⟩ => ⟨he, ?_⟩
    subst hw
    exact Below.refl _ _
def xSplit (s sep : ByteArray) : Option (List ByteArray) := bif Nat.ble s.size 4294967280 && Nat.ble 1 sep.size then some (Lib.splitB sep 0 (Lib.countB s sep) s) else none
theorem ext_split {P : Program} {E : Env} {pv : Nat → Value} {f : FuncId} {fn : Func} {c : Code} (hf : P.funcs[f]? = some fn) (hb : fn.body = some c) (hname : (fn.name == "runtime.NumGoroutine") = false) {mx : Nat} (hmx : E.gi mx = true) {te : Nat}
    (hc : ∀ (s sep : ByteArray) (m : Int) (w : World), s.size < 4294967281 → w.cell? ⟨mx, 0, none⟩ = some (.int .i64 m) → 1 ≤ sep.size → Calls P f #[.string s, .string sep] w fun e w' =>
      e = .returned (.slice (some ⟨w.heap.size, 0, none⟩) (Lib.countB s sep + 1) (Lib.countB s sep + 1)) ∧ w' = w.alloc (.cells ((Lib.splitB sep 0 (Lib.countB s sep) s).map Value.string).toArray te))
    {s sep : ByteArray} {y : List ByteArray} (h : xSplit s sep = some y) : Meets P E pv (.f f) (tvals [.str, .str] (s, sep, ())) (.fr te .str y) := by
  unfold xSplit at h
  cases hs : Nat.ble s.size 4294967280 && Nat.ble 1 sep.size with
  | false => rw [hs] at h; cases h
  | true =>
    rw [hs] at h
    cases h
    rw [Bool.and_eq_true] at hs
    have h1 := Nat.le_of_ble_eq_true hs.1
    have h2 := Nat.le_of_ble_eq_true hs.2
    have hl := Lib.splitB_all sep h2 0 _ s rfl
    have hle := Lib.countB_le sep h2 s.size s (Nat.le_refl _)
    have hm : maxLen = 9223372036854775807 := by decide
    refine ext_strs hf hb hname (by rw [hl, hm]; omega) fun S w vs hS hgl ha => ?_
    obtain ⟨_, rfl, ha1⟩ := args_str ha
    obtain ⟨_, rfl, ha2⟩ := args_str ha1
    obtain rfl := args_nil ha2
    obtain ⟨_, m, hm⟩ := hgl.2 mx hmx
    rw [hl]
    exact hc s sep m w (by omega) hm h2
def xRepeat (s : ByteArray) (n : Int) : Option ByteArray := bif decide (0 ≤ n) && (decide (n ≤ 9223372036854775807) && Nat.ble (s.size * n.toNat) 140737488355328) then some ⟨(Lib.repeatL s.data.toList n.toNat).toArray⟩ else none
theorem ext_repeat {P : Program} {E : Env} {pv : Nat → Value} {f : FuncId} {fn : Func} {c : Code} (hf : P.funcs[f]? = some fn) (hb : fn.body = some c) (hname : (fn.name == "runtime.NumGoroutine") = false)
    (hc : ∀ (s : ByteArray) (c : Nat) (w : World), c ≤ 9223372036854775807 → s.size * c ≤ 140737488355328 → Calls P f #[.string s, .int .i64 c] w fun e w' => e = .returned (.string ⟨(Lib.repeatL s.data.toList c).toArray⟩) ∧ Below w.heap.size w w')
    {s : ByteArray} {n : Int} {y : ByteArray} (h : xRepeat s n = some y) : Meets P E pv (.f f) (tvals [.str, .int .i64] (s, n, ())) (.t .str y) := by
  unfold xRepeat at h
  cases hs : decide (0 ≤ n) && (decide (n ≤ 9223372036854775807) && Nat.ble (s.size * n.toNat) 140737488355328) with
  | false => rw [hs] at h; cases h
  | true =>
    rw [hs] at h
    cases h
    simp only [Bool.and_eq_true, decide_eq_true_eq] at hs
    refine ext_flat hf hb hname (v := .string _) (fun S w => ⟨_, .str _, rfl⟩) fun S w vs hS hgl ha => ?_
    obtain ⟨_, rfl, ha1⟩ := args_str ha
    obtain ⟨_, rfl, ha2⟩ := args_int ha1
    obtain rfl := args_nil ha2
    have e : n = (n.toNat : Int) := by omega
    have := hc s n.toNat w (by omega) (Nat.le_of_ble_eq_true hs.2.2)
    rw [← e] at this
    exact this
def ascii (s : ByteArray) : Bool := s.data.toList.all fun b => decide (b.toNat < 128)
theorem ascii_at {s : ByteArray} (h : ascii s = true) : ∀ (j : Nat) b, s.data.toList[j]? = some b → b.toNat < 128 := fun j b hj => by
  unfold ascii at h
  rw [List.all_eq_true] at h
  exact of_decide_eq_true (h b (List.mem_of_getElem? hj))
def xTrim (s cs : ByteArray) : Option ByteArray := bif Nat.ble s.size 9223372036854775807 && (Nat.ble cs.size 4294967280 && ascii cs) then some ⟨(Lib.trimS s.data.toList cs.data.toList).toArray⟩ else none
theorem ext_trim {P : Program} {E : Env} {pv : Nat → Value} {f : FuncId} {fn : Func} {c : Code} (hf : P.funcs[f]? = some fn) (hb : fn.body = some c) (hname : (fn.name == "runtime.NumGoroutine") = false)
    (hc : ∀ (s cs : ByteArray) (w : World), s.size ≤ 9223372036854775807 → cs.size < 4294967281 → (∀ (j : Nat) b, cs.data.toList[j]? = some b → b.toNat < 128) → Calls P f #[.string s, .string cs] w fun e w' => e = .returned (.string ⟨(Lib.trimS s.data.toList cs.data.toList).toArray⟩) ∧ Below w.heap.size w w')
    {s cs : ByteArray} {y : ByteArray} (h : xTrim s cs = some y) : Meets P E pv (.f f) (tvals [.str, .str] (s, cs, ())) (.t .str y) := by
  unfold xTrim at h
  cases hs : Nat.ble s.size 9223372036854775807 && (Nat.ble cs.size 4294967280 && ascii cs) with
  | false => rw [hs] at h; cases h
  | true =>
    rw [hs] at h
    cases h
    simp only [Bool.and_eq_true] at hs
    refine ext_flat hf hb hname (v := .string _) (fun S w => ⟨_, .str _, rfl⟩) fun S w vs hS hgl ha => ?_
    obtain ⟨_, rfl, ha1⟩ := args_str ha
    obtain ⟨_, rfl, ha2⟩ := args_str ha1
    obtain rfl := args_nil ha2
    exact hc s cs w (Nat.le_of_ble_eq_true hs.1) (Nat.lt_succ_of_le (Nat.le_of_ble_eq_true hs.2.1)) (ascii_at hs.2.2)
def xIndexAny (s cs : ByteArray) : Option Int := bif Nat.ble s.size 4294967280 && (Nat.ble cs.size 4294967280 && (ascii s && ascii cs)) then some (Lib.indexAny s.data.toList cs.data.toList) else none
theorem ext_indexAny {P : Program} {E : Env} {pv : Nat → Value} {f : FuncId} {fn : Func} {c : Code} (hf : P.funcs[f]? = some fn) (hb : fn.body = some c) (hname : (fn.name == "runtime.NumGoroutine") = false)
    (hc : ∀ (s cs : ByteArray) (w : World), s.size < 4294967281 → cs.size < 4294967281 → (∀ (j : Nat) b, s.data.toList[j]? = some b → b.toNat < 128) → (∀ (j : Nat) b, cs.data.toList[j]? = some b → b.toNat < 128) → Calls P f #[.string s, .string cs] w fun e w' => e = .returned (.int .i64 (Lib.indexAny s.data.toList cs.data.toList)) ∧ Below w.heap.size w w')
    {s cs : ByteArray} {y : Int} (h : xIndexAny s cs = some y) : Meets P E pv (.f f) (tvals [.str, .str] (s, cs, ())) (.t (.int .i64) y) := by
  unfold xIndexAny at h
  cases hs : Nat.ble s.size 4294967280 && (Nat.ble cs.size 4294967280 && (ascii s && ascii cs)) with
  | false => rw [hs] at h; cases h
  | true =>
    rw [hs] at h
    cases h
    simp only [Bool.and_eq_true] at hs
    refine ext_flat hf hb hname (v := .int .i64 _) (fun S w => ⟨_, .int _ _, rfl⟩) fun S w vs hS hgl ha => ?_
    obtain ⟨_, rfl, ha1⟩ := args_str ha
    obtain ⟨_, rfl, ha2⟩ := args_str ha1
    obtain rfl := args_nil ha2
    exact hc s cs w (Nat.lt_succ_of_le (Nat.le_of_ble_eq_true hs.1)) (Nat.lt_succ_of_le (Nat.le_of_ble_eq_true hs.2.1)) (ascii_at hs.2.2.1) (ascii_at hs.2.2.2)
/-- The pieces before and behind, and whether there is one. -/
def xCut (s sep : ByteArray) : Option (ByteArray × ByteArray × Bool) := bif Nat.ble s.size 4294967280 then some (⟨(Lib.cut s.data.toList sep.data.toList).1.toArray⟩, ⟨(Lib.cut s.data.toList sep.data.toList).2.1.toArray⟩, (Lib.cut s.data.toList sep.data.toList).2.2) else none
theorem drewN_below (w : World) (n : Nat) : Below w.heap.size w (w.drewN n) := ⟨rfl, rfl, rfl, Nat.le_refl _, fun _ _ => rfl⟩
theorem ext_cut {P : Program} {E : Env} {pv : Nat → Value} {f : FuncId} {fn : Func} {c : Code} (hf : P.funcs[f]? = some fn) (hb : fn.body = some c) (hname : (fn.name == "runtime.NumGoroutine") = false) {mx : Nat} (hmx : E.gi mx = true)
    (hc : ∀ (s sep : ByteArray) (m : Int) (w : World), s.size < 4294967281 → w.cell? ⟨mx, 0, none⟩ = some (.int .i64 m) → Calls P f #[.string s, .string sep] w fun e w' =>
      e = .returned (.tuple #[.string ⟨(Lib.cut s.data.toList sep.data.toList).1.toArray⟩, .string ⟨(Lib.cut s.data.toList sep.data.toList).2.1.toArray⟩, .bool (Lib.cut s.data.toList sep.data.toList).2.2]) ∧ ∃ n, w' = w.drewN n)
    {s sep : ByteArray} {y : ByteArray × ByteArray × Bool} (h : xCut s sep = some y) : Meets P E pv (.f f) (tvals [.str, .str] (s, sep, ())) (.tup [.t .str y.1, .t .str y.2.1, .t .bool y.2.2]) := by
  unfold xCut at h
  cases hs : Nat.ble s.size 4294967280 with
  | false => rw [hs] at h; cases h
  | true =>
    rw [hs] at h
    cases h
    intro S w vs hS hgl ha
    obtain ⟨_, rfl, ha1⟩ := args_str ha
    obtain ⟨_, rfl, ha2⟩ := args_str ha1
    obtain rfl := args_nil ha2
    obtain ⟨_, m, hm⟩ := hgl.2 mx hmx
    refine ext_goes hf hb hname ((hc s sep m w (Nat.lt_succ_of_le (Nat.le_of_ble_eq_true hs)) hm).mono fun e w' ⟨he, n, hw⟩ => ⟨_, he, hw ▸ drewN_below w n, S, fun b hb => hb, fun b hb => .inl hb, ?_⟩)
    refine ⟨[.string _, .string _, .bool _], [none, none, none], rfl, rfl, rfl, fun i r v g h1 h2 h3 => ?_, fun i j g hne h1 => ?_⟩
    · match i, h1, h2, h3 with
      | 0, h1, h2, h3 => cases h1; cases h2; cases h3; exact .plain _ _ (.t _ _ _ (.str _))
      | 1, h1, h2, h3 => cases h1; cases h2; cases h3; exact .plain _ _ (.t _ _ _ (.str _))
      | 2, h1, h2, h3 => cases h1; cases h2; cases h3; exact .plain _ _ (.t _ _ _ (.bool _))
      | n + 3, h1, _, _ => simp at h1
    · match i, h1 with
      | 0, h1 => cases h1
      | 1, h1 => cases h1
      | 2, h1 => cases h1
      | n + 3, h1 => simp at h1
def xJoin (xs : List ByteArray) (sep : ByteArray) : Option ByteArray := bif Nat.ble xs.length 140737488355328 && Nat.ble (Lib.join (xs.map (·.data.toList)) sep.data.toList).length 140737488355328 then some ⟨(Lib.join (xs.map (·.data.toList)) sep.data.toList).toArray⟩ else none
theorem ext_join {P : Program} {E : Env} {pv : Nat → Value} {f : FuncId} {fn : Func} {c : Code} (hf : P.funcs[f]? = some fn) (hb : fn.body = some c) (hname : (fn.name == "runtime.NumGoroutine") = false)
    (hc0 : ∀ (a : Option Addr) (c : Nat) (sep : ByteArray) (w : World), Calls P f #[.slice a 0 c, .string sep] w fun e w' => e = .returned (.string ⟨#[]⟩) ∧ w' = w)
    (hc : ∀ (bk o c : Nat) (xs : List ByteArray) (sep : ByteArray) (w : World), (∀ (j : Nat) x, xs[j]? = some x → w.cell? ⟨bk, o + j, none⟩ = some (.string x)) → bk < w.heap.size → xs.length ≤ 140737488355328 → xs.length ≤ c →
      (Lib.join (xs.map (·.data.toList)) sep.data.toList).length ≤ 140737488355328 → Calls P f #[.slice (some ⟨bk, o, none⟩) xs.length c, .string sep] w fun e w' => e = .returned (.string ⟨(Lib.join (xs.map (·.data.toList)) sep.data.toList).toArray⟩) ∧ Below w.heap.size w w')
    {xs : List ByteArray} {sep : ByteArray} {y : ByteArray} (h : xJoin xs sep = some y) : Meets P E pv (.f f) (tvals [.sl .str, .str] (xs, sep, ())) (.t .str y) := by
  unfold xJoin at h
  cases hs : Nat.ble xs.length 140737488355328 && Nat.ble (Lib.join (xs.map (·.data.toList)) sep.data.toList).length 140737488355328 with
  | false => rw [hs] at h; cases h
  | true =>
    rw [hs] at h
    cases h
    rw [Bool.and_eq_true] at hs
    refine ext_flat hf hb hname (v := .string _) (fun S w => ⟨_, .str _, rfl⟩) fun S w vs hS hgl ha => ?_
    obtain ⟨cs, _, hcr, rfl, ha1⟩ := args_cons ha
    obtain ⟨_, rfl, ha2⟩ := args_str ha1
    obtain rfl := args_nil ha2
    cases hcr with
    | t _ _ _ hcr =>
      cases hcr with
      | sl e xs A c cv hle hm h1 h2 =>
        match xs, A, hle, h1, h2, hs with
        | [], A, _, _, _, _ => exact (hc0 A c sep w).mono fun e w' ⟨he, hw⟩ => ⟨he, hw ▸ Below.refl _ _⟩
        | x :: l, A, hle, h1, h2, hs =>
          obtain ⟨g, o, rfl, hg, _⟩ := h2 0 (Nat.succ_pos _)
          refine hc g o c (x :: l) sep w (fun j z hj => ?_) (hS g hg) (Nat.le_of_ble_eq_true hs.1) hle (Nat.le_of_ble_eq_true hs.2)
          obtain ⟨hj', hz⟩ := List.getElem?_eq_some_iff.1 hj
          obtain ⟨g', o', e', _, hcell⟩ := h2 j hj'
          cases e'
          have hcv := h1 j hj'
          rw [hz] at hcv
          have hq : ∀ q, CR S w .str z q → q[0]? = some (.string z) := fun q hq => by cases hq; rfl
          have := hcell 0 (.string z) (hq _ hcv)
          simpa [nc] using this
def xTrim1 (s cs : ByteArray) : Option ByteArray := match cs with
  | ⟨⟨[c]⟩⟩ => bif Nat.ble s.size 9223372036854775807 && Nat.blt c.toNat 128 then some ⟨(Lib.trimB s.data.toList c).toArray⟩ else none
  | _ => none
theorem ext_trim1 {P : Program} {E : Env} {pv : Nat → Value} {f : FuncId} {fn : Func} {c : Code} (hf : P.funcs[f]? = some fn) (hb : fn.body = some c) (hname : (fn.name == "runtime.NumGoroutine") = false)
    (hc : ∀ (s : ByteArray) (c : UInt8), c.toNat < 128 → ∀ (w : World), s.size ≤ 9223372036854775807 → Calls P f #[.string s, .string ⟨#[c]⟩] w fun e w' => e = .returned (.string ⟨(Lib.trimB s.data.toList c).toArray⟩) ∧ (w' = w ∨ w' = w.drew))
    {s cs : ByteArray} {y : ByteArray} (h : xTrim1 s cs = some y) : Meets P E pv (.f f) (tvals [.str, .str] (s, cs, ())) (.t .str y) := by
  unfold xTrim1 at h
  split at h
  · rename_i c0
    cases hs : Nat.ble s.size 9223372036854775807 && Nat.blt c0.toNat 128 with
    | false => rw [hs] at h; cases h
    | true =>
      rw [hs] at h
      cases h
      rw [Bool.and_eq_true] at hs
      refine ext_flat hf hb hname (v := .string _) (fun S w => ⟨_, .str _, rfl⟩) fun S w vs hS hgl ha => ?_
      obtain ⟨_, rfl, ha1⟩ := args_str ha
      obtain ⟨_, rfl, ha2⟩ := args_str ha1
      obtain rfl := args_nil ha2
      refine (hc s c0 (Nat.le_of_ble_eq_true hs.2) w (Nat.le_of_ble_eq_true hs.1)).mono fun e w' ⟨he, hw⟩ => ⟨he, ?_⟩
      rcases hw with rfl | rfl
      · exact Below.refl _ _
      · exact (Below.refl _ _).drew
  · cases h
def xClone (xs : List ByteArray) : Option (List ByteArray) := bif Nat.ble (xs.length * 16) 140737488355328 then some xs else none
theorem ext_clone {P : Program} {E : Env} {pv : Nat → Value} {f : FuncId} {fn : Func} {c : Code} (hf : P.funcs[f]? = some fn) (hb : fn.body = some c) (hname : (fn.name == "runtime.NumGoroutine") = false) {te : Nat}
    (hc : ∀ (b off n c : Nat) (zs : List ByteArray) (w : World), n ≤ zs.length → n * 16 ≤ 140737488355328 → (∀ j, j < zs.length → w.cell? ⟨b, off + j, none⟩ = some (.string (zs.getD j ByteArray.empty))) →
      Calls P f #[.slice (some ⟨b, off, none⟩) n c] w fun e w' => ∃ v', e = .returned v' ∧ w'.ownsRow w.heap.size te 1 v' n ((zs.take n).map Value.string) ∧ v' ≠ .slice none 0 0 ∧ Below w.heap.size w w')
    (hcn : ∀ (n c : Nat) (w : World), Calls P f #[.slice none n c] w fun e w' => e = .returned (.slice none 0 0) ∧ w' = w)
    (hcz : ∀ (a : Addr) (c : Nat) (w : World), Calls P f #[.slice (some a) 0 c] w fun e w' => ∃ v', e = .returned v' ∧ w'.ownsRow w.heap.size te 1 v' 0 [] ∧ v' ≠ .slice none 0 0 ∧ Below w.heap.size w w')
    {xs : List ByteArray} {y : List ByteArray} (h : xClone xs = some y) : Meets P E pv (.f f) (tvals [.sl .str] (xs, ())) (.fr te .str y) := by
  have hc0 : ∀ (A : Option Addr) (c : Nat) (w : World), Calls P f #[.slice A 0 c] w fun e w' => ∃ v', e = .returned v' ∧ w'.ownsRow w.heap.size te 1 v' 0 [] ∧ Below w.heap.size w w' := fun A c w => by
    cases A with
    | none => exact (hcn 0 c w).mono fun e w' ⟨he, hw⟩ => ⟨_, he, ⟨rfl, .inl ⟨rfl, rfl⟩⟩, hw ▸ Below.refl _ _⟩
    | some a => exact (hcz a c w).mono fun e w' ⟨v, he, ho, _, hb⟩ => ⟨v, he, ho, hb⟩
  unfold xClone at h
  cases hs : Nat.ble (xs.length * 16) 140737488355328 with
  | false => rw [hs] at h; cases h
  | true =>
    rw [hs] at h
    cases h
    have hs := Nat.le_of_ble_eq_true hs
    intro S w vs hS hgl ha
    have fin : ∀ (v' : Value) (w' : World), w'.ownsRow w.heap.size te 1 v' xs.length (xs.map Value.string) → Below w.heap.size w w' → Below w.heap.size w w' ∧ ∃ S' : Nat → Prop, (∀ b, S b → S' b) ∧ (∀ b, S' b → S b ∨ (w.heap.size ≤ b ∧ b < w'.heap.size)) ∧ RR S' w' w.heap.size pv (.fr te .str xs) v' := fun v' w' ho hbl => by
      refine ⟨hbl, S, fun b hb => hb, fun b hb => .inl hb, ?_⟩
      obtain ⟨h1, ⟨rfl, h2⟩ | ⟨g, cap, cur, rfl, h3, h4, h5, h6, h7, h8⟩⟩ := ho
      · obtain rfl : xs = [] := List.eq_nil_of_length_eq_zero h2
        exact ⟨none, .frNil te .str (by decide)⟩
      · refine ⟨some g, .fr te .str xs g cap h3 (fun hs => absurd (hS _ hs) (by omega)) ⟨cur, (0, 0), h4, h7, h5, h6, fun _ => rfl, .inl (Nat.le_refl _), by decide, fun i hi => ⟨[.string xs[i]], .str _, fun j v hj => ?_⟩⟩⟩
        cases j with
        | zero =>
          simp only [List.getElem?_cons_zero, Option.some.injEq] at hj
          subst hj
          have h9 := congrArg (·[i]?) h8
          simp only [Nat.mul_one, List.getElem?_take, if_pos hi, List.getElem?_map, List.getElem?_eq_getElem hi, Option.map_some] at h9
          simpa [nc] using h9
        | succ j => simp at hj
    obtain ⟨cs, _, hcr, rfl, ha1⟩ := args_cons ha
    obtain rfl := args_nil ha1
    cases hcr with
    | t _ _ _ hcr =>
      cases hcr with
      | sl e xs A c cv hle hm h1 h2 =>
        match xs, A, hle, h1, h2, hs, fin with
        | [], A, _, _, _, _, fin => exact ext_goes hf hb hname ((hc0 A c w).mono fun e w' ⟨v', he, ho, hbl⟩ => ⟨v', he, fin _ _ ho hbl⟩)
        | x :: l, A, hle, h1, h2, hs, fin =>
          obtain ⟨g, o, rfl, hg, _⟩ := h2 0 (Nat.succ_pos _)
          refine ext_goes hf hb hname ((hc g o (x :: l).length c (x :: l) w (Nat.le_refl _) hs fun j hj => ?_).mono fun e w' ⟨v', he, ho, _, hbl⟩ => ⟨v', he, fin _ _ (by rw [List.take_length] at ho; exact ho) hbl⟩)
          obtain ⟨g', o', e', _, hcell⟩ := h2 j hj
          cases e'
          have hcv := h1 j hj
          have hq : ∀ z q, CR S w .str z q → q[0]? = some (.string z) := fun z q hq => by cases hq; rfl
          have := hcell 0 _ (hq _ _ hcv)
          rw [List.getD_eq_getElem?_getD, List.getElem?_eq_getElem hj, Option.getD_some]
          simpa [nc] using this
end Go.Gx
end
section
/- '==' of dates and abbreviations. -/
namespace Go.Gx
set_option linter.unusedVariables false
set_option linter.unusedSimpArgs false

theorem eqF_nil {P : Program} {w : World} {d : Nat} {xs ys : Array Value} : (Op.eqFields d xs ys []).run P w = .ok true w := by simp [Op.eqFields]
theorem eqF_cons {P : Program} {w : World} {d : Nat} {xs ys : Array Value} {f : Field} {fs : List Field} {a b : Value} {r s : Bool} (hn : f.name ≠ "_") (h1 : (part f.type xs f.offset).run P w = .ok a w) (h2 : (part f.type ys f.offset).run P w = .ok b w)
    (h3 : (Op.equalIn d f.type a b).run P w = .ok r w) (h4 : (Op.eqFields d xs ys fs).run P w = .ok s w) : (Op.eqFields d xs ys (f :: fs)).run P w = .ok (r && s) w := by
  cases r <;> simp [Op.eqFields, hn, h1, h2, h3, h4]
theorem part_one {P : Program} {E : Env} {w : World} {T : Nat} {τ : Ty} (ht : TyOk P E T τ) (hg : agT τ = false) {cs : Array Value} {o : Nat} {v : Value} (hv : cs[o]? = some v) : (part T cs o).run P w = .ok v w := by
  simp [part, run_isAgg ht, hg, hv]
theorem date_eq {P : Program} {E : Env} (ht : ∀ T τ, E.ty T = some τ → TyOk P E T τ) {T : Nat} (hT : E.ty T = some .date) (hg : P.eqGuardType P.depth T = false) (hs : P.stoodInHeld T = false) (hn : (P.fieldsOf T).all (fun f => f.name != "_") = true) :
    P.eqGuardType P.depth T = false ∧ ∀ (x y : Date) (w : World), (Op.equalIn 10000 T (.agg #[.int .i64 x.y, .int .i64 x.m, .int .i64 x.d, .bool x.c]) (.agg #[.int .i64 y.y, .int .i64 y.m, .int .i64 y.d, .bool y.c])).run P w = .ok (x.y == y.y && (x.m == y.m && (x.d == y.d && x.c == y.c))) w := by
  refine ⟨hg, fun x y w => ?_⟩
  obtain ⟨fs, hu, hsz, hf⟩ := (ht T _ hT).und
  have hfo : P.fieldsOf T = fs := by simp [Program.fieldsOf, hu]
  rw [run_equalIn_agg (P := P) w 9999 T _ _ (by rw [hfo]; exact hu) hs, hfo]
  rw [hfo, Array.all_eq_true'] at hn
  have hname : ∀ f ∈ fs.toList, f.name ≠ "_" := fun f hm => by simpa using hn f (by simpa using hm)
  have hget : ∀ i f, fs.toList[i]? = some f → ∃ σ, (fty .date)[i]? = some σ ∧ f.offset = offL (fty .date) i ∧ E.ty f.type = some σ := fun i f h => hf i f (by simpa using h)
  have hlen : fs.toList.length = 4 := by simpa [fty] using hsz
  match hl : fs.toList, hlen with
  | [f0, f1, f2, f3], _ =>
    rw [hl] at hname hget
    obtain ⟨s0, a0, b0, c0⟩ := hget 0 f0 rfl
    obtain ⟨s1, a1, b1, c1⟩ := hget 1 f1 rfl
    obtain ⟨s2, a2, b2, c2⟩ := hget 2 f2 rfl
    obtain ⟨s3, a3, b3, c3⟩ := hget 3 f3 rfl
    cases a0; cases a1; cases a2; cases a3
    have e3 := eqF_cons (P := P) (w := w) (d := 9999) (xs := #[.int .i64 x.y, .int .i64 x.m, .int .i64 x.d, .bool x.c]) (ys := #[.int .i64 y.y, .int .i64 y.m, .int .i64 y.d, .bool y.c]) (hname f3 (by simp)) (part_one (v := .bool x.c) (ht _ _ c3) rfl (by rw [b3]; rfl)) (part_one (v := .bool y.c) (ht _ _ c3) rfl (by rw [b3]; rfl)) (run_equalIn_bool' w 9998 f3.type _ _ (ht _ _ c3).und) eqF_nil
    have e2 := eqF_cons (hname f2 (by simp)) (part_one (v := .int .i64 x.d) (ht _ _ c2) rfl (by rw [b2]; rfl)) (part_one (v := .int .i64 y.d) (ht _ _ c2) rfl (by rw [b2]; rfl)) (run_equalIn_int w 9998 f2.type _ _ _ _ (ht _ _ c2).und) e3
    have e1 := eqF_cons (hname f1 (by simp)) (part_one (v := .int .i64 x.m) (ht _ _ c1) rfl (by rw [b1]; rfl)) (part_one (v := .int .i64 y.m) (ht _ _ c1) rfl (by rw [b1]; rfl)) (run_equalIn_int w 9998 f1.type _ _ _ _ (ht _ _ c1).und) e2
    have e0 := eqF_cons (hname f0 (by simp)) (part_one (v := .int .i64 x.y) (ht _ _ c0) rfl (by rw [b0]; rfl)) (part_one (v := .int .i64 y.y) (ht _ _ c0) rfl (by rw [b0]; rfl)) (run_equalIn_int w 9998 f0.type _ _ _ _ (ht _ _ c0).und) e1
    rw [e0]
    simp
theorem abbr_eq {P : Program} {E : Env} (ht : ∀ T τ, E.ty T = some τ → TyOk P E T τ) {T : Nat} (hT : E.ty T = some .abbr) (hg : P.eqGuardType P.depth T = false) (hs : P.stoodInHeld T = false) (hn : (P.fieldsOf T).all (fun f => f.name != "_") = true) :
    P.eqGuardType P.depth T = false ∧ ∀ (x y : Abbr) (w : World), (Op.equalIn 10000 T (.agg #[.string x.word, .string x.short]) (.agg #[.string y.word, .string y.short])).run P w = .ok (beqS x.word y.word && beqS x.short y.short) w := by
  refine ⟨hg, fun x y w => ?_⟩
  obtain ⟨fs, hu, hsz, hf⟩ := (ht T _ hT).und
  have hfo : P.fieldsOf T = fs := by simp [Program.fieldsOf, hu]
  rw [run_equalIn_agg (P := P) w 9999 T _ _ (by rw [hfo]; exact hu) hs, hfo]
  rw [hfo, Array.all_eq_true'] at hn
  have hname : ∀ f ∈ fs.toList, f.name ≠ "_" := fun f hm => by simpa using hn f (by simpa using hm)
  have hget : ∀ i f, fs.toList[i]? = some f → ∃ σ, (fty .abbr)[i]? = some σ ∧ f.offset = offL (fty .abbr) i ∧ E.ty f.type = some σ := fun i f h => hf i f (by simpa using h)
  have hlen : fs.toList.length = 2 := by simpa [fty] using hsz
  match hl : fs.toList, hlen with
  | [f0, f1], _ =>
    rw [hl] at hname hget
    obtain ⟨s0, a0, b0, c0⟩ := hget 0 f0 rfl
    obtain ⟨s1, a1, b1, c1⟩ := hget 1 f1 rfl
    cases a0; cases a1
    have e1 := eqF_cons (P := P) (w := w) (d := 9999) (xs := #[.string x.word, .string x.short]) (ys := #[.string y.word, .string y.short]) (hname f1 (by simp)) (part_one (v := .string x.short) (ht _ _ c1) rfl (by rw [b1]; rfl)) (part_one (v := .string y.short) (ht _ _ c1) rfl (by rw [b1]; rfl)) (run_equalIn_string w 9998 f1.type _ _ (ht _ _ c1).und) eqF_nil
    have e0 := eqF_cons (hname f0 (by simp)) (part_one (v := .string x.word) (ht _ _ c0) rfl (by rw [b0]; rfl)) (part_one (v := .string y.word) (ht _ _ c0) rfl (by rw [b0]; rfl)) (run_equalIn_string w 9998 f0.type _ _ (ht _ _ c0).und) e1
    rw [e0]
    simp [beqS]
end Go.Gx
end
section
namespace Go.Proofs.YtdbfalcfejhjfaaDoor
open Go.Gx
set_option linter.unusedVariables false
set_option maxRecDepth 100000
def tyT (t : Nat) : Option Ty := match t with
  | 2 => some (.int .i64)
  | 3 => some (.int .i64)
  | 4 => some .bool
  | 5 => some (.int .u8)
  | 9 => some .str
  | 10 => some .str
  | 11 => some .str
  | 21 => some (.int .i32)
  | 28 => some (.sl (.int .i64))
  | 31 => some (.sl .str)
  | 34 => some (.sl (.int .u8))
  | 40 => some (.arr 256 .bool)
  | 67 => some (.arr 256 (.int .u8))
  | 68 => some (.int .u64)
  | 76 => some (.int .u32)
  | 86 => some (.int .u8)
  | _ => none
def elT (t : Nat) : Nat := match t with
  | 28 => 3
  | 31 => 9
  | 34 => 5
  | _ => 0
def mdT (f : Nat) : Bool := match f with
  | 37 => true
  | _ => false
def glT (g : Nat) : Option AV := match g with
  | _ => none
def giT (g : Nat) : Bool := match g with
  | 2 => true
  | _ => false
def envX : Env := ⟨tyT, elT, glT, mdT, giT⟩
theorem env_ty : ∀ T τ, envX.ty T = some τ → TyOk Tryd.prog envX T τ := fun T τ h => by
  dsimp only [envX, tyT] at h
  split at h <;> first
    | (cases h; done)
    | (cases h; exact tyOk_of (by kernel_rfl) (by kernel_rfl))
theorem envOk : EnvOk Tryd.prog envX := ⟨env_ty, by kernel_rfl, fun T h => by
  dsimp only [envX, tyT] at h
  split at h <;> first
    | (cases h; done)
    | exact date_eq env_ty rfl (by kernel_rfl) (by kernel_rfl) (by kernel_rfl), fun T h => by
  dsimp only [envX, tyT] at h
  split at h <;> first
    | (cases h; done)
    | exact abbr_eq env_ty rfl (by kernel_rfl) (by kernel_rfl) (by kernel_rfl)⟩
/-! ### 6 loop.example/g00896/spec.l4Text -/
def spec_l4Text.l0 : Nat → ByteArray → Int → Option (Sum Bool ByteArray)
  | 0, _, _ => none
  | k + 1, x0, x3 => bif (decide (x3 < (x0.size : Int))) then (bif decide (0 ≤ x3) then (bif decide (x3 < (x0.size : Int)) then (bif (decide ((bt x0 (x3 : Int).toNat) < 32)) then (some (.inl false)) else (bif decide (0 ≤ x3) then (bif decide (x3 < (x0.size : Int)) then (bif (decide ((bt x0 (x3 : Int).toNat) > 126)) then (some (.inl false)) else (spec_l4Text.l0 k x0 (IntKind.wrap .i64 (x3 + 1)))) else none) else none)) else none) else none) else (some (.inr x0))
def spec_l4Text.F (k : Nat) (a0 : ByteArray) : Option (Bool) := bif (decide ((a0.size : Int) > 40)) then (some false) else ((spec_l4Text.l0 k a0 0).bind fun y1 => match y1 with | .inl z2 => some z2 | .inr z2 => bif (beqS z2 (⟨#[]⟩ : ByteArray)) then (some true) else (bif decide (0 ≤ 0) then (bif decide (0 < (z2.size : Int)) then (bif ((bt z2 (0 : Int).toNat) != 32) then (bif decide (0 ≤ (IntKind.wrap .i64 ((z2.size : Int) - 1))) then (bif decide ((IntKind.wrap .i64 ((z2.size : Int) - 1)) < (z2.size : Int)) then (some ((bt z2 ((IntKind.wrap .i64 ((z2.size : Int) - 1)) : Int).toNat) != 32)) else none) else none) else (some false)) else none) else none))
def spec_l4Text.C (k : Nat) : Cal → Option CArm := fun c => match c with
  | _ => none
def spec_l4Text.sp0 : List Sp := [.t 0 .str, .t 3 (.int .i64)]
def spec_l4Text.sp0_0 : List Sp := [.t 2 .bool]
def spec_l4Text.sp0_1 : List Sp := [.t 0 .str]
def spec_l4Text.A0 : LArm := .two spec_l4Text.sp0 spec_l4Text.sp0_0 spec_l4Text.sp0_1 (Bool) (ByteArray) (fun k x => spec_l4Text.l0 k x.1 x.2.1) .ret (.exit 0) (fun y => (y, ())) (fun x => x.1) (fun y => (y, ())) (fun x => x.1)
def spec_l4Text.L : Nat → Option LArm := fun b => match b with
  | 0 => some spec_l4Text.A0
  | _ => none
theorem spec_l4Text.run (k : Nat) (a0 : ByteArray) : runF envX (tabC (spec_l4Text.C k)) (tabL 38 k spec_l4Text.L) Tryd.f6 [.t .str a0] (viewR1 (.t .bool)) = spec_l4Text.F k a0 := by kernel_rfl
theorem spec_l4Text.step0 (k : Nat) (x0 : ByteArray) (x3 : Int) : runC envX (tabC (spec_l4Text.C k)) (tabL 38 k spec_l4Text.L) 0 (loopAt Tryd.f6 0) (stOf 38 spec_l4Text.sp0 (x0, x3, ())) (spec_l4Text.A0.cont 38 k) = spec_l4Text.l0 (k + 1) x0 x3 := by kernel_rfl
theorem spec_l4Text.G (hE : EnvOk Tryd.prog envX) (pv : Nat → Value) (k : Nat) : ∀ cal A, spec_l4Text.C k cal = some A → ArmOk Tryd.prog envX pv cal A := by
  intro cal A h
  unfold spec_l4Text.C at h
  cases h
theorem spec_l4Text.good (hE : EnvOk Tryd.prog envX) (pv : Nat → Value) (k : Nat) (a0 : ByteArray) {y : _} (h : spec_l4Text.F k a0 = some y) : Meets Tryd.prog envX pv (.f 6) (tvals [.str] (a0, ())) (.t .bool y) :=
  fun_loops hE (t := spec_l4Text.C) k (fun k _ => spec_l4Text.G hE pv k) (f := 6) (fn := Tryd.f6) (by kernel_rfl) rfl (by kernel_rfl) (by kernel_rfl) (lt := spec_l4Text.L) (by kernel_rfl) (fun b A h => by
    unfold spec_l4Text.L at h; split at h
    · cases h; exact ⟨by kernel_rfl, by kernel_rfl, by kernel_rfl, fun _ => rfl, fun _ => rfl, fun _ => rfl⟩
    · cases h) (fun b A h => by
    unfold spec_l4Text.L at h; split at h
    · cases h; exact fun k x => spec_l4Text.step0 k x.1 x.2.1
    · cases h) ((spec_l4Text.run k a0).trans h) fun r hr => wk_view1 hr
/-! ### 14 loop.example/g00896/spec.l1Least -/
def spec_l1Least.F (a0 : Int) (a1 : Int) : Option (Int) := bif (decide (a0 < a1)) then (some a0) else (some a1)
def spec_l1Least.C : Cal → Option CArm := fun c => match c with
  | _ => none
theorem spec_l1Least.run (a0 : Int) (a1 : Int) : runF envX (tabC spec_l1Least.C) (tabL 10 0 (fun _ => none)) Tryd.f14 [.t (.int .i64) a0, .t (.int .i64) a1] (viewR1 (.t (.int .i64))) = spec_l1Least.F a0 a1 := by kernel_rfl
theorem spec_l1Least.G (hE : EnvOk Tryd.prog envX) (pv : Nat → Value) : ∀ cal A, spec_l1Least.C cal = some A → ArmOk Tryd.prog envX pv cal A := by
  intro cal A h
  unfold spec_l1Least.C at h
  cases h
theorem spec_l1Least.good (hE : EnvOk Tryd.prog envX) (pv : Nat → Value) (a0 : Int) (a1 : Int) {y : _} (h : spec_l1Least.F a0 a1 = some y) : Meets Tryd.prog envX pv (.f 14) (tvals [(.int .i64), (.int .i64)] (a0, a1, ())) (.t (.int .i64) y) :=
  fun_plain hE (spec_l1Least.G hE pv) (f := 14) (fn := Tryd.f14) (by kernel_rfl) rfl (by kernel_rfl) (by kernel_rfl) ((spec_l1Least.run a0 a1).trans h) fun r hr => wk_view1 hr
/-! ### 10 loop.example/g00896/spec.l20Edit -/
def spec_l20Edit.l0 : Nat → ByteArray → ByteArray → (List Int) → Int → Option (ByteArray × ByteArray × (List Int))
  | 0, _, _, _, _ => none
  | k + 1, x0, x1, x5, x6 => bif (decide (x6 ≤ (x1.size : Int))) then (bif room (x5.length + ([x6] : List Int).length) (.int .i64) then (spec_l20Edit.l0 k x0 x1 (x5 ++ ([x6] : List Int)) (IntKind.wrap .i64 (x6 + 1))) else none) else (some (x0, x1, x5))
def spec_l20Edit.l4 : Nat → ByteArray → ByteArray → (List Int) → Int → (List Int) → Int → Option (ByteArray × ByteArray × Int × (List Int))
  | 0, _, _, _, _, _, _ => none
  | k + 1, x0, x1, x5, x7, x8, x9 => bif (decide (x9 ≤ (x1.size : Int))) then (bif decide (0 ≤ x9) then (bif decide (x9 < (x5.length : Int)) then (bif decide (0 ≤ (IntKind.wrap .i64 (x9 - 1))) then (bif decide ((IntKind.wrap .i64 (x9 - 1)) < (x8.length : Int)) then ((spec_l1Least.F (x5.getD ((x9 : Int).toNat) 0) (x8.getD (((IntKind.wrap .i64 (x9 - 1)) : Int).toNat) 0)).bind fun r2 => bif decide (0 ≤ (IntKind.wrap .i64 (x7 - 1))) then (bif decide ((IntKind.wrap .i64 (x7 - 1)) < (x0.size : Int)) then (bif decide (0 ≤ (IntKind.wrap .i64 (x9 - 1))) then (bif decide ((IntKind.wrap .i64 (x9 - 1)) < (x1.size : Int)) then (bif ((bt x0 ((IntKind.wrap .i64 (x7 - 1)) : Int).toNat) == (bt x1 ((IntKind.wrap .i64 (x9 - 1)) : Int).toNat)) then (bif decide (0 ≤ (IntKind.wrap .i64 (x9 - 1))) then (bif decide ((IntKind.wrap .i64 (x9 - 1)) < (x5.length : Int)) then ((spec_l1Least.F (IntKind.wrap .i64 (r2 + 1)) (x5.getD (((IntKind.wrap .i64 (x9 - 1)) : Int).toNat) 0)).bind fun r3 => bif room (x8.length + ([r3] : List Int).length) (.int .i64) then (spec_l20Edit.l4 k x0 x1 x5 x7 (x8 ++ ([r3] : List Int)) (IntKind.wrap .i64 (x9 + 1))) else none) else none) else none) else (bif decide (0 ≤ (IntKind.wrap .i64 (x9 - 1))) then (bif decide ((IntKind.wrap .i64 (x9 - 1)) < (x5.length : Int)) then ((spec_l1Least.F (IntKind.wrap .i64 (r2 + 1)) (IntKind.wrap .i64 ((x5.getD (((IntKind.wrap .i64 (x9 - 1)) : Int).toNat) 0) + 1))).bind fun r4 => bif room (x8.length + ([r4] : List Int).length) (.int .i64) then (spec_l20Edit.l4 k x0 x1 x5 x7 (x8 ++ ([r4] : List Int)) (IntKind.wrap .i64 (x9 + 1))) else none) else none) else none)) else none) else none) else none) else none) else none) else none) else none) else none) else (some (x0, x1, x7, x8))
def spec_l20Edit.l2 : Nat → ByteArray → ByteArray → (List Int) → Int → Option (ByteArray × (List Int))
  | 0, _, _, _, _ => none
  | k + 1, x0, x1, x5, x7 => bif (decide (x7 ≤ (x0.size : Int))) then ((spec_l20Edit.l4 k x0 x1 x5 x7 ([x7] : List Int) 1).bind fun y5 => spec_l20Edit.l2 k y5.1 y5.2.1 y5.2.2.2 (IntKind.wrap .i64 (y5.2.2.1 + 1))) else (some (x1, x5))
def spec_l20Edit.F (k : Nat) (a0 : ByteArray) (a1 : ByteArray) : Option (Int) := (spec_l20Edit.l0 k a0 a1 ([] : List Int) 0).bind fun y1 => (spec_l20Edit.l2 k y1.1 y1.2.1 y1.2.2 1).bind fun y6 => bif decide (0 ≤ (y6.1.size : Int)) then (bif decide ((y6.1.size : Int) < (y6.2.length : Int)) then (some (y6.2.getD (((y6.1.size : Int) : Int).toNat) 0)) else none) else none
def spec_l20Edit.C (k : Nat) : Cal → Option CArm := fun c => match c with
  | .f 14 => some (.p [(.int .i64), (.int .i64)] _ (fun x => spec_l1Least.F x.1 x.2.1) (fun r => (.t (.int .i64) r)))
  | _ => none
def spec_l20Edit.sp0 : List Sp := [.t 0 .str, .t 1 .str, .own 5 1024 3 (.int .i64) false true, .t 6 (.int .i64)]
def spec_l20Edit.sp0_0 : List Sp := [.t 0 .str, .t 1 .str, .own 5 1024 3 (.int .i64) false true]
def spec_l20Edit.A0 : LArm := .one spec_l20Edit.sp0 spec_l20Edit.sp0_0 (ByteArray × ByteArray × (List Int)) (fun k x => spec_l20Edit.l0 k x.1 x.2.1 x.2.2.1 x.2.2.2.1) (.exit 0) (fun y => (y.1, y.2.1, y.2.2, ())) (fun x => (x.1, x.2.1, x.2.2.1))
def spec_l20Edit.sp4 : List Sp := [.t 0 .str, .t 1 .str, .own 5 1024 3 (.int .i64) false true, .t 7 (.int .i64), .own 8 9220 3 (.int .i64) false true, .t 9 (.int .i64)]
def spec_l20Edit.sp4_0 : List Sp := [.t 0 .str, .t 1 .str, .t 7 (.int .i64), .own 8 9220 3 (.int .i64) false true]
def spec_l20Edit.A4 : LArm := .one spec_l20Edit.sp4 spec_l20Edit.sp4_0 (ByteArray × ByteArray × Int × (List Int)) (fun k x => spec_l20Edit.l4 k x.1 x.2.1 x.2.2.1 x.2.2.2.1 x.2.2.2.2.1 x.2.2.2.2.2.1) (.exit 4) (fun y => (y.1, y.2.1, y.2.2.1, y.2.2.2, ())) (fun x => (x.1, x.2.1, x.2.2.1, x.2.2.2.1))
def spec_l20Edit.sp2 : List Sp := [.t 0 .str, .t 1 .str, .own 5 1024 3 (.int .i64) false true, .t 7 (.int .i64)]
def spec_l20Edit.sp2_0 : List Sp := [.t 1 .str, .own 5 1024 3 (.int .i64) false true]
def spec_l20Edit.A2 : LArm := .one spec_l20Edit.sp2 spec_l20Edit.sp2_0 (ByteArray × (List Int)) (fun k x => spec_l20Edit.l2 k x.1 x.2.1 x.2.2.1 x.2.2.2.1) (.exit 2) (fun y => (y.1, y.2, ())) (fun x => (x.1, x.2.1))
def spec_l20Edit.L : Nat → Option LArm := fun b => match b with
  | 0 => some spec_l20Edit.A0
  | 4 => some spec_l20Edit.A4
  | 2 => some spec_l20Edit.A2
  | _ => none
theorem spec_l20Edit.run (k : Nat) (a0 : ByteArray) (a1 : ByteArray) : runF envX (tabC (spec_l20Edit.C k)) (tabL 81 k spec_l20Edit.L) Tryd.f10 [.t .str a0, .t .str a1] (viewR1 (.t (.int .i64))) = spec_l20Edit.F k a0 a1 := by kernel_rfl
theorem spec_l20Edit.step0 (k : Nat) (x0 : ByteArray) (x1 : ByteArray) (x5 : List Int) (x6 : Int) : runC envX (tabC (spec_l20Edit.C k)) (tabL 81 k spec_l20Edit.L) 0 (loopAt Tryd.f10 0) (stOf 81 spec_l20Edit.sp0 (x0, x1, x5, x6, ())) (spec_l20Edit.A0.cont 81 k) = spec_l20Edit.l0 (k + 1) x0 x1 x5 x6 := by kernel_rfl
theorem spec_l20Edit.step4 (k : Nat) (x0 : ByteArray) (x1 : ByteArray) (x5 : List Int) (x7 : Int) (x8 : List Int) (x9 : Int) : runC envX (tabC (spec_l20Edit.C k)) (tabL 81 k spec_l20Edit.L) 4 (loopAt Tryd.f10 4) (stOf 81 spec_l20Edit.sp4 (x0, x1, x5, x7, x8, x9, ())) (spec_l20Edit.A4.cont 81 k) = spec_l20Edit.l4 (k + 1) x0 x1 x5 x7 x8 x9 := by kernel_rfl
theorem spec_l20Edit.step2 (k : Nat) (x0 : ByteArray) (x1 : ByteArray) (x5 : List Int) (x7 : Int) : runC envX (tabC (spec_l20Edit.C k)) (tabL 81 k spec_l20Edit.L) 2 (loopAt Tryd.f10 2) (stOf 81 spec_l20Edit.sp2 (x0, x1, x5, x7, ())) (spec_l20Edit.A2.cont 81 k) = spec_l20Edit.l2 (k + 1) x0 x1 x5 x7 := by kernel_rfl
theorem spec_l20Edit.G (hE : EnvOk Tryd.prog envX) (pv : Nat → Value) (k : Nat) : ∀ cal A, spec_l20Edit.C k cal = some A → ArmOk Tryd.prog envX pv cal A := by
  intro cal A h
  unfold spec_l20Edit.C at h
  split at h
  · cases h; exact fun x y hy => spec_l1Least.good hE pv x.1 x.2.1 hy
  · cases h
theorem spec_l20Edit.good (hE : EnvOk Tryd.prog envX) (pv : Nat → Value) (k : Nat) (a0 : ByteArray) (a1 : ByteArray) {y : _} (h : spec_l20Edit.F k a0 a1 = some y) : Meets Tryd.prog envX pv (.f 10) (tvals [.str, .str] (a0, a1, ())) (.t (.int .i64) y) :=
  fun_loops hE (t := spec_l20Edit.C) k (fun k _ => spec_l20Edit.G hE pv k) (f := 10) (fn := Tryd.f10) (by kernel_rfl) rfl (by kernel_rfl) (by kernel_rfl) (lt := spec_l20Edit.L) (by kernel_rfl) (fun b A h => by
    unfold spec_l20Edit.L at h; split at h
    · cases h; exact ⟨by kernel_rfl, by kernel_rfl, fun _ => rfl, fun _ => rfl⟩
    · cases h; exact ⟨by kernel_rfl, by kernel_rfl, fun _ => rfl, fun _ => rfl⟩
    · cases h; exact ⟨by kernel_rfl, by kernel_rfl, fun _ => rfl, fun _ => rfl⟩
    · cases h) (fun b A h => by
    unfold spec_l20Edit.L at h; split at h
    · cases h; exact fun k x => spec_l20Edit.step0 k x.1 x.2.1 x.2.2.1 x.2.2.2.1
    · cases h; exact fun k x => spec_l20Edit.step4 k x.1 x.2.1 x.2.2.1 x.2.2.2.1 x.2.2.2.2.1 x.2.2.2.2.2.1
    · cases h; exact fun k x => spec_l20Edit.step2 k x.1 x.2.1 x.2.2.1 x.2.2.2.1
    · cases h) ((spec_l20Edit.run k a0 a1).trans h) fun r hr => wk_view1 hr
/-! ### 15 loop.example/g00896/spec.l6Join -/
def spec_l6Join.l0 : Nat → (List ByteArray) → ByteArray → Int → Option (ByteArray)
  | 0, _, _, _ => none
  | k + 1, x0, x3, x4 => bif (decide (x4 < (x0.length : Int))) then (bif (decide (x4 > 0)) then (bif Nat.ble (x3.size + (⟨#[32]⟩ : ByteArray).size) 9223372036854775807 then (bif decide (0 ≤ x4) then (bif decide (x4 < (x0.length : Int)) then (bif Nat.ble ((x3 ++ (⟨#[32]⟩ : ByteArray)).size + (x0.getD (x4 : Int).toNat (⟨#[]⟩ : ByteArray)).size) 9223372036854775807 then (spec_l6Join.l0 k x0 ((x3 ++ (⟨#[32]⟩ : ByteArray)) ++ (x0.getD (x4 : Int).toNat (⟨#[]⟩ : ByteArray))) (IntKind.wrap .i64 (x4 + 1))) else none) else none) else none) else none) else (bif decide (0 ≤ x4) then (bif decide (x4 < (x0.length : Int)) then (bif Nat.ble (x3.size + (x0.getD (x4 : Int).toNat (⟨#[]⟩ : ByteArray)).size) 9223372036854775807 then (spec_l6Join.l0 k x0 (x3 ++ (x0.getD (x4 : Int).toNat (⟨#[]⟩ : ByteArray))) (IntKind.wrap .i64 (x4 + 1))) else none) else none) else none)) else (some x3)
def spec_l6Join.F (k : Nat) (a0 : List ByteArray) : Option (ByteArray) := (spec_l6Join.l0 k a0 (⟨#[]⟩ : ByteArray) 0).bind fun y1 => some y1
def spec_l6Join.C (k : Nat) : Cal → Option CArm := fun c => match c with
  | _ => none
def spec_l6Join.sp0 : List Sp := [.t 0 (.sl .str), .t 3 .str, .t 4 (.int .i64)]
def spec_l6Join.sp0_0 : List Sp := [.t 3 .str]
def spec_l6Join.A0 : LArm := .one spec_l6Join.sp0 spec_l6Join.sp0_0 (ByteArray) (fun k x => spec_l6Join.l0 k x.1 x.2.1 x.2.2.1) (.exit 0) (fun y => (y, ())) (fun x => x.1)
def spec_l6Join.L : Nat → Option LArm := fun b => match b with
  | 0 => some spec_l6Join.A0
  | _ => none
theorem spec_l6Join.run (k : Nat) (a0 : List ByteArray) : runF envX (tabC (spec_l6Join.C k)) (tabL 22 k spec_l6Join.L) Tryd.f15 [.t (.sl .str) a0] (viewR1 (.t .str)) = spec_l6Join.F k a0 := by kernel_rfl
theorem spec_l6Join.step0 (k : Nat) (x0 : List ByteArray) (x3 : ByteArray) (x4 : Int) : runC envX (tabC (spec_l6Join.C k)) (tabL 22 k spec_l6Join.L) 0 (loopAt Tryd.f15 0) (stOf 22 spec_l6Join.sp0 (x0, x3, x4, ())) (spec_l6Join.A0.cont 22 k) = spec_l6Join.l0 (k + 1) x0 x3 x4 := by kernel_rfl
theorem spec_l6Join.G (hE : EnvOk Tryd.prog envX) (pv : Nat → Value) (k : Nat) : ∀ cal A, spec_l6Join.C k cal = some A → ArmOk Tryd.prog envX pv cal A := by
  intro cal A h
  unfold spec_l6Join.C at h
  cases h
theorem spec_l6Join.good (hE : EnvOk Tryd.prog envX) (pv : Nat → Value) (k : Nat) (a0 : List ByteArray) {y : _} (h : spec_l6Join.F k a0 = some y) : Meets Tryd.prog envX pv (.f 15) (tvals [(.sl .str)] (a0, ())) (.t .str y) :=
  fun_loops hE (t := spec_l6Join.C) k (fun k _ => spec_l6Join.G hE pv k) (f := 15) (fn := Tryd.f15) (by kernel_rfl) rfl (by kernel_rfl) (by kernel_rfl) (lt := spec_l6Join.L) (by kernel_rfl) (fun b A h => by
    unfold spec_l6Join.L at h; split at h
    · cases h; exact ⟨by kernel_rfl, by kernel_rfl, fun _ => rfl, fun _ => rfl⟩
    · cases h) (fun b A h => by
    unfold spec_l6Join.L at h; split at h
    · cases h; exact fun k x => spec_l6Join.step0 k x.1 x.2.1 x.2.2.1
    · cases h) ((spec_l6Join.run k a0).trans h) fun r hr => wk_view1 hr
/-! ### 23 loop.example/g00896/spec.l6Letter -/
def spec_l6Letter.F (a0 : Int) : Option (Bool) := bif (decide (a0 ≥ 65)) then (bif (decide (a0 ≤ 90)) then (some true) else (bif (decide (a0 ≥ 97)) then (some (decide (a0 ≤ 122))) else (some false))) else (bif (decide (a0 ≥ 97)) then (some (decide (a0 ≤ 122))) else (some false))
def spec_l6Letter.C : Cal → Option CArm := fun c => match c with
  | _ => none
theorem spec_l6Letter.run (a0 : Int) : runF envX (tabC spec_l6Letter.C) (tabL 17 0 (fun _ => none)) Tryd.f23 [.t (.int .u8) a0] (viewR1 (.t .bool)) = spec_l6Letter.F a0 := by kernel_rfl
theorem spec_l6Letter.G (hE : EnvOk Tryd.prog envX) (pv : Nat → Value) : ∀ cal A, spec_l6Letter.C cal = some A → ArmOk Tryd.prog envX pv cal A := by
  intro cal A h
  unfold spec_l6Letter.C at h
  cases h
theorem spec_l6Letter.good (hE : EnvOk Tryd.prog envX) (pv : Nat → Value) (a0 : Int) {y : _} (h : spec_l6Letter.F a0 = some y) : Meets Tryd.prog envX pv (.f 23) (tvals [(.int .u8)] (a0, ())) (.t .bool y) :=
  fun_plain hE (spec_l6Letter.G hE pv) (f := 23) (fn := Tryd.f23) (by kernel_rfl) rfl (by kernel_rfl) (by kernel_rfl) ((spec_l6Letter.run a0).trans h) fun r hr => wk_view1 hr
/-! ### 24 loop.example/g00896/spec.l6Digit -/
def spec_l6Digit.F (a0 : Int) : Option (Bool) := bif (decide (a0 ≥ 48)) then (some (decide (a0 ≤ 57))) else (some false)
def spec_l6Digit.C : Cal → Option CArm := fun c => match c with
  | _ => none
theorem spec_l6Digit.run (a0 : Int) : runF envX (tabC spec_l6Digit.C) (tabL 9 0 (fun _ => none)) Tryd.f24 [.t (.int .u8) a0] (viewR1 (.t .bool)) = spec_l6Digit.F a0 := by kernel_rfl
theorem spec_l6Digit.G (hE : EnvOk Tryd.prog envX) (pv : Nat → Value) : ∀ cal A, spec_l6Digit.C cal = some A → ArmOk Tryd.prog envX pv cal A := by
  intro cal A h
  unfold spec_l6Digit.C at h
  cases h
theorem spec_l6Digit.good (hE : EnvOk Tryd.prog envX) (pv : Nat → Value) (a0 : Int) {y : _} (h : spec_l6Digit.F a0 = some y) : Meets Tryd.prog envX pv (.f 24) (tvals [(.int .u8)] (a0, ())) (.t .bool y) :=
  fun_plain hE (spec_l6Digit.G hE pv) (f := 24) (fn := Tryd.f24) (by kernel_rfl) rfl (by kernel_rfl) (by kernel_rfl) ((spec_l6Digit.run a0).trans h) fun r hr => wk_view1 hr
/-! ### 25 loop.example/g00896/spec.l6LowerByte -/
def spec_l6LowerByte.F (a0 : Int) : Option (Int) := bif (decide (a0 ≥ 65)) then (bif (decide (a0 ≤ 90)) then (some (IntKind.wrap .u8 (a0 + 32))) else (some a0)) else (some a0)
def spec_l6LowerByte.C : Cal → Option CArm := fun c => match c with
  | _ => none
theorem spec_l6LowerByte.run (a0 : Int) : runF envX (tabC spec_l6LowerByte.C) (tabL 12 0 (fun _ => none)) Tryd.f25 [.t (.int .u8) a0] (viewR1 (.t (.int .u8))) = spec_l6LowerByte.F a0 := by kernel_rfl
theorem spec_l6LowerByte.G (hE : EnvOk Tryd.prog envX) (pv : Nat → Value) : ∀ cal A, spec_l6LowerByte.C cal = some A → ArmOk Tryd.prog envX pv cal A := by
  intro cal A h
  unfold spec_l6LowerByte.C at h
  cases h
theorem spec_l6LowerByte.good (hE : EnvOk Tryd.prog envX) (pv : Nat → Value) (a0 : Int) {y : _} (h : spec_l6LowerByte.F a0 = some y) : Meets Tryd.prog envX pv (.f 25) (tvals [(.int .u8)] (a0, ())) (.t (.int .u8) y) :=
  fun_plain hE (spec_l6LowerByte.G hE pv) (f := 25) (fn := Tryd.f25) (by kernel_rfl) rfl (by kernel_rfl) (by kernel_rfl) ((spec_l6LowerByte.run a0).trans h) fun r hr => wk_view1 hr
/-! ### 16 loop.example/g00896/spec.l6Simple -/
def spec_l6Simple.l0 : Nat → ByteArray → (List ByteArray) → (List Int) → Int → Option ((List ByteArray))
  | 0, _, _, _, _ => none
  | k + 1, x0, x3, x4, x5 => bif (decide (x5 ≤ (x0.size : Int))) then (bif (x5 == (x0.size : Int)) then (bif (decide ((x4.length : Int) > 0)) then (bif room (x3.length + ([(strL x4)] : List ByteArray).length) .str then (spec_l6Simple.l0 k x0 (x3 ++ ([(strL x4)] : List ByteArray)) ([] : List Int) (IntKind.wrap .i64 (x5 + 1))) else none) else (spec_l6Simple.l0 k x0 x3 ([] : List Int) (IntKind.wrap .i64 (x5 + 1)))) else (bif decide (0 ≤ x5) then (bif decide (x5 < (x0.size : Int)) then (bif ((bt x0 (x5 : Int).toNat) == 32) then (bif (decide ((x4.length : Int) > 0)) then (bif room (x3.length + ([(strL x4)] : List ByteArray).length) .str then (spec_l6Simple.l0 k x0 (x3 ++ ([(strL x4)] : List ByteArray)) ([] : List Int) (IntKind.wrap .i64 (x5 + 1))) else none) else (spec_l6Simple.l0 k x0 x3 ([] : List Int) (IntKind.wrap .i64 (x5 + 1)))) else (bif decide (0 ≤ x5) then (bif decide (x5 < (x0.size : Int)) then ((spec_l6Letter.F (bt x0 (x5 : Int).toNat)).bind fun r1 => bif r1 then (bif decide (0 ≤ x5) then (bif decide (x5 < (x0.size : Int)) then ((spec_l6LowerByte.F (bt x0 (x5 : Int).toNat)).bind fun r2 => bif room (x4.length + ([r2] : List Int).length) (.int .u8) then (spec_l6Simple.l0 k x0 x3 (x4 ++ ([r2] : List Int)) (IntKind.wrap .i64 (x5 + 1))) else none) else none) else none) else (bif decide (0 ≤ x5) then (bif decide (x5 < (x0.size : Int)) then ((spec_l6Digit.F (bt x0 (x5 : Int).toNat)).bind fun r3 => bif r3 then (bif decide (0 ≤ x5) then (bif decide (x5 < (x0.size : Int)) then ((spec_l6LowerByte.F (bt x0 (x5 : Int).toNat)).bind fun r4 => bif room (x4.length + ([r4] : List Int).length) (.int .u8) then (spec_l6Simple.l0 k x0 x3 (x4 ++ ([r4] : List Int)) (IntKind.wrap .i64 (x5 + 1))) else none) else none) else none) else (spec_l6Simple.l0 k x0 x3 x4 (IntKind.wrap .i64 (x5 + 1)))) else none) else none)) else none) else none)) else none) else none)) else (some x3)
def spec_l6Simple.F (k : Nat) (a0 : ByteArray) : Option (List ByteArray) := (spec_l6Simple.l0 k a0 ([] : List ByteArray) ([] : List Int) 0).bind fun y5 => some y5
def spec_l6Simple.C (k : Nat) : Cal → Option CArm := fun c => match c with
  | .f 23 => some (.p [(.int .u8)] _ (fun x => spec_l6Letter.F x.1) (fun r => (.t .bool r)))
  | .f 25 => some (.p [(.int .u8)] _ (fun x => spec_l6LowerByte.F x.1) (fun r => (.t (.int .u8) r)))
  | .f 24 => some (.p [(.int .u8)] _ (fun x => spec_l6Digit.F x.1) (fun r => (.t .bool r)))
  | _ => none
def spec_l6Simple.sp0 : List Sp := [.t 0 .str, .own 3 1024 9 .str false true, .own 4 2048 5 (.int .u8) false true, .t 5 (.int .i64)]
def spec_l6Simple.sp0_0 : List Sp := [.own 3 1024 9 .str false true]
def spec_l6Simple.A0 : LArm := .one spec_l6Simple.sp0 spec_l6Simple.sp0_0 ((List ByteArray)) (fun k x => spec_l6Simple.l0 k x.1 x.2.1 x.2.2.1 x.2.2.2.1) (.exit 0) (fun y => (y, ())) (fun x => x.1)
def spec_l6Simple.L : Nat → Option LArm := fun b => match b with
  | 0 => some spec_l6Simple.A0
  | _ => none
theorem spec_l6Simple.run (k : Nat) (a0 : ByteArray) : runF envX (tabC (spec_l6Simple.C k)) (tabL 51 k spec_l6Simple.L) Tryd.f16 [.t .str a0] (viewR1 (.fr 9 .str)) = spec_l6Simple.F k a0 := by kernel_rfl
theorem spec_l6Simple.step0 (k : Nat) (x0 : ByteArray) (x3 : List ByteArray) (x4 : List Int) (x5 : Int) : runC envX (tabC (spec_l6Simple.C k)) (tabL 51 k spec_l6Simple.L) 0 (loopAt Tryd.f16 0) (stOf 51 spec_l6Simple.sp0 (x0, x3, x4, x5, ())) (spec_l6Simple.A0.cont 51 k) = spec_l6Simple.l0 (k + 1) x0 x3 x4 x5 := by kernel_rfl
theorem spec_l6Simple.G (hE : EnvOk Tryd.prog envX) (pv : Nat → Value) (k : Nat) : ∀ cal A, spec_l6Simple.C k cal = some A → ArmOk Tryd.prog envX pv cal A := by
  intro cal A h
  unfold spec_l6Simple.C at h
  split at h
  · cases h; exact fun x y hy => spec_l6Letter.good hE pv x.1 hy
  · cases h; exact fun x y hy => spec_l6LowerByte.good hE pv x.1 hy
  · cases h; exact fun x y hy => spec_l6Digit.good hE pv x.1 hy
  · cases h
theorem spec_l6Simple.good (hE : EnvOk Tryd.prog envX) (pv : Nat → Value) (k : Nat) (a0 : ByteArray) {y : _} (h : spec_l6Simple.F k a0 = some y) : Meets Tryd.prog envX pv (.f 16) (tvals [.str] (a0, ())) (.fr 9 .str y) :=
  fun_loops hE (t := spec_l6Simple.C) k (fun k _ => spec_l6Simple.G hE pv k) (f := 16) (fn := Tryd.f16) (by kernel_rfl) rfl (by kernel_rfl) (by kernel_rfl) (lt := spec_l6Simple.L) (by kernel_rfl) (fun b A h => by
    unfold spec_l6Simple.L at h; split at h
    · cases h; exact ⟨by kernel_rfl, by kernel_rfl, fun _ => rfl, fun _ => rfl⟩
    · cases h) (fun b A h => by
    unfold spec_l6Simple.L at h; split at h
    · cases h; exact fun k x => spec_l6Simple.step0 k x.1 x.2.1 x.2.2.1 x.2.2.2.1
    · cases h) ((spec_l6Simple.run k a0).trans h) fun r hr => wk_view1 hr
/-! ### 11 loop.example/g00896/spec.l20Plain -/
def spec_l20Plain.F (k : Nat) (a0 : ByteArray) : Option (ByteArray) := (spec_l6Simple.F k a0).bind fun r1 => (spec_l6Join.F k r1).bind fun r2 => some r2
def spec_l20Plain.C (k : Nat) : Cal → Option CArm := fun c => match c with
  | .f 16 => some (.p [.str] _ (fun x => spec_l6Simple.F k x.1) (fun r => (.fr 9 .str r)))
  | .f 15 => some (.p [(.sl .str)] _ (fun x => spec_l6Join.F k x.1) (fun r => (.t .str r)))
  | _ => none
theorem spec_l20Plain.run (k : Nat) (a0 : ByteArray) : runF envX (tabC (spec_l20Plain.C k)) (tabL 6 0 (fun _ => none)) Tryd.f11 [.t .str a0] (viewR1 (.t .str)) = spec_l20Plain.F k a0 := by kernel_rfl
theorem spec_l20Plain.G (hE : EnvOk Tryd.prog envX) (pv : Nat → Value) (k : Nat) : ∀ cal A, spec_l20Plain.C k cal = some A → ArmOk Tryd.prog envX pv cal A := by
  intro cal A h
  unfold spec_l20Plain.C at h
  split at h
  · cases h; exact fun x y hy => spec_l6Simple.good hE pv k x.1 hy
  · cases h; exact fun x y hy => spec_l6Join.good hE pv k x.1 hy
  · cases h
theorem spec_l20Plain.good (hE : EnvOk Tryd.prog envX) (pv : Nat → Value) (k : Nat) (a0 : ByteArray) {y : _} (h : spec_l20Plain.F k a0 = some y) : Meets Tryd.prog envX pv (.f 11) (tvals [.str] (a0, ())) (.t .str y) :=
  fun_plain hE (spec_l20Plain.G hE pv k) (f := 11) (fn := Tryd.f11) (by kernel_rfl) rfl (by kernel_rfl) (by kernel_rfl) ((spec_l20Plain.run k a0).trans h) fun r hr => wk_view1 hr
/-! ### 7 loop.example/g00896/spec.l20Distance -/
def spec_l20Distance.F (k : Nat) (a0 : ByteArray) (a1 : ByteArray) : Option (Int) := (spec_l20Plain.F k a0).bind fun r1 => (spec_l20Plain.F k a1).bind fun r2 => (spec_l20Edit.F k r1 r2).bind fun r3 => some r3
def spec_l20Distance.C (k : Nat) : Cal → Option CArm := fun c => match c with
  | .f 11 => some (.p [.str] _ (fun x => spec_l20Plain.F k x.1) (fun r => (.t .str r)))
  | .f 10 => some (.p [.str, .str] _ (fun x => spec_l20Edit.F k x.1 x.2.1) (fun r => (.t (.int .i64) r)))
  | _ => none
theorem spec_l20Distance.run (k : Nat) (a0 : ByteArray) (a1 : ByteArray) : runF envX (tabC (spec_l20Distance.C k)) (tabL 10 0 (fun _ => none)) Tryd.f7 [.t .str a0, .t .str a1] (viewR1 (.t (.int .i64))) = spec_l20Distance.F k a0 a1 := by kernel_rfl
theorem spec_l20Distance.G (hE : EnvOk Tryd.prog envX) (pv : Nat → Value) (k : Nat) : ∀ cal A, spec_l20Distance.C k cal = some A → ArmOk Tryd.prog envX pv cal A := by
  intro cal A h
  unfold spec_l20Distance.C at h
  split at h
  · cases h; exact fun x y hy => spec_l20Plain.good hE pv k x.1 hy
  · cases h; exact fun x y hy => spec_l20Edit.good hE pv k x.1 x.2.1 hy
  · cases h
theorem spec_l20Distance.good (hE : EnvOk Tryd.prog envX) (pv : Nat → Value) (k : Nat) (a0 : ByteArray) (a1 : ByteArray) {y : _} (h : spec_l20Distance.F k a0 a1 = some y) : Meets Tryd.prog envX pv (.f 7) (tvals [.str, .str] (a0, a1, ())) (.t (.int .i64) y) :=
  fun_plain hE (spec_l20Distance.G hE pv k) (f := 7) (fn := Tryd.f7) (by kernel_rfl) rfl (by kernel_rfl) (by kernel_rfl) ((spec_l20Distance.run k a0 a1).trans h) fun r hr => wk_view1 hr
/-! ### 4 loop.example/g00896/spec.TextDistance -/
def spec_TextDistance.F (k : Nat) (a0 : ByteArray) (a1 : ByteArray) : Option (Int × Bool) := (spec_l4Text.F k a0).bind fun r1 => bif (!r1) then (some (0, false)) else ((spec_l4Text.F k a1).bind fun r2 => bif (!r2) then (some (0, false)) else ((spec_l20Distance.F k a0 a1).bind fun r3 => some (r3, true)))
def spec_TextDistance.C (k : Nat) : Cal → Option CArm := fun c => match c with
  | .f 6 => some (.p [.str] _ (fun x => spec_l4Text.F k x.1) (fun r => (.t .bool r)))
  | .f 7 => some (.p [.str, .str] _ (fun x => spec_l20Distance.F k x.1 x.2.1) (fun r => (.t (.int .i64) r)))
  | _ => none
theorem spec_TextDistance.run (k : Nat) (a0 : ByteArray) (a1 : ByteArray) : runF envX (tabC (spec_TextDistance.C k)) (tabL 17 0 (fun _ => none)) Tryd.f4 [.t .str a0, .t .str a1] (viewR2 (.t (.int .i64)) (.t .bool)) = spec_TextDistance.F k a0 a1 := by kernel_rfl
theorem spec_TextDistance.G (hE : EnvOk Tryd.prog envX) (pv : Nat → Value) (k : Nat) : ∀ cal A, spec_TextDistance.C k cal = some A → ArmOk Tryd.prog envX pv cal A := by
  intro cal A h
  unfold spec_TextDistance.C at h
  split at h
  · cases h; exact fun x y hy => spec_l4Text.good hE pv k x.1 hy
  · cases h; exact fun x y hy => spec_l20Distance.good hE pv k x.1 x.2.1 hy
  · cases h
theorem spec_TextDistance.good (hE : EnvOk Tryd.prog envX) (pv : Nat → Value) (k : Nat) (a0 : ByteArray) (a1 : ByteArray) {y : _} (h : spec_TextDistance.F k a0 a1 = some y) : Meets Tryd.prog envX pv (.f 4) (tvals [.str, .str] (a0, a1, ())) (.tup [.t (.int .i64) y.1, .t .bool y.2]) :=
  fun_plain hE (spec_TextDistance.G hE pv k) (f := 4) (fn := Tryd.f4) (by kernel_rfl) rfl (by kernel_rfl) (by kernel_rfl) ((spec_TextDistance.run k a0 a1).trans h) fun r hr => wk_view2 hr
/-! ### 17 strings.Trim -/
def strings_Trim.F (a0 : ByteArray) (a1 : ByteArray) : Option (ByteArray) := xTrim1 a0 a1
theorem strings_Trim.good (hE : EnvOk Tryd.prog envX) (pv : Nat → Value) (a0 : ByteArray) (a1 : ByteArray) {y : _} (h : strings_Trim.F a0 a1 = some y) : Meets Tryd.prog envX pv (.f 17) (tvals [.str, .str] (a0, a1, ())) (.t .str y) :=
  ext_trim1 (fn := Tryd.f17) (by kernel_rfl) rfl (by kernel_rfl) Tryd.strings_Trim_one h
/-! ### 12 loop.example/g00896/impl.isPrintable -/
def impl_isPrintable.l0 : Nat → ByteArray → Int → Option (Sum Bool ByteArray)
  | 0, _, _ => none
  | k + 1, x0, x3 => bif (decide (x3 < (x0.size : Int))) then (bif decide (0 ≤ x3) then (bif decide (x3 < (x0.size : Int)) then (bif (decide ((bt x0 (x3 : Int).toNat) < 32)) then (some (.inl false)) else (bif decide (0 ≤ x3) then (bif decide (x3 < (x0.size : Int)) then (bif (decide ((bt x0 (x3 : Int).toNat) > 126)) then (some (.inl false)) else (impl_isPrintable.l0 k x0 (IntKind.wrap .i64 (x3 + 1)))) else none) else none)) else none) else none) else (some (.inr x0))
def impl_isPrintable.F (k : Nat) (a0 : ByteArray) : Option (Bool) := (impl_isPrintable.l0 k a0 0).bind fun y1 => match y1 with | .inl z2 => some z2 | .inr z2 => (strings_Trim.F z2 (⟨#[32]⟩ : ByteArray)).bind fun r3 => some (beqS r3 z2)
def impl_isPrintable.C (k : Nat) : Cal → Option CArm := fun c => match c with
  | .f 17 => some (.p [.str, .str] _ (fun x => strings_Trim.F x.1 x.2.1) (fun r => (.t .str r)))
  | _ => none
def impl_isPrintable.sp0 : List Sp := [.t 0 .str, .t 3 (.int .i64)]
def impl_isPrintable.sp0_0 : List Sp := [.t 2 .bool]
def impl_isPrintable.sp0_1 : List Sp := [.t 0 .str]
def impl_isPrintable.A0 : LArm := .two impl_isPrintable.sp0 impl_isPrintable.sp0_0 impl_isPrintable.sp0_1 (Bool) (ByteArray) (fun k x => impl_isPrintable.l0 k x.1 x.2.1) .ret (.exit 0) (fun y => (y, ())) (fun x => x.1) (fun y => (y, ())) (fun x => x.1)
def impl_isPrintable.L : Nat → Option LArm := fun b => match b with
  | 0 => some impl_isPrintable.A0
  | _ => none
theorem impl_isPrintable.run (k : Nat) (a0 : ByteArray) : runF envX (tabC (impl_isPrintable.C k)) (tabL 24 k impl_isPrintable.L) Tryd.f12 [.t .str a0] (viewR1 (.t .bool)) = impl_isPrintable.F k a0 := by kernel_rfl
theorem impl_isPrintable.step0 (k : Nat) (x0 : ByteArray) (x3 : Int) : runC envX (tabC (impl_isPrintable.C k)) (tabL 24 k impl_isPrintable.L) 0 (loopAt Tryd.f12 0) (stOf 24 impl_isPrintable.sp0 (x0, x3, ())) (impl_isPrintable.A0.cont 24 k) = impl_isPrintable.l0 (k + 1) x0 x3 := by kernel_rfl
theorem impl_isPrintable.G (hE : EnvOk Tryd.prog envX) (pv : Nat → Value) (k : Nat) : ∀ cal A, impl_isPrintable.C k cal = some A → ArmOk Tryd.prog envX pv cal A := by
  intro cal A h
  unfold impl_isPrintable.C at h
  split at h
  · cases h; exact fun x y hy => strings_Trim.good hE pv x.1 x.2.1 hy
  · cases h
theorem impl_isPrintable.good (hE : EnvOk Tryd.prog envX) (pv : Nat → Value) (k : Nat) (a0 : ByteArray) {y : _} (h : impl_isPrintable.F k a0 = some y) : Meets Tryd.prog envX pv (.f 12) (tvals [.str] (a0, ())) (.t .bool y) :=
  fun_loops hE (t := impl_isPrintable.C) k (fun k _ => impl_isPrintable.G hE pv k) (f := 12) (fn := Tryd.f12) (by kernel_rfl) rfl (by kernel_rfl) (by kernel_rfl) (lt := impl_isPrintable.L) (by kernel_rfl) (fun b A h => by
    unfold impl_isPrintable.L at h; split at h
    · cases h; exact ⟨by kernel_rfl, by kernel_rfl, by kernel_rfl, fun _ => rfl, fun _ => rfl, fun _ => rfl⟩
    · cases h) (fun b A h => by
    unfold impl_isPrintable.L at h; split at h
    · cases h; exact fun k x => impl_isPrintable.step0 k x.1 x.2.1
    · cases h) ((impl_isPrintable.run k a0).trans h) fun r hr => wk_view1 hr
/-! ### 8 loop.example/g00896/impl.isText -/
def impl_isText.F (k : Nat) (a0 : ByteArray) : Option (Bool) := bif (decide ((a0.size : Int) ≤ 40)) then ((impl_isPrintable.F k a0).bind fun r1 => some r1) else (some false)
def impl_isText.C (k : Nat) : Cal → Option CArm := fun c => match c with
  | .f 12 => some (.p [.str] _ (fun x => impl_isPrintable.F k x.1) (fun r => (.t .bool r)))
  | _ => none
theorem impl_isText.run (k : Nat) (a0 : ByteArray) : runF envX (tabC (impl_isText.C k)) (tabL 10 0 (fun _ => none)) Tryd.f8 [.t .str a0] (viewR1 (.t .bool)) = impl_isText.F k a0 := by kernel_rfl
theorem impl_isText.G (hE : EnvOk Tryd.prog envX) (pv : Nat → Value) (k : Nat) : ∀ cal A, impl_isText.C k cal = some A → ArmOk Tryd.prog envX pv cal A := by
  intro cal A h
  unfold impl_isText.C at h
  split at h
  · cases h; exact fun x y hy => impl_isPrintable.good hE pv k x.1 hy
  · cases h
theorem impl_isText.good (hE : EnvOk Tryd.prog envX) (pv : Nat → Value) (k : Nat) (a0 : ByteArray) {y : _} (h : impl_isText.F k a0 = some y) : Meets Tryd.prog envX pv (.f 8) (tvals [.str] (a0, ())) (.t .bool y) :=
  fun_plain hE (impl_isText.G hE pv k) (f := 8) (fn := Tryd.f8) (by kernel_rfl) rfl (by kernel_rfl) (by kernel_rfl) ((impl_isText.run k a0).trans h) fun r hr => wk_view1 hr
/-! ### 33 loop.example/g00896/impl.isUpper -/
def impl_isUpper.F (a0 : Int) : Option (Bool) := bif (decide (a0 ≥ 65)) then (some (decide (a0 ≤ 90))) else (some false)
def impl_isUpper.C : Cal → Option CArm := fun c => match c with
  | _ => none
theorem impl_isUpper.run (a0 : Int) : runF envX (tabC impl_isUpper.C) (tabL 9 0 (fun _ => none)) Tryd.f33 [.t (.int .u8) a0] (viewR1 (.t .bool)) = impl_isUpper.F a0 := by kernel_rfl
theorem impl_isUpper.G (hE : EnvOk Tryd.prog envX) (pv : Nat → Value) : ∀ cal A, impl_isUpper.C cal = some A → ArmOk Tryd.prog envX pv cal A := by
  intro cal A h
  unfold impl_isUpper.C at h
  cases h
theorem impl_isUpper.good (hE : EnvOk Tryd.prog envX) (pv : Nat → Value) (a0 : Int) {y : _} (h : impl_isUpper.F a0 = some y) : Meets Tryd.prog envX pv (.f 33) (tvals [(.int .u8)] (a0, ())) (.t .bool y) :=
  fun_plain hE (impl_isUpper.G hE pv) (f := 33) (fn := Tryd.f33) (by kernel_rfl) rfl (by kernel_rfl) (by kernel_rfl) ((impl_isUpper.run a0).trans h) fun r hr => wk_view1 hr
/-! ### 18 loop.example/g00896/impl.lower -/
def impl_lower.l0 : Nat → (List Int) → Int → Int → Option ((List Int))
  | 0, _, _, _ => none
  | k + 1, x3, x9, x10 => bif (decide (x10 < x9)) then (bif decide (0 ≤ x10) then (bif decide (x10 < (x3.length : Int)) then ((impl_isUpper.F (x3.getD ((x10 : Int).toNat) 0)).bind fun r1 => bif r1 then (bif decide (0 ≤ x10) then (bif decide (x10 < (x3.length : Int)) then (impl_lower.l0 k (x3.set ((x10 : Int).toNat) (IntKind.wrap .u8 ((IntKind.wrap .u8 ((x3.getD ((x10 : Int).toNat) 0) + 97)) - 65))) x9 (IntKind.wrap .i64 (x10 + 1))) else none) else none) else (impl_lower.l0 k x3 x9 (IntKind.wrap .i64 (x10 + 1)))) else none) else none) else (some x3)
def impl_lower.F (k : Nat) (a0 : ByteArray) : Option (ByteArray) := bif Nat.ble a0.size 9223372036854775807 then ((impl_lower.l0 k (bytesL a0) ((bytesL a0).length : Int) 0).bind fun y2 => some (strL y2)) else none
def impl_lower.C (k : Nat) : Cal → Option CArm := fun c => match c with
  | .f 33 => some (.p [(.int .u8)] _ (fun x => impl_isUpper.F x.1) (fun r => (.t .bool r)))
  | _ => none
def impl_lower.sp0 : List Sp := [.own 3 1028 5 (.int .u8) false false, .con 8 (.own 1028), .t 9 (.int .i64), .t 10 (.int .i64)]
def impl_lower.sp0_0 : List Sp := [.own 3 1028 5 (.int .u8) false false]
def impl_lower.A0 : LArm := .one impl_lower.sp0 impl_lower.sp0_0 ((List Int)) (fun k x => impl_lower.l0 k x.1 x.2.2.1 x.2.2.2.1) (.exit 0) (fun y => (y, ())) (fun x => x.1)
def impl_lower.L : Nat → Option LArm := fun b => match b with
  | 0 => some impl_lower.A0
  | _ => none
theorem impl_lower.run (k : Nat) (a0 : ByteArray) : runF envX (tabC (impl_lower.C k)) (tabL 26 k impl_lower.L) Tryd.f18 [.t .str a0] (viewR1 (.t .str)) = impl_lower.F k a0 := by kernel_rfl
theorem impl_lower.step0 (k : Nat) (x3 : List Int) (x9 : Int) (x10 : Int) : runC envX (tabC (impl_lower.C k)) (tabL 26 k impl_lower.L) 0 (loopAt Tryd.f18 0) (stOf 26 impl_lower.sp0 (x3, (), x9, x10, ())) (impl_lower.A0.cont 26 k) = impl_lower.l0 (k + 1) x3 x9 x10 := by kernel_rfl
theorem impl_lower.G (hE : EnvOk Tryd.prog envX) (pv : Nat → Value) (k : Nat) : ∀ cal A, impl_lower.C k cal = some A → ArmOk Tryd.prog envX pv cal A := by
  intro cal A h
  unfold impl_lower.C at h
  split at h
  · cases h; exact fun x y hy => impl_isUpper.good hE pv x.1 hy
  · cases h
theorem impl_lower.good (hE : EnvOk Tryd.prog envX) (pv : Nat → Value) (k : Nat) (a0 : ByteArray) {y : _} (h : impl_lower.F k a0 = some y) : Meets Tryd.prog envX pv (.f 18) (tvals [.str] (a0, ())) (.t .str y) :=
  fun_loops hE (t := impl_lower.C) k (fun k _ => impl_lower.G hE pv k) (f := 18) (fn := Tryd.f18) (by kernel_rfl) rfl (by kernel_rfl) (by kernel_rfl) (lt := impl_lower.L) (by kernel_rfl) (fun b A h => by
    unfold impl_lower.L at h; split at h
    · cases h; exact ⟨by kernel_rfl, by kernel_rfl, fun _ => rfl, fun _ => rfl⟩
    · cases h) (fun b A h => by
    unfold impl_lower.L at h; split at h
    · cases h; exact fun k x => impl_lower.step0 k x.1 x.2.2.1 x.2.2.2.1
    · cases h) ((impl_lower.run k a0).trans h) fun r hr => wk_view1 hr
/-! ### 19 loop.example/g00896/impl.isLower -/
def impl_isLower.F (a0 : Int) : Option (Bool) := bif (decide (a0 ≥ 97)) then (some (decide (a0 ≤ 122))) else (some false)
def impl_isLower.C : Cal → Option CArm := fun c => match c with
  | _ => none
theorem impl_isLower.run (a0 : Int) : runF envX (tabC impl_isLower.C) (tabL 9 0 (fun _ => none)) Tryd.f19 [.t (.int .u8) a0] (viewR1 (.t .bool)) = impl_isLower.F a0 := by kernel_rfl
theorem impl_isLower.G (hE : EnvOk Tryd.prog envX) (pv : Nat → Value) : ∀ cal A, impl_isLower.C cal = some A → ArmOk Tryd.prog envX pv cal A := by
  intro cal A h
  unfold impl_isLower.C at h
  cases h
theorem impl_isLower.good (hE : EnvOk Tryd.prog envX) (pv : Nat → Value) (a0 : Int) {y : _} (h : impl_isLower.F a0 = some y) : Meets Tryd.prog envX pv (.f 19) (tvals [(.int .u8)] (a0, ())) (.t .bool y) :=
  fun_plain hE (impl_isLower.G hE pv) (f := 19) (fn := Tryd.f19) (by kernel_rfl) rfl (by kernel_rfl) (by kernel_rfl) ((impl_isLower.run a0).trans h) fun r hr => wk_view1 hr
/-! ### 20 loop.example/g00896/impl.isDigit -/
def impl_isDigit.F (a0 : Int) : Option (Bool) := bif (decide (a0 ≥ 48)) then (some (decide (a0 ≤ 57))) else (some false)
def impl_isDigit.C : Cal → Option CArm := fun c => match c with
  | _ => none
theorem impl_isDigit.run (a0 : Int) : runF envX (tabC impl_isDigit.C) (tabL 9 0 (fun _ => none)) Tryd.f20 [.t (.int .u8) a0] (viewR1 (.t .bool)) = impl_isDigit.F a0 := by kernel_rfl
theorem impl_isDigit.G (hE : EnvOk Tryd.prog envX) (pv : Nat → Value) : ∀ cal A, impl_isDigit.C cal = some A → ArmOk Tryd.prog envX pv cal A := by
  intro cal A h
  unfold impl_isDigit.C at h
  cases h
theorem impl_isDigit.good (hE : EnvOk Tryd.prog envX) (pv : Nat → Value) (a0 : Int) {y : _} (h : impl_isDigit.F a0 = some y) : Meets Tryd.prog envX pv (.f 20) (tvals [(.int .u8)] (a0, ())) (.t .bool y) :=
  fun_plain hE (impl_isDigit.G hE pv) (f := 20) (fn := Tryd.f20) (by kernel_rfl) rfl (by kernel_rfl) (by kernel_rfl) ((impl_isDigit.run a0).trans h) fun r hr => wk_view1 hr
/-! ### 21 strings.Join -/
def strings_Join.F (a0 : List ByteArray) (a1 : ByteArray) : Option (ByteArray) := xJoin a0 a1
theorem strings_Join.good (hE : EnvOk Tryd.prog envX) (pv : Nat → Value) (a0 : List ByteArray) (a1 : ByteArray) {y : _} (h : strings_Join.F a0 a1 = some y) : Meets Tryd.prog envX pv (.f 21) (tvals [(.sl .str), .str] (a0, a1, ())) (.t .str y) :=
  ext_join (fn := Tryd.f21) (by kernel_rfl) rfl (by kernel_rfl) Tryd.strings_Join_none Tryd.strings_Join h
-- NO 46 slices.IndexFunc[[]string,string]: a parameter's type
-- NO 37 slices.DeleteFunc[[]string,string]: a parameter's type
/-! ### 38 strings.Split -/
def strings_Split.F (a0 : ByteArray) (a1 : ByteArray) : Option (List ByteArray) := xSplit a0 a1
theorem strings_Split.good (hE : EnvOk Tryd.prog envX) (pv : Nat → Value) (a0 : ByteArray) (a1 : ByteArray) {y : _} (h : strings_Split.F a0 a1 = some y) : Meets Tryd.prog envX pv (.f 38) (tvals [.str, .str] (a0, a1, ())) (.fr 9 .str y) :=
  ext_split (fn := Tryd.f38) (by kernel_rfl) rfl (by kernel_rfl) (mx := 2) (by kernel_rfl) Tryd.strings_Split h
/-! ### 39 loop.example/g00896/impl.wordsOf$1 -/
def impl_wordsOf_1.F (a0 : ByteArray) : Option (Bool) := some (beqS a0 (⟨#[]⟩ : ByteArray))
def impl_wordsOf_1.C : Cal → Option CArm := fun c => match c with
  | _ => none
theorem impl_wordsOf_1.run (a0 : ByteArray) : runF envX (tabC impl_wordsOf_1.C) (tabL 5 0 (fun _ => none)) Tryd.f39 [.t .str a0] (viewR1 (.t .bool)) = impl_wordsOf_1.F a0 := by kernel_rfl
theorem impl_wordsOf_1.G (hE : EnvOk Tryd.prog envX) (pv : Nat → Value) : ∀ cal A, impl_wordsOf_1.C cal = some A → ArmOk Tryd.prog envX pv cal A := by
  intro cal A h
  unfold impl_wordsOf_1.C at h
  cases h
theorem impl_wordsOf_1.good (hE : EnvOk Tryd.prog envX) (pv : Nat → Value) (a0 : ByteArray) {y : _} (h : impl_wordsOf_1.F a0 = some y) : Meets Tryd.prog envX pv (.f 39) (tvals [.str] (a0, ())) (.t .bool y) :=
  fun_plain hE (impl_wordsOf_1.G hE pv) (f := 39) (fn := Tryd.f39) (by kernel_rfl) rfl (by kernel_rfl) (by kernel_rfl) ((impl_wordsOf_1.run a0).trans h) fun r hr => wk_view1 hr
/-! ### 46 slices.IndexFunc[[]string,string] at loop.example/g00896/impl.wordsOf$1 -/
def slices_IndexFunc_string_f39.l0 : Nat → (List ByteArray) → Int → Int → Option (Sum Int Unit)
  | 0, _, _, _ => none
  | k + 1, x0, x7, x8 => bif (decide (x8 < x7)) then (bif decide (0 ≤ x8) then (bif decide (x8 < (x0.length : Int)) then ((impl_wordsOf_1.F (x0.getD (x8 : Int).toNat (⟨#[]⟩ : ByteArray))).bind fun r1 => bif r1 then (some (.inl x8)) else (slices_IndexFunc_string_f39.l0 k x0 x7 (IntKind.wrap .i64 (x8 + 1)))) else none) else none) else (some (.inr ()))
def slices_IndexFunc_string_f39.F (k : Nat) (a0 : List ByteArray) : Option (Int) := (slices_IndexFunc_string_f39.l0 k a0 (a0.length : Int) 0).bind fun y2 => match y2 with | .inl z3 => some z3 | .inr z3 => some (-1)
def slices_IndexFunc_string_f39.C (k : Nat) : Cal → Option CArm := fun c => match c with
  | .f 39 => some (.p [.str] _ (fun x => impl_wordsOf_1.F x.1) (fun r => (.t .bool r)))
  | _ => none
def slices_IndexFunc_string_f39.sp0 : List Sp := [.t 0 (.sl .str), .con 1 (.clo 39), .t 7 (.int .i64), .t 8 (.int .i64)]
def slices_IndexFunc_string_f39.sp0_0 : List Sp := [.t 4 (.int .i64)]
def slices_IndexFunc_string_f39.sp0_1 : List Sp := []
def slices_IndexFunc_string_f39.A0 : LArm := .two slices_IndexFunc_string_f39.sp0 slices_IndexFunc_string_f39.sp0_0 slices_IndexFunc_string_f39.sp0_1 (Int) (Unit) (fun k x => slices_IndexFunc_string_f39.l0 k x.1 x.2.2.1 x.2.2.2.1) .ret (.exit 0) (fun y => (y, ())) (fun x => x.1) (fun y => ()) (fun x => ())
def slices_IndexFunc_string_f39.L : Nat → Option LArm := fun b => match b with
  | 0 => some slices_IndexFunc_string_f39.A0
  | _ => none
theorem slices_IndexFunc_string_f39.run (k : Nat) (a0 : List ByteArray) : runF envX (tabC (slices_IndexFunc_string_f39.C k)) (tabL 19 k slices_IndexFunc_string_f39.L) Tryd.f46 [.t (.sl .str) a0, .clo 39 []] (viewR1 (.t (.int .i64))) = slices_IndexFunc_string_f39.F k a0 := by kernel_rfl
theorem slices_IndexFunc_string_f39.step0 (k : Nat) (x0 : List ByteArray) (x7 : Int) (x8 : Int) : runC envX (tabC (slices_IndexFunc_string_f39.C k)) (tabL 19 k slices_IndexFunc_string_f39.L) 0 (loopAt Tryd.f46 0) (stOf 19 slices_IndexFunc_string_f39.sp0 (x0, (), x7, x8, ())) (slices_IndexFunc_string_f39.A0.cont 19 k) = slices_IndexFunc_string_f39.l0 (k + 1) x0 x7 x8 := by kernel_rfl
theorem slices_IndexFunc_string_f39.G (hE : EnvOk Tryd.prog envX) (pv : Nat → Value) (k : Nat) : ∀ cal A, slices_IndexFunc_string_f39.C k cal = some A → ArmOk Tryd.prog envX pv cal A := by
  intro cal A h
  unfold slices_IndexFunc_string_f39.C at h
  split at h
  · cases h; exact fun x y hy => impl_wordsOf_1.good hE pv x.1 hy
  · cases h
theorem slices_IndexFunc_string_f39.good (hE : EnvOk Tryd.prog envX) (pv : Nat → Value) (k : Nat) (a0 : List ByteArray) {y : _} (h : slices_IndexFunc_string_f39.F k a0 = some y) : Meets Tryd.prog envX pv (.f 46) (pvals [.t (.sl .str), .clo 39 []] (a0, (()), ())) (.t (.int .i64) y) :=
  fun_loops hE (t := slices_IndexFunc_string_f39.C) k (fun k _ => slices_IndexFunc_string_f39.G hE pv k) (f := 46) (fn := Tryd.f46) (by kernel_rfl) rfl (by kernel_rfl) (by kernel_rfl) (lt := slices_IndexFunc_string_f39.L) (by kernel_rfl) (fun b A h => by
    unfold slices_IndexFunc_string_f39.L at h; split at h
    · cases h; exact ⟨by kernel_rfl, by kernel_rfl, by kernel_rfl, fun _ => rfl, fun _ => rfl, fun _ => rfl⟩
    · cases h) (fun b A h => by
    unfold slices_IndexFunc_string_f39.L at h; split at h
    · cases h; exact fun k x => slices_IndexFunc_string_f39.step0 k x.1 x.2.2.1 x.2.2.2.1
    · cases h) ((slices_IndexFunc_string_f39.run k a0).trans h) fun r hr => wk_view1 hr
/-! ### 37 slices.DeleteFunc[[]string,string] at loop.example/g00896/impl.wordsOf$1 -/
def slices_DeleteFunc_string_f39.l0 : Nat → (List ByteArray) → Int → Int → Option ((List ByteArray) × Int)
  | 0, _, _, _ => none
  | k + 1, x0, x5, x6 => bif (decide (x6 < (x0.length : Int))) then (bif decide (0 ≤ x6) then (bif decide (x6 < (x0.length : Int)) then ((impl_wordsOf_1.F (x0.getD ((x6 : Int).toNat) (⟨#[]⟩ : ByteArray))).bind fun r2 => bif (!r2) then (bif decide (0 ≤ x5) then (bif decide (x5 < (x0.length : Int)) then (slices_DeleteFunc_string_f39.l0 k (x0.set ((x5 : Int).toNat) (x0.getD ((x6 : Int).toNat) (⟨#[]⟩ : ByteArray))) (IntKind.wrap .i64 (x5 + 1)) (IntKind.wrap .i64 (x6 + 1))) else none) else none) else (slices_DeleteFunc_string_f39.l0 k x0 x5 (IntKind.wrap .i64 (x6 + 1)))) else none) else none) else (some (x0, x5))
def slices_DeleteFunc_string_f39.F (k : Nat) (a0 : List ByteArray) : Option (List ByteArray) := (slices_IndexFunc_string_f39.F k a0).bind fun r1 => bif (r1 == (-1)) then (some a0) else ((slices_DeleteFunc_string_f39.l0 k a0 r1 (IntKind.wrap .i64 (r1 + 1))).bind fun y3 => bif decide (0 ≤ y3.2) then (bif decide (y3.2 ≤ (y3.1.length : Int)) then (bif decide (0 ≤ y3.2) then (bif decide (y3.2 ≤ ((y3.1.take ((y3.2 : Int).toNat) ++ List.replicate (y3.1.length - ((y3.2 : Int).toNat)) (⟨#[]⟩ : ByteArray)).length : Int)) then (some ((y3.1.take ((y3.2 : Int).toNat) ++ List.replicate (y3.1.length - ((y3.2 : Int).toNat)) (⟨#[]⟩ : ByteArray)).take (y3.2 : Int).toNat)) else none) else none) else none) else none)
def slices_DeleteFunc_string_f39.C (k : Nat) : Cal → Option CArm := fun c => match c with
  | .f 46 => some (.q [.t (.sl .str), .clo 39 []] _ (fun x => slices_IndexFunc_string_f39.F k x.1) (fun r => (.t (.int .i64) r)))
  | .f 39 => some (.p [.str] _ (fun x => impl_wordsOf_1.F x.1) (fun r => (.t .bool r)))
  | _ => none
def slices_DeleteFunc_string_f39.sp0 : List Sp := [.own 0 1099511627777 9 .str false true, .con 1 (.clo 39), .t 5 (.int .i64), .t 6 (.int .i64)]
def slices_DeleteFunc_string_f39.sp0_0 : List Sp := [.own 0 1099511627777 9 .str false true, .t 5 (.int .i64)]
def slices_DeleteFunc_string_f39.A0 : LArm := .one slices_DeleteFunc_string_f39.sp0 slices_DeleteFunc_string_f39.sp0_0 ((List ByteArray) × Int) (fun k x => slices_DeleteFunc_string_f39.l0 k x.1 x.2.2.1 x.2.2.2.1) (.exit 0) (fun y => (y.1, y.2, ())) (fun x => (x.1, x.2.1))
def slices_DeleteFunc_string_f39.L : Nat → Option LArm := fun b => match b with
  | 0 => some slices_DeleteFunc_string_f39.A0
  | _ => none
theorem slices_DeleteFunc_string_f39.run (k : Nat) (a0 : List ByteArray) : runM envX (tabC (slices_DeleteFunc_string_f39.C k)) (tabL 42 k slices_DeleteFunc_string_f39.L) Tryd.f37 mmove (.fr 9 .str a0) [.clo 39 []] (viewMov 9 .str) = slices_DeleteFunc_string_f39.F k a0 := by kernel_rfl
theorem slices_DeleteFunc_string_f39.step0 (k : Nat) (x0 : List ByteArray) (x5 : Int) (x6 : Int) : runC envX (tabC (slices_DeleteFunc_string_f39.C k)) (tabL 42 k slices_DeleteFunc_string_f39.L) 0 (loopAt Tryd.f37 0) (stOf 42 slices_DeleteFunc_string_f39.sp0 (x0, (), x5, x6, ())) (slices_DeleteFunc_string_f39.A0.cont 42 k) = slices_DeleteFunc_string_f39.l0 (k + 1) x0 x5 x6 := by kernel_rfl
theorem slices_DeleteFunc_string_f39.G (hE : EnvOk Tryd.prog envX) (pv : Nat → Value) (k : Nat) : ∀ cal A, slices_DeleteFunc_string_f39.C k cal = some A → ArmOk Tryd.prog envX pv cal A := by
  intro cal A h
  unfold slices_DeleteFunc_string_f39.C at h
  split at h
  · cases h; exact fun x y hy => slices_IndexFunc_string_f39.good hE pv k x.1 hy
  · cases h; exact fun x y hy => impl_wordsOf_1.good hE pv x.1 hy
  · cases h
theorem slices_DeleteFunc_string_f39.good (hE : EnvOk Tryd.prog envX) (pv : Nat → Value) (k : Nat) (a0 : List ByteArray) {y : _} (h : slices_DeleteFunc_string_f39.F k a0 = some y) : MeetsM Tryd.prog envX pv 37 (.fr 9 .str a0) (pvals [.clo 39 []] ((()), ())) (.mov 9 .str y) :=
  funM_loops hE (t := slices_DeleteFunc_string_f39.C) k (fun k _ => slices_DeleteFunc_string_f39.G hE pv k) (f := 37) (fn := Tryd.f37) (by kernel_rfl) rfl (by kernel_rfl) (.inr rfl) (by kernel_rfl) (lt := slices_DeleteFunc_string_f39.L) (by kernel_rfl) (fun b A h => by
    unfold slices_DeleteFunc_string_f39.L at h; split at h
    · cases h; exact ⟨by kernel_rfl, by kernel_rfl, fun _ => rfl, fun _ => rfl⟩
    · cases h) (fun b A h => by
    unfold slices_DeleteFunc_string_f39.L at h; split at h
    · cases h; exact fun k x => slices_DeleteFunc_string_f39.step0 k x.1 x.2.2.1 x.2.2.2.1
    · cases h) ((slices_DeleteFunc_string_f39.run k a0).trans h) fun r hr => wk_viewMov hr
/-! ### 22 loop.example/g00896/impl.wordsOf -/
def impl_wordsOf.F (k : Nat) (a0 : ByteArray) : Option (List ByteArray) := (strings_Split.F a0 (⟨#[32]⟩ : ByteArray)).bind fun r1 => (slices_DeleteFunc_string_f39.F k r1).bind fun r2 => some r2
def impl_wordsOf.C (k : Nat) : Cal → Option CArm := fun c => match c with
  | .f 38 => some (.p [.str, .str] _ (fun x => strings_Split.F x.1 x.2.1) (fun r => (.fr 9 .str r)))
  | .f 37 => some (.mq (.fr 9 .str) [.clo 39 []] _ (fun x0 x => slices_DeleteFunc_string_f39.F k x0) (fun r => .mov 9 .str r))
  | _ => none
theorem impl_wordsOf.run (k : Nat) (a0 : ByteArray) : runF envX (tabC (impl_wordsOf.C k)) (tabL 6 0 (fun _ => none)) Tryd.f22 [.t .str a0] (viewR1 (.fr 9 .str)) = impl_wordsOf.F k a0 := by kernel_rfl
theorem impl_wordsOf.G (hE : EnvOk Tryd.prog envX) (pv : Nat → Value) (k : Nat) : ∀ cal A, impl_wordsOf.C k cal = some A → ArmOk Tryd.prog envX pv cal A := by
  intro cal A h
  unfold impl_wordsOf.C at h
  split at h
  · cases h; exact fun x y hy => strings_Split.good hE pv x.1 x.2.1 hy
  · cases h; exact ⟨_, rfl, fun x0 x y hy => slices_DeleteFunc_string_f39.good hE pv k x0 hy⟩
  · cases h
theorem impl_wordsOf.good (hE : EnvOk Tryd.prog envX) (pv : Nat → Value) (k : Nat) (a0 : ByteArray) {y : _} (h : impl_wordsOf.F k a0 = some y) : Meets Tryd.prog envX pv (.f 22) (tvals [.str] (a0, ())) (.fr 9 .str y) :=
  fun_plain hE (impl_wordsOf.G hE pv k) (f := 22) (fn := Tryd.f22) (by kernel_rfl) rfl (by kernel_rfl) (by kernel_rfl) ((impl_wordsOf.run k a0).trans h) fun r hr => wk_view1 hr
/-! ### 13 loop.example/g00896/impl.plainForm -/
def impl_plainForm.l0 : Nat → (List Int) → (List Int) → Int → Int → Option ((List Int))
  | 0, _, _, _, _ => none
  | k + 1, x3, x9, x10, x11 => bif (decide (x11 < x10)) then (bif decide (0 ≤ x11) then (bif decide (x11 < (x9.length : Int)) then ((impl_isLower.F (x9.getD ((x11 : Int).toNat) 0)).bind fun r2 => bif r2 then (bif room (x3.length + ([(x9.getD ((x11 : Int).toNat) 0)] : List Int).length) (.int .u8) then (impl_plainForm.l0 k (x3 ++ ([(x9.getD ((x11 : Int).toNat) 0)] : List Int)) x9 x10 (IntKind.wrap .i64 (x11 + 1))) else none) else ((impl_isDigit.F (x9.getD ((x11 : Int).toNat) 0)).bind fun r3 => bif r3 then (bif room (x3.length + ([(x9.getD ((x11 : Int).toNat) 0)] : List Int).length) (.int .u8) then (impl_plainForm.l0 k (x3 ++ ([(x9.getD ((x11 : Int).toNat) 0)] : List Int)) x9 x10 (IntKind.wrap .i64 (x11 + 1))) else none) else (bif ((x9.getD ((x11 : Int).toNat) 0) == 32) then (bif room (x3.length + ([(x9.getD ((x11 : Int).toNat) 0)] : List Int).length) (.int .u8) then (impl_plainForm.l0 k (x3 ++ ([(x9.getD ((x11 : Int).toNat) 0)] : List Int)) x9 x10 (IntKind.wrap .i64 (x11 + 1))) else none) else (impl_plainForm.l0 k x3 x9 x10 (IntKind.wrap .i64 (x11 + 1)))))) else none) else none) else (some x3)
def impl_plainForm.F (k : Nat) (a0 : ByteArray) : Option (ByteArray) := (impl_lower.F k a0).bind fun r1 => bif Nat.ble r1.size 9223372036854775807 then ((impl_plainForm.l0 k ([] : List Int) (bytesL r1) ((bytesL r1).length : Int) 0).bind fun y4 => (impl_wordsOf.F k (strL y4)).bind fun r5 => (strings_Join.F r5 (⟨#[32]⟩ : ByteArray)).bind fun r6 => some r6) else none
def impl_plainForm.C (k : Nat) : Cal → Option CArm := fun c => match c with
  | .f 18 => some (.p [.str] _ (fun x => impl_lower.F k x.1) (fun r => (.t .str r)))
  | .f 19 => some (.p [(.int .u8)] _ (fun x => impl_isLower.F x.1) (fun r => (.t .bool r)))
  | .f 20 => some (.p [(.int .u8)] _ (fun x => impl_isDigit.F x.1) (fun r => (.t .bool r)))
  | .f 22 => some (.p [.str] _ (fun x => impl_wordsOf.F k x.1) (fun r => (.fr 9 .str r)))
  | .f 21 => some (.p [(.sl .str), .str] _ (fun x => strings_Join.F x.1 x.2.1) (fun r => (.t .str r)))
  | _ => none
def impl_plainForm.sp0 : List Sp := [.own 3 1024 5 (.int .u8) false true, .own 9 2056 5 (.int .u8) false false, .t 10 (.int .i64), .t 11 (.int .i64)]
def impl_plainForm.sp0_0 : List Sp := [.own 3 1024 5 (.int .u8) false true]
def impl_plainForm.A0 : LArm := .one impl_plainForm.sp0 impl_plainForm.sp0_0 ((List Int)) (fun k x => impl_plainForm.l0 k x.1 x.2.1 x.2.2.1 x.2.2.2.1) (.exit 0) (fun y => (y, ())) (fun x => x.1)
def impl_plainForm.L : Nat → Option LArm := fun b => match b with
  | 0 => some impl_plainForm.A0
  | _ => none
theorem impl_plainForm.run (k : Nat) (a0 : ByteArray) : runF envX (tabC (impl_plainForm.C k)) (tabL 34 k impl_plainForm.L) Tryd.f13 [.t .str a0] (viewR1 (.t .str)) = impl_plainForm.F k a0 := by kernel_rfl
theorem impl_plainForm.step0 (k : Nat) (x3 : List Int) (x9 : List Int) (x10 : Int) (x11 : Int) : runC envX (tabC (impl_plainForm.C k)) (tabL 34 k impl_plainForm.L) 0 (loopAt Tryd.f13 0) (stOf 34 impl_plainForm.sp0 (x3, x9, x10, x11, ())) (impl_plainForm.A0.cont 34 k) = impl_plainForm.l0 (k + 1) x3 x9 x10 x11 := by kernel_rfl
theorem impl_plainForm.G (hE : EnvOk Tryd.prog envX) (pv : Nat → Value) (k : Nat) : ∀ cal A, impl_plainForm.C k cal = some A → ArmOk Tryd.prog envX pv cal A := by
  intro cal A h
  unfold impl_plainForm.C at h
  split at h
  · cases h; exact fun x y hy => impl_lower.good hE pv k x.1 hy
  · cases h; exact fun x y hy => impl_isLower.good hE pv x.1 hy
  · cases h; exact fun x y hy => impl_isDigit.good hE pv x.1 hy
  · cases h; exact fun x y hy => impl_wordsOf.good hE pv k x.1 hy
  · cases h; exact fun x y hy => strings_Join.good hE pv x.1 x.2.1 hy
  · cases h
theorem impl_plainForm.good (hE : EnvOk Tryd.prog envX) (pv : Nat → Value) (k : Nat) (a0 : ByteArray) {y : _} (h : impl_plainForm.F k a0 = some y) : Meets Tryd.prog envX pv (.f 13) (tvals [.str] (a0, ())) (.t .str y) :=
  fun_loops hE (t := impl_plainForm.C) k (fun k _ => impl_plainForm.G hE pv k) (f := 13) (fn := Tryd.f13) (by kernel_rfl) rfl (by kernel_rfl) (by kernel_rfl) (lt := impl_plainForm.L) (by kernel_rfl) (fun b A h => by
    unfold impl_plainForm.L at h; split at h
    · cases h; exact ⟨by kernel_rfl, by kernel_rfl, fun _ => rfl, fun _ => rfl⟩
    · cases h) (fun b A h => by
    unfold impl_plainForm.L at h; split at h
    · cases h; exact fun k x => impl_plainForm.step0 k x.1 x.2.1 x.2.2.1 x.2.2.2.1
    · cases h) ((impl_plainForm.run k a0).trans h) fun r hr => wk_view1 hr
/-! ### 9 loop.example/g00896/impl.textDistance -/
def impl_textDistance.l0 : Nat → ByteArray → ByteArray → (List Int) → Int → Int → Option (ByteArray × ByteArray × (List Int))
  | 0, _, _, _, _, _ => none
  | k + 1, x0, x1, x5, x18, x19 => bif (decide (x19 < x18)) then (bif room (x5.length + ([x19] : List Int).length) (.int .i64) then (impl_textDistance.l0 k x0 x1 (x5 ++ ([x19] : List Int)) x18 (IntKind.wrap .i64 (x19 + 1))) else none) else (some (x0, x1, x5))
def impl_textDistance.l4 : Nat → ByteArray → ByteArray → (List Int) → Int → (List Int) → Int → Option (ByteArray × ByteArray × Int × (List Int))
  | 0, _, _, _, _, _, _ => none
  | k + 1, x0, x1, x5, x7, x8, x9 => bif (decide (x9 ≤ (x1.size : Int))) then (bif decide (0 ≤ (IntKind.wrap .i64 (x7 - 1))) then (bif decide ((IntKind.wrap .i64 (x7 - 1)) < (x0.size : Int)) then (bif decide (0 ≤ (IntKind.wrap .i64 (x9 - 1))) then (bif decide ((IntKind.wrap .i64 (x9 - 1)) < (x1.size : Int)) then (bif ((bt x0 ((IntKind.wrap .i64 (x7 - 1)) : Int).toNat) == (bt x1 ((IntKind.wrap .i64 (x9 - 1)) : Int).toNat)) then (bif decide (0 ≤ x9) then (bif decide (x9 < (x5.length : Int)) then (bif decide (0 ≤ (IntKind.wrap .i64 (x9 - 1))) then (bif decide ((IntKind.wrap .i64 (x9 - 1)) < (x8.length : Int)) then (bif decide (0 ≤ (IntKind.wrap .i64 (x9 - 1))) then (bif decide ((IntKind.wrap .i64 (x9 - 1)) < (x5.length : Int)) then (bif room (x8.length + ([(if (IntKind.wrap .i64 ((x5.getD (((IntKind.wrap .i64 (x9 - 1)) : Int).toNat) 0) + 0)) < (if (IntKind.wrap .i64 ((x8.getD (((IntKind.wrap .i64 (x9 - 1)) : Int).toNat) 0) + 1)) < (IntKind.wrap .i64 ((x5.getD ((x9 : Int).toNat) 0) + 1)) then (IntKind.wrap .i64 ((x8.getD (((IntKind.wrap .i64 (x9 - 1)) : Int).toNat) 0) + 1)) else (IntKind.wrap .i64 ((x5.getD ((x9 : Int).toNat) 0) + 1))) then (IntKind.wrap .i64 ((x5.getD (((IntKind.wrap .i64 (x9 - 1)) : Int).toNat) 0) + 0)) else (if (IntKind.wrap .i64 ((x8.getD (((IntKind.wrap .i64 (x9 - 1)) : Int).toNat) 0) + 1)) < (IntKind.wrap .i64 ((x5.getD ((x9 : Int).toNat) 0) + 1)) then (IntKind.wrap .i64 ((x8.getD (((IntKind.wrap .i64 (x9 - 1)) : Int).toNat) 0) + 1)) else (IntKind.wrap .i64 ((x5.getD ((x9 : Int).toNat) 0) + 1))))] : List Int).length) (.int .i64) then (impl_textDistance.l4 k x0 x1 x5 x7 (x8 ++ ([(if (IntKind.wrap .i64 ((x5.getD (((IntKind.wrap .i64 (x9 - 1)) : Int).toNat) 0) + 0)) < (if (IntKind.wrap .i64 ((x8.getD (((IntKind.wrap .i64 (x9 - 1)) : Int).toNat) 0) + 1)) < (IntKind.wrap .i64 ((x5.getD ((x9 : Int).toNat) 0) + 1)) then (IntKind.wrap .i64 ((x8.getD (((IntKind.wrap .i64 (x9 - 1)) : Int).toNat) 0) + 1)) else (IntKind.wrap .i64 ((x5.getD ((x9 : Int).toNat) 0) + 1))) then (IntKind.wrap .i64 ((x5.getD (((IntKind.wrap .i64 (x9 - 1)) : Int).toNat) 0) + 0)) else (if (IntKind.wrap .i64 ((x8.getD (((IntKind.wrap .i64 (x9 - 1)) : Int).toNat) 0) + 1)) < (IntKind.wrap .i64 ((x5.getD ((x9 : Int).toNat) 0) + 1)) then (IntKind.wrap .i64 ((x8.getD (((IntKind.wrap .i64 (x9 - 1)) : Int).toNat) 0) + 1)) else (IntKind.wrap .i64 ((x5.getD ((x9 : Int).toNat) 0) + 1))))] : List Int)) (IntKind.wrap .i64 (x9 + 1))) else none) else none) else none) else none) else none) else none) else none) else (bif decide (0 ≤ x9) then (bif decide (x9 < (x5.length : Int)) then (bif decide (0 ≤ (IntKind.wrap .i64 (x9 - 1))) then (bif decide ((IntKind.wrap .i64 (x9 - 1)) < (x8.length : Int)) then (bif decide (0 ≤ (IntKind.wrap .i64 (x9 - 1))) then (bif decide ((IntKind.wrap .i64 (x9 - 1)) < (x5.length : Int)) then (bif room (x8.length + ([(if (IntKind.wrap .i64 ((x5.getD (((IntKind.wrap .i64 (x9 - 1)) : Int).toNat) 0) + 1)) < (if (IntKind.wrap .i64 ((x8.getD (((IntKind.wrap .i64 (x9 - 1)) : Int).toNat) 0) + 1)) < (IntKind.wrap .i64 ((x5.getD ((x9 : Int).toNat) 0) + 1)) then (IntKind.wrap .i64 ((x8.getD (((IntKind.wrap .i64 (x9 - 1)) : Int).toNat) 0) + 1)) else (IntKind.wrap .i64 ((x5.getD ((x9 : Int).toNat) 0) + 1))) then (IntKind.wrap .i64 ((x5.getD (((IntKind.wrap .i64 (x9 - 1)) : Int).toNat) 0) + 1)) else (if (IntKind.wrap .i64 ((x8.getD (((IntKind.wrap .i64 (x9 - 1)) : Int).toNat) 0) + 1)) < (IntKind.wrap .i64 ((x5.getD ((x9 : Int).toNat) 0) + 1)) then (IntKind.wrap .i64 ((x8.getD (((IntKind.wrap .i64 (x9 - 1)) : Int).toNat) 0) + 1)) else (IntKind.wrap .i64 ((x5.getD ((x9 : Int).toNat) 0) + 1))))] : List Int).length) (.int .i64) then (impl_textDistance.l4 k x0 x1 x5 x7 (x8 ++ ([(if (IntKind.wrap .i64 ((x5.getD (((IntKind.wrap .i64 (x9 - 1)) : Int).toNat) 0) + 1)) < (if (IntKind.wrap .i64 ((x8.getD (((IntKind.wrap .i64 (x9 - 1)) : Int).toNat) 0) + 1)) < (IntKind.wrap .i64 ((x5.getD ((x9 : Int).toNat) 0) + 1)) then (IntKind.wrap .i64 ((x8.getD (((IntKind.wrap .i64 (x9 - 1)) : Int).toNat) 0) + 1)) else (IntKind.wrap .i64 ((x5.getD ((x9 : Int).toNat) 0) + 1))) then (IntKind.wrap .i64 ((x5.getD (((IntKind.wrap .i64 (x9 - 1)) : Int).toNat) 0) + 1)) else (if (IntKind.wrap .i64 ((x8.getD (((IntKind.wrap .i64 (x9 - 1)) : Int).toNat) 0) + 1)) < (IntKind.wrap .i64 ((x5.getD ((x9 : Int).toNat) 0) + 1)) then (IntKind.wrap .i64 ((x8.getD (((IntKind.wrap .i64 (x9 - 1)) : Int).toNat) 0) + 1)) else (IntKind.wrap .i64 ((x5.getD ((x9 : Int).toNat) 0) + 1))))] : List Int)) (IntKind.wrap .i64 (x9 + 1))) else none) else none) else none) else none) else none) else none) else none)) else none) else none) else none) else none) else (some (x0, x1, x7, x8))
def impl_textDistance.l2 : Nat → ByteArray → ByteArray → (List Int) → Int → Option (ByteArray × (List Int))
  | 0, _, _, _, _ => none
  | k + 1, x0, x1, x5, x7 => bif (decide (x7 ≤ (x0.size : Int))) then ((impl_textDistance.l4 k x0 x1 x5 x7 ([x7] : List Int) 1).bind fun y4 => impl_textDistance.l2 k y4.1 y4.2.1 y4.2.2.2 (IntKind.wrap .i64 (y4.2.2.1 + 1))) else (some (x1, x5))
def impl_textDistance.F (k : Nat) (a0 : ByteArray) (a1 : ByteArray) : Option (Int) := (impl_plainForm.F k a0).bind fun r1 => (impl_plainForm.F k a1).bind fun r2 => (impl_textDistance.l0 k r1 r2 ([] : List Int) (IntKind.wrap .i64 ((r2.size : Int) + 1)) 0).bind fun y3 => (impl_textDistance.l2 k y3.1 y3.2.1 y3.2.2 1).bind fun y5 => bif decide (0 ≤ (y5.1.size : Int)) then (bif decide ((y5.1.size : Int) < (y5.2.length : Int)) then (some (y5.2.getD (((y5.1.size : Int) : Int).toNat) 0)) else none) else none
def impl_textDistance.C (k : Nat) : Cal → Option CArm := fun c => match c with
  | .f 13 => some (.p [.str] _ (fun x => impl_plainForm.F k x.1) (fun r => (.t .str r)))
  | _ => none
def impl_textDistance.sp0 : List Sp := [.t 0 .str, .t 1 .str, .own 5 2048 3 (.int .i64) false true, .t 18 (.int .i64), .t 19 (.int .i64)]
def impl_textDistance.sp0_0 : List Sp := [.t 0 .str, .t 1 .str, .own 5 2048 3 (.int .i64) false true]
def impl_textDistance.A0 : LArm := .one impl_textDistance.sp0 impl_textDistance.sp0_0 (ByteArray × ByteArray × (List Int)) (fun k x => impl_textDistance.l0 k x.1 x.2.1 x.2.2.1 x.2.2.2.1 x.2.2.2.2.1) (.exit 0) (fun y => (y.1, y.2.1, y.2.2, ())) (fun x => (x.1, x.2.1, x.2.2.1))
def impl_textDistance.sp4 : List Sp := [.t 0 .str, .t 1 .str, .own 5 2048 3 (.int .i64) false true, .t 7 (.int .i64), .own 8 11268 3 (.int .i64) false true, .t 9 (.int .i64)]
def impl_textDistance.sp4_0 : List Sp := [.t 0 .str, .t 1 .str, .t 7 (.int .i64), .own 8 11268 3 (.int .i64) false true]
def impl_textDistance.A4 : LArm := .one impl_textDistance.sp4 impl_textDistance.sp4_0 (ByteArray × ByteArray × Int × (List Int)) (fun k x => impl_textDistance.l4 k x.1 x.2.1 x.2.2.1 x.2.2.2.1 x.2.2.2.2.1 x.2.2.2.2.2.1) (.exit 4) (fun y => (y.1, y.2.1, y.2.2.1, y.2.2.2, ())) (fun x => (x.1, x.2.1, x.2.2.1, x.2.2.2.1))
def impl_textDistance.sp2 : List Sp := [.t 0 .str, .t 1 .str, .own 5 2048 3 (.int .i64) false true, .t 7 (.int .i64)]
def impl_textDistance.sp2_0 : List Sp := [.t 1 .str, .own 5 2048 3 (.int .i64) false true]
def impl_textDistance.A2 : LArm := .one impl_textDistance.sp2 impl_textDistance.sp2_0 (ByteArray × (List Int)) (fun k x => impl_textDistance.l2 k x.1 x.2.1 x.2.2.1 x.2.2.2.1) (.exit 2) (fun y => (y.1, y.2, ())) (fun x => (x.1, x.2.1))
def impl_textDistance.L : Nat → Option LArm := fun b => match b with
  | 0 => some impl_textDistance.A0
  | 4 => some impl_textDistance.A4
  | 2 => some impl_textDistance.A2
  | _ => none
theorem impl_textDistance.run (k : Nat) (a0 : ByteArray) (a1 : ByteArray) : runF envX (tabC (impl_textDistance.C k)) (tabL 78 k impl_textDistance.L) Tryd.f9 [.t .str a0, .t .str a1] (viewR1 (.t (.int .i64))) = impl_textDistance.F k a0 a1 := by kernel_rfl
theorem impl_textDistance.step0 (k : Nat) (x0 : ByteArray) (x1 : ByteArray) (x5 : List Int) (x18 : Int) (x19 : Int) : runC envX (tabC (impl_textDistance.C k)) (tabL 78 k impl_textDistance.L) 0 (loopAt Tryd.f9 0) (stOf 78 impl_textDistance.sp0 (x0, x1, x5, x18, x19, ())) (impl_textDistance.A0.cont 78 k) = impl_textDistance.l0 (k + 1) x0 x1 x5 x18 x19 := by kernel_rfl
theorem impl_textDistance.step4 (k : Nat) (x0 : ByteArray) (x1 : ByteArray) (x5 : List Int) (x7 : Int) (x8 : List Int) (x9 : Int) : runC envX (tabC (impl_textDistance.C k)) (tabL 78 k impl_textDistance.L) 4 (loopAt Tryd.f9 4) (stOf 78 impl_textDistance.sp4 (x0, x1, x5, x7, x8, x9, ())) (impl_textDistance.A4.cont 78 k) = impl_textDistance.l4 (k + 1) x0 x1 x5 x7 x8 x9 := by kernel_rfl
theorem impl_textDistance.step2 (k : Nat) (x0 : ByteArray) (x1 : ByteArray) (x5 : List Int) (x7 : Int) : runC envX (tabC (impl_textDistance.C k)) (tabL 78 k impl_textDistance.L) 2 (loopAt Tryd.f9 2) (stOf 78 impl_textDistance.sp2 (x0, x1, x5, x7, ())) (impl_textDistance.A2.cont 78 k) = impl_textDistance.l2 (k + 1) x0 x1 x5 x7 := by kernel_rfl
theorem impl_textDistance.G (hE : EnvOk Tryd.prog envX) (pv : Nat → Value) (k : Nat) : ∀ cal A, impl_textDistance.C k cal = some A → ArmOk Tryd.prog envX pv cal A := by
  intro cal A h
  unfold impl_textDistance.C at h
  split at h
  · cases h; exact fun x y hy => impl_plainForm.good hE pv k x.1 hy
  · cases h
theorem impl_textDistance.good (hE : EnvOk Tryd.prog envX) (pv : Nat → Value) (k : Nat) (a0 : ByteArray) (a1 : ByteArray) {y : _} (h : impl_textDistance.F k a0 a1 = some y) : Meets Tryd.prog envX pv (.f 9) (tvals [.str, .str] (a0, a1, ())) (.t (.int .i64) y) :=
  fun_loops hE (t := impl_textDistance.C) k (fun k _ => impl_textDistance.G hE pv k) (f := 9) (fn := Tryd.f9) (by kernel_rfl) rfl (by kernel_rfl) (by kernel_rfl) (lt := impl_textDistance.L) (by kernel_rfl) (fun b A h => by
    unfold impl_textDistance.L at h; split at h
    · cases h; exact ⟨by kernel_rfl, by kernel_rfl, fun _ => rfl, fun _ => rfl⟩
    · cases h; exact ⟨by kernel_rfl, by kernel_rfl, fun _ => rfl, fun _ => rfl⟩
    · cases h; exact ⟨by kernel_rfl, by kernel_rfl, fun _ => rfl, fun _ => rfl⟩
    · cases h) (fun b A h => by
    unfold impl_textDistance.L at h; split at h
    · cases h; exact fun k x => impl_textDistance.step0 k x.1 x.2.1 x.2.2.1 x.2.2.2.1 x.2.2.2.2.1
    · cases h; exact fun k x => impl_textDistance.step4 k x.1 x.2.1 x.2.2.1 x.2.2.2.1 x.2.2.2.2.1 x.2.2.2.2.2.1
    · cases h; exact fun k x => impl_textDistance.step2 k x.1 x.2.1 x.2.2.1 x.2.2.2.1
    · cases h) ((impl_textDistance.run k a0 a1).trans h) fun r hr => wk_view1 hr
/-! ### 5 loop.example/g00896/impl.TextDistance -/
def impl_TextDistance.F (k : Nat) (a0 : ByteArray) (a1 : ByteArray) : Option (Int × Bool) := (impl_isText.F k a0).bind fun r1 => bif (!r1) then (some (0, false)) else ((impl_isText.F k a1).bind fun r2 => bif (!r2) then (some (0, false)) else ((impl_textDistance.F k a0 a1).bind fun r3 => some (r3, true)))
def impl_TextDistance.C (k : Nat) : Cal → Option CArm := fun c => match c with
  | .f 8 => some (.p [.str] _ (fun x => impl_isText.F k x.1) (fun r => (.t .bool r)))
  | .f 9 => some (.p [.str, .str] _ (fun x => impl_textDistance.F k x.1 x.2.1) (fun r => (.t (.int .i64) r)))
  | _ => none
theorem impl_TextDistance.run (k : Nat) (a0 : ByteArray) (a1 : ByteArray) : runF envX (tabC (impl_TextDistance.C k)) (tabL 17 0 (fun _ => none)) Tryd.f5 [.t .str a0, .t .str a1] (viewR2 (.t (.int .i64)) (.t .bool)) = impl_TextDistance.F k a0 a1 := by kernel_rfl
theorem impl_TextDistance.G (hE : EnvOk Tryd.prog envX) (pv : Nat → Value) (k : Nat) : ∀ cal A, impl_TextDistance.C k cal = some A → ArmOk Tryd.prog envX pv cal A := by
  intro cal A h
  unfold impl_TextDistance.C at h
  split at h
  · cases h; exact fun x y hy => impl_isText.good hE pv k x.1 hy
  · cases h; exact fun x y hy => impl_textDistance.good hE pv k x.1 x.2.1 hy
  · cases h
theorem impl_TextDistance.good (hE : EnvOk Tryd.prog envX) (pv : Nat → Value) (k : Nat) (a0 : ByteArray) (a1 : ByteArray) {y : _} (h : impl_TextDistance.F k a0 a1 = some y) : Meets Tryd.prog envX pv (.f 5) (tvals [.str, .str] (a0, a1, ())) (.tup [.t (.int .i64) y.1, .t .bool y.2]) :=
  fun_plain hE (impl_TextDistance.G hE pv k) (f := 5) (fn := Tryd.f5) (by kernel_rfl) rfl (by kernel_rfl) (by kernel_rfl) ((impl_TextDistance.run k a0 a1).trans h) fun r hr => wk_view2 hr
/-! ### 3 loop.example/g00896/laws.FnExactTextDistance -/
def laws_FnExactTextDistance.F (k : Nat) (a0 : ByteArray) (a1 : ByteArray) : Option (Bool) := bif (decide ((a0.size : Int) > 1048576)) then (some true) else (bif (decide ((a1.size : Int) > 1048576)) then (some true) else ((spec_TextDistance.F k a0 a1).bind fun r1 => (impl_TextDistance.F k a0 a1).bind fun r2 => bif (r2.1 != r1.1) then (some false) else (bif (!(r2.2 == r1.2)) then (some false) else (some true))))
def laws_FnExactTextDistance.C (k : Nat) : Cal → Option CArm := fun c => match c with
  | .f 4 => some (.p [.str, .str] _ (fun x => spec_TextDistance.F k x.1 x.2.1) (fun r => (.tup [.t (.int .i64) r.1, .t .bool r.2])))
  | .f 5 => some (.p [.str, .str] _ (fun x => impl_TextDistance.F k x.1 x.2.1) (fun r => (.tup [.t (.int .i64) r.1, .t .bool r.2])))
  | _ => none
theorem laws_FnExactTextDistance.run (k : Nat) (a0 : ByteArray) (a1 : ByteArray) : runF envX (tabC (laws_FnExactTextDistance.C k)) (tabL 35 0 (fun _ => none)) Tryd.f3 [.t .str a0, .t .str a1] (viewR1 (.t .bool)) = laws_FnExactTextDistance.F k a0 a1 := by kernel_rfl
theorem laws_FnExactTextDistance.G (hE : EnvOk Tryd.prog envX) (pv : Nat → Value) (k : Nat) : ∀ cal A, laws_FnExactTextDistance.C k cal = some A → ArmOk Tryd.prog envX pv cal A := by
  intro cal A h
  unfold laws_FnExactTextDistance.C at h
  split at h
  · cases h; exact fun x y hy => spec_TextDistance.good hE pv k x.1 x.2.1 hy
  · cases h; exact fun x y hy => impl_TextDistance.good hE pv k x.1 x.2.1 hy
  · cases h
theorem laws_FnExactTextDistance.good (hE : EnvOk Tryd.prog envX) (pv : Nat → Value) (k : Nat) (a0 : ByteArray) (a1 : ByteArray) {y : _} (h : laws_FnExactTextDistance.F k a0 a1 = some y) : Meets Tryd.prog envX pv (.f 3) (tvals [.str, .str] (a0, a1, ())) (.t .bool y) :=
  fun_plain hE (laws_FnExactTextDistance.G hE pv k) (f := 3) (fn := Tryd.f3) (by kernel_rfl) rfl (by kernel_rfl) (by kernel_rfl) ((laws_FnExactTextDistance.run k a0 a1).trans h) fun r hr => wk_view1 hr
end Go.Proofs.YtdbfalcfejhjfaaDoor
end
section
/- What a printed function answers with rounds enough; plain lemmas. -/
namespace Go.Gx
set_option linter.unusedVariables false
set_option linter.unusedSimpArgs false

/-- With rounds enough f answers r. -/
def Ev {α : Type} (f : Nat → Option α) (r : α) : Prop := ∃ K, ∀ k, K ≤ k → f k = some r
theorem Ev.pure {α : Type} (r : α) : Ev (fun _ => some r) r := ⟨0, fun _ _ => rfl⟩
theorem Ev.const {α : Type} {f : Option α} {r : α} (h : f = some r) : Ev (fun _ => f) r := ⟨0, fun _ _ => h⟩
theorem Ev.bind {α β : Type} {f : Nat → Option α} {g : Nat → α → Option β} {a : α} {b : β} (hf : Ev f a) (hg : Ev (fun k => g k a) b) : Ev (fun k => (f k).bind (g k)) b := by
  obtain ⟨K, hK⟩ := hf
  obtain ⟨L, hL⟩ := hg
  exact ⟨max K L, fun k hk => by show (f k).bind (g k) = some b; rw [hK k (by omega), Option.bind_some]; exact hL k (by omega)⟩
/-- .. where what is bound takes no rounds. -/
theorem Ev.bind0 {α β : Type} {f : Option α} {g : Nat → α → Option β} {a : α} {b : β} (hf : f = some a) (hg : Ev (fun k => g k a) b) : Ev (fun k => f.bind (g k)) b := by
  subst hf; exact hg
theorem Ev.step {α : Type} {f g : Nat → Option α} {r : α} (h : ∀ k, f (k + 1) = g k) (hg : Ev g r) : Ev f r := by
  obtain ⟨K, hK⟩ := hg
  exact ⟨K + 1, fun k hk => by obtain ⟨m, rfl⟩ : ∃ m, k = m + 1 := ⟨k - 1, by omega⟩; rw [h]; exact hK m (by omega)⟩
theorem Ev.congr {α : Type} {f g : Nat → Option α} {r : α} (hg : Ev g r) (h : ∀ k, f k = g k) : Ev f r := by
  obtain ⟨K, hK⟩ := hg
  exact ⟨K, fun k hk => by rw [h]; exact hK k hk⟩
theorem Ev.eq {α : Type} {f : Nat → Option α} {r s : α} (h : Ev f r) (e : r = s) : Ev f s := e ▸ h
theorem Ev.get {α : Type} {f : Nat → Option α} {r : α} (h : Ev f r) : ∃ k, f k = some r := by
  obtain ⟨K, hK⟩ := h; exact ⟨K, hK K (Nat.le_refl K)⟩
theorem Ev.uniq {α : Type} {f : Nat → Option α} {r s : α} (h : Ev f r) (h' : Ev f s) : r = s := by
  obtain ⟨K, hK⟩ := h
  obtain ⟨L, hL⟩ := h'
  have := (hK (max K L) (by omega)).symm.trans (hL (max K L) (by omega))
  exact Option.some.inj this
theorem Ev.cond {α : Type} {b : Bool} {f g : Nat → Option α} {r : α} (h1 : b = true → Ev f r) (h2 : b = false → Ev g r) : Ev (fun k => cond b (f k) (g k)) r := by
  cases b with
  | true => exact h1 rfl
  | false => exact h2 rfl
theorem Ev.inl {α β γ : Type} {f : Nat → Option (Sum α β)} {g : Nat → α → Option γ} {h : Nat → β → Option γ} {a : α} {r : γ} (hf : Ev f (.inl a)) (hg : Ev (fun k => g k a) r) : Ev (fun k => (f k).bind fun y => match y with | .inl z => g k z | .inr z => h k z) r := Ev.bind hf hg
theorem Ev.inr {α β γ : Type} {f : Nat → Option (Sum α β)} {g : Nat → α → Option γ} {h : Nat → β → Option γ} {a : β} {r : γ} (hf : Ev f (.inr a)) (hg : Ev (fun k => h k a) r) : Ev (fun k => (f k).bind fun y => match y with | .inl z => g k z | .inr z => h k z) r := Ev.bind hf hg
/-- With rounds enough f answers something of this kind. -/
def EvP {α : Type} (f : Nat → Option α) (P : α → Prop) : Prop := ∃ r, Ev f r ∧ P r
theorem EvP.pure {α : Type} {P : α → Prop} (r : α) (h : P r) : EvP (fun _ => some r) P := ⟨r, Ev.pure r, h⟩
theorem EvP.bind {α β : Type} {f : Nat → Option α} {g : Nat → α → Option β} {P : α → Prop} {Q : β → Prop} (hf : EvP f P) (hg : ∀ a, P a → EvP (fun k => g k a) Q) : EvP (fun k => (f k).bind (g k)) Q := by
  obtain ⟨a, h1, h2⟩ := hf
  obtain ⟨r, h3, h4⟩ := hg a h2
  exact ⟨r, Ev.bind h1 h3, h4⟩
theorem EvP.of {α β : Type} {f : Nat → Option α} {g : Nat → α → Option β} {a : α} {Q : β → Prop} (hf : Ev f a) (hg : EvP (fun k => g k a) Q) : EvP (fun k => (f k).bind (g k)) Q := by
  obtain ⟨r, h3, h4⟩ := hg
  exact ⟨r, Ev.bind hf h3, h4⟩
theorem EvP.of0 {α β : Type} {f : Option α} {g : Nat → α → Option β} {a : α} {Q : β → Prop} (hf : f = some a) (hg : EvP (fun k => g k a) Q) : EvP (fun k => f.bind (g k)) Q := by
  subst hf; exact hg
theorem EvP.step {α : Type} {f g : Nat → Option α} {P : α → Prop} (h : ∀ k, f (k + 1) = g k) (hg : EvP g P) : EvP f P := by
  obtain ⟨r, h1, h2⟩ := hg
  exact ⟨r, Ev.step h h1, h2⟩
theorem EvP.mono {α : Type} {f : Nat → Option α} {P Q : α → Prop} (h : EvP f P) (hq : ∀ r, P r → Q r) : EvP f Q := by
  obtain ⟨r, h1, h2⟩ := h
  exact ⟨r, h1, hq r h2⟩
theorem EvP.ev {α : Type} {f : Nat → Option α} {s : α} (h : EvP f fun r => r = s) : Ev f s := by
  obtain ⟨r, h1, rfl⟩ := h; exact h1
theorem Ev.evp {α : Type} {f : Nat → Option α} {s : α} {P : α → Prop} (h : Ev f s) (hp : P s) : EvP f P := ⟨s, h, hp⟩
/-- Two that answer the same. -/
def EvQ {α : Type} (f g : Nat → Option α) : Prop := ∃ r, Ev f r ∧ Ev g r
theorem EvQ.pure {α : Type} (r : α) : EvQ (fun _ => some r) (fun _ => some r) := ⟨r, Ev.pure r, Ev.pure r⟩
theorem EvQ.bind {α β : Type} {f f' : Nat → Option α} {g g' : Nat → α → Option β} (hf : EvQ f f') (hg : ∀ a, EvQ (fun k => g k a) (fun k => g' k a)) : EvQ (fun k => (f k).bind (g k)) (fun k => (f' k).bind (g' k)) := by
  obtain ⟨a, h1, h2⟩ := hf
  obtain ⟨r, h3, h4⟩ := hg a
  exact ⟨r, Ev.bind h1 h3, Ev.bind h2 h4⟩

/-! ### Tests -/
theorem cpos {α : Type} {p : Prop} [Decidable p] {a b : α} (h : p) : cond (decide p) a b = a := by rw [decide_eq_true h]; rfl
theorem cneg {α : Type} {p : Prop} [Decidable p] {a b : α} (h : ¬ p) : cond (decide p) a b = b := by rw [decide_eq_false h]; rfl
theorem ceq {α : Type} {x y : Int} {a b : α} (h : x = y) : cond (x == y) a b = a := by rw [show (x == y) = true by simpa using h]; rfl
theorem cne {α : Type} {x y : Int} {a b : α} (h : x ≠ y) : cond (x == y) a b = b := by rw [show (x == y) = false by simpa using h]; rfl
theorem cbeq {α : Type} {x y : Int} {a b : α} (h : x = y) : cond (x != y) a b = b := by rw [show (x != y) = false by simpa using h]; rfl
theorem cbne {α : Type} {x y : Int} {a b : α} (h : x ≠ y) : cond (x != y) a b = a := by rw [show (x != y) = true by simpa using h]; rfl
theorem cnb {α : Type} {p : Prop} [Decidable p] {a b : α} : cond (!decide p) a b = cond (decide p) b a := by cases decide p <;> rfl
theorem cnot {α : Type} {c : Bool} {a b : α} : cond (!c) a b = cond c b a := by cases c <;> rfl
theorem cble {α : Type} {n m : Nat} {a b : α} (h : n ≤ m) : cond (Nat.ble n m) a b = a := by rw [Nat.ble_eq_true_of_le h]; rfl
theorem dpos {p : Prop} [Decidable p] (h : p) : decide p = true := decide_eq_true h
theorem dneg {p : Prop} [Decidable p] (h : ¬ p) : decide p = false := decide_eq_false h
theorem wrap_in {x : Int} (h1 : -9223372036854775808 ≤ x) (h2 : x ≤ 9223372036854775807) : IntKind.wrap .i64 x = x := by
  rw [IntKind.wrap_i64]; omega
theorem wf_i64 {n : Int} (h : WF (.int .i64) n) : -9223372036854775808 ≤ n ∧ n ≤ 9223372036854775807 := by
  cases h with
  | int _ _ h =>
    have h1 : IntKind.i64.min = -9223372036854775808 := rfl
    have h2 : IntKind.i64.max = 9223372036854775807 := rfl
    simp only [Lit.wf, Bool.and_eq_true, decide_eq_true_eq] at h
    omega
theorem maxLen_eq : maxLen = 9223372036854775807 := by decide
theorem wf_str {s : ByteArray} (h : WF .str s) : s.size ≤ 9223372036854775807 := by
  cases h with | str _ h => exact maxLen_eq ▸ h

/-! ### Texts -/
def L (s : ByteArray) : List UInt8 := s.data.toList
theorem L_inj {s t : ByteArray} (h : L s = L t) : s = t := by
  cases s; cases t
  simp only [L] at h
  rw [Array.toList_inj.1 h]
theorem L_size (s : ByteArray) : (L s).length = s.size := rfl
theorem toList_eq (s : ByteArray) : s.toList = s.data.toList := ByteArray.toList_eq s
theorem beqS_iff {s t : ByteArray} : beqS s t = true ↔ s = t := by
  unfold beqS
  rw [beq_iff_eq, toList_eq, toList_eq]
  exact ⟨fun h => L_inj h, fun h => by rw [h]⟩
theorem beqS_self (s : ByteArray) : beqS s s = true := beqS_iff.2 rfl
theorem beqS_eq (s t : ByteArray) : beqS s t = (L s == L t) := by
  unfold beqS; rw [toList_eq, toList_eq]; rfl
theorem L_bt (s : ByteArray) (i : Nat) : bt s i = (((L s).getD i 0).toNat : Int) := by
  simp [bt, L, Array.getD_eq_getD_getElem?, List.getD_eq_getElem?_getD]
theorem bt_range (s : ByteArray) (i : Nat) : 0 ≤ bt s i ∧ bt s i ≤ 255 := by
  unfold bt
  have := (s.data.getD i 0).toNat_lt
  omega
theorem L_extract (s : ByteArray) (a b : Nat) : L (s.extract a b) = ((L s).take b).drop a := by
  simp [L, ByteArray.data_extract, List.drop_take]
theorem L_append (s t : ByteArray) : L (s ++ t) = L s ++ L t := by simp [L, ByteArray.data_append]
theorem L_mk (l : List UInt8) : L ⟨l.toArray⟩ = l := by simp [L]
theorem size_mk (l : List UInt8) : (⟨l.toArray⟩ : ByteArray).size = l.length := by simp [ByteArray.size]

/-! ### Loops -/
/-- A loop that stops at the first one that isn't so. -/
theorem loop_all {R : Type} {f : Nat → Int → Option R} {n : Nat} {p : Nat → Bool} {no yes : R} (hno : ∀ i : Nat, i < n → p i = false → Ev (fun k => f k i) no)
    (hyes : ∀ (i : Nat) r, i < n → p i = true → Ev (fun k => f k ((i : Int) + 1)) r → Ev (fun k => f k i) r) (hend : Ev (fun k => f k n) yes) :
    ∀ m i : Nat, i + m = n → Ev (fun k => f k i) (if (List.range' i m).all p = true then yes else no)
  | 0, i, h => by
    rw [show i = n by omega]
    exact hend
  | m + 1, i, h => by
    rw [List.range'_succ, List.all_cons]
    cases hp : p i with
    | false => exact hno i (by omega) hp
    | true =>
      rw [Bool.true_and]
      exact hyes i _ (by omega) hp (loop_all hno hyes hend m (i + 1) (by omega))
theorem range_all {α : Type} (xs : List α) (d : α) (q : α → Bool) : (List.range' 0 xs.length).all (fun i => q (xs.getD i d)) = xs.all q := by
  rw [Bool.eq_iff_iff]
  simp only [List.all_eq_true, List.mem_range'_1, Nat.zero_add, Nat.zero_le, true_and]
  constructor
  · intro h x hx
    obtain ⟨i, hi, rfl⟩ := List.getElem_of_mem hx
    have := h i hi
    simpa [List.getD, hi] using this
  · intro h i hi
    simpa [List.getD, hi] using h _ (List.getElem_mem hi)
end Go.Gx
end
section
/- Plain laws: bytes, pieces, edges of a text; no function of the program. -/
namespace Go.Proofs.YtdbfalcfejhjfaaDoor
open Go.Gx
set_option linter.unusedVariables false
set_option linter.unusedSimpArgs false

theorem getD_at {α : Type} {xs : List α} {i : Nat} (h : i < xs.length) (d : α) : xs.getD i d = xs[i] := by simp [List.getD, List.getElem?_eq_getElem h]
theorem wf_len {e : Ty} {xs : List (den e)} (h : WF (.sl e) xs) : xs.length ≤ 9223372036854775807 := by
  cases h with | sl _ _ h _ => exact maxLen_eq ▸ h
theorem size_pos {s : ByteArray} : (!beqS s ⟨#[]⟩) = decide (0 < s.size) := by
  rw [beqS_eq]
  have : L ⟨#[]⟩ = [] := rfl
  rw [this, ← L_size]
  cases L s <;> rfl
theorem size_app (s t : ByteArray) : (s ++ t).size = s.size + t.size := by
  rw [← L_size, L_append, List.length_append, L_size, L_size]
theorem bytesL_len (s : ByteArray) : (bytesL s).length = s.size := by
  simp only [bytesL, List.length_map, Array.length_toList]; rfl
theorem bytesL_map (s : ByteArray) : bytesL s = (L s).map fun b => (b.toNat : Int) := rfl
theorem bt_bytes (s : ByteArray) (i : Nat) (h : i < (bytesL s).length) : bt s i = (bytesL s)[i] := by
  rw [L_bt]
  have h' : i < (L s).length := by simpa [bytesL_map] using h
  simp [bytesL_map, List.getD, h']
theorem bytes_range (s : ByteArray) (i : Nat) (h : i < (bytesL s).length) : 0 ≤ (bytesL s)[i] ∧ (bytesL s)[i] ≤ 255 := by
  rw [← bt_bytes s i h]; exact bt_range s i
theorem all_bytes {s : ByteArray} {i : Nat} (h : i < (bytesL s).length) (p : Int → Bool) : ((bytesL s).drop i).all p = (p (bytesL s)[i] && ((bytesL s).drop (i + 1)).all p) := by
  rw [List.drop_eq_getElem_cons h]; rfl
theorem sub_tail (s : ByteArray) (st a : Nat) : (s.extract st s.size).extract a (s.extract st s.size).size = s.extract (st + a) s.size := by
  apply L_inj
  have e : (L s).take s.size = L s := List.take_of_length_le (Nat.le_refl _)
  rw [L_extract, L_extract s (st + a), ← L_size (s.extract st s.size), L_extract, List.take_length, List.drop_drop, e]
theorem sub_head (s : ByteArray) (st i : Nat) (h : st ≤ i) (hi : i ≤ s.size) : (s.extract st s.size).extract 0 (i - st) = s.extract st i := by
  apply L_inj
  rw [L_extract, L_extract, L_extract, List.drop_zero, List.take_of_length_le (show (L s).length ≤ s.size from Nat.le_refl _), List.drop_take]
def sp : ByteArray := ⟨#[32]⟩
theorem ib_hit {l : List UInt8} {c : UInt8} {i : Nat} (h : l[i]? = some c) (hn : ∀ j, j < i → l[j]? ≠ some c) : Lib.indexByte l c = i := by
  have hg := Lib.indexByte_ge l c
  by_cases e : Lib.indexByte l c = -1
  · exact absurd h (Lib.indexByte_none e i)
  · obtain ⟨o, ho⟩ : ∃ o : Nat, Lib.indexByte l c = o := ⟨(Lib.indexByte l c).toNat, by omega⟩
    obtain ⟨h1, h2⟩ := Lib.indexByte_some ho
    rcases Nat.lt_trichotomy o i with h3 | h3 | h3
    · exact absurd h1 (hn o h3)
    · rw [ho, h3]
    · exact absurd h (h2 i h3)
theorem ib_miss {l : List UInt8} {c : UInt8} (hn : ∀ j : Nat, l[j]? ≠ some c) : Lib.indexByte l c = -1 := by
  have hg := Lib.indexByte_ge l c
  by_cases e : Lib.indexByte l c = -1
  · exact e
  · obtain ⟨o, ho⟩ : ∃ o : Nat, Lib.indexByte l c = o := ⟨(Lib.indexByte l c).toNat, by omega⟩
    exact absurd (Lib.indexByte_some ho).1 (hn o)
theorem indexB_sp (s : ByteArray) : Lib.indexB s sp = Lib.indexByte (L s) 32 := Lib.one s sp rfl
theorem sub_at (s : ByteArray) (st j : Nat) : (L (s.extract st s.size))[j]? = (L s)[st + j]? := by
  rw [L_extract, List.take_of_length_le (show (L s).length ≤ s.size from Nat.le_refl _), List.getElem?_drop]
def wordsFrom (s : ByteArray) (st : Nat) : List ByteArray := Lib.splitB sp 0 (Lib.countB (s.extract st s.size) sp) (s.extract st s.size)
theorem words_end (s : ByteArray) (st : Nat) (h : ∀ j, st ≤ j → (L s)[j]? ≠ some 32) : wordsFrom s st = [s.extract st s.size] := by
  unfold wordsFrom
  rw [Lib.countB_miss _ _ ((indexB_sp _).trans (ib_miss fun j => by rw [sub_at]; exact h _ (by omega)))]
  rfl
theorem words_hit (s : ByteArray) (st i : Nat) (h1 : st ≤ i) (hi : i < s.size) (hb : (L s)[i]? = some 32) (h : ∀ j, st ≤ j → j < i → (L s)[j]? ≠ some 32) : wordsFrom s st = s.extract st i :: wordsFrom s (i + 1) := by
  have e : Lib.indexB (s.extract st s.size) sp = ((i - st : Nat) : Int) := (indexB_sp _).trans (ib_hit (by rw [sub_at, show st + (i - st) = i by omega]; exact hb) fun j hj => by rw [sub_at]; exact h _ (by omega) (by omega))
  have e1 : sp.size = 1 := rfl
  unfold wordsFrom
  rw [Lib.countB_hit _ _ _ (by rw [e1]; exact Nat.le_refl _) e, Nat.add_comm 1, Lib.splitB_hit _ _ _ _ _ e, Nat.add_zero, sub_head s st i h1 (by omega), e1, sub_tail, show st + (i - st + 1) = i + 1 by omega]
theorem sub_self (s : ByteArray) : s.extract 0 s.size = s := by
  apply L_inj
  rw [L_extract, List.take_of_length_le (show (L s).length ≤ s.size from Nat.le_refl _), List.drop_zero]
def words (s : ByteArray) : List ByteArray := Lib.splitB sp 0 (Lib.countB s sp) s
theorem words_from (s : ByteArray) : wordsFrom s 0 = words s := by unfold wordsFrom words; rw [sub_self]
theorem words_small : ∀ (k : Nat) (s : ByteArray), ∀ x ∈ Lib.splitB sp 0 k s, x.size ≤ s.size
  | 0, s, x, hx => by
    rw [Lib.splitB_zero] at hx
    simp only [List.mem_singleton] at hx
    rw [hx]; exact Nat.le_refl _
  | k + 1, s, x, hx => by
    unfold Lib.splitB at hx
    split at hx
    · simp only [List.mem_singleton] at hx
      rw [hx]; exact Nat.le_refl _
    · rcases List.mem_cons.1 hx with rfl | hx
      · rw [ByteArray.size_extract]; omega
      · have := words_small k _ x hx
        rw [ByteArray.size_extract] at this
        omega
theorem words_len (s : ByteArray) : 1 ≤ (words s).length ∧ (words s).length ≤ s.size + 1 := by
  unfold words
  have h1 : 1 ≤ sp.size := Nat.le_refl 1
  rw [Lib.splitB_all sp h1 0 _ s rfl]
  have := Lib.countB_le sp h1 s.size s (Nat.le_refl _)
  omega
theorem dropWhile_self {α : Type} (p : α → Bool) : ∀ l : List α, l.dropWhile p = l ↔ (∀ a, l.head? = some a → p a = false)
  | [] => by simp
  | a :: l => by
    have hl : (l.dropWhile p).length ≤ l.length := (List.dropWhile_sublist p).length_le
    cases h : p a with
    | true =>
      rw [List.dropWhile_cons_of_pos h]
      constructor
      · intro e
        have := congrArg List.length e
        simp at this
        omega
      · intro e
        have := e a rfl
        rw [h] at this; cases this
    | false =>
      rw [List.dropWhile_cons_of_neg (by rw [h]; exact Bool.noConfusion)]
      simp [h]
theorem trimB_self (l : List UInt8) (c : UInt8) : Lib.trimB l c = l ↔ l.head? ≠ some c ∧ l.getLast? ≠ some c := by
  unfold Lib.trimB Lib.trimLeftB Lib.trimRightB
  have h1 : ∀ m : List UInt8, m.dropWhile (· == c) = m ↔ m.head? ≠ some c := fun m => by
    rw [dropWhile_self]
    constructor
    · intro h e; have := h c e; simp at this
    · intro h a e
      have : a ≠ c := fun e' => h (e' ▸ e)
      simpa using this
  constructor
  · intro h
    have h2 : ((l.reverse.dropWhile (· == c)).reverse).length ≤ l.length := by
      have := (List.dropWhile_sublist (p := (· == c)) (l := l.reverse)).length_le
      simpa using this
    have h3 := (List.dropWhile_sublist (p := (· == c)) (l := (l.reverse.dropWhile (· == c)).reverse))
    have h4 : (l.reverse.dropWhile (· == c)).reverse = l := by
      have h5 : (l.reverse.dropWhile (· == c)).reverse.length = l.length := by
        have := h3.length_le
        rw [h] at this
        omega
      have h6 : l.reverse.dropWhile (· == c) = l.reverse := (List.dropWhile_sublist (p := (· == c)) (l := l.reverse)).eq_of_length (by simpa using h5)
      rw [h6, List.reverse_reverse]
    rw [h4] at h
    refine ⟨(h1 l).1 h, ?_⟩
    have h6 : l.reverse.dropWhile (· == c) = l.reverse := by rw [← List.reverse_inj, h4, List.reverse_reverse]
    have := (h1 _).1 h6
    simpa using this
  · rintro ⟨ha, hb⟩
    have h6 : l.reverse.dropWhile (· == c) = l.reverse := (h1 _).2 (by simpa using hb)
    rw [h6, List.reverse_reverse]
    exact (h1 l).2 ha
def vis (lo b : Int) : Bool := decide (lo ≤ b) && decide (b ≤ 126)
theorem bt_sp {s : ByteArray} {i : Nat} (hi : i < s.size) : bt s i = 32 ↔ (L s)[i]? = some 32 := by
  have hi' : i < (L s).length := hi
  have hbt : bt s i = ((L s)[i].toNat : Int) := by rw [L_bt, getD_at hi']
  rw [List.getElem?_eq_getElem hi', hbt]
  have : (32 : UInt8).toNat = 32 := rfl
  constructor
  · intro h
    congr 1
    apply UInt8.toNat_inj.1
    omega
  · intro h
    rw [Option.some.inj h]; rfl
def edge (s : ByteArray) : Bool := (decide (s.size = 0)) || (bt s 0 != 32 && bt s (s.size - 1) != 32)
theorem edge_eq (s : ByteArray) : beqS ⟨(Lib.trimB (L s) 32).toArray⟩ s = edge s := by
  rw [Bool.eq_iff_iff, beqS_iff]
  have h1 : (⟨(Lib.trimB (L s) 32).toArray⟩ : ByteArray) = s ↔ Lib.trimB (L s) 32 = L s := by
    constructor
    · intro h
      have := congrArg L h
      rwa [L_mk] at this
    · intro h
      apply L_inj
      rw [L_mk, h]
  rw [h1, trimB_self]
  unfold edge
  by_cases hz : s.size = 0
  · have : L s = [] := List.eq_nil_of_length_eq_zero hz
    rw [this]
    simp [hz]
  · have h2 : (L s).head? = (L s)[0]? := List.head?_eq_getElem?
    have h3 : (L s).getLast? = (L s)[s.size - 1]? := by rw [List.getLast?_eq_getElem?]; rfl
    rw [h2, h3, Bool.or_eq_true, decide_eq_true_eq, Bool.and_eq_true, bne_iff_ne, bne_iff_ne, Ne, Ne, Ne, Ne, bt_sp (by omega), bt_sp (by omega)]
    simp [hz]
def pos (s : ByteArray) : Bool := decide (0 < s.size)
theorem ext_size {s : ByteArray} {a b : Nat} (h : a ≤ b) (hb : b ≤ s.size) : (s.extract a b).size = b - a := by
  rw [ByteArray.size_extract]; omega
theorem room_s {n : Nat} (h : n ≤ 8192) : room n .str = true := by
  unfold room
  rw [Nat.ble_eq]
  have : nb .str = 16 := rfl
  rw [this]
  omega
theorem fpos_one (s : ByteArray) (a b : Nat) (hab : a ≤ b) (hb : b ≤ s.size) (l : List ByteArray) : (s.extract a b :: l).filter pos = (if a < b then [s.extract a b] else []) ++ l.filter pos := by
  rw [List.filter_cons]
  unfold pos
  rw [ext_size hab hb]
  by_cases c : a < b
  · rw [if_pos c, decide_eq_true (by omega)]; rfl
  · rw [if_neg c, decide_eq_false (by omega)]; rfl
theorem tail_cons (x : List UInt8) (r : List (List UInt8)) : Lib.joinTail [32] (x :: r) = 32 :: (x ++ Lib.joinTail [32] r) := by simp [Lib.joinTail]
theorem e32 : (⟨#[32]⟩ : ByteArray).size = 1 := rfl
theorem L32 : L ⟨#[32]⟩ = [32] := rfl
/-! ### A list, changed from its begin -/
def ms {α : Type} (f : α → α) (W : List α) (i : Nat) : List α := (W.take i).map f ++ W.drop i
section
variable {α : Type} (f : α → α) (W : List α)
theorem ms_len (i : Nat) : (ms f W i).length = W.length := by unfold ms; simp; omega
theorem ms_zero : ms f W 0 = W := by simp [ms]
theorem ms_all : ms f W W.length = W.map f := by simp [ms]
theorem ms_at {i : Nat} (h : i < W.length) (d : α) : (ms f W i).getD i d = W[i] := by
  unfold ms
  rw [List.getD_eq_getElem?_getD, List.getElem?_append_right (by simp; omega)]
  simp [Nat.min_eq_left (Nat.le_of_lt h), h]
theorem ms_set {i : Nat} (h : i < W.length) : (ms f W i).set i (f W[i]) = ms f W (i + 1) := by
  unfold ms
  rw [List.set_append_right _ _ (by simp; omega)]
  simp only [List.length_map, List.length_take, Nat.min_eq_left (Nat.le_of_lt h), Nat.sub_self]
  rw [List.drop_eq_getElem_cons h, List.set_cons_zero, List.take_add_one, List.getElem?_eq_getElem h]
  simp only [Option.toList_some, List.map_append, List.map_cons, List.map_nil, List.append_assoc, List.cons_append, List.nil_append]
end
end Go.Proofs.YtdbfalcfejhjfaaDoor
end
section
/- Plain laws: lower case. -/
namespace Go.Proofs.YtdbfalcfejhjfaaDoor
open Go.Gx
set_option linter.unusedVariables false
set_option linter.unusedSimpArgs false

theorem L_strL (ys : List Int) : L (strL ys) = ys.map fun n => UInt8.ofNat n.toNat := L_mk _
theorem strL_bytes (s : ByteArray) : strL (bytesL s) = s := by
  apply L_inj
  rw [L_strL, bytesL_map, List.map_map]
  conv => rhs; rw [← List.map_id (L s)]
  refine List.map_congr_left fun b _ => ?_
  simp
theorem strL_size (ys : List Int) : (strL ys).size = ys.length := by
  rw [← L_size, L_strL, List.length_map]
def ltrI (b : Int) : Bool := (decide (65 ≤ b) && decide (b ≤ 90)) || (decide (97 ≤ b) && decide (b ≤ 122))
theorem specLetter_ev (b : Int) : spec_l6Letter.F b = some (ltrI b) := by
  unfold spec_l6Letter.F ltrI
  simp only [ge_iff_le]
  cases decide (65 ≤ b) <;> cases decide (b ≤ 90) <;> cases decide (97 ≤ b) <;> cases decide (b ≤ 122) <;> rfl
theorem isUpper_ev (b : Int) : impl_isUpper.F b = some (decide (65 ≤ b) && decide (b ≤ 90)) := by
  unfold impl_isUpper.F
  simp only [ge_iff_le]
  cases decide (65 ≤ b) <;> rfl
def lowI (b : Int) : Int := bif decide (65 ≤ b) && decide (b ≤ 90) then b + 32 else b
theorem specLowerByte_ev (b : Int) : spec_l6LowerByte.F b = some (lowI b) := by
  unfold spec_l6LowerByte.F lowI
  simp only [ge_iff_le]
  by_cases h1 : 65 ≤ b
  · by_cases h2 : b ≤ 90
    · have : IntKind.wrap .u8 (b + 32) = b + 32 := by rw [IntKind.wrap_u8]; omega
      simp only [dpos h1, dpos h2, cond_true, Bool.and_self, this]
    · simp only [dpos h1, dneg h2, cond_true, cond_false, Bool.and_false]
  · simp only [dneg h1, cond_false, Bool.false_and]
def mix (s : ByteArray) (i : Nat) : List Int := ((bytesL s).take i).map lowI ++ (bytesL s).drop i
theorem mix_len (s : ByteArray) (i : Nat) : (mix s i).length = (bytesL s).length := by
  unfold mix; simp; omega
theorem mix_at (s : ByteArray) (i : Nat) (h : i < (bytesL s).length) : (mix s i).getD i 0 = (bytesL s)[i] := by
  unfold mix
  rw [List.getD_eq_getElem?_getD, List.getElem?_append_right (by simp; omega)]
  simp [Nat.min_eq_left (Nat.le_of_lt h), h]
theorem mix_set (s : ByteArray) (i : Nat) (h : i < (bytesL s).length) : (mix s i).set i (lowI (bytesL s)[i]) = mix s (i + 1) := by
  unfold mix
  rw [List.set_append_right _ _ (by simp; omega)]
  simp only [List.length_map, List.length_take, Nat.min_eq_left (Nat.le_of_lt h), Nat.sub_self]
  rw [List.drop_eq_getElem_cons h, List.set_cons_zero, List.take_add_one, List.getElem?_eq_getElem h]
  simp only [Option.toList_some, List.map_append, List.map_cons, List.map_nil, List.append_assoc, List.cons_append, List.nil_append]
theorem mix_same (s : ByteArray) (i : Nat) (h : i < (bytesL s).length) (e : lowI (bytesL s)[i] = (bytesL s)[i]) : mix s (i + 1) = mix s i := by
  rw [← mix_set s i h, e]
  apply List.ext_getElem?
  intro j
  by_cases hj : i = j
  · subst hj
    have := mix_at s i h
    rw [List.getD_eq_getElem?_getD] at this
    rw [List.getElem?_set_self (by rw [mix_len]; exact h)]
    rw [List.getElem?_eq_getElem (by rw [mix_len]; exact h)] at this ⊢
    rw [← this]; rfl
  · rw [List.getElem?_set_ne hj]
theorem lower_l0 (s : ByteArray) (hs : s.size ≤ 1048576) : ∀ n i : Nat, i + n = s.size → Ev (fun k => impl_lower.l0 k (mix s i) s.size i) ((bytesL s).map lowI)
  | 0, i, h => by
    refine Ev.step (fun k => by rw [impl_lower.l0]) ?_
    simp (disch := omega) only [cneg]
    unfold mix
    rw [List.take_of_length_le (by rw [bytesL_len]; omega), List.drop_eq_nil_of_le (by rw [bytesL_len]; omega), List.append_nil]
    exact Ev.pure _
  | n + 1, i, h => by
    have hl := bytesL_len s
    have hi : i < (bytesL s).length := by omega
    have hm := mix_len s i
    have ih := lower_l0 s hs n (i + 1) (by omega)
    have hb := bytes_range s i hi
    refine Ev.step (fun k => by rw [impl_lower.l0]) ?_
    simp (disch := omega) only [cpos, Int.toNat_natCast, mix_at s i hi]
    refine Ev.bind0 (isUpper_ev _) ?_
    cases hu : decide (65 ≤ (bytesL s)[i]) && decide ((bytesL s)[i] ≤ 90) with
    | true =>
      have hu' := hu
      simp only [Bool.and_eq_true, decide_eq_true_eq] at hu'
      have e : IntKind.wrap .u8 (IntKind.wrap .u8 ((bytesL s)[i] + 97) - 65) = lowI (bytesL s)[i] := by
        unfold lowI
        rw [hu, cond_true, IntKind.wrap_u8, IntKind.wrap_u8]; omega
      simp (disch := omega) only [cond_true, cpos, e, mix_set s i hi, wrap_in]
      exact ih
    | false =>
      have e : lowI (bytesL s)[i] = (bytesL s)[i] := by unfold lowI; rw [hu, cond_false]
      rw [mix_same s i hi e] at ih
      simp (disch := omega) only [cond_false, wrap_in]
      exact ih
def lowS (s : ByteArray) : ByteArray := strL ((bytesL s).map lowI)
theorem lowS_size (s : ByteArray) : (lowS s).size = s.size := by unfold lowS; rw [strL_size, List.length_map, bytesL_len]
theorem lower_ev (s : ByteArray) (hs : s.size ≤ 1048576) : Ev (fun k => impl_lower.F k s) (lowS s) := by
  unfold impl_lower.F
  rw [bytesL_len]
  simp (disch := omega) only [cble]
  have := lower_l0 s hs s.size 0 (by omega)
  unfold mix at this
  rw [List.take_zero, List.map_nil, List.nil_append, List.drop_zero] at this
  exact Ev.bind this (Ev.pure _)
end Go.Proofs.YtdbfalcfejhjfaaDoor
end
section
/- Plain laws: a text split at its spaces. -/
namespace Go.Proofs.YtdbfalcfejhjfaaDoor
open Go.Gx
set_option linter.unusedVariables false
set_option linter.unusedSimpArgs false

theorem split_ev (s : ByteArray) (hs : s.size ≤ 1048576) : strings_Split.F s ⟨#[32]⟩ = some (words s) := by
  unfold strings_Split.F xSplit
  rw [Nat.ble_eq_true_of_le (by omega)]
  rfl
end Go.Proofs.YtdbfalcfejhjfaaDoor
end
section
/- Plain laws: slices.IndexFunc, slices.DeleteFunc, as they are printed for a function value. -/
namespace Go.Gx
set_option linter.unusedVariables false
set_option linter.unusedSimpArgs false

section
variable {α : Type} {d : α} {p : α → Bool} {q : Nat → α → Option Bool} {xs : List α}
theorem getDat {α : Type} {xs : List α} {i : Nat} (h : i < xs.length) (d : α) : xs.getD i d = xs[i] := by simp [List.getD, List.getElem?_eq_getElem h]
theorem idx_l0 {l0 : Nat → List α → Int → Int → Option (Sum Int Unit)} (H : ∀ k x0 x7 x8, l0 (k + 1) x0 x7 x8 = bif (decide (x8 < x7)) then (bif decide (0 ≤ x8) then (bif decide (x8 < (x0.length : Int)) then ((q k (x0.getD (x8 : Int).toNat d)).bind fun r1 => bif r1 then (some (.inl x8)) else (l0 k x0 x7 (IntKind.wrap .i64 (x8 + 1)))) else none) else none) else (some (.inr ())))
    (hq : ∀ x, x ∈ xs → Ev (fun k => q k x) (p x)) (hl : xs.length ≤ 4611686018427387904) : ∀ n i : Nat, i + n = xs.length → (∀ x ∈ xs.take i, p x = false) →
    ∃ r, Ev (fun k => l0 k xs xs.length i) r ∧ ((r = .inr () ∧ ∀ x ∈ xs, p x = false) ∨ ∃ j : Nat, r = .inl j ∧ j < xs.length ∧ p (xs.getD j d) = true ∧ ∀ x ∈ xs.take j, p x = false)
  | 0, i, h, ht => by
    refine ⟨.inr (), Ev.step (fun k => by rw [H]) ?_, .inl ⟨rfl, by rw [List.take_of_length_le (by omega)] at ht; exact ht⟩⟩
    simp (disch := omega) only [cneg]
    exact Ev.pure _
  | n + 1, i, h, ht => by
    have hi : i < xs.length := by omega
    cases hp : p xs[i] with
    | true =>
      refine ⟨.inl i, Ev.step (fun k => by rw [H]) ?_, .inr ⟨i, rfl, hi, by rw [getDat hi, hp], ht⟩⟩
      simp (disch := omega) only [cpos, Int.toNat_natCast, getDat hi]
      refine Ev.bind (hq _ (List.getElem_mem hi)) ?_
      rw [hp]
      exact Ev.pure _
    | false =>
      obtain ⟨r, h1, h2⟩ := idx_l0 H hq hl n (i + 1) (by omega) (by
        intro x hx
        rw [List.take_add_one, List.getElem?_eq_getElem hi] at hx
        rcases List.mem_append.1 hx with hx | hx
        · exact ht x hx
        · simp only [Option.toList_some, List.mem_singleton] at hx
          rw [hx, hp])
      refine ⟨r, Ev.step (fun k => by rw [H]) ?_, h2⟩
      simp (disch := omega) only [cpos, Int.toNat_natCast, getDat hi]
      refine Ev.bind (hq _ (List.getElem_mem hi)) ?_
      rw [hp]
      simp (disch := omega) only [cond_false, wrap_in]
      exact h1
theorem idx_ev {l0 : Nat → List α → Int → Int → Option (Sum Int Unit)} (H : ∀ k x0 x7 x8, l0 (k + 1) x0 x7 x8 = bif (decide (x8 < x7)) then (bif decide (0 ≤ x8) then (bif decide (x8 < (x0.length : Int)) then ((q k (x0.getD (x8 : Int).toNat d)).bind fun r1 => bif r1 then (some (.inl x8)) else (l0 k x0 x7 (IntKind.wrap .i64 (x8 + 1)))) else none) else none) else (some (.inr ())))
    (hq : ∀ x, x ∈ xs → Ev (fun k => q k x) (p x)) (hl : xs.length ≤ 4611686018427387904) {F : Nat → List α → Option Int} (HF : ∀ k a0, F k a0 = (l0 k a0 (a0.length : Int) 0).bind fun y2 => match y2 with | .inl z3 => some z3 | .inr z3 => some (-1)) :
    ∃ r, Ev (fun k => F k xs) r ∧ ((r = -1 ∧ ∀ x ∈ xs, p x = false) ∨ ∃ j : Nat, r = j ∧ j < xs.length ∧ p (xs.getD j d) = true ∧ ∀ x ∈ xs.take j, p x = false) := by
  obtain ⟨r, h1, h2⟩ := idx_l0 H hq hl xs.length 0 (by omega) (fun x hx => by simp at hx)
  rcases h2 with ⟨rfl, h2⟩ | ⟨j, rfl, h2⟩
  · exact ⟨-1, Ev.congr (Ev.bind h1 (Ev.pure _)) (fun k => HF k xs), .inl ⟨rfl, h2⟩⟩
  · exact ⟨j, Ev.congr (Ev.bind h1 (Ev.pure _)) (fun k => HF k xs), .inr ⟨j, rfl, h2⟩⟩
theorem del_l0 {l0 : Nat → List α → Int → Int → Option (List α × Int)} (H : ∀ k x0 x5 x6, l0 (k + 1) x0 x5 x6 = bif (decide (x6 < (x0.length : Int))) then (bif decide (0 ≤ x6) then (bif decide (x6 < (x0.length : Int)) then ((q k (x0.getD ((x6 : Int).toNat) d)).bind fun r2 => bif (!r2) then (bif decide (0 ≤ x5) then (bif decide (x5 < (x0.length : Int)) then (l0 k (x0.set ((x5 : Int).toNat) (x0.getD ((x6 : Int).toNat) d)) (IntKind.wrap .i64 (x5 + 1)) (IntKind.wrap .i64 (x6 + 1))) else none) else none) else (l0 k x0 x5 (IntKind.wrap .i64 (x6 + 1)))) else none) else none) else (some (x0, x5)))
    (hq : ∀ x, x ∈ xs → Ev (fun k => q k x) (p x)) (hl : xs.length ≤ 4611686018427387904) : ∀ n j : Nat, j + n = xs.length → ∀ (ys : List α) (i : Nat), ys.length = xs.length → i ≤ j → ys.drop j = xs.drop j →
    ∃ zs, ∃ i' : Nat, Ev (fun k => l0 k ys i j) (zs, (i' : Int)) ∧ i' ≤ xs.length ∧ zs.length = xs.length ∧ zs.take i' = ys.take i ++ (xs.drop j).filter fun x => !p x
  | 0, j, h, ys, i, hy, hij, hd => by
    refine ⟨ys, i, Ev.step (fun k => by rw [H]) ?_, by omega, hy, ?_⟩
    · simp (disch := omega) only [cneg]
      exact Ev.pure _
    · rw [List.drop_eq_nil_of_le (by omega), List.filter_nil, List.append_nil]
  | n + 1, j, h, ys, i, hy, hij, hd => by
    have hj : j < xs.length := by omega
    have hj' : j < ys.length := by omega
    have hx : ys[j] = xs[j] := by
      have h0 := congrArg (·[0]?) hd
      simpa [hj, hj'] using h0
    have hd1 : ys.drop (j + 1) = xs.drop (j + 1) := by
      have := congrArg (List.drop 1) hd
      simpa [List.drop_drop] using this
    cases hp : p xs[j] with
    | true =>
      obtain ⟨zs, i', h1, h2, h3, h4⟩ := del_l0 H hq hl n (j + 1) (by omega) ys i hy (by omega) hd1
      refine ⟨zs, i', Ev.step (fun k => by rw [H]) ?_, h2, h3, ?_⟩
      · simp (disch := omega) only [cpos, Int.toNat_natCast, getDat hj', hx]
        refine Ev.bind (hq _ (List.getElem_mem hj)) ?_
        rw [hp]
        simp (disch := omega) only [Bool.not_true, cond_false, wrap_in]
        exact h1
      · rw [h4, List.drop_eq_getElem_cons hj, List.filter_cons_of_neg (by rw [hp]; decide)]
    | false =>
      obtain ⟨zs, i', h1, h2, h3, h4⟩ := del_l0 H hq hl n (j + 1) (by omega) (ys.set i xs[j]) (i + 1) (by simpa using hy) (by omega) (by rw [List.drop_set_of_lt (by omega)]; exact hd1)
      refine ⟨zs, i', Ev.step (fun k => by rw [H]) ?_, h2, h3, ?_⟩
      · simp (disch := omega) only [cpos, Int.toNat_natCast, getDat hj', hx]
        refine Ev.bind (hq _ (List.getElem_mem hj)) ?_
        rw [hp]
        simp (disch := omega) only [Bool.not_false, cond_true, cpos, Int.toNat_natCast, wrap_in]
        exact h1
      · rw [h4, List.drop_eq_getElem_cons hj, List.filter_cons_of_pos (by rw [hp]; decide), List.take_add_one, List.take_set_of_le (Nat.le_refl i)]
        have : (ys.set i xs[j])[i]? = some xs[j] := by rw [List.getElem?_set_self (by omega)]
        rw [this]
        simp
theorem delete_ev {l0 : Nat → List α → Int → Int → Option (List α × Int)} (H : ∀ k x0 x5 x6, l0 (k + 1) x0 x5 x6 = bif (decide (x6 < (x0.length : Int))) then (bif decide (0 ≤ x6) then (bif decide (x6 < (x0.length : Int)) then ((q k (x0.getD ((x6 : Int).toNat) d)).bind fun r2 => bif (!r2) then (bif decide (0 ≤ x5) then (bif decide (x5 < (x0.length : Int)) then (l0 k (x0.set ((x5 : Int).toNat) (x0.getD ((x6 : Int).toNat) d)) (IntKind.wrap .i64 (x5 + 1)) (IntKind.wrap .i64 (x6 + 1))) else none) else none) else (l0 k x0 x5 (IntKind.wrap .i64 (x6 + 1)))) else none) else none) else (some (x0, x5)))
    (hq : ∀ x, x ∈ xs → Ev (fun k => q k x) (p x)) (hl : xs.length ≤ 4611686018427387904) {I F : Nat → List α → Option _} {e : α}
    (hI : ∃ r : Int, Ev (fun k => I k xs) r ∧ ((r = -1 ∧ ∀ x ∈ xs, p x = false) ∨ ∃ j : Nat, r = j ∧ j < xs.length ∧ p (xs.getD j d) = true ∧ ∀ x ∈ xs.take j, p x = false))
    (HF : ∀ k a0, F k a0 = (I k a0).bind fun r1 => bif (r1 == (-1)) then (some a0) else ((l0 k a0 r1 (IntKind.wrap .i64 (r1 + 1))).bind fun y3 => bif decide (0 ≤ y3.2) then (bif decide (y3.2 ≤ (y3.1.length : Int)) then (bif decide (0 ≤ y3.2) then (bif decide (y3.2 ≤ ((y3.1.take ((y3.2 : Int).toNat) ++ List.replicate (y3.1.length - ((y3.2 : Int).toNat)) e).length : Int)) then (some ((y3.1.take ((y3.2 : Int).toNat) ++ List.replicate (y3.1.length - ((y3.2 : Int).toNat)) e).take (y3.2 : Int).toNat)) else none) else none) else none) else none)) :
    Ev (fun k => F k xs) (xs.filter fun x => !p x) := by
  obtain ⟨r, h1, h2⟩ := hI
  refine Ev.congr (?_ : Ev _ _) (fun k => HF k xs)
  refine Ev.bind h1 ?_
  rcases h2 with ⟨rfl, h2⟩ | ⟨j, rfl, hj, hp, h2⟩
  · have : (xs.filter fun x => !p x) = xs := List.filter_eq_self.2 fun x hx => by rw [h2 x hx]; rfl
    rw [this]
    exact Ev.pure _
  · obtain ⟨zs, i', h3, h4, h5, h6⟩ := del_l0 H hq hl (xs.length - (j + 1)) (j + 1) (by omega) xs j rfl (by omega) rfl
    rw [getDat hj] at hp
    have hz : zs.take i' = xs.filter fun x => !p x := by
      rw [h6]
      conv => rhs; rw [← List.take_append_drop j xs, List.filter_append, List.drop_eq_getElem_cons hj, List.filter_cons_of_neg (by rw [hp]; decide)]
      congr 1
      exact (List.filter_eq_self.2 fun x hx => by rw [h2 x hx]; rfl).symm
    simp (disch := omega) only [cne, wrap_in]
    refine Ev.bind h3 ?_
    have e1 : ((zs.take i' ++ List.replicate (zs.length - i') e)).length = zs.length := by simp; omega
    simp (disch := (try simp only [Int.toNat_natCast, e1]); omega) only [cpos, Int.toNat_natCast, e1]
    rw [List.take_append_of_le_length (by simp; omega), List.take_take, Nat.min_self, hz]
    exact Ev.pure _
end
end Go.Gx
end
section
/- Plain laws: the words of a text; words put together. -/
namespace Go.Proofs.YtdbfalcfejhjfaaDoor
open Go.Gx
set_option linter.unusedVariables false
set_option linter.unusedSimpArgs false

def kw (s : ByteArray) : List ByteArray := (words s).filter pos
theorem notEmpty : (fun x : ByteArray => !beqS x ⟨#[]⟩) = pos := by
  funext x
  rw [size_pos]; rfl
theorem wordsOf_ev (s : ByteArray) (hs : s.size ≤ 1048576) : Ev (fun k => impl_wordsOf.F k s) (kw s) := by
  unfold impl_wordsOf.F
  refine Ev.bind0 (split_ev s hs) (Ev.bind (a := kw s) ?_ (Ev.pure _))
  have hlen := (words_len s).2
  have hq : ∀ x, x ∈ words s → Ev (fun k => (fun (_ : Nat) (x : ByteArray) => impl_wordsOf_1.F x) k x) (beqS x ⟨#[]⟩) := fun x _ => Ev.const rfl
  have := delete_ev (d := (⟨#[]⟩ : ByteArray)) (p := fun x => beqS x ⟨#[]⟩) (q := fun _ x => impl_wordsOf_1.F x) (xs := words s) (l0 := slices_DeleteFunc_string_f39.l0) (fun k x0 x5 x6 => by rw [slices_DeleteFunc_string_f39.l0]) hq (by omega) (I := slices_IndexFunc_string_f39.F) (F := slices_DeleteFunc_string_f39.F)
    (idx_ev (d := (⟨#[]⟩ : ByteArray)) (p := fun x => beqS x ⟨#[]⟩) (q := fun _ x => impl_wordsOf_1.F x) (l0 := slices_IndexFunc_string_f39.l0) (fun k x0 x7 x8 => by rw [slices_IndexFunc_string_f39.l0]) hq (by omega) (fun k a0 => rfl)) (fun k a0 => rfl)
  rw [notEmpty] at this
  exact this
theorem kw_small (s : ByteArray) : ∀ x ∈ kw s, 0 < x.size ∧ x.size ≤ s.size := fun x hx => by
  obtain ⟨h1, h2⟩ := List.mem_filter.1 hx
  exact ⟨by simpa [pos] using h2, words_small _ _ x h1⟩
theorem kw_len (s : ByteArray) : (kw s).length ≤ s.size + 1 := Nat.le_trans (List.length_filter_le _ _) (words_len s).2
theorem join_l0 (W : List ByteArray) (hW : ∀ x ∈ W, x.size ≤ 1048576) (hl : W.length ≤ 8192) : ∀ n i : Nat, i + n = W.length → 1 ≤ i → ∀ acc : ByteArray, acc.size ≤ 1048577 * i →
    ∃ r, Ev (fun k => spec_l6Join.l0 k W acc i) r ∧ L r = L acc ++ Lib.joinTail [32] ((W.drop i).map L) ∧ r.size ≤ 1048577 * W.length
  | 0, i, h, h0, acc, ha => by
    refine ⟨acc, Ev.step (fun k => by rw [spec_l6Join.l0]) ?_, ?_, by rw [show W.length = i by omega]; exact ha⟩
    · simp (disch := omega) only [cneg]; exact Ev.pure _
    · rw [List.drop_eq_nil_of_le (by omega)]; simp [Lib.joinTail]
  | n + 1, i, h, h0, acc, ha => by
    have hi : i < W.length := by omega
    have hx := hW _ (List.getElem_mem hi)
    obtain ⟨r, r1, r2, r3⟩ := join_l0 W hW hl n (i + 1) (by omega) (by omega) (acc ++ ⟨#[32]⟩ ++ W[i]) (by rw [size_app, size_app, e32]; omega)
    refine ⟨r, Ev.step (fun k => by rw [spec_l6Join.l0]) ?_, ?_, r3⟩
    · simp (disch := (try simp only [size_app, e32]); omega) only [cpos, Int.toNat_natCast, getD_at hi, cble, wrap_in]
      exact r1
    · rw [r2, List.drop_eq_getElem_cons hi, List.map_cons, tail_cons, L_append, L_append, L32]
      simp
theorem join_ev (W : List ByteArray) (hW : ∀ x ∈ W, x.size ≤ 1048576) (hl : W.length ≤ 8192) : ∃ r, Ev (fun k => spec_l6Join.F k W) r ∧ strings_Join.F W ⟨#[32]⟩ = some r ∧ L r = Lib.join (W.map L) [32] ∧ r.size ≤ 1048577 * W.length := by
  have key : ∃ r, Ev (fun k => spec_l6Join.F k W) r ∧ L r = Lib.join (W.map L) [32] ∧ r.size ≤ 1048577 * W.length := by
    unfold spec_l6Join.F
    match W, hW, hl with
    | [], _, _ =>
      refine ⟨⟨#[]⟩, Ev.bind (a := ⟨#[]⟩) ?_ (Ev.pure _), rfl, Nat.zero_le _⟩
      refine Ev.step (fun k => by rw [spec_l6Join.l0]) ?_
      exact Ev.pure _
    | x :: W, hW, hl =>
      have hx := hW x List.mem_cons_self
      have e00 : ∀ t : ByteArray, (⟨#[]⟩ : ByteArray) ++ t = t := fun t => L_inj (by rw [L_append]; rfl)
      have e0 : (⟨#[]⟩ : ByteArray).size = 0 := rfl
      obtain ⟨r, r1, r2, r3⟩ := join_l0 (x :: W) hW hl W.length 1 (by rw [List.length_cons]; omega) (Nat.le_refl _) x (by omega)
      refine ⟨r, Ev.bind (a := r) ?_ (Ev.pure _), ?_, r3⟩
      · refine Ev.step (fun k => by rw [spec_l6Join.l0]) ?_
        have r1' : Ev (fun k => spec_l6Join.l0 k (x :: W) x (0 + 1)) r := r1
        have hlen : (0 : Int) < ((x :: W).length : Int) := by rw [List.length_cons]; omega
        have hg : (x :: W).getD (0 : Int).toNat (⟨#[]⟩ : ByteArray) = x := rfl
        simp (disch := (try simp only [e0]); omega) only [cpos, cneg, hg, e00, cble, wrap_in]
        exact r1'
      · rw [r2, List.map_cons, Lib.join_cons]; rfl
  obtain ⟨r, r1, r2, r3⟩ := key
  refine ⟨r, r1, ?_, r2, r3⟩
  unfold strings_Join.F xJoin
  have e1 : Lib.join (W.map (·.data.toList)) (⟨#[32]⟩ : ByteArray).data.toList = L r := by rw [r2]; rfl
  rw [e1, Nat.ble_eq_true_of_le (by omega), Nat.ble_eq_true_of_le (by rw [L_size]; omega)]
  show some _ = some r
  congr 1
end Go.Proofs.YtdbfalcfejhjfaaDoor
end
