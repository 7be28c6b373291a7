/- A region, carried out in order. -/
import Derived.Test.YtnffgabfibafjaaDoorGxStep
namespace Go.Gx
open Go.RowKit
set_option linter.unusedVariables false

def WantY (ops : Array Oper) (o : Oper) (st : St) : Prop := o.guard = none ∨ ∃ j b g d, o.guard = some (j, b) ∧ ops[j]? = some g ∧ g.dst = some d ∧ st.slot d = .t .bool b
def WantN (ops : Array Oper) (o : Oper) (st : St) : Prop := ∃ j b, o.guard = some (j, b) ∧ (ops[j]? = none ∨ ∃ g, ops[j]? = some g ∧ (g.dst = none ∨ ∃ d, g.dst = some d ∧ (st.slot d = .t .bool (!b) ∨ st.slot d = .tup [])))
inductive RunR (E : Env) (G : Cal → List AV → AV → Prop) (dr : Bool) (ops : Array Oper) (rid : Nat) : List Oper → Nat → St → St → Prop
  | nil (i : Nat) (st : St) : RunR E G dr ops rid [] i st st
  | yes (o : Oper) (l : List Oper) (i : Nat) (st st' : St) (u : Upd) (hd : dstOk o st.nt = true) (hw : WantY ops o st) (h : AOp E G dr o ((rid * 256 + i) * 4) (ev E st) st.row u) (hr : RunR E G dr ops rid l (i + 1) (st.apply o.dst u) st') : RunR E G dr ops rid (o :: l) i st st'
  | no (o : Oper) (l : List Oper) (i : Nat) (st st' : St) (hd : dstOk o st.nt = true) (hw : WantN ops o st) (hr : RunR E G dr ops rid l (i + 1) (st.putO o.dst undefV) st') : RunR E G dr ops rid (o :: l) i st st'

theorem put_self {st : St} {d : Nat} {b : AV} (h : st.slot d = b) : st.put d b = st := by
  cases st with
  | mk slot row nt =>
    simp only [St.put] at *
    congr 1
    funext t
    rw [beq_eq]
    by_cases e : t = d
    · subst e; simp [h]
    · simp [e]
theorem wantedK_rel {R : Type} {r : R} {ops : Array Oper} {o : Oper} {st : St} {yes no : St → Option R} (h : wantedK ops o st yes no = some r) : (WantY ops o st ∧ yes st = some r) ∨ (WantN ops o st ∧ no st = some r) := by
  unfold wantedK at h
  split at h
  · rename_i hg
    exact .inl ⟨.inl hg, h⟩
  · rename_i j want hg
    split at h
    · rename_i g hj
      split at h
      · rename_i d hd
        split at h
        · rename_i b hb
          cases want with
          | true =>
            cases b with
            | true => rw [put_self hb] at h; exact .inl ⟨.inr ⟨j, true, g, d, hg, hj, hd, hb⟩, h⟩
            | false => rw [put_self hb] at h; exact .inr ⟨⟨j, true, hg, .inr ⟨g, hj, .inr ⟨d, hd, .inl hb⟩⟩⟩, h⟩
          | false =>
            cases b with
            | true => rw [put_self hb] at h; exact .inr ⟨⟨j, false, hg, .inr ⟨g, hj, .inr ⟨d, hd, .inl hb⟩⟩⟩, h⟩
            | false => rw [put_self hb] at h; exact .inl ⟨.inr ⟨j, false, g, d, hg, hj, hd, hb⟩, h⟩
        · rename_i hb
          exact .inr ⟨⟨j, want, hg, .inr ⟨g, hj, .inr ⟨d, hd, .inr hb⟩⟩⟩, h⟩
        · cases h
      · rename_i hd
        exact .inr ⟨⟨j, want, hg, .inr ⟨g, hj, .inl hd⟩⟩, h⟩
    · rename_i hj
      exact .inr ⟨⟨j, want, hg, .inl hj⟩, h⟩
theorem runOps_rel {R : Type} {r : R} {E : Env} {C : Orc} {G : Cal → List AV → AV → Prop} (hC : OrcIs C G) {dr : Bool} {ops : Array Oper} {rid : Nat} : ∀ (l : List Oper) (i : Nat) (st : St) {K : St → Option R}, runOps E C dr ops rid l i st K = some r →
    ∃ st', RunR E G dr ops rid l i st st' ∧ K st' = some r
  | [], i, st, K, h => ⟨st, .nil i st, h⟩
  | o :: l, i, st, K, h => by
    unfold runOps at h
    split at h
    · rename_i hd
      rcases wantedK_rel h with ⟨hw, h⟩ | ⟨hw, h⟩
      · obtain ⟨u, h1, h⟩ := aop_rel hC h
        obtain ⟨st', h2, h3⟩ := runOps_rel hC l (i + 1) _ h
        exact ⟨st', .yes o l i st st' u hd hw h1 h2, h3⟩
      · obtain ⟨st', h2, h3⟩ := runOps_rel hC l (i + 1) _ h
        exact ⟨st', .no o l i st st' hd hw h2, h3⟩
    · cases h

section
variable {P : Program} {E : Env} {w0 : World} {B : Old} {pv : Nat → Value} {S : Nat → Prop} {ρ : Nat → Option Loc} {st : St} {a : Act} {w : World} {G : Cal → List AV → AV → Prop} {Q : Exit → Act → World → Prop}
theorem tmps_get {d : Nat} {v : Value} (h : a.tmps.getD d undef = v) (hv : v ≠ undef) : a.tmps[d]? = some v := by
  rw [Array.getD_eq_getD_getElem?] at h
  cases hd : a.tmps[d]? with
  | none => rw [hd] at h; exact absurd h.symm hv
  | some u => rw [hd] at h; rw [← h]; rfl
theorem want_y {ops : Array Oper} {o : Oper} (hs : Sim w0 B pv S ρ st a w) (h : WantY ops o st) : Region.wanted o (yielded ops a.tmps) = true := by
  rcases h with h | ⟨j, b, g, d, h1, h2, h3, h4⟩
  · simp [Region.wanted, h]
  · have := hs.slots d
    rw [h4] at this
    have hv := tmps_get (vr_bool this) (by simp [undef])
    simp [Region.wanted, h1, yielded, h2, h3, hv]
theorem want_n {ops : Array Oper} {o : Oper} (hs : Sim w0 B pv S ρ st a w) (h : WantN ops o st) : Region.wanted o (yielded ops a.tmps) = false := by
  obtain ⟨j, b, h1, h2 | ⟨g, h2, h3 | ⟨d, h3, h4 | h4⟩⟩⟩ := h
  · simp [Region.wanted, h1, yielded, h2]
  · simp [Region.wanted, h1, yielded, h2, h3]
  · have := hs.slots d
    rw [h4] at this
    have hv := tmps_get (vr_bool this) (by simp [undef])
    simp [Region.wanted, h1, yielded, h2, h3, hv]
  · have := hs.slots d
    rw [h4] at this
    obtain ⟨cs, h', h5⟩ := vr_ar this (by simp)
    cases h' with
    | tup _ css hl _ =>
      have : a.tmps.getD d undef = .tuple #[] := by rw [h5]; cases css <;> rfl
      rw [Array.getD_eq_getD_getElem?] at this
      cases hd : a.tmps[d]? with
      | none => simp [Region.wanted, h1, yielded, h2, h3, hd]
      | some u =>
        rw [hd] at this
        have : u = .tuple #[] := this
        subst this
        simp [Region.wanted, h1, yielded, h2, h3, hd]
/-- In order. -/
theorem seq_ok (hE : EnvOk P E) (hG : GOk P E pv G) {ops : Array Oper} {rid : Nat} {dr : Bool} : ∀ {l : List Oper} {i : Nat} {st st' : St} {S : Nat → Prop} {ρ : Nat → Option Loc} {a : Act} {w : World}, RunR E G dr ops rid l i st st' → Sim w0 B pv S ρ st a w → GlOk E S w →
    (∀ k, i ≤ k → k < i + l.length → ∀ c, c < 4 → ρ ((rid * 256 + k) * 4 + c) = none) →
    (∀ S' ρ' a' w', Sim w0 B pv S' ρ' st' a' w' → GlOk E S' w' → Grew B S S' → Q .normal a' w') → wpList P ops Q l a w
  | [], i, st, st', S, ρ, a, w, hr, hs, hgl, _, hQ => by
    cases hr
    exact hQ S ρ a w hs hgl (Grew.refl _ _)
  | o :: l, i, st, st', S, ρ, a, w, hr, hs, hgl, hid, hQ => by
    cases hr with
    | yes _ _ _ _ _ u hd hw h hr =>
      unfold wpList
      rw [if_pos (want_y hs hw)]
      refine .inl (step_ok hE hG hs hgl hd (hid i (Nat.le_refl _) (by simp)) h fun S1 ρ1 a1 w1 hs1 hgl1 hS1 hρ1 => ?_)
      exact seq_ok hE hG hr hs1 hgl1 (fun k hk1 hk2 c hc => hρ1 _ (hid k (by omega) (by simp; omega) c hc) (by omega)) fun S2 ρ2 a2 w2 hs2 hgl2 hS2 => hQ S2 ρ2 a2 w2 hs2 hgl2 (hS1.trans hS2)
    | no _ _ _ _ _ hd hw hr =>
      unfold wpList
      rw [want_n hs hw]
      exact seq_ok hE hG hr (hs.put (dst_lt hd) vr_undef) hgl (fun k hk1 hk2 c hc => hid k (by omega) (by simp; omega) c hc) hQ
end
end Go.Gx
