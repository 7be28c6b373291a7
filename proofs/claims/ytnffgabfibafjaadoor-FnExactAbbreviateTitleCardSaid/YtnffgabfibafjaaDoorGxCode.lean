/- Code: what the interpreter finds is what the machine does, loops being given. -/
import Derived.Test.YtnffgabfibafjaaDoorGxRegion
import Derived.Test.YtnffgabfibafjaaDoorGxSpec
namespace Go.Gx
open Go.RowKit
set_option linter.unusedVariables false

inductive CodeR (E : Env) (G : Cal → List AV → AV → Prop) (LG : Nat → St → Ex → St → Prop) : Nat → Code → St → Ex → St → Prop
  | skip (b : Nat) (st : St) : CodeR E G LG b .skip st .normal st
  | region (b rid : Nat) (ops : Array Oper) (dr : Bool) (st st' : St) (hn : ops.size ≤ 256) (hm : rid * 1024 + 1024 ≤ mbase) (hd : dr = true → drawOk ops = true) (h : RunR E G dr ops rid ops.toList 0 (st.kill (rid * 1024) (rid * 1024 + 1024)) st') : CodeR E G LG b (.region rid ops dr) st .normal st'
  | seq (b : Nat) (x y : Code) (st st1 st' : St) (e : Ex) (h1 : CodeR E G LG b x st .normal st1) (h2 : CodeR E G LG b y st1 e st') : CodeR E G LG b (.seq x y) st e st'
  | seqE (b : Nat) (x y : Code) (st st' : St) (e : Ex) (h1 : CodeR E G LG b x st e st') (he : e ≠ .normal) : CodeR E G LG b (.seq x y) st e st'
  | cond (b : Nat) (c : Operand) (x y : Code) (st st' : St) (e : Ex) (v : Bool) (hc : ev E st c = .t .bool v) (h : CodeR E G LG b (if v then x else y) st e st') : CodeR E G LG b (.cond c x y) st e st'
  | block (b id : Nat) (c : Code) (st st' : St) (e : Ex) (h : CodeR E G LG id c st e st') (he : e ≠ .exit id) : CodeR E G LG b (.block id c) st e st'
  | blockX (b id : Nat) (c : Code) (st st' : St) (h : CodeR E G LG id c st (.exit id) st') : CodeR E G LG b (.block id c) st .normal st'
  | loop (b : Nat) (c : Code) (st st' : St) (e : Ex) (h : LG b st e st') : CodeR E G LG b (.loop c) st e st'
  | exit (b id : Nat) (st : St) : CodeR E G LG b (.exit id) st (.exit id) st
  | ret (b : Nat) (st : St) : CodeR E G LG b .ret st .ret st

def LIs (L : LOrc) (LG : Nat → St → Ex → St → Prop) : Prop := ∀ (R : Type) b st (K : Ex → St → Option R) r, L b st K = some r → ∃ e st', LG b st e st' ∧ K e st' = some r

theorem runC_rel {E : Env} {C : Orc} {L : LOrc} {G : Cal → List AV → AV → Prop} {LG : Nat → St → Ex → St → Prop} (hC : OrcIs C G) (hL : LIs L LG) {R : Type} {r : R} : ∀ (c : Code) (b : Nat) (st : St) {K : Ex → St → Option R}, runC E C L b c st K = some r →
    ∃ e st', CodeR E G LG b c st e st' ∧ K e st' = some r
  | .skip, b, st, K, h => ⟨_, _, .skip b st, h⟩
  | .region rid ops dr, b, st, K, h => by
    simp only [runC] at h
    split at h
    · cases h
    · rename_i hg
      simp only [Bool.or_eq_false_iff, Bool.not_eq_false'] at hg
      obtain ⟨hn, hm, hd⟩ := hg
      obtain ⟨st', h1, h2⟩ := runOps_rel hC _ _ _ h
      refine ⟨_, st', .region b rid ops dr st st' (Nat.le_of_ble_eq_true hn) (Nat.le_of_ble_eq_true hm) (fun e => ?_) h1, h2⟩
      subst e
      simpa using hd
  | .seq x y, b, st, K, h => by
    simp only [runC] at h
    obtain ⟨e, st1, h1, h2⟩ := runC_rel hC hL x b st h
    cases e with
    | normal =>
      obtain ⟨e, st', h3, h4⟩ := runC_rel hC hL y b st1 h2
      exact ⟨e, st', .seq b x y st st1 st' e h1 h3, h4⟩
    | exit id => exact ⟨_, st1, .seqE b x y st st1 _ h1 (by simp), h2⟩
    | ret => exact ⟨_, st1, .seqE b x y st st1 _ h1 (by simp), h2⟩
  | .cond c x y, b, st, K, h => by
    simp only [runC] at h
    split at h
    · rename_i v hv
      cases v with
      | true =>
        obtain ⟨e, st', h1, h2⟩ := runC_rel hC hL x b st h
        exact ⟨e, st', .cond b c x y st st' e true hv (by simpa using h1), h2⟩
      | false =>
        obtain ⟨e, st', h1, h2⟩ := runC_rel hC hL y b st h
        exact ⟨e, st', .cond b c x y st st' e false hv (by simpa using h1), h2⟩
    · cases h
  | .block id c, b, st, K, h => by
    simp only [runC] at h
    obtain ⟨e, st1, h1, h2⟩ := runC_rel hC hL c id st h
    cases e with
    | normal => exact ⟨_, st1, .block b id c st st1 _ h1 (by simp), h2⟩
    | exit j =>
      simp only at h2
      split at h2
      · rename_i hj
        have := Nat.eq_of_beq_eq_true hj
        subst this
        exact ⟨_, st1, .blockX b _ c st st1 h1, h2⟩
      · rename_i hj
        refine ⟨_, st1, .block b id c st st1 _ h1 (fun e => ?_), h2⟩
        cases e
        simp at hj
    | ret => exact ⟨_, st1, .block b id c st st1 _ h1 (by simp), h2⟩
  | .loop c, b, st, K, h => by
    simp only [runC] at h
    obtain ⟨e, st', h1, h2⟩ := hL _ _ _ _ _ h
    exact ⟨e, st', .loop b c st st' e h1, h2⟩
  | .exit id, b, st, K, h => ⟨_, _, .exit b id st, h⟩
  | .ret, b, st, K, h => ⟨_, _, .ret b st, h⟩
  | .rangeFunc .., b, st, K, h => by simp [runC] at h
  | .scope _, b, st, K, h => by simp [runC] at h
  | .label _, b, st, K, h => by simp [runC] at h
  | .goto _, b, st, K, h => by simp [runC] at h
  | .refuse _, b, st, K, h => by simp [runC] at h

def exw : Ex → Exit
  | .normal => .normal
  | .exit id => .exit id
  | .ret => .ret
/-- A loop does what is said of it. -/
def LoopSound (P : Program) (E : Env) (w0 : World) (B : Old) (pv : Nat → Value) (d : Code) (LGb : St → Ex → St → Prop) : Prop :=
  ∀ (st : St) (e : Ex) (st' : St) (S : Nat → Prop) (ρ : Nat → Option Loc) (a : Act) (w : World) (Q : Exit → Act → World → Prop), LGb st e st' → Sim w0 B pv S ρ st a w → GlOk E S w →
    (∀ S' ρ' a' w', Sim w0 B pv S' ρ' st' a' w' → GlOk E S' w' → Grew B S S' → Q (exw e) a' w') → (Code.loop d).wp P Q a w
theorem code_ok {P : Program} {E : Env} {w0 : World} {B : Old} {pv : Nat → Value} {G : Cal → List AV → AV → Prop} {LG : Nat → St → Ex → St → Prop} (hE : EnvOk P E) (hG : GOk P E pv G) {b : Nat} {c : Code} {st : St} {e : Ex} {st' : St} (h : CodeR E G LG b c st e st') :
    (∀ p ∈ loopsOf b c, LoopSound P E w0 B pv p.2 (LG p.1)) → ∀ {S : Nat → Prop} {ρ : Nat → Option Loc} {a : Act} {w : World} {Q : Exit → Act → World → Prop}, Sim w0 B pv S ρ st a w → GlOk E S w →
    (∀ S' ρ' a' w', Sim w0 B pv S' ρ' st' a' w' → GlOk E S' w' → Grew B S S' → Q (exw e) a' w') → c.wp P Q a w := by
  induction h with
  | skip b st => exact fun _ S ρ a w Q hs hgl hQ => wp_skip (hQ S ρ a w hs hgl (Grew.refl _ _))
  | region b rid ops dr st st' hn hm hd h => exact fun _ S ρ a w Q hs hgl hQ => region_ok hE hG hn hm hd h hs hgl hQ
  | seq b x y st st1 st' e h1 h2 ih1 ih2 =>
    intro hl S ρ a w Q hs hgl hQ
    refine wp_seq (ih1 (fun p hp => hl p (List.mem_append_left _ hp)) hs hgl fun S1 ρ1 a1 w1 hs1 hgl1 hS1 => ?_)
    exact ih2 (fun p hp => hl p (List.mem_append_right _ hp)) hs1 hgl1 fun S2 ρ2 a2 w2 hs2 hgl2 hS2 => hQ S2 ρ2 a2 w2 hs2 hgl2 (hS1.trans hS2)
  | seqE b x y st st' e h1 he ih =>
    intro hl S ρ a w Q hs hgl hQ
    refine wp_seq (ih (fun p hp => hl p (List.mem_append_left _ hp)) hs hgl fun S1 ρ1 a1 w1 hs1 hgl1 hS1 => ?_)
    have := hQ S1 ρ1 a1 w1 hs1 hgl1 hS1
    cases e with
    | normal => exact absurd rfl he
    | exit id => exact this
    | ret => exact this
  | cond b c x y st st' e v hc h ih =>
    intro hl S ρ a w Q hs hgl hQ
    have hv := ev_ok hgl hs c
    rw [hc] at hv
    refine wp_cond (vr_bool hv) (ih (fun p hp => hl p ?_) hs hgl hQ)
    cases v with
    | true => exact List.mem_append_left _ (by simpa using hp)
    | false => exact List.mem_append_right _ (by simpa using hp)
  | block b id c st st' e h he ih =>
    intro hl S ρ a w Q hs hgl hQ
    refine wp_block (ih hl hs hgl fun S1 ρ1 a1 w1 hs1 hgl1 hS1 => ?_)
    have := hQ S1 ρ1 a1 w1 hs1 hgl1 hS1
    cases e with
    | normal => exact this
    | exit j =>
      have hj : j ≠ id := fun e => he (by rw [e])
      simp only [Exit.inBlock, exw] at this ⊢
      rw [if_neg (by simpa using hj)]
      exact this
    | ret => exact this
  | blockX b id c st st' h ih =>
    intro hl S ρ a w Q hs hgl hQ
    refine wp_block (ih hl hs hgl fun S1 ρ1 a1 w1 hs1 hgl1 hS1 => ?_)
    have := hQ S1 ρ1 a1 w1 hs1 hgl1 hS1
    simp only [Exit.inBlock, exw] at this ⊢
    rw [if_pos (by simp)]
    exact this
  | loop b c st st' e h =>
    intro hl S ρ a w Q hs hgl hQ
    exact hl (b, c) List.mem_cons_self st e st' S ρ a w Q h hs hgl hQ
  | exit b id st => exact fun _ S ρ a w Q hs hgl hQ => wp_exit (hQ S ρ a w hs hgl (Grew.refl _ _))
  | ret b st => exact fun _ S ρ a w Q hs hgl hQ => wp_ret (hQ S ρ a w hs hgl (Grew.refl _ _))
end Go.Gx
