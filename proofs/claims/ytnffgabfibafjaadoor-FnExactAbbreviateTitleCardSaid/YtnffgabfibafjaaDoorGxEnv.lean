/- What the interpreter is told of a program; operands. -/
import Derived.Test.YtnffgabfibafjaaDoorGxAop
import Derived.Orders
import Derived.Laws.IdiomStrings
import Derived.Laws.BytesArg
import Derived.Laws.CopyRow
import Derived.Laws.Tables
import Derived.Great.BuildSlice
namespace Go.Gx
open Go.RowKit

/-- The cells of a zero value. -/
def zc : Ty → List Value
  | .int k => [.int k 0]
  | .bool => [.bool false]
  | .str => [.string ⟨#[]⟩]
  | .sl _ => [.slice none 0 0]
  | .arr n e => (List.range n).flatMap fun _ => zc e
  | .date => [.int .i64 0, .int .i64 0, .int .i64 0, .bool false]
  | .name => [.slice none 0 0, .string ⟨#[]⟩, .string ⟨#[]⟩, .string ⟨#[]⟩]
  | .entry => [.string ⟨#[]⟩, .int .i64 0, .slice none 0 0, .slice none 0 0, .string ⟨#[]⟩, .string ⟨#[]⟩, .string ⟨#[]⟩, .int .i64 0, .int .i64 0, .int .i64 0, .bool false, .int .i64 0, .string ⟨#[]⟩, .string ⟨#[]⟩]
  | .lib => [.slice none 0 0]
  | .abbr => [.string ⟨#[]⟩, .string ⟨#[]⟩]
  | .query => [.int .i64 0, .string ⟨#[]⟩, .string ⟨#[]⟩, .slice none 0 0]
theorem cr_nil (S : Nat → Prop) (w : World) (e : Ty) : CR S w (.sl e) [] [.slice none 0 0] :=
  .sl e [] none 0 (fun _ => []) (Nat.le_refl _) (Nat.zero_le _) (fun i h => absurd h (Nat.not_lt_zero i)) (fun i h => absurd h (Nat.not_lt_zero i))
theorem zc_ok (S : Nat → Prop) (w : World) : ∀ τ : Ty, CR S w τ (dflt τ) (zc τ)
  | .int k => .int k 0
  | .bool => .bool false
  | .str => .str _
  | .sl e => cr_nil S w e
  | .arr n e => .arr n e _ (fun _ => zc e) (by simp [dflt]) fun i h => by
      have : (dflt (.arr n e))[i] = dflt e := by simp [dflt]
      rw [this]
      exact zc_ok S w e
  | .date => .date ⟨0, 0, 0, false⟩
  | .name => .name ⟨[], ⟨#[]⟩, ⟨#[]⟩, ⟨#[]⟩⟩ _ (cr_nil S w .str)
  | .entry => .entry (dflt .entry) _ _ (cr_nil S w .name) (cr_nil S w .name)
  | .lib => .lib ⟨[]⟩ _ (cr_nil S w .entry)
  | .abbr => .abbr ⟨⟨#[]⟩, ⟨#[]⟩⟩
  | .query => .query (.mk 0 ⟨#[]⟩ ⟨#[]⟩ []) _ (cr_nil S w .query)

/-- A type's description. -/
def undOk (P : Program) (E : Env) (T : Nat) : Ty → Prop
  | .int k => P.underlying T = some (.int k)
  | .bool => P.underlying T = some .bool
  | .str => P.underlying T = some .string
  | .sl e => ∃ t, P.underlying T = some (.slice t) ∧ E.el T = t ∧ E.ty t = some e ∧ 0 < nc e ∧ 0 < nb e
  | .arr n e => ∃ t, P.underlying T = some (.array n t) ∧ E.ty t = some e
  | τ => ∃ fs, P.underlying T = some (.struct fs) ∧ fs.size = (fty τ).length ∧ ∀ (f : Nat) (d : Field), fs[f]? = some d → ∃ σ, (fty τ)[f]? = some σ ∧ d.offset = offL (fty τ) f ∧ E.ty d.type = some σ
structure TyOk (P : Program) (E : Env) (T : Nat) (τ : Ty) : Prop where
  info : ∃ i, P.info? T = some i ∧ i.size = nc τ ∧ i.bytes = nb τ ∧ i.zero = some (valOf (.t τ (dflt τ)) (zc τ))
  und : undOk P E T τ

def fieldsChk (E : Env) (τ : Ty) : List Field → Nat → Bool
  | [], _ => true
  | d :: l, f => match (fty τ)[f]?, E.ty d.type with
    | some σ, some σ' => (match decEq σ σ' with
      | .isTrue _ => true
      | .isFalse _ => false) && (Nat.beq d.offset (offL (fty τ) f) && fieldsChk E τ l (f + 1))
    | _, _ => false
def sameTy (a b : Ty) : Bool := match decEq a b with
  | .isTrue _ => true
  | .isFalse _ => false
def undChk (P : Program) (E : Env) (T : Nat) (τ : Ty) : Bool := match P.underlying T, τ with
  | some (.int k), .int k' => match decEq k k' with
    | .isTrue _ => true
    | .isFalse _ => false
  | some .bool, .bool => true
  | some .string, .str => true
  | some (.slice t), .sl e => Nat.beq (E.el T) t && (Nat.blt 0 (nc e) && (Nat.blt 0 (nb e) && (match E.ty t with
    | some e' => sameTy e e'
    | none => false)))
  | some (.array m t), .arr n e => Nat.beq m n && (match E.ty t with
    | some e' => sameTy e e'
    | none => false)
  | some (.struct fs), τ => (match τ with
    | .date | .name | .entry | .lib | .abbr | .query => true
    | _ => false) && (Nat.beq fs.size (fty τ).length && fieldsChk E τ fs.toList 0)
  | _, _ => false
theorem sameTy_eq {a b : Ty} (h : sameTy a b = true) : a = b := by
  unfold sameTy at h
  split at h
  · rename_i e _; exact e
  · cases h
theorem fieldsChk_ok {E : Env} {τ : Ty} : ∀ {l : List Field} {k : Nat}, fieldsChk E τ l k = true → ∀ (f : Nat) (d : Field), l[f]? = some d → ∃ σ, (fty τ)[k + f]? = some σ ∧ d.offset = offL (fty τ) (k + f) ∧ E.ty d.type = some σ
  | [], _, _, f, d, h => by simp at h
  | x :: l, k, h, f, d, hd => by
    unfold fieldsChk at h
    split at h
    · rename_i σ σ' h1 h2
      simp only [Bool.and_eq_true] at h
      obtain ⟨h3, h4, h5⟩ := h
      have e : σ = σ' := sameTy_eq h3
      subst e
      cases f with
      | zero =>
        simp only [List.getElem?_cons_zero, Option.some.injEq] at hd
        subst hd
        exact ⟨σ, h1, Nat.eq_of_beq_eq_true h4, h2⟩
      | succ f =>
        have := fieldsChk_ok h5 f d (by simpa using hd)
        rw [show k + 1 + f = k + (f + 1) by omega] at this
        exact this
    · cases h
theorem undChk_ok {P : Program} {E : Env} {T : Nat} {τ : Ty} (h : undChk P E T τ = true) : undOk P E T τ := by
  unfold undChk at h
  split at h
  · rename_i k k' hu
    split at h
    · rename_i e _; subst e; exact hu
    · cases h
  · rename_i hu; exact hu
  · rename_i hu; exact hu
  · rename_i t e hu
    simp only [Bool.and_eq_true] at h
    obtain ⟨h1, h2, h2', h3⟩ := h
    split at h3
    · rename_i e' he
      exact ⟨t, hu, Nat.eq_of_beq_eq_true h1, by rw [he, sameTy_eq h3], Nat.le_of_ble_eq_true h2, Nat.le_of_ble_eq_true h2'⟩
    · cases h3
  · rename_i m t n e hu
    simp only [Bool.and_eq_true] at h
    obtain ⟨h1, h3⟩ := h
    split at h3
    · rename_i e' he
      exact ⟨t, by rw [hu, Nat.eq_of_beq_eq_true h1], by rw [he, sameTy_eq h3]⟩
    · cases h3
  · rename_i τ0 x1 τ1 fs hu
    simp only [Bool.and_eq_true] at h
    obtain ⟨h0, h1, h2⟩ := h
    have hf : ∀ (f : Nat) (d : Field), fs[f]? = some d → ∃ σ, (fty τ0)[f]? = some σ ∧ d.offset = offL (fty τ0) f ∧ E.ty d.type = some σ := fun f d hd => by
      have := fieldsChk_ok h2 f d (by simpa using hd)
      simpa using this
    have h1 := Nat.eq_of_beq_eq_true h1
    cases τ0 <;> first
      | exact ⟨fs, hu, h1, hf⟩
      | cases h0
  · cases h
theorem tyOk_of {P : Program} {E : Env} {T : Nat} {τ : Ty} (h : undChk P E T τ = true) (hi : (P.info? T).map (fun i => (i.size, i.bytes, i.zero)) = some (nc τ, nb τ, some (valOf (.t τ (dflt τ)) (zc τ)))) : TyOk P E T τ := by
  refine ⟨?_, undChk_ok h⟩
  cases hp : P.info? T with
  | none => rw [hp] at hi; cases hi
  | some i =>
    rw [hp] at hi
    simp only [Option.map_some, Option.some.injEq, Prod.mk.injEq] at hi
    exact ⟨i, rfl, hi.1, hi.2.1, hi.2.2⟩

/-- What the interpreter is told of a program holds. -/
structure EnvOk (P : Program) (E : Env) : Prop where
  ty : ∀ T τ, E.ty T = some τ → TyOk P E T τ
  mixed : P.follows .mixedOrders = true
  eqDate : ∀ T, E.ty T = some .date → P.eqGuardType P.depth T = false ∧ ∀ (x y : Date) (w : World), (Op.equalIn 10000 T (.agg #[.int .i64 x.y, .int .i64 x.m, .int .i64 x.d, .bool x.c]) (.agg #[.int .i64 y.y, .int .i64 y.m, .int .i64 y.d, .bool y.c])).run P w = .ok (x.y == y.y && (x.m == y.m && (x.d == y.d && x.c == y.c))) w
  eqAbbr : ∀ T, E.ty T = some .abbr → P.eqGuardType P.depth T = false ∧ ∀ (x y : Abbr) (w : World), (Op.equalIn 10000 T (.agg #[.string x.word, .string x.short]) (.agg #[.string y.word, .string y.short])).run P w = .ok (beqS x.word y.word && beqS x.short y.short) w
def GlOk (E : Env) (S : Nat → Prop) (w : World) : Prop := (∀ g b, E.gl g = some b → ∃ τ, ∃ x : den τ, ∃ cs, b = .t τ x ∧ CR S w τ x cs ∧ S g ∧ ∀ j v, cs[j]? = some v → w.cell? ⟨g, 0 + j, none⟩ = some v) ∧ ∀ g, E.gi g = true → S g ∧ ∃ m, w.cell? ⟨g, 0, none⟩ = some (.int .i64 m)
theorem GlOk.mono {E : Env} {S S' : Nat → Prop} {w w' : World} (h : GlOk E S w) (hS : ∀ b, S b → S' b) (hw : ∀ b, S b → w'.heap[b]? = w.heap[b]?) : GlOk E S' w' := by
  refine ⟨fun g b hb => ?_, fun g hg => ?_⟩
  · obtain ⟨τ, x, cs, e, hc, hg, hv⟩ := h.1 g b hb
    exact ⟨τ, x, cs, e, hc.mono hS hw, hS g hg, fun j v hj => (World.cell?_of_block (w := w) (a := ⟨g, _, none⟩) (hw g hg)).trans (hv j v hj)⟩
  · obtain ⟨h1, m, h2⟩ := h.2 g hg
    exact ⟨hS g h1, m, (World.cell?_of_block (w := w) (a := ⟨g, _, none⟩) (hw g h1)).trans h2⟩

section
variable {w0 : World} {B : Old} {pv : Nat → Value} {S : Nat → Prop} {ρ : Nat → Option Loc} {st : St} {a : Act} {w : World} {row : Nat → Option Row}

theorem VR.intro {b : AV} {cs : List Value} (h : AR S w ρ row pv b cs) : VR S w ρ row pv b (valOf b cs) := .inr ⟨cs, h, rfl⟩
theorem vr_undef : VR S w ρ row pv undefV undef := .inr ⟨_, .tup [] [] rfl (fun i a cs h => by simp at h), rfl⟩
theorem ofVal_ok (v : Value) : VR S w ρ row pv (ofVal v) v := by
  unfold ofVal
  split
  · exact .inr ⟨_, .t _ _ _ (.int _ _), rfl⟩
  · exact .inr ⟨_, .t _ _ _ (.bool _), rfl⟩
  · exact .inr ⟨_, .t _ _ _ (.str _), rfl⟩
  · exact .inr ⟨_, .nil, rfl⟩
  · exact .inl rfl

theorem ev_ok {E : Env} (hgl : GlOk E S w) (hs : Sim w0 B pv S ρ st a w) (x : Operand) : VR S w ρ st.row pv (ev E st x) (a.eval x) := by
  cases x with
  | tmp t => exact hs.slots t
  | const v => exact ofVal_ok v
  | global g =>
    simp only [ev]
    split
    · rename_i b hb
      obtain ⟨τ, x, cs, rfl, hc, hg, hv⟩ := hgl.1 g b hb
      exact .inr ⟨_, .tp τ x cs g 0 hc hg hv, rfl⟩
    · exact .inl rfl
  | func f => exact .inr ⟨_, .clo f [] [] rfl (fun i a cs h => by simp at h), rfl⟩

/-! ### Values of known form -/
theorem vr_int {k : IntKind} {n : Int} {v : Value} (h : VR S w ρ row pv (.t (.int k) n) v) : v = .int k n := by
  rcases h with h | ⟨cs, h, rfl⟩
  · cases h
  · cases h with
    | t _ _ _ h => rw [cr_int h]; rfl
theorem vr_bool {b : Bool} {v : Value} (h : VR S w ρ row pv (.t .bool b) v) : v = .bool b := by
  rcases h with h | ⟨cs, h, rfl⟩
  · cases h
  · cases h with
    | t _ _ _ h => rw [cr_bool h]; rfl
theorem vr_str {s : ByteArray} {v : Value} (h : VR S w ρ row pv (.t .str s) v) : v = .string s := by
  rcases h with h | ⟨cs, h, rfl⟩
  · cases h
  · cases h with
    | t _ _ _ h => rw [cr_str h]; rfl
theorem vr_nil {v : Value} (h : VR S w ρ row pv .nil v) : v = .slice none 0 0 := by
  rcases h with h | ⟨cs, h, rfl⟩
  · cases h
  · cases h; rfl
theorem vr_sl {e : Ty} {xs : List (den e)} {v : Value} (h : VR S w ρ row pv (.t (.sl e) xs) v) : CR S w (.sl e) xs [v] := by
  rcases h with h | ⟨cs, h, rfl⟩
  · cases h
  · cases h with
    | t _ _ _ h => obtain ⟨v, rfl⟩ := cr_sl h; exact h
theorem Fit.isAg {τ : Ty} {b : AV} (h : Fit τ b) : isAg b = agT τ := by
  cases h with
  | agg _ _ h => exact h.symm
  | ep _ _ _ _ h => exact h.symm
  | tp _ _ h => exact h.symm
  | clo _ _ _ h => exact h.symm
  | par _ _ h => exact h.symm
  | _ => rfl
theorem nc_one {τ : Ty} (h : agT τ = false) : nc τ = 1 := by cases τ <;> first | rfl | cases h
theorem Fit.not_any {τ : Ty} {b : AV} (h : Fit τ b) : b ≠ .any := by intro e; subst e; cases h
theorem vr_fit {τ : Ty} {b : AV} {v : Value} (hf : Fit τ b) (h : VR S w ρ row pv b v) : ∃ cs, AR S w ρ row pv b cs ∧ v = valOf b cs ∧ v.cells.toList = cs := by
  rcases h with h | ⟨cs, h, rfl⟩
  · exact absurd h hf.not_any
  · refine ⟨cs, h, rfl, ?_⟩
    have hl := AR.len hf h
    have h1 := AR.ones hf h
    unfold valOf
    rw [hf.isAg]
    cases hg : agT τ with
    | true => simp [Value.cells]
    | false =>
      rw [nc_one hg] at hl
      match cs, hl, h1 with
      | [v], _, h1 =>
        have := h1 v List.mem_cons_self
        cases v <;> first
          | rfl
          | cases this
end
end Go.Gx
