/- The interpreter's operations are the machine's: those that look, those that make. -/
import Derived.Test.YtnffgabfibafjaaDoorGxClose
namespace Go.Gx
open Go.RowKit
set_option linter.unusedVariables false

/-- What never changes any more has grown, by blocks of this call's own. -/
structure Grew (B : Old) (S S' : Nat → Prop) : Prop where
  sub : ∀ b, S b → S' b
  new : ∀ b, S' b → S b ∨ ¬ B b
theorem Grew.refl (B : Old) (S : Nat → Prop) : Grew B S S := ⟨fun _ h => h, fun _ h => .inl h⟩
theorem Grew.trans {B : Old} {S S1 S2 : Nat → Prop} (h : Grew B S S1) (k : Grew B S1 S2) : Grew B S S2 :=
  ⟨fun b hb => k.sub b (h.sub b hb), fun b hb => (k.new b hb).elim (h.new b) .inr⟩
theorem grew_frz {w0 : World} {B : Old} {pv : Nat → Value} {S : Nat → Prop} {ρ : Nat → Option Loc} {st : St} {a : Act} {w : World} (h : Sim w0 B pv S ρ st a w) (ids : List Nat) : Grew B S (frzS S ρ st.row ids) :=
  ⟨fun _ hb => .inl hb, fun b hb => hb.imp _root_.id fun ⟨id, _, r, c, hr, _, hl⟩ => (h.hs.apart id r b c hl hr).1⟩
/-- What follows an operation. -/
def Nx (E : Env) (w0 : World) (B : Old) (pv : Nat → Value) (S : Nat → Prop) (ρ : Nat → Option Loc) (st : St) (dst : Option Nat) (u : Upd) (id : Nat) (K : Act → World → Prop) : Prop :=
  ∀ S' ρ' a' w', Sim w0 B pv S' ρ' (st.apply dst u) a' w' → GlOk E S' w' → Grew B S S' → (∀ j, ρ j = none → ¬ (id ≤ j ∧ j < id + 4) → ρ' j = none) → K a' w'

theorem Oper.wp_value {P : Program} {o : Oper} {a : Act} {w w' : World} {K : Act → World → Prop} {Q : Exit → Act → World → Prop} {v : Value} (h : (execOp a.eval o).run P w = .ok (.value v) w') (hK : K (a.put o.dst v) w') : o.wp P a w K Q := by
  unfold Oper.wp; rw [h]; exact hK
theorem Oper.wp_skip {P : Program} {o : Oper} {a : Act} {w w' : World} {K : Act → World → Prop} {Q : Exit → Act → World → Prop} (h : (execOp a.eval o).run P w = .ok .skip w') (hK : K (a.put o.dst undef) w') : o.wp P a w K Q := by
  unfold Oper.wp; rw [h]; exact hK

section
variable {P : Program} {E : Env} {w0 : World} {B : Old} {pv : Nat → Value} {S : Nat → Prop} {ρ : Nat → Option Loc} {st : St} {a : Act} {w : World} {o : Oper} {id : Nat} {K : Act → World → Prop} {Q : Exit → Act → World → Prop}

theorem dst_lt {o : Oper} {n : Nat} (h : dstOk o n = true) : ∀ d, o.dst = some d → d < n := fun d hd => by
  unfold dstOk at h
  rw [hd] at h
  exact Nat.le_of_ble_eq_true h
theorem wp_quiet (hs : Sim w0 B pv S ρ st a w) (hgl : GlOk E S w) (hd : dstOk o st.nt = true) {b : AV} {v : Value} (hrun : (execOp a.eval o).run P w = .ok (.value v) w) (hv : VR S w ρ st.row pv b v)
    (hK : Nx E w0 B pv S ρ st o.dst (quiet b) id K) : o.wp P a w K Q :=
  Oper.wp_value hrun (hK S ρ _ w (hs.put (dst_lt hd) hv) hgl (Grew.refl _ _) (fun _ h _ => h))
theorem upd_self (ρ : Nat → Option Loc) (id : Nat) (l : Loc) : upd ρ id l id = some l := by simp [upd]
theorem upd_far {ρ : Nat → Option Loc} {id : Nat} {l : Loc} {id0 : Nat} (h : id0 ≤ id ∧ id < id0 + 4) : ∀ j, ρ j = none → ¬ (id0 ≤ j ∧ j < id0 + 4) → upd ρ id l j = none := fun j h1 h2 => by
  have : j ≠ id := by rintro rfl; exact h2 h
  simp [upd, this, h1]
theorem World.size_alloc' (w : World) (o : Obj) : (w.alloc o).heap.size = w.heap.size + 1 := by
  show (w.heap.push o).size = _
  exact Array.size_push _
theorem Sim.alloc (hs : Sim w0 B pv S ρ st a w) (hgl : GlOk E S w) (hid : ρ id = none) {cur : Array Value} {T : TypeId} {r : Row} {c : Nat} (hf : frz r = false)
    (hok : ∀ ρ' row', (∀ i l, ρ i = some l → ρ' i = some l ∧ row' i = st.row i) → RowOk S (w.alloc (.cells cur T)) ρ' row' pv r (.at w.heap.size c)) :
    Sim w0 B pv S (upd ρ id (.at w.heap.size c)) (st.setRow id r) a (w.alloc (.cells cur T)) ∧ GlOk E S (w.alloc (.cells cur T)) := by
  have hold : ∀ b, b < w.heap.size → (w.alloc (.cells cur T)).heap[b]? = w.heap[b]? := fun b hb => heap_alloc_old w _ b hb
  exact ⟨hs.make (hs.below.alloc hs.hB _) (by rw [World.size_alloc']; omega) hold hid hf (fun g c e => by cases e; exact Nat.le_refl _) hok, hgl.mono (fun _ h => h) fun b hb => hold b (hs.hs.stab b hb)⟩
theorem wp_make (hs : Sim w0 B pv S ρ st a w) (hgl : GlOk E S w) (hd : dstOk o st.nt = true) (hid : ρ id = none) {cur : Array Value} {T : TypeId} {r : Row} {c : Nat} (hf : frz r = false) {b : AV} {v : Value}
    (hrun : (execOp a.eval o).run P w = .ok (.value v) (w.alloc (.cells cur T)))
    (hok : ∀ ρ' row', (∀ i l, ρ i = some l → ρ' i = some l ∧ row' i = st.row i) → RowOk S (w.alloc (.cells cur T)) ρ' row' pv r (.at w.heap.size c))
    (hv : ∀ w' ρ' row', ρ' id = some (.at w.heap.size c) → row' id = some r → VR S w' ρ' row' pv b v)
    (hK : Nx E w0 B pv S ρ st o.dst (makes b [(id, r)]) id K) : o.wp P a w K Q := by
  obtain ⟨h1, h2⟩ := hs.alloc (E := E) hgl hid hf hok
  refine Oper.wp_value hrun (hK S (upd ρ id (.at w.heap.size c)) _ _ ?_ h2 (Grew.refl _ _) (upd_far ⟨Nat.le_refl _, by omega⟩))
  exact h1.put (dst_lt hd) (hv _ _ _ (upd_self _ _ _) (by rw [setRow_row, if_pos rfl]))

/-! ### Values, by their form -/
variable {row : Nat → Option Row}
theorem vr_ar {b : AV} {v : Value} (h : VR S w ρ row pv b v) (hb : b ≠ .any) : ∃ cs, AR S w ρ row pv b cs ∧ v = valOf b cs := h.resolve_left hb
theorem vr_ep {i : Option Nat} {p : List Nat} {j : Nat} {v : Value} (h : VR S w ρ row pv (.ep j i p) v) (hp : tailP p = false) : ∃ A, v = .pointer (some A) := by
  obtain ⟨cs, h', rfl⟩ := vr_ar h (by simp)
  cases h' <;> first
    | exact ⟨_, rfl⟩
    | cases hp
theorem vr_tp {b : AV} {v : Value} (h : VR S w ρ row pv (.tp b) v) : ∃ τ x cs g o, b = .t τ x ∧ v = .pointer (some ⟨g, o, none⟩) ∧ CR S w τ x cs ∧ S g ∧ ∀ j u, cs[j]? = some u → w.cell? ⟨g, o + j, none⟩ = some u := by
  obtain ⟨cs, h', rfl⟩ := vr_ar h (by simp)
  cases h' with
  | tp τ x cs g o hx hS hc => exact ⟨τ, x, cs, g, o, rfl, rfl, hx, hS, hc⟩
theorem vr_epB {p : List Nat} {j : Nat} {v : Value} {σ : Ty} {b : AV} (h : VR S w ρ row pv (.ep j none p) v) (hr : row j = some (.box σ b)) :
    ∃ g c τ, tyP σ p = some τ ∧ ρ j = some (.at g c) ∧ v = .pointer (some ⟨g, offP σ p, none⟩) := by
  obtain ⟨cs, h', rfl⟩ := vr_ar h (by simp)
  cases h' with
  | epB _ τ' σ' a g cap _ h1 hl hp =>
    rw [hr] at h1
    cases h1
    exact ⟨g, cap, _, hp, hl, rfl⟩
theorem vr_epF {p : List Nat} {j i e : Nat} {v : Value} {τ : Ty} {xs : List (den τ)} {fz app : Bool} (h : VR S w ρ row pv (.ep j (some i) p) v) (hr : row j = some (.flat e τ xs fz app)) (hp0 : (tyP τ p).isSome = true) :
    ∃ g c σ, tyP τ p = some σ ∧ ρ j = some (.at g c) ∧ i < xs.length ∧ v = .pointer (some ⟨g, i * nc τ + offP τ p, none⟩) := by
  obtain ⟨cs, h', rfl⟩ := vr_ar h (by simp)
  cases h' with
  | epF _ e' τ' σ' xs' fz' app' g cap _ _ h1 hl hi hp =>
    rw [hr] at h1
    cases h1
    exact ⟨g, cap, _, hp, hl, hi, rfl⟩
  | tl _ e' τ' xs' fz' app' l _ h1 hl hi hm =>
    rw [hr] at h1
    cases h1
    rw [flat_tyP hm] at hp0
    cases hp0
theorem ep_form {i : Option Nat} {p : List Nat} {j : Nat} {v : Value} {r : Row} {σ : Ty} (h : VR S w ρ row pv (.ep j i p) v) (hr : row j = some r) (hσ : (∃ a, r = .box σ a) ∨ (∃ e xs fz app, r = .flat e σ xs fz app)) (hp0 : (tyP σ p).isSome = true) :
    ∃ g c off τ, tyP σ p = some τ ∧ ρ j = some (.at g c) ∧ v = .pointer (some ⟨g, off + offP σ p, none⟩) ∧
      ∀ p', (tyP σ p').isSome = true → AR S w ρ row pv (.ep j i p') [.pointer (some ⟨g, off + offP σ p', none⟩)] := by
  cases i with
  | none =>
    obtain ⟨cs, h', rfl⟩ := vr_ar h (by simp)
    cases h' with
    | epB _ τ' σ' b g cap _ h1 hl hp =>
      rw [h1] at hr
      cases hr
      rcases hσ with ⟨_, e⟩ | ⟨_, _, _, _, e⟩ <;> cases e
      refine ⟨g, cap, 0, _, hp, hl, by rw [Nat.zero_add]; rfl, fun p' hp' => ?_⟩
      obtain ⟨σ', hp'⟩ := Option.isSome_iff_exists.1 hp'
      rw [Nat.zero_add]
      exact .epB j _ σ' _ g cap p' h1 hl hp'
  | some i =>
    obtain ⟨cs, h', rfl⟩ := vr_ar h (by simp)
    cases h' with
    | epF _ e' τ' σ' xs' fz' app' g cap _ _ h1 hl hi hp =>
      rw [h1] at hr
      cases hr
      rcases hσ with ⟨_, e⟩ | ⟨_, _, _, _, e⟩ <;> cases e
      refine ⟨g, cap, i * nc σ, _, hp, hl, rfl, fun p' hp' => ?_⟩
      obtain ⟨σ', hp'⟩ := Option.isSome_iff_exists.1 hp'
      exact .epF j _ _ σ' _ _ _ g cap i p' h1 hl hi hp'
    | tl _ e' τ' xs' fz' app' l _ h1 hl hi hm =>
      rw [h1] at hr
      cases hr
      rcases hσ with ⟨_, e⟩ | ⟨_, _, _, _, e⟩ <;> cases e
      rw [flat_tyP hm] at hp0
      cases hp0
theorem vr_own {j e : Nat} {v : Value} {τ : Ty} {xs : List (den τ)} {fz app : Bool} (h : VR S w ρ row pv (.own j) v) (hr : row j = some (.flat e τ xs fz app)) :
    (∃ g c, ρ j = some (.at g c) ∧ v = .slice (some ⟨g, 0, none⟩) xs.length c) ∨ (ρ j = some .nilrow ∧ xs = [] ∧ v = .slice none 0 0) := by
  obtain ⟨cs, h', rfl⟩ := vr_ar h (by simp)
  cases h' with
  | own _ e' τ' xs' fz' app' g cap h1 hl =>
    rw [hr] at h1; cases h1
    exact .inl ⟨g, cap, hl, rfl⟩
  | ownNil _ e' τ' fz' app' h1 hl =>
    rw [hr] at h1; cases h1
    exact .inr ⟨hl, rfl, rfl⟩
theorem cr_sl_inv {e : Ty} {xs : List (den e)} {v : Value} (h : CR S w (.sl e) xs [v]) : ∃ A c, ∃ cv : Nat → List Value, v = .slice A xs.length c ∧ xs.length ≤ c ∧ c ≤ maxLen ∧ (∀ i (h : i < xs.length), CR S w e xs[i] (cv i)) ∧
    (∀ i, i < xs.length → ∃ g o, A = some ⟨g, o, none⟩ ∧ S g ∧ ∀ j v, (cv i)[j]? = some v → w.cell? ⟨g, o + (i * nc e + j), none⟩ = some v) := by
  cases h with
  | sl _ _ A c cv hc hm h1 h2 => exact ⟨A, c, cv, rfl, hc, hm, h1, h2⟩
theorem tyP_app : ∀ {p : List Nat} {σ τ : Ty} {f : Nat} {τ' : Ty}, tyP σ p = some τ → (fty τ)[f]? = some τ' → tyP σ (p ++ [f]) = some τ' ∧ offP σ (p ++ [f]) = offP σ p + offL (fty τ) f
  | [], σ, τ, f, τ', h, hf => by
    simp only [tyP, Option.some.injEq] at h
    subst h
    simp [tyP, offP, hf]
  | g :: p, σ, τ, f, τ', h, hf => by
    simp only [tyP] at h
    split at h
    · rename_i σ' hσ
      obtain ⟨h1, h2⟩ := tyP_app h hf
      simp only [List.cons_append, tyP, offP, hσ, h1, true_and]
      have : (fty σ).getD g .bool = σ' := by simp [List.getD, hσ]
      rw [this, h2, Nat.add_assoc]
    · cases h
theorem explode_t {τ : Ty} {x : den τ} {b : AV} {f : Nat} (h : (explode τ x)[f]? = some b) : ∃ σ y, b = .t σ y := by
  have hb := List.mem_of_getElem? h
  cases τ <;> simp only [explode, List.mem_cons, List.not_mem_nil, or_false, List.mem_map] at hb
  case arr n e => obtain ⟨y, _, rfl⟩ := hb; exact ⟨_, _, rfl⟩
  case date => rcases hb with rfl | rfl | rfl | rfl <;> exact ⟨_, _, rfl⟩
  case name => rcases hb with rfl | rfl | rfl | rfl <;> exact ⟨_, _, rfl⟩
  case entry => rcases hb with rfl | rfl | rfl | rfl | rfl | rfl | rfl | rfl | rfl | rfl | rfl <;> exact ⟨_, _, rfl⟩
  case lib => subst hb; exact ⟨_, _, rfl⟩
  case abbr => rcases hb with rfl | rfl <;> exact ⟨_, _, rfl⟩
  case query => rcases hb with rfl | rfl | rfl | rfl <;> exact ⟨_, _, rfl⟩
theorem ar_t {τ : Ty} {x : den τ} {cs : List Value} (h : AR S w ρ row pv (.t τ x) cs) : CR S w τ x cs := by
  cases h with | t _ _ _ h => exact h
theorem sub_cells {cs : List Value} {o n : Nat} {g b : Nat} (hc : ∀ j u, cs[j]? = some u → w.cell? ⟨g, b + j, none⟩ = some u) : ∀ j u, ((cs.drop o).take n)[j]? = some u → w.cell? ⟨g, b + o + j, none⟩ = some u := fun j u hj => by
  rw [Nat.add_assoc]
  refine hc (o + j) u ?_
  rw [List.getElem?_take] at hj
  split at hj
  · simpa using hj
  · cases hj
theorem stT_und {P : Program} {E : Env} {T : Nat} {τ : Ty} {f : Nat} (h : TyOk P E T τ) (hf : stT τ f = true) : ∃ (fs : Array Field) (d : Field) (σ : Ty), P.underlying T = some (.struct fs) ∧ fs[f]? = some d ∧ (fty τ)[f]? = some σ ∧ d.offset = offL (fty τ) f ∧ E.ty d.type = some σ ∧ 0 < nc σ := by
  have hlt : f < (fty τ).length := by
    cases τ <;> simp only [stT] at hf <;> first | exact Nat.le_of_ble_eq_true hf | cases hf
  have hpos : ∀ σ, (fty τ)[f]? = some σ → 0 < nc σ := fun σ hσ => by
    have hm := List.mem_of_getElem? hσ
    cases τ <;> simp only [stT] at hf <;> simp only [fty, List.mem_cons, List.not_mem_nil, or_false] at hm <;> first
      | cases hf
      | (repeat' (rcases hm with rfl | hm)) <;> first
        | decide
        | (subst hm; decide)
  have go : (∃ fs, P.underlying T = some (.struct fs) ∧ fs.size = (fty τ).length ∧ ∀ (f : Nat) (d : Field), fs[f]? = some d → ∃ σ, (fty τ)[f]? = some σ ∧ d.offset = offL (fty τ) f ∧ E.ty d.type = some σ) → ∃ (fs : Array Field) (d : Field) (σ : Ty), P.underlying T = some (.struct fs) ∧ fs[f]? = some d ∧ (fty τ)[f]? = some σ ∧ d.offset = offL (fty τ) f ∧ E.ty d.type = some σ ∧ 0 < nc σ := fun ⟨fs, h1, h2, h3⟩ => by
    have : f < fs.size := by omega
    obtain ⟨σ, h4, h5, h6⟩ := h3 f fs[f] (Array.getElem?_eq_getElem this)
    exact ⟨fs, _, σ, h1, Array.getElem?_eq_getElem this, h4, h5, h6, hpos σ h4⟩
  have hu := h.und
  cases τ <;> simp only [undOk] at hu <;> first
    | exact go hu
    | (simp [fty] at hlt; done)
    | cases hf
end
end Go.Gx
