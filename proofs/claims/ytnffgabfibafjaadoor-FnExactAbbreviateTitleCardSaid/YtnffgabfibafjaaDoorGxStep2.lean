/- The interpreter's operations are the machine's: one by one. -/
import Derived.Test.YtnffgabfibafjaaDoorGxStep1
namespace Go.Gx
open Go.RowKit
set_option linter.unusedVariables false
set_option linter.unusedSimpArgs false

theorem cells_of {w : World} {g : Nat} {cur : Array Value} {T : TypeId} {f : Nat × Nat} (h : w.heap[g]? = some (.cells cur T f)) : ∀ j v, cur.toList[j]? = some v → w.cell? ⟨g, 0 + j, none⟩ = some v := fun j v hj => by
  simp only [World.cell?, h, Nat.zero_add]
  simpa using hj

section
variable {P : Program} {E : Env} {w0 : World} {B : Old} {pv : Nat → Value} {S : Nat → Prop} {ρ : Nat → Option Loc} {st : St} {a : Act} {w : World} {o : Oper} {id : Nat} {K : Act → World → Prop} {Q : Exit → Act → World → Prop}
variable (hE : EnvOk P E) (hs : Sim w0 B pv S ρ st a w) (hgl : GlOk E S w) (hd : dstOk o st.nt = true)
include hs hgl hd

theorem step_move {x : Operand} (ho : o.op = .move x ∨ o.op = .assign x) (hK : Nx E w0 B pv S ρ st o.dst (quiet (ev E st x)) id K) : o.wp P a w K Q :=
  wp_quiet hs hgl hd (by unfold execOp; rcases ho with ho | ho <;> simp [ho]) (ev_ok hgl hs x) hK
theorem step_pick {c x y : Operand} {v : Bool} (ho : o.op = .pick c x y) (hc : ev E st c = .t .bool v) (hK : Nx E w0 B pv S ρ st o.dst (quiet (cond v (ev E st x) (ev E st y))) id K) : o.wp P a w K Q := by
  have h1 := ev_ok hgl hs c
  rw [hc] at h1
  refine wp_quiet hs hgl hd (v := if v then a.eval x else a.eval y) (by unfold execOp; simp [ho, vr_bool h1, asBool]) ?_ hK
  cases v
  · exact ev_ok hgl hs y
  · exact ev_ok hgl hs x
include hE in
theorem step_alloc {T : TypeId} {τ : Ty} (hid : ρ id = none) (ho : o.op = .alloc T) (hτ : E.ty T = some τ) (hK : Nx E w0 B pv S ρ st o.dst (makes (.ep id none []) [(id, .box τ (.t τ (dflt τ)))]) id K) : o.wp P a w K Q := by
  have ht := hE.ty T τ hτ
  have har : AR S w ρ st.row pv (.t τ (dflt τ)) (zc τ) := .t τ _ _ (zc_ok S w τ)
  have hc := valOf_cells (.t τ (dflt τ)) har
  refine wp_make (cur := (valOf (.t τ (dflt τ)) (zc τ)).cells) (T := T) (c := 0) (v := .pointer (some ⟨w.heap.size, 0, none⟩)) hs hgl hd hid rfl ?_ ?_ ?_ hK
  · unfold execOp
    simp only [ho, Instr.alloc, Sem.run_bind, run_zeroT ht, Result.andThen_ok, newVar, newRow, run_newObj, Sem.run_pure]
    rfl
  · intro ρ' row' _
    exact ⟨_, _, heap_alloc_new w _, .t τ _, by rw [hc]; exact .t τ _ _ (zc_ok S _ τ)⟩
  · intro w' ρ' row' h1 h2
    exact .inr ⟨_, .epB id τ τ _ w.heap.size 0 [] h2 h1 rfl, rfl⟩
theorem step_box {T : TypeId} {τ : Ty} {x : Operand} (hid : ρ id = none) (ho : o.op = .box T x) (hf : Fit τ (ev E st x)) (hK : Nx E w0 B pv S ρ st o.dst (makes (.ep id none []) [(id, .box τ (ev E st x))]) id K) : o.wp P a w K Q := by
  obtain ⟨cs, h1, h2, h3⟩ := vr_fit hf (ev_ok hgl hs x)
  refine wp_make (cur := (a.eval x).cells) (T := T) (c := 0) (v := .pointer (some ⟨w.heap.size, 0, none⟩)) hs hgl hd hid rfl ?_ ?_ ?_ hK
  · unfold execOp
    simp only [ho, Instr.box, Sem.run_bind, Result.andThen_ok, newVar, newRow, run_newObj, Sem.run_pure]
    rfl
  · intro ρ' row' hk
    refine ⟨_, _, heap_alloc_new w _, hf, ?_⟩
    rw [h3]
    exact h1.ext (P := fun _ => True) (fun _ h => h) (fun b hb => heap_alloc_old w _ b (hs.hs.stab b hb)) (fun i l r _ h4 h5 => ⟨(hk i l h4).1, r, (hk i l h4).2.trans h5, .refl r⟩) (fun _ _ => trivial)
  · intro w' ρ' row' h4 h5
    exact .inr ⟨_, .epB id τ τ _ w.heap.size 0 [] h5 h4 rfl, rfl⟩
include hE in
theorem step_load {T : TypeId} {τ : Ty} {x : Operand} {u : Upd} (ho : o.op = .load T x) (hτ : E.ty T = some τ) (h : (∃ y, ev E st x = .tp (.t τ y) ∧ u = quiet (.t τ y)) ∨
      (∃ j p σ b c, ev E st x = .ep j none p ∧ st.row j = some (.box σ b) ∧ tyP σ p = some τ ∧ getP b p = some c ∧ u = quiet c) ∨
      (∃ j i p e σ xs fz app b, ev E st x = .ep j (some i) p ∧ st.row j = some (.flat e σ xs fz app) ∧ tyP σ p = some τ ∧ getP (.t σ (xs.getD i (dflt σ))) p = some b ∧ u = quiet b))
    (hK : Nx E w0 B pv S ρ st o.dst u id K) : o.wp P a w K Q := by
  have ht := hE.ty T τ hτ
  have hx := ev_ok hgl hs x
  have fin : ∀ {b : AV} {cs : List Value} {g off : Nat}, a.eval x = .pointer (some ⟨g, off, none⟩) → Fit τ b → AR S w ρ st.row pv b cs → (∀ j v, cs[j]? = some v → w.cell? ⟨g, off + j, none⟩ = some v) → u = quiet b → o.wp P a w K Q := fun h1 h2 h3 h4 e => by
    subst e
    refine wp_quiet hs hgl hd ?_ (.inr ⟨_, h3, rfl⟩) hK
    unfold execOp
    simp only [ho, h1, Sem.run_bind, run_loadT ht h2 h3 h4, Result.andThen_ok, Sem.run_pure]
  rcases h with ⟨y, h1, h2⟩ | ⟨j, p, σ, b, c, h1, hr, hp, hg, h2⟩ | ⟨j, i, p, e, σ, xs, fz, app, b, h1, hr, hp, hg, h2⟩
  · rw [h1] at hx
    obtain ⟨τ', y', cs, g, off, e, h3, h4, h5, h6⟩ := vr_tp hx
    cases e
    exact fin h3 (.t τ y) (.t τ y cs h4) h6 h2
  · rw [h1] at hx
    obtain ⟨g, cap, τ', h3, h4, h5⟩ := vr_epB hx hr
    obtain ⟨cur, T', h6, h7, h8⟩ := hs.hs.rows j _ _ hr h4
    obtain ⟨τ2, h9, h10, h11, h12⟩ := getP_ok h7 h8 hg
    rw [hp] at h9
    cases h9
    exact fin h5 h10 h11 (fun j v hj => by have := sub_cells (cells_of h6) j v hj; simpa using this) h2
  · rw [h1] at hx
    obtain ⟨g, cap, τ', h3, h4, hi, h5⟩ := vr_epF hx hr (by rw [hp]; rfl)
    obtain ⟨cur, f, h6, _, _, _, _, _, _, h8⟩ := hs.hs.rows j _ _ hr h4
    obtain ⟨cs, hc1, hc2⟩ := h8 i hi
    have e1 : xs.getD i (dflt σ) = xs[i] := by simp [List.getD, hi]
    rw [e1] at hg
    obtain ⟨τ2, h9, h10, h11, h12⟩ := getP_ok (ρ := ρ) (row := st.row) (pv := pv) (.t σ _) (.t σ _ cs hc1) hg
    rw [hp] at h9
    cases h9
    exact fin h5 h10 h11 (sub_cells fun j v hj => by
      have := hc2 j v hj
      simp only [World.cell?, h6]
      simpa using this) h2
theorem step_nilCheck {x : Operand} (ho : o.op = .nilCheck x) (h : (∃ j i p, ev E st x = .ep j i p ∧ tailP p = false) ∨ (∃ b, ev E st x = .tp b) ∨ (∃ f c, ev E st x = .clo f c)) (hK : Nx E w0 B pv S ρ st o.dst (quiet (ev E st x)) id K) : o.wp P a w K Q := by
  have hx := ev_ok hgl hs x
  refine wp_quiet hs hgl hd (v := a.eval x) ?_ hx hK
  unfold execOp
  rcases h with ⟨j, i, p, e, hp⟩ | ⟨b, e⟩ | ⟨f, c, e⟩
  · rw [e] at hx
    obtain ⟨A, hA⟩ := vr_ep hx hp
    simp [ho, hA]
  · rw [e] at hx
    obtain ⟨_, _, _, _, _, _, hA, _⟩ := vr_tp hx
    simp [ho, hA]
  · rw [e] at hx
    obtain ⟨cs, h', h2⟩ := vr_ar hx (by simp)
    cases h' with
    | clo _ _ css _ _ =>
      simp only [valOf, isAg, cond_false, List.headD_cons] at h2
      simp [ho, h2]
include hE in
theorem step_fieldAddr {T : TypeId} {τ : Ty} {x : Operand} {f : Nat} {u : Upd} (ho : o.op = .fieldAddr T x f) (hτ : E.ty T = some τ) (hst : stT τ f = true) (h : (∃ y b, ev E st x = .tp (.t τ y) ∧ fieldA (.t τ y) f = some b ∧ u = quiet (.tp b)) ∨
      (∃ j i p σ r, ev E st x = .ep j i p ∧ st.row j = some r ∧ ((∃ a, r = .box σ a) ∨ (∃ e xs fz app, r = .flat e σ xs fz app)) ∧ tyP σ p = some τ ∧ u = quiet (.ep j i (p ++ [f]))))
    (hK : Nx E w0 B pv S ρ st o.dst u id K) : o.wp P a w K Q := by
  have ht := hE.ty T τ hτ
  obtain ⟨fs, d, σ', hu, hfd, hσ, hoff, hdt, hpos⟩ := stT_und ht hst
  have hx := ev_ok hgl hs x
  have hrun : ∀ {g off : Nat}, a.eval x = .pointer (some ⟨g, off, none⟩) → (execOp a.eval o).run P w = .ok (.value (.pointer (some ⟨g, off + offL (fty τ) f, none⟩))) w := fun {g off} hA => by
    unfold execOp
    simp [ho, Instr.fieldAt, run_underlying hu, hfd, hA, Instr.sureAddr, fieldPlace, run_sizeOfT (hE.ty _ _ hdt), Nat.ne_of_gt hpos, hoff, Addr.add_lit]
  rcases h with ⟨y, b, h1, hb, h2⟩ | ⟨j, i, p, σ, r, h1, hr, hrr, hp, h2⟩
  · rw [h1] at hx
    obtain ⟨τ', y', cs, g, off, e, h3, h4, h5, h6⟩ := vr_tp hx
    cases e
    subst h2
    obtain ⟨σ2, h7, h8, h9, h10⟩ := field_ok (ρ := ρ) (row := st.row) (pv := pv) (.t τ y) (.t τ y cs h4) hb
    obtain ⟨σ3, z, rfl⟩ := explode_t (τ := τ) (x := y) (f := f) (by simpa [fieldA] using hb)
    rw [hσ] at h7
    cases h7
    exact wp_quiet hs hgl hd (hrun h3) (.inr ⟨_, .tp σ3 z _ g _ (ar_t h9) h5 (sub_cells h6), rfl⟩) hK
  · rw [h1] at hx
    obtain ⟨g, c, off, τ', h3, h4, h5, h6⟩ := ep_form hx hr hrr (by rw [hp]; rfl)
    rw [hp] at h3
    cases h3
    obtain ⟨h7, h8⟩ := tyP_app hp hσ
    subst h2
    refine wp_quiet hs hgl hd (hrun h5) (.inr ⟨_, h6 (p ++ [f]) (by rw [h7]; rfl), ?_⟩) hK
    rw [h8, ← Nat.add_assoc]; rfl
include hE in
theorem step_field {T : TypeId} {τ : Ty} {x : Operand} {f : Nat} {b : AV} (ho : o.op = .field T x f) (hτ : E.ty T = some τ) (hst : stT τ f = true) (hb : fieldA (ev E st x) f = some b)
    (hfit : Fit τ (ev E st x)) (hK : Nx E w0 B pv S ρ st o.dst (quiet b) id K) : o.wp P a w K Q := by
  have ht := hE.ty T τ hτ
  obtain ⟨fs, d, σ', hu, hfd, hσ, hoff, hdt, hpos⟩ := stT_und ht hst
  obtain ⟨cs, h1, h2, h3⟩ := vr_fit hfit (ev_ok hgl hs x)
  obtain ⟨σ, h4, h5, h6, h7⟩ := field_ok hfit h1 hb
  rw [hσ] at h4
  cases h4
  have hag : agT τ = true := by
    cases τ <;> simp only [stT] at hst <;> first
      | rfl
      | (simp [fty, Nat.blt] at hst; done)
      | cases hst
  refine wp_quiet hs hgl hd ?_ (.inr ⟨_, h6, rfl⟩) hK
  have hval : a.eval x = .agg cs.toArray := by rw [h2, valOf, hfit.isAg, hag]; rfl
  unfold execOp
  simp only [ho, Instr.field, Sem.run_bind, run_underlying hu, Result.andThen_ok, hfd, hval, asAgg, Sem.run_pure, hoff, run_part (hE.ty _ _ hdt) h5 h6 h7]
theorem step_makeFunc {g : Nat} {caps : Array Operand} (ho : o.op = .makeFunc (.func g) #[] caps) (hK : Nx E w0 B pv S ρ st o.dst (quiet (.clo g (mapE (ev E st) caps.toList))) id K) (hany' : anyL isAny (mapE (ev E st) caps.toList) = false) : o.wp P a w K Q := by
  have hany : ∀ x ∈ caps.toList, ev E st x ≠ .any := by
    revert hany'
    generalize caps.toList = l
    induction l with
    | nil => intro _ x hx; cases hx
    | cons y l ih =>
      intro h x hx
      simp only [mapE, anyL, Bool.or_eq_false_iff] at h
      rcases List.mem_cons.1 hx with rfl | hx
      · intro e; rw [e] at h; cases h.1
      · exact ih h.2 x hx
  have key : ∀ l : List Operand, (∀ x ∈ l, ev E st x ≠ .any) → ∃ css : List (List Value), (mapE (ev E st) l).length = css.length ∧ (∀ (i : Nat) (b : AV) (cs : List Value), (mapE (ev E st) l)[i]? = some b → css[i]? = some cs → AR S w ρ st.row pv b cs) ∧ valsOf (mapE (ev E st) l) css = l.map a.eval := by
    intro l
    induction l with
    | nil => exact fun _ => ⟨[], rfl, fun i b cs h => by simp [mapE] at h, rfl⟩
    | cons x l ih =>
      intro hl
      obtain ⟨css, h1, h2, h3⟩ := ih fun y hy => hl y (List.mem_cons_of_mem _ hy)
      obtain ⟨cs, h4, h5⟩ := vr_ar (ev_ok hgl hs x) (hl x List.mem_cons_self)
      refine ⟨cs :: css, by simp [mapE, h1], fun i b c hb hc => ?_, by simp [mapE, valsOf, h3, h5]⟩
      cases i with
      | zero =>
        simp only [mapE, List.getElem?_cons_zero, Option.some.injEq] at hb hc
        subst hb; subst hc
        exact h4
      | succ i => exact h2 i b c (by simpa [mapE] using hb) (by simpa using hc)
  obtain ⟨css, h1, h2, h3⟩ := key caps.toList hany
  refine wp_quiet hs hgl hd (v := .func (.func g) #[] (valsOf (mapE (ev E st) caps.toList) css).toArray) ?_ (.inr ⟨_, .clo g _ css h1 h2, rfl⟩) hK
  unfold execOp
  simp only [ho, Instr.makeFunc, h3, Array.map_empty, Sem.run_bind, Sem.run_pure, Result.andThen_ok]
  congr 4
  apply Array.ext'
  simp
end
end Go.Gx
