/- The interpreter's operations are the machine's: append. -/
import Derived.Test.YtnffgabfibafjaaDoorGxStep7
namespace Go.Gx
open Go.RowKit
set_option linter.unusedVariables false
set_option linter.unusedSimpArgs false

section
variable {P : Program} {E : Env} {w0 : World} {B : Old} {pv : Nat → Value} {S : Nat → Prop} {ρ : Nat → Option Loc} {st : St} {a : Act} {w : World} {o : Oper} {id : Nat} {K : Act → World → Prop} {Q : Exit → Act → World → Prop}
variable (hE : EnvOk P E) (hs : Sim w0 B pv S ρ st a w) (hgl : GlOk E S w) (hd : dstOk o st.nt = true)
include hs hgl hd

theorem wp_app {j : Nat} (hj : j ≠ mbase) {r r' : Row} {l l' : Loc} {w' : World} {v : Value} (hrun : (execOp a.eval o).run P w = .ok (.value v) w') (hb : Blw B w0 w') (hr : st.row j = some r) (hl : ρ j = some l) (hf : frz r = false) (hf' : frz r' = false)
    (hsz : w.heap.size ≤ w'.heap.size) (hold : ∀ b, b < w.heap.size → (∀ g c, l = .at g c → b ≠ g) → w'.heap[b]? = w.heap[b]?)
    (hl' : ∀ g c', l' = .at g c' → (∃ c, l = .at g c) ∨ w.heap.size ≤ g) (hok : ∀ ρ' row', RowOk S w' ρ' row' pv r' l')
    (hv : ∀ ρ' row', ρ' j = some l' → row' j = some r' → VR S w' ρ' row' pv (.own j) v)
    (hK : Nx E w0 B pv S ρ st o.dst ⟨.own j, [], [], some (j, r'), none⟩ id K) : o.wp P a w K Q := by
  have hm := hs.app hb hj hr hl hf hf' hsz hold hl' hok
  refine Oper.wp_value hrun (hK S _ _ _ (hm.put (dst_lt hd) (hv _ _ (upd_self _ _ _) (by rw [setRow_row, if_pos rfl]))) (hgl.mono (fun _ h => h) fun b hb => hold b (hs.hs.stab b hb) fun g c e e2 => (hs.hs.apart j r g c (e ▸ hl) hr).2.1 hf (e2 ▸ hb)) (Grew.refl _ _) fun i hi _ => ?_)
  have : i ≠ j := by rintro rfl; rw [hl] at hi; cases hi
  simp only [upd, if_neg this, killL, hi]
  cases inR j (j + 1) i <;> rfl
include hE in
theorem step_append {args : Array Operand} {T : TypeId} {b c : AV} {u : Upd} (hid : ρ id = none) (ho : o.op = .call { callee := .builtin .append, args := args, argTypes := #[T, T] }) (hargs : mapE (ev E st) args.toList = [b, c]) (h : AppR E T b c id st.row u)
    (hK : Nx E w0 B pv S ρ st o.dst u id K) : o.wp P a w K Q := by
  obtain ⟨x, y, rfl, rfl, rfl⟩ := two_args hargs
  obtain ⟨τ, ys, hT, hys, h⟩ := h
  obtain ⟨t, hu, het, hte, hpos, hnb⟩ := (hE.ty _ _ hT).und
  obtain ⟨i, hi, hsz, hby, hz⟩ := (hE.ty _ _ hte).info
  have hzc : (valOf (.t τ (dflt τ)) (zc τ)).cells.toList = zc τ := valOf_cells (S := S) (w := w) (ρ := ρ) (row := st.row) (pv := pv) (.t τ (dflt τ)) (.t τ _ _ (zc_ok S w τ))
  have hzs : (valOf (.t τ (dflt τ)) (zc τ)).cells.size = nc τ := by rw [← Array.length_toList, hzc]; exact (zc_ok S w τ).len
  have e1 := ev_ok hgl hs x
  have e2 := ev_ok hgl hs y
  obtain ⟨A, c, hy, hel⟩ := listOf_el hs.hs hys e2
  have run : ∀ {v : Value} {w' : World}, (Builtin.append_ #[T, T] o.type #[a.eval x, a.eval y]).run P w = .ok v w' → (execOp a.eval o).run P w = .ok (.value v) w' := fun hr => builtin_run ho (by simp [builtin, hr])
  have hnil : ([] : List Value).toArray = #[] := rfl
  have small : ∀ n, room n τ = true → n ≤ 140737488355328 ∧ n * i.bytes ≤ 140737488355328 := fun n hn => by
    have h1 := Nat.le_of_ble_eq_true hn
    exact ⟨Nat.le_trans (Nat.le_mul_of_pos_right _ hnb) h1, by rw [hby]; exact h1⟩
  have hS : ∀ (w' : World), (∀ b, b < w.heap.size → w'.heap[b]? = w.heap[b]?) → ∀ b, S b → w'.heap[b]? = w.heap[b]? := fun w' hw b hb => hw b (hs.hs.stab b hb)
  -- a new block that holds olds, then news
  have fresh : ∀ (olds news : List Value) (xs : List (den τ)) (n cap : Nat), n = xs.length + ys.length → olds.length = xs.length * nc τ → news.length = ys.length * nc τ →
      (∀ i (hi : i < xs.length), ∃ cs, CR S w τ xs[i] cs ∧ ∀ j v, cs[j]? = some v → olds[i * nc τ + j]? = some v) → (∀ i (hi : i < ys.length), ∃ cs, CR S w τ ys[i] cs ∧ ∀ j v, cs[j]? = some v → news[i * nc τ + j]? = some v) → n ≤ cap → cap ≤ maxLen →
      ∀ ρ' row', RowOk S (w.drew.alloc (.cells (olds.toArray ++ news.toArray ++ Builtin.zeroCells (valOf (.t τ (dflt τ)) (zc τ)).cells (cap - n)) t)) ρ' row' pv (.flat t τ (xs ++ ys) false true) (.at w.heap.size cap) := by
    intro olds news xs n cap hn ho hn2 h1 h2 h3 h4 ρ' row'
    refine rowOk_app (w := w) (heap_alloc_new w.drew _) ?_ (by omega) h4 hpos (hS _ fun b hb => heap_alloc_old w.drew _ b hb) (fun k hk => ?_) (fun k hk => ?_)
    · simp only [Array.size_append, List.size_toArray, size_zeroCells, hzs, ho, hn2, ← Nat.add_mul]
      congr 1
      omega
    · obtain ⟨cs, h5, h6⟩ := h1 k hk
      refine ⟨cs, h5, fun j v hj => ?_⟩
      have := h6 j v hj
      have hlt := (List.getElem?_eq_some_iff.1 this).1
      rw [Array.append_assoc, Array.getElem?_append_left (by simpa using hlt)]
      simpa using this
    · obtain ⟨cs, h5, h6⟩ := h2 k hk
      refine ⟨cs, h5, fun j v hj => ?_⟩
      have := h6 j v hj
      have hlt := (List.getElem?_eq_some_iff.1 this).1
      rw [Nat.add_mul, Nat.add_assoc, Array.append_assoc, Array.getElem?_append_right (by simp [ho]), Array.getElem?_append_left (by simp [ho]; omega)]
      simp only [List.size_toArray, ho, Nat.add_sub_cancel_left]
      simpa using this
  have hdold : ∀ (o' : Obj) (b : Nat), b < w.heap.size → (w.drew.alloc o').heap[b]? = w.heap[b]? := fun o' b hb => heap_alloc_old w.drew _ b hb
  have hdb : ∀ o' : Obj, Blw B w0 (w.drew.alloc o') := fun o' => hs.drew.below.alloc hs.drew.hB _
  have hdsz : ∀ o' : Obj, w.heap.size ≤ (w.drew.alloc o').heap.size := fun o' => by rw [World.size_alloc']; exact Nat.le_succ _
  rcases h with ⟨hx, hroom, rfl⟩ | ⟨j, xs, hx, hjm, hr, hroom, rfl⟩
  · rw [hx] at e1
    have hv := vr_nil e1
    obtain ⟨hm1, hm2⟩ := small _ hroom
    by_cases h0 : ys.length = 0
    · have : ys = [] := List.eq_nil_of_length_eq_zero h0
      subst this
      have hrun := run_append_zero (P := P) (w := w) (ty := o.type) hu hi none A 0 0 c (Nat.le_refl _)
      have hm := hs.make (w' := w) (r := .flat (E.el T) τ [] false true) (l := .nilrow) hs.below (Nat.le_refl _) (fun _ _ => rfl) hid rfl (fun g c e => by cases e) (fun ρ' row' _ => ⟨rfl, rfl, hpos⟩)
      refine Oper.wp_value (run (by rw [hv, hy]; exact hrun)) (hK S _ _ _ (hm.put (dst_lt hd) (.inr ⟨_, .ownNil id _ τ _ _ (by rw [setRow_row, if_pos rfl]) (upd_self _ _ _), rfl⟩)) hgl (Grew.refl _ _) (upd_far ⟨Nat.le_refl _, by omega⟩))
    · obtain ⟨g, off, hA, news, hn1, hn2, hn3, hn4⟩ := news_ok hpos hel h0
      have hrun := run_append_nil (P := P) w T o.type t i _ hu hi hz ⟨g, off, none⟩ ys.length c news (by rw [hn1, hsz]) (fun j v hj => by rw [Addr.add_lit]; exact hn2 j v hj) (by omega) (by omega) (by omega)
      have hcm : grownCap w ys.length 0 t ≤ maxLen := grownCap_le_maxLen w _ _ _ (by simp only [maxLen]; omega)
      have hfr := fresh [] news [] ys.length (grownCap w ys.length 0 t) (by simp) (by simp) hn1 (fun i hi => absurd hi (Nat.not_lt_zero i)) hn4 (grownCap_ge _ _ _ _) hcm
      simp only [List.nil_append, hnil, Array.empty_append] at hfr
      have hm := hs.make (w' := _) (l := .at w.heap.size (grownCap w ys.length 0 t)) (r := .flat (E.el T) τ ys false true) (hdb _) (hdsz _) (hdold _) hid rfl (fun g c e => by cases e; exact Nat.le_refl _) (fun ρ' row' _ => by rw [het]; exact hfr ρ' row')
      refine Oper.wp_value (run (by rw [hv, hy, hA]; exact hrun)) (hK S _ _ _ (hm.put (dst_lt hd) (.inr ⟨_, .own id _ τ _ _ _ _ _ (by rw [setRow_row, if_pos rfl]) (upd_self _ _ _), rfl⟩)) (hgl.mono (fun _ h => h) (hS _ (hdold _))) (Grew.refl _ _) (upd_far ⟨Nat.le_refl _, by omega⟩))
  · rw [hx] at e1
    obtain ⟨hm1, hm2⟩ := small _ hroom
    rw [het] at hr hK
    rcases vr_own e1 hr with ⟨g, cap, hl, hv⟩ | ⟨hl, rfl, hv⟩
    · obtain ⟨cur, f, h1, h2, h3, h4, h5, h6, h7, h8⟩ := hs.hs.rows j _ _ hr hl
      have hf0 := h5 rfl
      subst hf0
      have hap := hs.hs.apart j _ g cap hl hr
      by_cases h0 : ys.length = 0
      · have : ys = [] := List.eq_nil_of_length_eq_zero h0
        subst this
        have hrun := run_append_zero (P := P) (w := w) (ty := o.type) hu hi (some ⟨g, 0, none⟩) A xs.length cap c h3
        refine wp_app hs hgl hd hjm (l' := .at g cap) (run (by rw [hv, hy]; exact hrun)) hs.below hr hl rfl rfl (Nat.le_refl _) (fun _ _ _ => rfl) (fun g' c' e => by cases e; exact .inl ⟨cap, rfl⟩) (fun ρ' row' => ?_) (fun ρ' row' h9 h10 => ?_) hK
        · exact rowOk_app (w := w) h1 h2 (by simpa using h3) h4 hpos (fun _ _ => rfl) h8 (fun i hi => absurd hi (Nat.not_lt_zero i))
        · refine .inr ⟨_, .own j t τ (xs ++ []) false true g cap h10 h9, ?_⟩
          simp [valOf, isAg]
      · obtain ⟨ga, off, hA, news, hn1, hn2, hn3, hn4⟩ := news_ok hpos hel h0
        have hxl : (cur.toList.take (xs.length * nc τ)).length = xs.length * nc τ := by
          have e : cur.toList.length = cur.size := Array.length_toList
          rw [List.length_take, e, h2]
          exact Nat.min_eq_left (Nat.mul_le_mul_right _ h3)
        by_cases hfit : xs.length + ys.length ≤ cap
        · have hfit2 : xs.length * nc τ + news.length ≤ cur.size := by rw [hn1, h2, ← Nat.add_mul]; exact Nat.mul_le_mul_right _ hfit
          have hrun := run_append_room (P := P) w T o.type t i hu hi g xs.length cap cur h1 ⟨ga, off, none⟩ ys.length c news (by rw [hn1, hsz]) (fun j v hj => by rw [Addr.add_lit]; exact hn2 j v hj) hn3 hfit (by rw [hsz]; exact hfit2)
          rw [hsz] at hrun
          refine wp_app hs hgl hd hjm (l' := .at g cap) (run (by rw [hv, hy, hA]; exact hrun)) (below_setRow hs.below hap.1 _) hr hl rfl rfl (by simp [World.setRow]) (fun b hb hne => setRow_other w g b _ (hne g cap rfl)) (fun g' c' e => by cases e; exact .inl ⟨cap, rfl⟩) (fun ρ' row' => ?_) (fun ρ' row' h9 h10 => ?_) hK
          · refine rowOk_app (w := w) (setRow_heap w g cur _ t _ h1) ?_ hfit h4 hpos (fun b hb => setRow_other w g b _ fun e => hap.2.1 rfl (e ▸ hb)) (fun k hk => ?_) (fun k hk => ?_)
            · simp only [List.size_toArray, List.length_append, hxl, List.length_drop, Array.length_toList]
              omega
            · obtain ⟨cs, h9, h10⟩ := h8 k hk
              refine ⟨cs, h9, fun m v hm => ?_⟩
              have := h10 m v hm
              have hml : m < nc τ := by have := (List.getElem?_eq_some_iff.1 hm).1; rw [h9.len] at this; exact this
              have hlt : k * nc τ + m < xs.length * nc τ := by
                have : (k + 1) * nc τ ≤ xs.length * nc τ := Nat.mul_le_mul_right _ hk
                rw [Nat.succ_mul] at this
                omega
              simp only [List.getElem?_toArray, List.append_assoc]
              rw [List.getElem?_append_left (by rw [hxl]; exact hlt), List.getElem?_take, if_pos hlt]
              simpa using this
            · obtain ⟨cs, h9, h10⟩ := hn4 k hk
              refine ⟨cs, h9, fun m v hm => ?_⟩
              have := h10 m v hm
              have hlt := (List.getElem?_eq_some_iff.1 this).1
              simp only [List.getElem?_toArray, List.append_assoc]
              rw [Nat.add_mul, Nat.add_assoc, List.getElem?_append_right (by rw [hxl]; omega), hxl, Nat.add_sub_cancel_left, List.getElem?_append_left hlt]
              exact this
          · refine .inr ⟨_, .own j t τ (xs ++ ys) false true g cap h10 h9, ?_⟩
            simp [valOf, isAg]
        · have holds : ∀ m v, (cur.toList.take (xs.length * nc τ))[m]? = some v → w.cell? ((⟨g, 0, none⟩ : Addr).add m) = some v := fun m v hm => by
            rw [Addr.add_lit]
            rw [List.getElem?_take] at hm
            split at hm
            · exact cells_of h1 m v hm
            · cases hm
          have hrun := run_append_grow (P := P) w T o.type t i _ hu hi hz ⟨g, 0, none⟩ xs.length cap (cur.toList.take (xs.length * nc τ)) (by rw [hxl, hsz]) holds ⟨ga, off, none⟩ ys.length c news (by rw [hn1, hsz]) (fun j v hj => by rw [Addr.add_lit]; exact hn2 j v hj)
            (by omega) (by omega) (growslice_fits (by omega) hm2)
          have hcm : grownCap w (xs.length + ys.length) cap t ≤ maxLen := grownCap_le_maxLen w _ _ _ (by simp only [maxLen]; omega)
          refine wp_app hs hgl hd hjm (l' := .at w.heap.size (grownCap w (xs.length + ys.length) cap t)) (run (by rw [hv, hy, hA]; exact hrun)) (hdb _) hr hl rfl rfl (hdsz _) (fun b hb _ => hdold _ b hb) (fun g' c' e => by cases e; exact .inr (Nat.le_refl _)) (fun ρ' row' => ?_) (fun ρ' row' h9 h10 => ?_) hK
          · refine fresh _ news xs _ _ rfl hxl hn1 (fun k hk => ?_) hn4 (grownCap_ge _ _ _ _) hcm ρ' row'
            obtain ⟨cs, h9, h10⟩ := h8 k hk
            refine ⟨cs, h9, fun m v hm => ?_⟩
            have := h10 m v hm
            have hml : m < nc τ := by have := (List.getElem?_eq_some_iff.1 hm).1; rw [h9.len] at this; exact this
            have hlt : k * nc τ + m < xs.length * nc τ := by
              have : (k + 1) * nc τ ≤ xs.length * nc τ := Nat.mul_le_mul_right _ hk
              rw [Nat.succ_mul] at this
              omega
            rw [List.getElem?_take, if_pos hlt]
            simpa using this
          · refine .inr ⟨_, .own j t τ (xs ++ ys) false true _ _ h10 h9, ?_⟩
            simp [valOf, isAg]
    · by_cases h0 : ys.length = 0
      · have : ys = [] := List.eq_nil_of_length_eq_zero h0
        subst this
        have hrun := run_append_zero (P := P) (w := w) (ty := o.type) hu hi none A 0 0 c (Nat.le_refl _)
        refine wp_app hs hgl hd hjm (l' := .nilrow) (run (by rw [hv, hy]; exact hrun)) hs.below hr hl rfl rfl (Nat.le_refl _) (fun _ _ _ => rfl) (fun g' c' e => by cases e) (fun ρ' row' => ?_) (fun ρ' row' h9 h10 => ?_) hK
        · exact ⟨rfl, rfl, hpos⟩
        exact .inr ⟨_, .ownNil j t τ false true h10 h9, rfl⟩
      · obtain ⟨g, off, hA, news, hn1, hn2, hn3, hn4⟩ := news_ok hpos hel h0
        have hrun := run_append_nil (P := P) w T o.type t i _ hu hi hz ⟨g, off, none⟩ ys.length c news (by rw [hn1, hsz]) (fun j v hj => by rw [Addr.add_lit]; exact hn2 j v hj) (by omega) (by simp at hm1; omega) (by simp at hm2; omega)
        have hcm : grownCap w ys.length 0 t ≤ maxLen := grownCap_le_maxLen w _ _ _ (by simp only [maxLen]; simp at hm1; omega)
        have hfr := fresh [] news [] ys.length (grownCap w ys.length 0 t) (by simp) (by simp) hn1 (fun i hi => absurd hi (Nat.not_lt_zero i)) hn4 (grownCap_ge _ _ _ _) hcm
        simp only [List.nil_append, hnil, Array.empty_append] at hfr
        refine wp_app hs hgl hd hjm (l' := .at w.heap.size (grownCap w ys.length 0 t)) (run (by rw [hv, hy, hA]; exact hrun)) (hdb _) hr hl rfl rfl (hdsz _) (fun b hb _ => hdold _ b hb) (fun g' c' e => by cases e; exact .inr (Nat.le_refl _)) (fun ρ' row' => hfr ρ' row') (fun ρ' row' h9 h10 => ?_) hK
        exact .inr ⟨_, .own j t τ ys false true _ _ h10 h9, rfl⟩
end
end Go.Gx
