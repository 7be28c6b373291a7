/- The interpreter's operations are the machine's: pieces, conversions, rows made, writes. -/
import Derived.Test.YtnffgabfibafjaaDoorGxStep3
namespace Go.Gx
open Go.RowKit
set_option linter.unusedVariables false
set_option linter.unusedSimpArgs false

theorem below_setRow {B : Old} {w0 w : World} (h : Blw B w0 w) {g : Nat} (hg : ¬ B g) (cs : Array Value) : Blw B w0 (w.setRow g cs) :=
  h.trans ⟨rfl, rfl, rfl, by simp [World.setRow], fun k hk => setRow_other w g k cs (by rintro rfl; exact hg hk)⟩
theorem evO_eval {w : World} {S : Nat → Prop} {ρ : Nat → Option Loc} {row : Nat → Option Row} {pv : Nat → Value} {ev : Operand → AV} {ρv : Operand → Value} (hev : ∀ x, VR S w ρ row pv (ev x) (ρv x)) {x : Option Operand} {l : Option Int} (h : evO ev x = some l) : x.map ρv = l.map (Value.int .i64) := by
  cases x with
  | none => simp only [evO, Option.some.injEq] at h; subst h; rfl
  | some x =>
    simp only [evO] at h
    split at h
    · rename_i n hx
      simp only [Option.some.injEq] at h
      subst h
      have := hev x
      rw [hx] at this
      simp [vr_int this]
    · cases h

section
variable {P : Program} {E : Env} {w0 : World} {B : Old} {pv : Nat → Value} {S : Nat → Prop} {ρ : Nat → Option Loc} {st : St} {a : Act} {w : World} {o : Oper} {id : Nat} {K : Act → World → Prop} {Q : Exit → Act → World → Prop}
variable (hE : EnvOk P E) (hs : Sim w0 B pv S ρ st a w) (hgl : GlOk E S w) (hd : dstOk o st.nt = true)
include hs hgl hd

omit hd hgl in
theorem frz_own {j e : Nat} {τ : Ty} {xs : List (den τ)} {fz app : Bool} (hr : st.row j = some (.flat e τ xs fz app)) {ids : List Nat} (hj : j ∈ ids) {v : Value} (hv : VR S w ρ st.row pv (.own j) v) :
    ∃ A c, v = .slice A xs.length c ∧ CR (frzS S ρ st.row ids) w (.sl τ) xs [v] := by
  rcases vr_own hv hr with ⟨g, c, hl, rfl⟩ | ⟨hl, rfl, rfl⟩
  · exact ⟨_, _, rfl, row_cr hs.hs (fun _ h => .inl h) hr hl (.inr ⟨j, hj, _, c, hr, rfl, hl⟩)⟩
  · exact ⟨none, 0, rfl, cr_nil _ _ _⟩
theorem wp_frz {ids : List Nat} {b : AV} {v : Value} (hrun : (execOp a.eval o).run P w = .ok (.value v) w)
    (hv : VR (frzS S ρ st.row ids) w ρ (st.freeze ids).row pv b v) (hK : Nx E w0 B pv S ρ st o.dst ⟨b, [], ids, none, none⟩ id K) : o.wp P a w K Q := by
  refine Oper.wp_value hrun (hK _ ρ _ w ((hs.frzs ids).put (st := st.freeze ids) ?_ hv) (hgl.mono (fun _ h => .inl h) (fun _ _ => rfl)) (grew_frz hs _) (fun _ h _ => h))
  rw [(freeze_slot ids st).2]
  exact dst_lt hd
include hE in
theorem step_slice {dr : Bool} {T : TypeId} {x : Operand} {lo hi : Option Operand} {l h : Option Int} {u : Upd} (ho : o.op = .slice T x lo hi none) (hl : evO (ev E st) lo = some l) (hh : evO (ev E st) hi = some h)
    (hx : (∃ s a b, E.ty T = some .str ∧ ev E st x = .t .str s ∧ CutR l h s.size a b ∧ u = quiet (.t .str (s.extract a b))) ∨
       (∃ τ, ∃ xs : List (den τ), ∃ a b, E.ty T = some (.sl τ) ∧ ev E st x = .t (.sl τ) xs ∧ CutR l h xs.length a b ∧ u = quiet (.t (.sl τ) (pieceL l h xs a b))) ∨
       (dr = false ∧ ∃ j e τ, ∃ xs : List (den τ), ∃ fz app a b, E.ty T = some (.sl τ) ∧ ev E st x = .own j ∧ st.row j = some (.flat e τ xs fz app) ∧ CutR l h xs.length a b ∧ u = ⟨.t (.sl τ) (pieceL l h xs a b), [], [j], none, none⟩) ∨
       (∃ n τ, ∃ xs : List (den τ), l = none ∧ h = none ∧ ev E st x = .tp (.t (.arr n τ) xs) ∧ E.ty T = some (.arr n τ) ∧ n ≤ 9223372036854775807 ∧ u = quiet (.t (.sl τ) xs)))
    (hK : Nx E w0 B pv S ρ st o.dst u id K) : o.wp P a w K Q := by
  have hev := ev_ok hgl hs
  have e1 := hev x
  have el := evO_eval hev hl
  have eh := evO_eval hev hh
  have runSl : ∀ {τ : Ty} {A : Option Addr} {n c m k : Nat}, E.ty T = some (.sl τ) → a.eval x = .slice A n c → CutR l h n m k → n ≤ c → (execOp a.eval o).run P w = .ok (.value (.slice (if c = m then A else A.map (·.add (m * nc τ))) (k - m) (c - m))) w := by
    intro τ A n c m k hT hv hc hn
    obtain ⟨t, hu, _, hte, _⟩ := (hE.ty _ _ hT).und
    unfold execOp
    simp only [ho, Instr.sliceAt, Sem.run_bind, run_underlying hu, Result.andThen_ok, Instr.slice, hv, el, eh, Option.map_none, run_bounds hc hn, run_sizeOfT (hE.ty _ _ hte), Sem.run_pure]
  rcases hx with ⟨s, m, k, hT, hx, hc, rfl⟩ | ⟨τ, xs, m, k, hT, hx, hc, rfl⟩ | ⟨_, j, e, τ, xs, fz, app, m, k, hT, hx, hr, hc, rfl⟩ | ⟨n, τ, xs, rfl, rfl, hx, hT, hn, rfl⟩
  · rw [hx] at e1
    have hu : P.underlying T = some .string := (hE.ty _ _ hT).und
    refine wp_quiet hs hgl hd (v := .string (s.extract m k)) ?_ (.inr ⟨_, .t _ _ _ (.str _), rfl⟩) hK
    unfold execOp
    simp only [ho, Instr.sliceAt, Sem.run_bind, run_underlying hu, Result.andThen_ok, Instr.slice, vr_str e1, el, eh, Option.map_none, Sem.run_pure]
    have hb := run_bounds (P := P) (w := w) (isSlice := false) hc (Nat.le_refl _)
    simp [hb]
  · rw [hx] at e1
    have hcr := vr_sl e1
    obtain ⟨A, c, cv, e3, h2, h3, h4, h5⟩ := cr_sl_inv hcr
    rw [e3] at hcr
    exact wp_quiet hs hgl hd (runSl hT e3 hc h2) (.inr ⟨_, .t _ _ _ (cr_piece hcr hc), rfl⟩) hK
  · rw [hx] at e1
    obtain ⟨A, c, e3, hcr⟩ := frz_own hs hr (ids := [j]) List.mem_cons_self e1
    rw [e3] at hcr
    obtain ⟨_, _, _, e4, h2, _, _, _⟩ := cr_sl_inv hcr
    cases e4
    exact wp_frz hs hgl hd (runSl hT e3 hc h2) (.inr ⟨_, .t _ _ _ (cr_piece hcr hc), rfl⟩) hK
  · rw [hx] at e1
    obtain ⟨t, hu, hte⟩ := (hE.ty _ _ hT).und
    obtain ⟨τ', y', cs, g, off, e, h3, h4, h5, h6⟩ := vr_tp e1
    cases e
    cases h4 with
    | arr _ _ _ cv hl' hh' =>
      have hlt := hl'
      refine wp_quiet hs hgl hd (v := .slice (some ⟨g, off, none⟩) xs.length xs.length) ?_ (.inr ⟨_, .t _ _ _ (.sl τ xs _ _ cv (Nat.le_refl _) (by simp only [maxLen]; omega) hh' fun i hi => ⟨g, off, rfl, h5, fun j v hj => ?_⟩), rfl⟩) hK
      · unfold execOp
        have hb := run_bounds (P := P) (w := w) (isSlice := false) (lo := none) (hi := none) (n := n) (cap := n) (a := 0) (b := n) rfl (Nat.le_refl _)
        simp only [Option.map_none] at hb el eh
        simp only [ho, Instr.sliceAt, Sem.run_bind, run_underlying hu, Result.andThen_ok, h3, Instr.sureAddr, Sem.run_pure, el, eh, Option.map_none, hb, run_sizeOfT (hE.ty _ _ hte), Nat.zero_mul, Addr.add_zero', Nat.sub_zero, hl']
        simp
      · refine h6 _ v ?_
        have hcl : ∀ k, k < n → (cv k).length = nc τ := fun k hk => (hh' k (by omega)).len
        have hj' : j < nc τ := by have := (List.getElem?_eq_some_iff.1 hj).1; rw [hcl _ (by omega)] at this; exact this
        have split : ∀ m, m ≤ n → ((List.range m).flatMap cv).length = m * nc τ := fun m => by
          induction m with
          | zero => simp
          | succ m ih =>
            intro hm
            rw [List.range_succ, List.flatMap_append, List.length_append, ih (by omega)]
            simp [hcl m (by omega), Nat.succ_mul]
        have e1 : n = i + (1 + (n - i - 1)) := by omega
        rw [e1, List.range_add, List.flatMap_append, List.getElem?_append_right (by rw [split _ (by omega)]; omega), split _ (by omega), Nat.add_sub_cancel_left,
          List.range_add, List.map_append, List.flatMap_append]
        simp only [List.range_one, List.map_cons, List.map_nil, List.flatMap_cons, List.flatMap_nil, List.append_nil, Nat.add_zero]
        rw [List.getElem?_append_left (by rw [hcl _ (by omega)]; exact hj')]
        exact hj
include hE in
theorem step_makeSlice {T : TypeId} {τ : Ty} {l c : Operand} {n : Int} (hid : ρ id = none) (ho : o.op = .makeSlice T l c) (hT : E.ty T = some (.sl τ)) (hl : ev E st l = .t (.int .i64) n) (hc : ev E st c = .t (.int .i64) n) (h0 : 0 ≤ n) (hb : n.toNat * nb τ ≤ 140737488355328)
    (hK : Nx E w0 B pv S ρ st o.dst (makes (.own id) [(id, .flat (E.el T) τ (List.replicate n.toNat (dflt τ)) false true)]) id K) : o.wp P a w K Q := by
  have e1 := ev_ok hgl hs l
  have e2 := ev_ok hgl hs c
  rw [hl] at e1
  rw [hc] at e2
  obtain ⟨t, hu, het, hte, hpos, hnb⟩ := (hE.ty _ _ hT).und
  obtain ⟨i, hi, hsz, hby, hz⟩ := (hE.ty _ _ hte).info
  have hn : n.toNat ≤ 140737488355328 := Nat.le_trans (Nat.le_mul_of_pos_right _ hnb) hb
  have hbz : (i.bytes : Int) * n ≤ 281474976710656 := by
    have h1 : ((n.toNat * nb τ : Nat) : Int) ≤ ((140737488355328 : Nat) : Int) := Int.ofNat_le.2 hb
    rw [hby, Int.mul_comm]
    rw [Int.natCast_mul, Int.toNat_of_nonneg h0] at h1
    omega
  have hr := run_make (P := P) w T t i _ hu hi hz .i64 .i64 n n h0 (Int.le_refl _) hbz (by omega)
  rw [hsz] at hr
  have hzc : (valOf (.t τ (dflt τ)) (zc τ)).cells.toList = zc τ := valOf_cells (S := S) (w := w) (ρ := ρ) (row := st.row) (pv := pv) (.t τ (dflt τ)) (.t τ _ _ (zc_ok S w τ))
  have hzs : (valOf (.t τ (dflt τ)) (zc τ)).cells.size = nc τ := by rw [← Array.length_toList, hzc]; exact (zc_ok S w τ).len
  refine wp_make (cur := madeCells (valOf (.t τ (dflt τ)) (zc τ)).cells (n.toNat * nc τ)) (T := t) (c := n.toNat) hs hgl hd hid rfl (v := .slice (some ⟨w.heap.size, 0, none⟩) n.toNat n.toNat) (by unfold execOp; simp only [ho, vr_int e1, vr_int e2, Sem.run_bind, hr, Result.andThen_ok, Sem.run_pure]) ?_ ?_ hK
  · intro ρ' row' _
    rw [het]
    refine ⟨_, _, heap_alloc_new w _, ?_, ?_, ?_, fun _ => rfl, .inl (Nat.le_refl _), hpos, fun k hk => ⟨zc τ, ?_, fun j v hj => ?_⟩⟩
    · simp [madeCells]
    · simp
    · simp only [maxLen]; omega
    · simp only [List.getElem_replicate]; exact zc_ok _ _ τ
    · simp only [List.length_replicate] at hk
      have hj' : j < nc τ := by have := (List.getElem?_eq_some_iff.1 hj).1; rw [(zc_ok S w τ).len] at this; exact this
      have hlt : k * nc τ + j < n.toNat * nc τ := by
        have : (k + 1) * nc τ ≤ n.toNat * nc τ := Nat.mul_le_mul_right _ hk
        rw [Nat.succ_mul] at this
        omega
      rw [made_get hlt (by omega), hzs, Nat.mul_comm k, Nat.mul_add_mod, Nat.mod_eq_of_lt hj', ← Array.getElem?_toList, hzc]
      exact hj
  · intro w' ρ' row' h1 h2
    refine .inr ⟨_, .own id _ τ _ false true w.heap.size n.toNat h2 h1, ?_⟩
    simp [valOf, isAg]
end
end Go.Gx
