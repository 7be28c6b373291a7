/- The interpreter's operations are the machine's: conversions, writes. -/
import Derived.Test.YtnffgabfibafjaaDoorGxStep4
namespace Go.Gx
open Go.RowKit
set_option linter.unusedVariables false
set_option linter.unusedSimpArgs false

section
variable {S : Nat → Prop} {w : World} {ρ : Nat → Option Loc} {row : Nat → Option Row} {pv : Nat → Value} {B : Old}
theorem listOf_ok (h : HS S w ρ row pv B) {b : AV} {τ : Ty} {xs : List (den τ)} (hl : listOf row τ b = some xs) {v : Value} (hv : VR S w ρ row pv b v) : CR (fun g => g < w.heap.size) w (.sl τ) xs [v] := by
  have hsub : ∀ g, S g → g < w.heap.size := h.stab
  unfold listOf at hl
  split at hl
  · cases hl
    rw [vr_nil hv]
    exact cr_nil _ _ _
  · rename_i σ ys
    split at hl
    · rename_i e _
      subst e
      cases hl
      exact (vr_sl hv).mono hsub (fun _ _ => rfl)
    · cases hl
  · rename_i j
    split at hl
    · rename_i e σ ys fz app hr
      split at hl
      · rename_i e' _
        subst e'
        cases hl
        rcases vr_own hv hr with ⟨g, c, hl, rfl⟩ | ⟨hl, rfl, rfl⟩
        · exact row_cr h hsub hr hl (h.rows j _ _ hr hl).lt
        · exact cr_nil _ _ _
      · cases hl
    · cases hl
  · cases hl
end
theorem run_bytes_none {P : Program} {w : World} (A : Option Addr) (c : Nat) : (Conv.bytesToString (.slice A 0 c)).run P w = .ok (.string ⟨#[]⟩) w := by
  cases A <;> simp [Conv.bytesToString, loadCells, loadCellsFrom] <;> rfl

section
variable {P : Program} {E : Env} {w0 : World} {B : Old} {pv : Nat → Value} {S : Nat → Prop} {ρ : Nat → Option Loc} {st : St} {a : Act} {w : World} {o : Oper} {id : Nat} {K : Act → World → Prop} {Q : Exit → Act → World → Prop}
variable (hE : EnvOk P E) (hs : Sim w0 B pv S ρ st a w) (hgl : GlOk E S w) (hd : dstOk o st.nt = true)
include hs hgl hd
include hE in
theorem step_convert {S0 T : TypeId} {x : Operand} {u : Upd} (hid : ρ id = none) (ho : o.op = .convert S0 T x) (h :
      (∃ j k n, ∃ i, E.ty S0 = some (.int i) ∧ E.ty T = some (.int k) ∧ ev E st x = .t (.int j) n ∧ u = quiet (.t (.int k) (k.wrap n))) ∨
      (∃ s, E.ty S0 = some .str ∧ E.ty T = some .str ∧ ev E st x = .t .str s ∧ u = quiet (.t .str s)) ∨
      (∃ s, E.ty S0 = some .str ∧ E.ty T = some (.sl (.int .u8)) ∧ ev E st x = .t .str s ∧ s.size ≤ 9223372036854775807 ∧ u = makes (.own id) [(id, .flat (E.el T) (.int .u8) (bytesL s) false false)]) ∨
      (∃ xs, E.ty S0 = some (.sl (.int .u8)) ∧ E.ty T = some .str ∧ listOf st.row (.int .u8) (ev E st x) = some xs ∧ u = quiet (.t .str (strL xs))) ∨
      (∃ i j n, E.ty S0 = some (.int i) ∧ E.ty T = some .str ∧ ev E st x = .t (.int j) n ∧ u = quiet (.t .str (Utf8.encode n))))
    (hK : Nx E w0 B pv S ρ st o.dst u id K) : o.wp P a w K Q := by
  have e1 := ev_ok hgl hs x
  rcases h with ⟨j, k, n, i, hS, hT, hx, rfl⟩ | ⟨s, hS, hT, hx, rfl⟩ | ⟨s, hS, hT, hx, hsz, rfl⟩ | ⟨xs, hS, hT, hx, rfl⟩ | ⟨i, j, n, hS, hT, hx, rfl⟩
  · rw [hx] at e1
    have hu : P.underlying S0 = some (.int i) := (hE.ty _ _ hS).und
    have hu' : P.underlying T = some (.int k) := (hE.ty _ _ hT).und
    exact wp_quiet hs hgl hd (v := .int k (k.wrap n)) (by unfold execOp; simp [ho, vr_int e1, convert, run_underlying hu, run_underlying hu', Conv.intToInt]) (.inr ⟨_, .t _ _ _ (.int _ _), rfl⟩) hK
  · rw [hx] at e1
    have hu : P.underlying S0 = some .string := (hE.ty _ _ hS).und
    have hu' : P.underlying T = some .string := (hE.ty _ _ hT).und
    exact wp_quiet hs hgl hd (v := .string s) (by unfold execOp; simp [ho, vr_str e1, convert, run_underlying hu, run_underlying hu']) (.inr ⟨_, .t _ _ _ (.str _), rfl⟩) hK
  · rw [hx] at e1
    have hu : P.underlying S0 = some .string := (hE.ty _ _ hS).und
    obtain ⟨t, hu', het, hte, _⟩ := (hE.ty _ _ hT).und
    have hut : P.underlying t = some (.int .u8) := (hE.ty _ _ hte).und
    have hr := run_bytes_of_string (P := P) w S0 T t s hu hu' hut
    have hsz' : s.size ≤ maxLen := by simp only [maxLen]; omega
    have hm := Sim.make (w' := w.drew.alloc (.cells (bytesRow s (grownCap w s.size 0 t)) t ((bytesRow s (grownCap w s.size 0 t)).size, (bytesRow s (grownCap w s.size 0 t)).size + 1)))
      (r := .flat t (.int .u8) (bytesL s) false false) (l := .at w.heap.size (grownCap w s.size 0 t)) hs.drew (hs.drew.below.alloc hs.drew.hB _) (by rw [World.size_alloc']; omega) (fun b hb => heap_alloc_old w.drew _ b hb) hid rfl
      (fun g c e => by cases e; exact Nat.le_refl _) ?_
    · rw [het] at hK
      refine Oper.wp_value (w' := _) (v := .slice (some ⟨w.heap.size, 0, none⟩) s.size (grownCap w s.size 0 t)) (by unfold execOp; simp only [ho, vr_str e1, Sem.run_bind, hr, Result.andThen_ok, Sem.run_pure]) (hK S _ _ _ (hm.put (dst_lt hd) ?_) (hgl.mono (fun _ h => h) fun b hb => ?_) (Grew.refl _ _) (upd_far ⟨Nat.le_refl _, by omega⟩))
      · have hl : (bytesL s).length = s.size := by simp only [bytesL, List.length_map, Array.length_toList]; rfl
        refine .inr ⟨_, .own id t (.int .u8) (bytesL s) false false w.heap.size _ (by rw [setRow_row, if_pos rfl]) (upd_self _ _ _), ?_⟩
        rw [hl]; rfl
      · exact heap_alloc_old w.drew _ b (hs.hs.stab b hb)
    · intro ρ' row' _
      have hge := grownCap_ge w s.size 0 t
      refine ⟨_, _, heap_alloc_new w.drew _, ?_, ?_, grownCap_le_maxLen w _ _ _ hsz', fun e => (by cases e), .inr (Nat.le_refl _), Nat.one_pos, fun i hi => ?_⟩
      · have e1 : (bytesRow s (grownCap w s.size 0 t)).size = s.data.size + (grownCap w s.size 0 t - s.size) := by simp only [bytesRow, Array.size_append, Array.size_map, Array.size_replicate]
        have e2 : s.data.size = s.size := rfl
        rw [e1, e2]
        simp only [nc, Nat.mul_one]
        omega
      · have e1 : (bytesL s).length = s.size := by simp only [bytesL, List.length_map, Array.length_toList]; rfl
        rw [e1]; exact hge
      · refine ⟨_, .int _ _, fun j v hj => ?_⟩
        cases j with
        | succ j => simp at hj
        | zero =>
          simp only [List.getElem?_cons_zero, Option.some.injEq] at hj
          subst hj
          have hi' : i < s.data.size := by simpa [bytesL] using hi
          simp only [bytesRow, nc, Nat.mul_one, Nat.add_zero]
          rw [Array.getElem?_append_left (by simpa using hi')]
          simp [bytesL, hi']
          exact ⟨_, Array.getElem?_eq_getElem hi', rfl⟩
  · have hu : ∃ t, P.underlying S0 = some (.slice t) ∧ E.el S0 = t ∧ E.ty t = some (.int .u8) ∧ _ := (hE.ty _ _ hS).und
    obtain ⟨t, hu, het, hte, _⟩ := hu
    have hut : P.underlying t = some (.int .u8) := (hE.ty _ _ hte).und
    have hu' : P.underlying T = some .string := (hE.ty _ _ hT).und
    obtain ⟨A, c, cv, e3, h2, h3, h4, h5⟩ := cr_sl_inv (listOf_ok hs.hs hx e1)
    refine wp_quiet hs hgl hd (v := .string (strL xs)) ?_ (.inr ⟨_, .t _ _ _ (.str _), rfl⟩) hK
    unfold execOp
    simp only [ho, Sem.run_bind, e3]
    by_cases h0 : xs.length = 0
    · have : xs = [] := List.eq_nil_of_length_eq_zero h0
      subst this
      simp only [List.length_nil, run_convert_bytes_string w S0 T t A 0 c hu hut hu', run_bytes_none, Result.andThen_ok, Sem.run_pure]
      rfl
    · obtain ⟨g, off, rfl, hS', hv⟩ := h5 0 (by omega)
      have hcell : ∀ i, i < xs.length → w.cell? ⟨g, off + i, none⟩ = some (.int .u8 (xs.getD i 0)) := fun i hi => by
        obtain ⟨g', off', e, _, hv⟩ := h5 i hi
        cases e
        have hc := h4 i hi
        have := hv 0 (.int .u8 xs[i]) (by rw [cr_int hc]; rfl)
        simp only [nc, Nat.mul_one, Nat.add_zero] at this
        rw [this]
        simp [List.getD, hi]
      simp only [run_convert_bytes_arg w S0 t hu hut g off xs.length c xs rfl hcell T hu', Result.andThen_ok, Sem.run_pure]
      rfl
  · rw [hx] at e1
    have hu : P.underlying S0 = some (.int i) := (hE.ty _ _ hS).und
    have hu' : P.underlying T = some .string := (hE.ty _ _ hT).und
    exact wp_quiet hs hgl hd (v := .string (Utf8.encode n)) (by unfold execOp; simp [ho, vr_int e1, convert, run_underlying hu, run_underlying hu', Conv.intToString]) (.inr ⟨_, .t _ _ _ (.str _), rfl⟩) hK

include hE in
theorem step_store {T : TypeId} {τ : Ty} {x v : Operand} {u : Upd} (ho : o.op = .store T x v) (hτ : E.ty T = some τ) (hf : Fit τ (ev E st v)) (h :
      (∃ j p σ a b, ev E st x = .ep j none p ∧ st.row j = some (.box σ a) ∧ tyP σ p = some τ ∧ setP a p (ev E st v) = some b ∧ u = ⟨undefV, [], [], none, some (j, .box σ b)⟩) ∨
       (∃ j i p e σ xs app b y, ev E st x = .ep j (some i) p ∧ st.row j = some (.flat e σ xs false app) ∧ tyP σ p = some τ ∧ setP (.t σ (xs.getD i (dflt σ))) p (ev E st v) = some b ∧ asT σ b = some y ∧
          u = ⟨undefV, [], [], none, some (j, .flat e σ (xs.set i y) false app)⟩))
    (hK : Nx E w0 B pv S ρ st o.dst u id K) : o.wp P a w K Q := by
  have ht := hE.ty T τ hτ
  have e1 := ev_ok hgl hs x
  obtain ⟨d, h1, h2, h3⟩ := vr_fit hf (ev_ok hgl hs v)
  have hdl := AR.len hf h1
  rcases h with ⟨j, p, σ, c, b, hx, hr, hp, hb, rfl⟩ | ⟨j, i, p, e, σ, xs, app, b, y, hx, hr, hp, hb, hy, rfl⟩
  · rw [hx] at e1
    obtain ⟨g, cap, τ', h4, h5, h6⟩ := vr_epB e1 hr
    obtain ⟨cur, T', h7, h8, h9⟩ := hs.hs.rows j _ _ hr h5
    obtain ⟨h10, h11, h12⟩ := setP_ok h8 h9 hp hf h1 hb
    have hrun := run_storeT ht hf h1 h7 (.inl (Nat.le_refl _)) (o := offP σ p) (by simpa using h12)
    have hap := hs.hs.apart j _ g cap h5 hr
    have hm := hs.sto (w' := w.setRow g (splice cur.toList (offP σ p) d).toArray) (r' := .box σ b) (below_setRow hs.below hap.1 _) hr h5 (.box _ _ _) rfl rfl (by simp [World.setRow])
      (fun k hk => setRow_other w g k _ (hk g cap rfl)) ?_
    · exact Oper.wp_skip (by unfold execOp; simp only [ho, h6, h2, Sem.run_bind, hrun, Result.andThen_ok, Sem.run_pure])
        (hK S ρ _ _ (hm.put (dst_lt hd) vr_undef) (hgl.mono (fun _ h => h) fun k hk => setRow_other w g k _ fun e => hap.2.1 rfl (e ▸ hk)) (Grew.refl _ _) (fun _ h _ => h))
    · intro row' hk
      refine ⟨_, _, setRow_heap w g cur _ _ _ h7, h10, ?_⟩
      exact h11.ext (P := fun _ => True) (fun _ h => h) (fun k hk => setRow_other w g k _ fun e => hap.2.1 rfl (e ▸ hk)) (fun i l r _ h13 h14 => ⟨h13, hk i l r h13 h14⟩) (fun _ _ => trivial)
  · rw [hx] at e1
    obtain ⟨g, cap, τ', h4, h5, hi, h6⟩ := vr_epF e1 hr (by first | (rw [hp]; rfl) | (rw [h1]; rfl) | (rw [h2]; rfl) | (rw [h3]; rfl))
    obtain ⟨cur, f, h7, h8, h9, h10, h11, h12, h13, h14⟩ := hs.hs.rows j _ _ hr h5
    have eg : xs.getD i (dflt σ) = xs[i] := by simp [List.getD, hi]
    rw [eg] at hb
    obtain ⟨cs, hc1, hc2⟩ := h14 i hi
    obtain ⟨h15, h16, h17⟩ := setP_ok (ρ := ρ) (row := st.row) (pv := pv) (.t σ _) (.t σ _ cs hc1) hp hf h1 hb
    have hcl := hc1.len
    have hsz : i * nc σ + nc σ ≤ cur.size := by
      rw [h8, ← Nat.succ_mul]
      exact Nat.mul_le_mul_right _ (by omega)
    have hrun := run_storeT ht hf h1 h7 h12 (o := i * nc σ + offP σ p) (by omega)
    have hap := hs.hs.apart j _ g cap h5 hr
    have hm := hs.sto (w' := w.setRow g (splice cur.toList (i * nc σ + offP σ p) d).toArray) (r' := .flat e σ (xs.set i y) false app) (below_setRow hs.below hap.1 _) hr h5 (.flat _ _ _ _ _ _ _ _ _ (by simp)) rfl rfl (by simp [World.setRow])
      (fun k hk => setRow_other w g k _ (hk g cap rfl)) ?_
    · exact Oper.wp_skip (by unfold execOp; simp only [ho, h6, h2, Sem.run_bind, hrun, Result.andThen_ok, Sem.run_pure])
        (hK S ρ _ _ (hm.put (dst_lt hd) vr_undef) (hgl.mono (fun _ h => h) fun k hk => setRow_other w g k _ fun e => hap.2.1 rfl (e ▸ hk)) (Grew.refl _ _) (fun _ h _ => h))
    · intro row' hk
      have hw : ∀ k, S k → (w.setRow g (splice cur.toList (i * nc σ + offP σ p) d).toArray).heap[k]? = w.heap[k]? := fun k hk => setRow_other w g k _ fun e => hap.2.1 rfl (e ▸ hk)
      have hlen : (splice cur.toList (i * nc σ + offP σ p) d).length = cur.size := by rw [splice_length (by simp; omega)]; simp
      have hget := splice_get (cs := cur.toList) (c := d) (o := i * nc σ + offP σ p) (by simp; omega)
      refine ⟨_, _, setRow_heap w g cur _ _ _ h7, by simpa [hlen] using h8, by simpa using h9, h10, h11, (by simpa [hlen] using h12), h13, fun k hk' => ?_⟩
      have hk2 : k < xs.length := by simpa using hk'
      by_cases e : k = i
      · subst e
        refine ⟨splice cs (offP σ p) d, ?_, fun m u hm => ?_⟩
        · simp only [List.getElem_set_self]
          exact (asT_ar hy h16).mono (fun _ h => h) hw
        · have hml := (List.getElem?_eq_some_iff.1 hm).1
          rw [splice_length (by omega)] at hml
          rw [splice_get (by omega)] at hm
          simp only [List.getElem?_toArray]
          rw [hget]
          by_cases c1 : m < offP σ p
          · rw [if_pos c1] at hm
            rw [if_pos (by omega)]
            simpa using hc2 m u hm
          · rw [if_neg c1] at hm
            rw [if_neg (by omega)]
            by_cases c2 : m < offP σ p + d.length
            · rw [if_pos c2] at hm
              rw [if_pos (by omega)]
              rw [show k * nc σ + m - (k * nc σ + offP σ p) = m - offP σ p by omega]
              exact hm
            · rw [if_neg c2] at hm
              rw [if_neg (by omega)]
              simpa using hc2 m u hm
      · obtain ⟨cs', hc3, hc4⟩ := h14 k hk2
        refine ⟨cs', ?_, fun m u hm => ?_⟩
        · rw [List.getElem_set_ne (fun h => e h.symm)]
          exact hc3.mono (fun _ h => h) hw
        · have hml := (List.getElem?_eq_some_iff.1 hm).1
          rw [hc3.len] at hml
          simp only [List.getElem?_toArray]
          rw [hget]
          have := hc4 m u hm
          rcases Nat.lt_or_gt_of_ne e with c1 | c1
          · have : (k + 1) * nc σ ≤ i * nc σ := Nat.mul_le_mul_right _ c1
            rw [Nat.succ_mul] at this
            rw [if_pos (by omega)]
            simpa using hc4 m u hm
          · have : (i + 1) * nc σ ≤ k * nc σ := Nat.mul_le_mul_right _ c1
            rw [Nat.succ_mul] at this
            rw [if_neg (by omega), if_neg (by omega)]
            simpa using hc4 m u hm
end
end Go.Gx
