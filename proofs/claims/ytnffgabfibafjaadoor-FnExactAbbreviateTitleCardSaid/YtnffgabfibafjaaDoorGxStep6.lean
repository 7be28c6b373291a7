/- The interpreter's operations are the machine's: literals. -/
import Derived.Test.YtnffgabfibafjaaDoorGxStep5
namespace Go.Gx
open Go.RowKit
set_option linter.unusedVariables false
set_option linter.unusedSimpArgs false

theorem splice_cons (cs : List Value) (o : Nat) (v : Value) (vs : List Value) (h : o + (vs.length + 1) ≤ cs.length) : splice (cs.set o v) (o + 1) vs = splice cs o (v :: vs) := by
  apply List.ext_getElem?
  intro i
  rw [splice_get (by simp; omega), splice_get (by simp; omega)]
  simp only [List.length_cons, List.getElem?_set]
  by_cases h1 : i < o
  · rw [if_pos (by omega), if_pos h1, if_neg (by omega)]
  · by_cases h2 : i = o
    · subst h2
      rw [if_pos (by omega), if_neg h1, if_pos (by omega)]
      simp
      omega
    · rw [if_neg (by omega), if_neg h1]
      by_cases h3 : i < o + 1 + vs.length
      · rw [if_pos h3, if_pos (by omega), show i - o = (i - (o + 1)) + 1 by omega, List.getElem?_cons_succ]
      · rw [if_neg h3, if_neg (by omega), if_neg (by omega)]
theorem foldl_set (off : Nat) : ∀ (vs : List Value) (k : Nat) (cells : Array Value), off + k + vs.length ≤ cells.size →
    ((vs.zipIdx k).foldl (fun cs (p : Value × Nat) => cs.setIfInBounds (off + p.2) p.1) cells).toList = splice cells.toList (off + k) vs
  | [], k, cells, h => by simp [splice]
  | v :: vs, k, cells, h => by
    simp only [List.length_cons] at h
    rw [List.zipIdx_cons, List.foldl_cons, foldl_set off vs (k + 1) _ (by simp; omega), Array.toList_setIfInBounds, ← splice_cons _ _ _ _ (by simp; omega)]
    rfl
theorem fill_one (place : Nat → Option (Nat × Nat)) (cells : Array Value) (i : Nat) (v : Value) (rest : List (Nat × Value)) {off size : Nat} (hp : place i = some (off, size)) (hs : v.cells.size = size) (hf : off + size ≤ cells.size) :
    Instr.fill place cells ((i, v) :: rest) = Instr.fill place (splice cells.toList off v.cells.toList).toArray rest := by
  have key : (v.cells.zipIdx.foldl (fun cs (p : Value × Nat) => cs.setIfInBounds (off + p.2) p.1) cells) = (splice cells.toList off v.cells.toList).toArray := by
    apply Array.ext'
    rw [← Array.foldl_toList, Array.toList_zipIdx, foldl_set off v.cells.toList 0 cells (by simp [hs]; omega)]
    rfl
  rw [Instr.fill]
  simp only [hp]
  rw [if_neg (by simp [hs]; omega)]
  rw [← key]

section
variable {S : Nat → Prop} {w : World} {ρ : Nat → Option Loc} {row : Nat → Option Row} {pv : Nat → Value}
/-- The parts in their places: in memory, too. -/
theorem fill_ok {ev : Operand → AV} {ρv : Operand → Value} (hev : ∀ x, VR S w ρ row pv (ev x) (ρv x)) {l : List Ty} {place : Nat → Option (Nat × Nat)} (hpl : ∀ i σ, l[i]? = some σ → place i = some (offL l i, nc σ)) :
    ∀ (ps : List (Nat × Operand)) (fs fs' : List AV) (css : List (List Value)), partsA ev l ps fs = some fs' → fs.length = l.length → css.length = l.length →
      (∀ (i : Nat) (σ : Ty) (b : AV), l[i]? = some σ → fs[i]? = some b → Fit σ b) → (∀ (i : Nat) (b : AV) (c : List Value), fs[i]? = some b → css[i]? = some c → AR S w ρ row pv b c) →
      ∃ css' : List (List Value), Instr.fill place css.flatten.toArray (ps.map fun p => (p.1, ρv p.2)) = some css'.flatten.toArray ∧ fs'.length = l.length ∧ css'.length = l.length ∧
        (∀ (i : Nat) (σ : Ty) (b : AV), l[i]? = some σ → fs'[i]? = some b → Fit σ b) ∧ (∀ (i : Nat) (b : AV) (c : List Value), fs'[i]? = some b → css'[i]? = some c → AR S w ρ row pv b c)
  | [], fs, fs', css, h, h1, h2, h3, h4 => by
    simp only [partsA, Option.some.injEq] at h
    subst h
    exact ⟨css, rfl, h1, h2, h3, h4⟩
  | (i, x) :: ps, fs, fs', css, h, h1, h2, h3, h4 => by
    simp only [partsA] at h
    split at h
    · rename_i σ hσ
      split at h
      · rename_i hf
        have hf := fit_fit hf
        obtain ⟨c, h5, h6, h7⟩ := vr_fit hf (hev x)
        have hi : i < l.length := (List.getElem?_eq_some_iff.1 hσ).1
        have hclen : ∀ (k : Nat) (τ : Ty) (d : List Value), l[k]? = some τ → css[k]? = some d → d.length = nc τ := fun k τ d hk hd => by
          have hkl : k < fs.length := by rw [h1]; exact (List.getElem?_eq_some_iff.1 hk).1
          exact AR.len (h3 k τ _ hk (List.getElem?_eq_getElem hkl)) (h4 k _ d (List.getElem?_eq_getElem hkl) hd)
        have hcl := AR.len hf h5
        have hset := seg_set h2 hclen i c σ hσ hcl
        obtain ⟨css', h8, h9, h10, h11, h12⟩ := fill_ok hev hpl ps (fs.set i (ev x)) fs' (css.set i c) h (by simpa using h1) (by simpa using h2) (fun k τ b hk hb => by
          rw [List.getElem?_set] at hb
          split at hb
          · rename_i e
            subst e
            split at hb
            · simp only [Option.some.injEq] at hb
              subst hb
              rw [hσ] at hk
              simp only [Option.some.injEq] at hk
              subst hk
              exact hf
            · cases hb
          · exact h3 k τ b hk hb) (fun k b d hb hd => by
          rw [List.getElem?_set] at hb hd
          split at hb
          · rename_i e
            rw [if_pos e] at hd
            split at hb
            · split at hd
              · simp only [Option.some.injEq] at hb hd
                subst hb; subst hd
                exact h5
              · cases hd
            · cases hb
          · rename_i e
            rw [if_neg e] at hd
            exact h4 k b d hb hd)
        refine ⟨css', ?_, h9, h10, h11, h12⟩
        obtain ⟨hs1, hs2⟩ := seg h2 hclen
        have hle : offL l i + nc σ ≤ css.flatten.length := by
          exact (hs2 i _ σ (List.getElem?_eq_getElem (by omega)) hσ).2
        rw [List.map_cons, fill_one _ _ _ _ _ (hpl i σ hσ) (by rw [← Array.length_toList, h7, hcl]) (by simpa using hle), h7]
        rw [hset] at h8
        exact h8
      · cases h
    · cases h
end

theorem places_get {P : Program} : ∀ {fs : List Field}, (∀ d ∈ fs, ∃ i, P.info? d.type = some i) → ∃ places, fs.mapM (fun f => (P.info? f.type).map fun i => (f.offset, i.size)) = some places ∧ ∀ (k : Nat) (d : Field) (i : TypeInfo), fs[k]? = some d → P.info? d.type = some i → places[k]? = some (d.offset, i.size)
  | [], _ => ⟨[], rfl, fun k d i h => by simp at h⟩
  | f :: fs, h => by
    obtain ⟨i, hi⟩ := h f List.mem_cons_self
    obtain ⟨places, h1, h2⟩ := places_get (fs := fs) fun d hd => h d (List.mem_cons_of_mem _ hd)
    refine ⟨(f.offset, i.size) :: places, by simp [List.mapM_cons, hi, h1], fun k d j hk hj => ?_⟩
    cases k with
    | zero =>
      simp only [List.getElem?_cons_zero, Option.some.injEq] at hk
      subst hk
      rw [hi] at hj
      cases hj
      rfl
    | succ k => exact h2 k d j (by simpa using hk) hj
theorem offL_replicate (e : Ty) : ∀ (n i : Nat), i ≤ n → offL (List.replicate n e) i = i * nc e
  | 0, i, h => by
    have : i = 0 := by omega
    subst this
    simp [offL]
  | n + 1, 0, h => by simp [List.replicate_succ, offL]
  | n + 1, i + 1, h => by rw [List.replicate_succ, offL, offL_replicate e n i (by omega), Nat.succ_mul, Nat.add_comm]
theorem made_flat (z : Array Value) : ∀ n, (madeCells z (n * z.size)).toList = (List.replicate n z.toList).flatten
  | 0 => by simp [madeCells]
  | n + 1 => by
    rw [List.replicate_succ', List.flatten_append, ← made_flat z n]
    simp only [madeCells, Nat.succ_mul, Array.toList_map, Array.toList_range, List.range_add, List.map_append, List.map_map]
    congr 1
    simp only [List.flatten_cons, List.flatten_nil, List.append_nil]
    apply List.ext_getElem
    · simp
    · intro i h1 h2
      simp only [List.length_map, List.length_range] at h1
      simp [Nat.mul_comm n, Nat.mul_add_mod, Nat.mod_eq_of_lt h1, h1]
theorem idsL_mem {id : Nat} : ∀ {l : List AV} {b : AV}, b ∈ l → id ∈ idsN 6 b → id ∈ idsL l
  | [], b, h, _ => by cases h
  | c :: l, b, h, hi => by
    rcases List.mem_cons.1 h with rfl | h
    · exact List.mem_append_left _ hi
    · exact List.mem_append_right _ (idsL_mem h hi)
theorem closeAll_get {row : Nat → Option Row} {τ : Ty} : ∀ {fs : List AV} {xs : List (den τ)}, closeAll row τ fs = some xs → xs.length = fs.length ∧ ∀ (i : Nat) (h : i < xs.length), ∃ b c, fs[i]? = some b ∧ closeR row 6 b = some c ∧ asT τ c = some xs[i]
  | [], xs, h => by
    simp only [closeAll, Option.some.injEq] at h
    subst h
    exact ⟨rfl, fun i h => absurd h (Nat.not_lt_zero i)⟩
  | a :: l, xs, h => by
    simp only [closeAll] at h
    split at h
    · rename_i b hb
      split at h
      · rename_i x hx
        split at h
        · rename_i ys hys
          simp only [Option.some.injEq] at h
          subst h
          obtain ⟨h1, h2⟩ := closeAll_get hys
          refine ⟨by simp [h1], fun i hi => ?_⟩
          cases i with
          | zero => exact ⟨a, b, rfl, hb, hx⟩
          | succ i =>
            obtain ⟨c, d, h3, h4, h5⟩ := h2 i (by simpa using hi)
            exact ⟨c, d, by simpa using h3, h4, by simpa using h5⟩
        · cases h
      · cases h
    · cases h

section
variable {P : Program} {E : Env} {w0 : World} {B : Old} {pv : Nat → Value} {S : Nat → Prop} {ρ : Nat → Option Loc} {st : St} {a : Act} {w : World} {o : Oper} {id : Nat} {K : Act → World → Prop} {Q : Exit → Act → World → Prop}
variable (hE : EnvOk P E) (hs : Sim w0 B pv S ρ st a w) (hgl : GlOk E S w) (hd : dstOk o st.nt = true)
include hs hgl hd
include hE in
theorem step_build {T : TypeId} {τ : Ty} {ps : Array (Nat × Operand)} {fs : List AV} (ho : o.op = .build T ps) (hτ : E.ty T = some τ) (hag : agT τ = true) (hfs : partsA (ev E st) (fty τ) ps.toList (explode τ (dflt τ)) = some fs)
    (hK : Nx E w0 B pv S ρ st o.dst (quiet (mkSt τ fs)) id K) : o.wp P a w K Q := by
  have ht := hE.ty T τ hτ
  obtain ⟨h1, h2⟩ := explode_ok (ρ := ρ) (row := st.row) (pv := pv) hag (zc_ok S w τ)
  obtain ⟨css, h3, h4, h5⟩ := h1.agg_parts
  obtain ⟨_, hl, hfit⟩ := h2.agg_len
  obtain ⟨i, hi, hsz, _, hz⟩ := ht.info
  have hzc : (valOf (.t τ (dflt τ)) (zc τ)).cells.toList = zc τ := valOf_cells (S := S) (w := w) (ρ := ρ) (row := st.row) (pv := pv) (.t τ (dflt τ)) (.t τ _ _ (zc_ok S w τ))
  have hzc' : (valOf (.t τ (dflt τ)) (zc τ)).cells = css.flatten.toArray := by apply Array.ext'; rw [hzc, h3]
  have fin : ∀ place : Nat → Option (Nat × Nat), (∀ i σ, (fty τ)[i]? = some σ → place i = some (offL (fty τ) i, nc σ)) → (∀ cells, Instr.fill place (valOf (.t τ (dflt τ)) (zc τ)).cells (ps.map fun p => (p.1, a.eval p.2)).toList = some cells → P.built T (ps.map fun p => (p.1, a.eval p.2)).toList = some cells) → o.wp P a w K Q := fun place hpl hb => by
    obtain ⟨css', h6, h7, h8, h9, h10⟩ := fill_ok (ev_ok hgl hs) hpl ps.toList _ fs css hfs hl (by omega) hfit h5
    have hrun := run_build (P := P) w T (ps.map fun p => (p.1, a.eval p.2)) css'.flatten.toArray (hb _ (by rw [hzc', Array.toList_map]; exact h6))
    have hF : Fit τ (.agg τ fs) := .agg τ fs hag h7 h9
    have hA : AR S w ρ st.row pv (.agg τ fs) css'.flatten := .agg τ fs css' (by omega) h10
    obtain ⟨h11, h12⟩ := mkSt_ok hF hA
    refine wp_quiet hs hgl hd (v := .agg css'.flatten.toArray) (by unfold execOp; simp only [ho, Sem.run_bind, hrun, Result.andThen_ok, Sem.run_pure]) (.inr ⟨_, h11, ?_⟩) hK
    rw [valOf, h12.isAg, hag]; rfl
  have goS : (∃ fs, P.underlying T = some (.struct fs) ∧ fs.size = (fty τ).length ∧ ∀ (f : Nat) (d : Field), fs[f]? = some d → ∃ σ, (fty τ)[f]? = some σ ∧ d.offset = offL (fty τ) f ∧ E.ty d.type = some σ) → o.wp P a w K Q := fun ⟨fds, hu, hn, hh⟩ => by
    obtain ⟨places, h6, h7⟩ := places_get (P := P) (fs := fds.toList) fun d hd' => by
      obtain ⟨k, hk⟩ := List.getElem?_of_mem hd'
      obtain ⟨σ, _, _, h8⟩ := hh k d (by simpa using hk)
      obtain ⟨i, hi, _⟩ := (hE.ty _ _ h8).info
      exact ⟨i, hi⟩
    refine fin (places.toArray[·]?) (fun k σ hk => ?_) (fun cells hc => ?_)
    · have hlt : k < fds.size := by rw [hn]; exact (List.getElem?_eq_some_iff.1 hk).1
      obtain ⟨σ', h8, h9, h10⟩ := hh k fds[k] (Array.getElem?_eq_getElem hlt)
      rw [hk] at h8
      cases h8
      obtain ⟨i, hi, hsz, _⟩ := (hE.ty _ _ h10).info
      have := h7 k fds[k] i (by simp [hlt]) hi
      rw [h9, hsz] at this
      simpa using this
    · unfold Program.built
      simp only [hi, hu, hz, h6]
      exact hc
  have goA : ∀ n e, τ = .arr n e → (∃ t, P.underlying T = some (.array n t) ∧ E.ty t = some e) → o.wp P a w K Q := fun n e he ⟨t, hu, hte⟩ => by
    obtain ⟨ie, hie, hse, _⟩ := (hE.ty _ _ hte).info
    refine fin (fun i => some (i * ie.size, ie.size)) (fun k σ hk => ?_) (fun cells hc => ?_)
    · subst he
      simp only [fty] at hk ⊢
      obtain ⟨h6, h7⟩ := List.getElem?_eq_some_iff.1 hk
      simp only [List.length_replicate] at h6
      simp only [List.getElem_replicate] at h7
      subst h7
      rw [offL_replicate _ _ _ (by omega), hse]
    · unfold Program.built
      simp only [hi, hu, hz, hie]
      exact hc
  have hu := ht.und
  cases τ <;> simp only [undOk] at hu <;> first
    | exact goS hu
    | exact goA _ _ rfl hu
    | cases hag
include hE in
theorem step_buildSlice {T : TypeId} {τ : Ty} {n : Nat} {ps : Array (Nat × Operand)} {fs : List AV} {xs : List (den τ)} (hid : ρ id = none) (ho : o.op = .buildSlice T n ps) (hT : E.ty T = some (.sl τ)) (hn : n * nc τ ≤ 16777216)
    (hfs : partsA (ev E st) (List.replicate n τ) ps.toList (List.replicate n (.t τ (dflt τ))) = some fs) (hxs : closeAll st.row τ fs = some xs) (hep : anyL (epsN 6) fs = false)
    (hK : Nx E w0 B pv S ρ st o.dst ⟨.own id, [(id, .flat (E.el T) τ xs false true)], idsL fs, none, none⟩ id K) : o.wp P a w K Q := by
  obtain ⟨t, hu, het, hte, hpos, hnb⟩ := (hE.ty _ _ hT).und
  obtain ⟨i, hi, hsz, hby, hz⟩ := (hE.ty _ _ hte).info
  have hzc : (valOf (.t τ (dflt τ)) (zc τ)).cells.toList = zc τ := valOf_cells (S := S) (w := w) (ρ := ρ) (row := st.row) (pv := pv) (.t τ (dflt τ)) (.t τ _ _ (zc_ok S w τ))
  have hzs : (valOf (.t τ (dflt τ)) (zc τ)).cells.size = nc τ := by rw [← Array.length_toList, hzc]; exact (zc_ok S w τ).len
  have hpl : ∀ i σ, (List.replicate n τ)[i]? = some σ → (fun i => some (i * nc τ, nc τ)) i = some (offL (List.replicate n τ) i, nc σ) := fun k σ hk => by
    obtain ⟨h6, h7⟩ := List.getElem?_eq_some_iff.1 hk
    simp only [List.length_replicate] at h6
    simp only [List.getElem_replicate] at h7
    subst h7
    rw [offL_replicate _ _ _ (by omega)]
  obtain ⟨css', h6, h7, h8, h9, h10⟩ := fill_ok (ev_ok hgl hs) hpl ps.toList _ fs (List.replicate n (zc τ)) hfs (by simp) (by simp) (fun k σ b hk hb => by
    have e1 := (List.getElem?_eq_some_iff.1 hk).2
    have e2 := (List.getElem?_eq_some_iff.1 hb).2
    simp only [List.getElem_replicate] at e1 e2
    subst e1; subst e2
    exact .t _ _) (fun k b c hb hc => by
    have e1 := (List.getElem?_eq_some_iff.1 hb).2
    have e2 := (List.getElem?_eq_some_iff.1 hc).2
    simp only [List.getElem_replicate] at e1 e2
    subst e1; subst e2
    exact .t _ _ _ (zc_ok S w τ))
  simp only [List.length_replicate] at h7 h8
  have hcells : (Array.range (n * i.size)).map ((valOf (.t τ (dflt τ)) (zc τ)).cells[· % (valOf (.t τ (dflt τ)) (zc τ)).cells.size]!) = (List.replicate n (zc τ)).flatten.toArray := by
    apply Array.ext'
    have := made_flat (valOf (.t τ (dflt τ)) (zc τ)).cells n
    rw [hzc, hzs] at this
    rw [hsz]
    simpa [madeCells] using this
  have hrun : (execOp a.eval o).run P w = .ok (.value (.slice (some ⟨w.heap.size, 0, none⟩) n n)) (w.alloc (.cells css'.flatten.toArray t)) := by
    unfold execOp
    by_cases h0 : n = 0
    · subst h0
      have e1 : ps.toList = [] := by
        cases hps : ps.toList with
        | nil => rfl
        | cons p l => rw [hps] at hfs; simp [partsA] at hfs
      have e2 : ps = #[] := Array.toList_eq_nil_iff.1 e1
      have e3 : css' = [] := List.eq_nil_of_length_eq_zero h8
      subst e2; subst e3
      simp [ho, Instr.buildSlice, run_underlying hu, sizeOf, typeInfo, hi, Instr.fill, newRow, Array.range_zero', Array.map_empty]
    · have hr := run_buildSlice (P := P) w T t n (ps.map fun p => (p.1, a.eval p.2)) css'.flatten.toArray i _ hu hi hz (by rw [hsz]; omega) (by rw [hsz]; intro h; rcases Nat.mul_eq_zero.1 h with h | h <;> omega)
        (by rw [hcells, hsz, Array.toList_map]; exact h6)
      simp only [ho, Sem.run_bind, hr, Result.andThen_ok, Sem.run_pure]
  obtain ⟨hxl, hxg⟩ := closeAll_get hxs
  have hzf := hs.frzs (idsL fs)
  obtain ⟨hm, hg2⟩ := Sim.alloc (E := E) (w := w) (cur := css'.flatten.toArray) (T := t) (r := .flat t τ xs false true) (c := n) hzf (hgl.mono (fun _ h => .inl h) (fun _ _ => rfl)) hid rfl (fun ρ' row' _ => by
    have hclen : ∀ (k : Nat) (σ : Ty) (d : List Value), (List.replicate n τ)[k]? = some σ → css'[k]? = some d → d.length = nc σ := fun k σ d hk hd => by
      have hkl : k < fs.length := by have := (List.getElem?_eq_some_iff.1 hk).1; simp at this; omega
      exact AR.len (h9 k σ _ hk (List.getElem?_eq_getElem hkl)) (h10 k _ d (List.getElem?_eq_getElem hkl) hd)
    obtain ⟨hs1, hs2⟩ := seg (by simp [h8]) hclen
    refine ⟨_, _, heap_alloc_new w _, ?_, by omega, ?_, fun _ => rfl, .inl (Nat.le_refl _), hpos, fun k hk => ?_⟩
    · simp [hs1, sumNc_replicate]
    · have := Nat.le_mul_of_pos_right n hpos
      simp only [maxLen]
      omega
    · have hkn : k < n := by omega
      obtain ⟨b, c, h11, h12, h13⟩ := hxg k hk
      have hck : css'[k]? = some css'[k] := List.getElem?_eq_getElem (by omega)
      have hbm := List.mem_of_getElem? h11
      obtain ⟨kb, hkb⟩ := List.getElem?_of_mem hbm
      have hcl := closeR_ok (ρ0 := ρ) (row0 := st.row) (S1 := frzS S ρ st.row (idsL fs)) hs.hs (fun _ h => .inl h) h12 (h10 k b _ h11 hck) (.inr ⟨anyL_false (f := epsN 6) hep hkb, fun j hj r g cc hr hzr hl => ?_⟩)
      · refine ⟨css'[k], (asT_ar h13 hcl).mono (fun _ h => h) (fun b hb => heap_alloc_old w _ b (hzf.hs.stab b hb)), fun j v hj => ?_⟩
        obtain ⟨h14, h15⟩ := hs2 k _ τ hck (by simp [hkn])
        rw [offL_replicate _ _ _ (by omega)] at h14 h15
        rw [← h14] at hj
        rw [List.getElem?_take] at hj
        split at hj
        · simpa using hj
        · cases hj
      · exact .inr ⟨j, idsL_mem hbm hj, r, cc, hr, hzr, hl⟩)
  rw [het] at hK
  refine Oper.wp_value hrun (hK _ _ _ _ (hm.put (st := (st.freeze (idsL fs)).setRow id _) (by show ∀ d, o.dst = some d → d < (st.freeze (idsL fs)).nt; rw [(freeze_slot _ st).2]; exact dst_lt hd) ?_) hg2 (grew_frz hs _) (upd_far ⟨Nat.le_refl _, by omega⟩))
  refine .inr ⟨_, .own id t τ xs false true w.heap.size n (by rw [setRow_row, if_pos rfl]) (upd_self _ _ _), ?_⟩
  have : xs.length = n := by omega
  rw [this]; rfl
end
end Go.Gx
