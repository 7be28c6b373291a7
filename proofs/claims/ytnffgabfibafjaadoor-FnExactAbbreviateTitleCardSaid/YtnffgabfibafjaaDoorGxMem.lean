/- The machine's own steps at what the interpreter knows; how a frame lives on. -/
import Derived.Test.YtnffgabfibafjaaDoorGxEnv
namespace Go.Gx
open Go.RowKit

section
variable {P : Program} {E : Env} {T : Nat} {τ : Ty}
theorem run_isAgg (h : TyOk P E T τ) (w : World) : (isAgg T).run P w = .ok (agT τ) w := by
  have hu := h.und
  cases τ <;> simp only [undOk] at hu
  case int k => simp [isAgg, run_underlying hu, agT]
  case bool => simp [isAgg, run_underlying hu, agT]
  case str => simp [isAgg, run_underlying hu, agT]
  case sl e => obtain ⟨t, hu, _⟩ := hu; simp [isAgg, run_underlying hu, agT]
  case arr n e => obtain ⟨t, hu, _⟩ := hu; simp [isAgg, run_underlying hu, agT]
  all_goals (obtain ⟨t, hu, _⟩ := hu; simp [isAgg, run_underlying hu, agT])
theorem run_sizeOfT (h : TyOk P E T τ) (w : World) : (sizeOf T).run P w = .ok (nc τ) w := by
  obtain ⟨i, hi, hs, _⟩ := h.info
  simp [sizeOf, typeInfo, hi, hs]
theorem run_zeroT (h : TyOk P E T τ) (w : World) : (zeroValue T).run P w = .ok (valOf (.t τ (dflt τ)) (zc τ)) w := by
  obtain ⟨i, hi, _, _, hz⟩ := h.info
  simp [zeroValue, typeInfo, hi, hz]
theorem und_some (h : TyOk P E T τ) : (P.underlying T).isSome = true := by
  have hu := h.und
  cases τ <;> simp only [undOk] at hu
  case int k => rw [hu]; rfl
  case bool => rw [hu]; rfl
  case str => rw [hu]; rfl
  all_goals (obtain ⟨t, hu, _⟩ := hu; rw [hu]; rfl)

variable {S : Nat → Prop} {w : World} {ρ : Nat → Option Loc} {row : Nat → Option Row} {pv : Nat → Value}
theorem run_loadT (h : TyOk P E T τ) {b : AV} {cs : List Value} (hf : Fit τ b) (hb : AR S w ρ row pv b cs) {g o : Nat} (hc : ∀ j v, cs[j]? = some v → w.cell? ⟨g, o + j, none⟩ = some v) :
    (Instr.loadAt T (.pointer (some ⟨g, o, none⟩))).run P w = .ok (valOf b cs) w := by
  have hl := AR.len hf hb
  unfold valOf
  rw [hf.isAg]
  cases hg : agT τ with
  | true =>
    have hld := run_loadCells_list (P := P) w ⟨g, o, none⟩ cs (fun j v hj => by rw [Addr.add_lit]; exact hc j v hj)
    rw [hl] at hld
    simp [Instr.loadAt, Instr.sureAddr, loadVar, run_isAgg h, hg, run_sizeOfT h, hld]
  | false =>
    rw [nc_one hg] at hl
    match cs, hl, hc with
    | [v], _, hc =>
      have := hc 0 v rfl
      simp only [Nat.add_zero] at this
      simp [Instr.loadAt, Instr.sureAddr, loadVar, run_isAgg h, hg, this]
theorem valOf_cells {b : AV} {cs : List Value} (hf : Fit τ b) (hb : AR S w ρ row pv b cs) : (valOf b cs).cells.toList = cs := by
  obtain ⟨cs', h1, h2, h3⟩ := vr_fit hf (.inr ⟨cs, hb, rfl⟩)
  rw [h3]
  have hl := AR.len hf hb
  have hl' := AR.len hf h1
  unfold valOf at h2
  rw [hf.isAg] at h2
  cases hg : agT τ with
  | true => rw [hg] at h2; simpa using h2.symm
  | false =>
    rw [nc_one hg] at hl hl'
    rw [hg] at h2
    match cs, cs', hl, hl' with
    | [v], [u], _, _ => simpa using h2.symm
theorem run_cells_f (P : Program) (g o : Nat) (t : TypeId) (f : Nat × Nat) : ∀ (vs : List Value) (i : Nat) (cur : Array Value) (w : World), w.heap[g]? = some (.cells cur t f) → (f.2 ≤ f.1 ∨ cur.size ≤ f.1) → o + i + vs.length ≤ cur.size → (∀ v ∈ vs, v.oneCell' = true) →
    (storeCells ⟨g, o, none⟩ vs i).run P w = .ok () (w.setRow g (cur.toList.take (o + i) ++ vs ++ cur.toList.drop (o + i + vs.length)).toArray)
  | [], i, cur, w, hg, _, _, _ => by
    simp only [storeCells, List.append_nil, List.length_nil, Nat.add_zero, List.take_append_drop, Array.toArray_toList]
    rw [setRow_self w g cur t f hg]
    rfl
  | v :: rest, i, cur, w, hg, hff, hl, h1 => by
    have hi : o + i < cur.size := by simp at hl; omega
    have hadd : (⟨g, o, none⟩ : Addr).add i = ⟨g, o + i, none⟩ := by unfold Addr.add; split <;> simp_all
    have hcell : w.cell? ⟨g, o + i, none⟩ = some cur[o + i] := by simp [World.cell?, hg, hi]
    have hfro : w.frozen? ⟨g, o + i, none⟩ = false := by
      simp only [World.frozen?, hg]
      rcases hff with h | h
      · simp; omega
      · simp; omega
    have hst : (store ((⟨g, o, none⟩ : Addr).add i) v).run P w = .ok () (w.setRow g (cur.setIfInBounds (o + i) v)) := by
      rw [hadd, run_store P w _ v _ (h1 v (by simp)), hcell]
      simp [hfro, setCell_eq_setRow w g (o + i) cur t f v hg]
    have ih := run_cells_f P g o t f rest (i + 1) (cur.setIfInBounds (o + i) v) (w.setRow g (cur.setIfInBounds (o + i) v)) (setRow_heap w g cur _ t _ hg) (by simpa using hff) (by simp at hl ⊢; omega) (fun x hx => h1 x (by simp [hx]))
    simp only [storeCells, Sem.run_bind, hst, Result.andThen_ok, ih, setRow_setRow]
    congr 3
    have e := list_seg_step cur.toList (o + i) v rest (by simp at hl ⊢; omega)
    simpa [Array.toList_setIfInBounds, Nat.add_assoc] using e
theorem run_storeT (h : TyOk P E T τ) {b : AV} {cs : List Value} (hf : Fit τ b) (hb : AR S w ρ row pv b cs) {g o : Nat} {t : TypeId} {cur : Array Value} {f : Nat × Nat} (hg : w.heap[g]? = some (.cells cur t f)) (hff : f.2 ≤ f.1 ∨ cur.size ≤ f.1) (ho : o + nc τ ≤ cur.size) :
    (Instr.storeAt T (.pointer (some ⟨g, o, none⟩)) (valOf b cs)).run P w = .ok () (w.setRow g (splice cur.toList o cs).toArray) := by
  have hl := AR.len hf hb
  have hv := valOf_cells hf hb
  have hsz : (valOf b cs).cells.size = nc τ := by rw [← Array.length_toList, hv, hl]
  have hst := run_cells_f P g o t f cs 0 cur w hg hff (by omega) (AR.ones hf hb)
  simp only [Nat.add_zero] at hst
  simp only [Instr.storeAt, Instr.sureAddr, storeVar, Sem.run_bind, run_sizeOfT h, Result.andThen_ok, Sem.run_pure]
  rw [if_neg (by simpa using hsz), hv, hst]
  rfl
theorem run_part (h : TyOk P E T τ) {b : AV} {cur : List Value} (hf : Fit τ b) {o : Nat} (_ : AR S w ρ row pv b ((cur.drop o).take (nc τ))) (ho : o + nc τ ≤ cur.length) :
    (part T cur.toArray o).run P w = .ok (valOf b ((cur.drop o).take (nc τ))) w := by
  unfold valOf
  rw [hf.isAg]
  cases hg : agT τ with
  | true =>
    simp only [part, Sem.run_bind, run_isAgg h, hg, Result.andThen_ok, if_true, run_sizeOfT h, Sem.run_pure, cond_true]
    congr 2
    apply Array.ext'
    simp [List.extract_eq_take_drop]
  | false =>
    rw [nc_one hg] at ho ⊢
    have : o < cur.length := by omega
    simp only [part, Sem.run_bind, run_isAgg h, hg, Result.andThen_ok, cond_false]
    simp [this, List.take_one, List.head?_drop]
end
end Go.Gx
